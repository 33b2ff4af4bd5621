/- package bag: the examples of the section hold. -/
import Derived.Test.YtbcjikiakanncaaBa3
namespace Go.Proofs.Ytbcjikiakanncaa
open Go.RowKit
set_option linter.unusedVariables false

set_option maxHeartbeats 1000000 in
theorem bytesAre_any (v1 v2 : Value) (xs ys : List UInt8) (w : World) (h1 : Rd w v1 (vbs xs)) (h2 : Rd w v2 (vbs ys)) :
    Calls Try.prog 46 #[v1, v2] w fun e w' => e = .returned (.bool (decide (xs = ys))) ∧ w = w' := by
  have hk1 := conv_str (P := Try.prog) w 34 9 5 v1 xs Try.underlying34 Try.underlying5 Try.underlying9 h1
  have hk2 := conv_str (P := Try.prog) w 34 9 5 v2 ys Try.underlying34 Try.underlying5 Try.underlying9 h2
  go_enter Try.func46, Try.ntmps46
  go_wp2
  go_ret
  refine ⟨ret_bool ?_, rfl⟩
  rw [Bool.eq_iff_iff]; simp

theorem RdA.lit (w : World) (l : List Amt) (t : TypeId) (hl : l.length ≤ 1000000) : RdA (w.alloc (.cells (cells2 l).toArray t)) (.slice (some ⟨w.heap.size, 0, none⟩) l.length l.length) l := by
  refine ⟨_, _, rfl, Nat.le_refl _, by simp only [maxLen]; omega, .inr ⟨_, 0, rfl, fun i hi => ?_⟩⟩
  have hb := Blk.new w t (cells2 l)
  obtain ⟨q1, q2⟩ := cells2_at l i hi
  rw [Nat.zero_add]
  exact ⟨(hb.cell _).trans q1, (hb.cell _).trans q2⟩

theorem live_of : ofB 3 [(1, 2), (0, 5)] = ([5, 2, 0], 0) := by kernel_rfl
theorem live_most : mostB [5, 2, 0] [2, 1, 0] = 2 := by kernel_rfl
theorem live_times : timesB [2, 1, 0] 2 = ([4, 2, 0], 0) := by kernel_rfl
theorem live_sub : subB [5, 2, 0] [4, 2, 0] = ([1, 0, 0], 0) := by kernel_rfl
theorem live_enc : bagW [5, 2, 0] = [6, 4, 0, 10, 2, 4] := by
  have h1 : isB [5, 2, 0] = true := by kernel_rfl
  have h2 : amtsB [5, 2, 0] = [(0, 5), (1, 2)] := by kernel_rfl
  unfold bagW
  rw [h1, if_pos rfl, h2]
  show uvar (zig 3) ++ (uvar (zig 2) ++ pairsW [((0 : Int), (5 : Int)), (1, 2)]) = _
  have e : pairsW [((0 : Int), (5 : Int)), (1, 2)] = (uvar (zig 0) ++ uvar (zig 5)) ++ ((uvar (zig 1) ++ uvar (zig 2)) ++ []) := rfl
  rw [e, show zig 3 = 6 by decide, show zig 2 = 4 by decide, show zig 0 = 0 by decide, show zig 5 = 10 by decide, show zig 1 = 2 by decide,
    uvar_lo 6 (by omega), uvar_lo 4 (by omega), uvar_lo 0 (by omega), uvar_lo 10 (by omega), uvar_lo 2 (by omega)]
  rfl

set_option maxRecDepth 100000 in
set_option maxHeartbeats 4000000 in
theorem lives13_any (w : World) : Calls Try.prog 23 #[] w fun e w' => e = .returned (.bool true) ∧ Ext w w' := by
  have hi3 : inI64 3 := by unfold inI64; omega
  have hi2 : inI64 2 := by unfold inI64; omega
  have hao : AmtsOk [(1, 2), (0, 5)] := fun p hp => by
    simp only [List.mem_cons, List.not_mem_nil, or_false] at hp
    rcases hp with rfl | rfl <;> (constructor <;> (unfold inI64; simp only; omega))
  go_enter Try.func23, Try.ntmps23
  go_wp2_with fail
  refine (of_any 3 _ [(1, 2), (0, 5)] _ hi3 (RdA.lit w [(1, 2), (0, 5)] 75 (by simp)) hao).mono ?_
  rintro e w1 ⟨va, rfl, hoa, hx1⟩
  rw [live_of] at hoa ⊢
  have hra := hoa.rd
  have hxw1 : Ext w w1 := ((Ext.refl w).alloc _).trans hx1
  clear hoa hx1
  go_wp2_with fail
  have hl2 := Rd.lit w1 (vis [2, 1, 0]) 3 (by simp [vis])
  refine (most_any va _ [5, 2, 0] [2, 1, 0] _ (hra.ext ((Ext.refl _).alloc _)) hl2).mono ?_
  rintro e w2 ⟨rfl, rfl⟩
  rw [live_most]
  go_wp2_with fail
  have hl3 := Rd.lit (w1.alloc (.cells (vis [2, 1, 0]).toArray 3)) (vis [2, 1, 0]) 3 (by simp [vis])
  rw [show (w1.alloc (.cells (vis [2, 1, 0]).toArray 3)).heap.size = w1.heap.size + 1 by simp] at hl3
  refine (times_any _ [2, 1, 0] 2 _ hl3 hi2).mono ?_
  rintro e w3 ⟨vb, rfl, hob, hx3⟩
  rw [live_times] at hob ⊢
  have hrb := hob.rd
  have hx13 : Ext w1 w3 := (((Ext.refl w1).alloc _).alloc _).trans hx3
  have hra3 := hra.ext hx13
  clear hl2 hl3 hob hx3
  go_wp2_with fail
  refine (sub_any va vb [5, 2, 0] [4, 2, 0] _ hra3 hrb).mono ?_
  rintro e w4 ⟨vc, rfl, hoc, hx4⟩
  rw [live_sub] at hoc ⊢
  have hrc := hoc.rd
  have hra4 := hra3.ext hx4
  go_wp2_with fail
  refine (encodeB_any va [5, 2, 0] _ hra4).mono ?_
  rintro e w5 ⟨vd, rfl, hod, hx5⟩
  rw [live_enc] at hod
  have hrd := hod.rd
  have hra5 := hra4.ext hx5
  have hrc5 := hrc.ext hx5
  have hxw5 : Ext w w5 := ((hxw1.trans hx13).trans hx4).trans hx5
  clear hoc hx4 hx5 hod hra hra3 hra4 hrc hrb
  go_wp2_with fail
  have hl6 := Rd.lit w5 (vis [5, 2, 0]) 3 (by simp [vis])
  refine (same3_any va _ [5, 2, 0] [5, 2, 0] _ (hra5.ext ((Ext.refl _).alloc _)) hl6).mono ?_
  rintro e w6 ⟨rfl, hx6⟩
  rw [decide_eq_true rfl]
  have hx6' : Ext w5 w6 := ((Ext.refl w5).alloc _).trans hx6
  have hrc6 := hrc5.ext hx6'
  have hrd6 := hrd.ext hx6'
  clear hl6 hx6 hra5 hrc5 hrd
  go_wp2_with fail
  have hl7 := Rd.lit w6 (vis [1, 0, 0]) 3 (by simp [vis])
  refine (same3_any vc _ [1, 0, 0] [1, 0, 0] _ (hrc6.ext ((Ext.refl _).alloc _)) hl7).mono ?_
  rintro e w7 ⟨rfl, hx7⟩
  rw [decide_eq_true rfl]
  have hx7' : Ext w6 w7 := ((Ext.refl w6).alloc _).trans hx7
  have hrd7 := hrd6.ext hx7'
  clear hl7 hx7 hrc6 hrd6
  go_wp2_with fail
  have hl8 := Rd.lit w7 (vbs [6, 4, 0, 10, 2, 4]) 5 (by simp [vbs])
  refine (bytesAre_any vd _ [6, 4, 0, 10, 2, 4] [6, 4, 0, 10, 2, 4] _ (hrd7.ext ((Ext.refl _).alloc _)) hl8).mono ?_
  rintro e w8 ⟨rfl, rfl⟩
  rw [decide_eq_true rfl]
  go_wp2
  go_ret
  exact ⟨rfl, ((hxw5.trans hx6').trans hx7').alloc _⟩
end Go.Proofs.Ytbcjikiakanncaa
