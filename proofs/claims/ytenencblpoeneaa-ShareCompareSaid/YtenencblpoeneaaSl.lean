/- package share: the examples of the section hold. -/
import Derived.Test.YtenencblpoeneaaSs2
import Derived.Test.YtenencblpoeneaaBc1
namespace Go.Proofs.Ytenencblpoeneaa
open Go.RowKit
set_option linter.unusedVariables false

theorem ex_part : partP 10 2 3 = (6, 0) := by decide
theorem ex_ceil : ceilP 10 2 3 = (7, 0) := by decide
theorem ex_ok1 : okS 10 [1, 1, 1] = true := by decide
theorem ex_ok2 : okS 10 [3, 0, 4] = true := by decide
theorem ex_split1 : IsSplit 10 [1, 1, 1] [4, 3, 3] := by
  have hr : rS 10 (totS [1, 1, 1]) [1, 1, 1] = [1, 1, 1] := by decide
  refine ⟨[0], ?_, by decide, by decide⟩
  rw [hr]
  refine ⟨by decide, by decide, fun i hi j hj hn => ?_⟩
  simp only [List.mem_singleton] at hi hn
  subst hi
  have hj' : j < 3 := hj
  have : j = 1 ∨ j = 2 := by omega
  rcases this with rfl | rfl
  · exact .inr ⟨by decide, by decide⟩
  · exact .inr ⟨by decide, by decide⟩
theorem ex_split2 : IsSplit 10 [3, 0, 4] [4, 0, 6] := by
  have hr : rS 10 (totS [3, 0, 4]) [3, 0, 4] = [2, 0, 5] := by decide
  refine ⟨[2], ?_, by decide, by decide⟩
  rw [hr]
  refine ⟨by decide, by decide, fun i hi j hj hn => ?_⟩
  simp only [List.mem_singleton] at hi hn
  subst hi
  have hj' : j < 3 := hj
  have : j = 0 ∨ j = 1 := by omega
  rcases this with rfl | rfl
  · exact .inl (by decide)
  · exact .inl (by decide)

set_option maxRecDepth 100000 in
set_option maxHeartbeats 4000000 in
theorem lives03_any (w : World) : Calls Try.prog 22 #[] w fun e w' => e = .returned (.bool true) ∧ Ext w w' := by
  have hb1 : ∀ x ∈ [(1 : Int), 1, 1], inI64 x := fun x hx => by
    simp only [List.mem_cons, List.not_mem_nil, or_false] at hx
    unfold inI64; omega
  have hb2 : ∀ x ∈ [(3 : Int), 0, 4], inI64 x := fun x hx => by
    simp only [List.mem_cons, List.not_mem_nil, or_false] at hx
    unfold inI64; omega
  have HB1 := Lib.hid hb1
  have HB2 := Lib.hid hb2
  clear hb1 hb2
  go_enter Try.func22, Try.ntmps22
  go_wp2_with fail
  refine (part_any 10 2 3 _).mono ?_
  rintro e w1 ⟨rfl, hx1⟩
  rw [ex_part]
  go_wp2_with fail
  refine (ceil_any 10 2 3 _).mono ?_
  rintro e w2 ⟨rfl, hx2⟩
  rw [ex_ceil]
  have hxw2 : Ext w w2 := hx1.trans hx2
  clear hx1 hx2
  go_wp2_with fail
  refine (split_any 10 _ [1, 1, 1] _ (Rd.lit w2 (vis [1, 1, 1]) 3 (by simp [vis])) HB1.out (by simp)).mono ?_
  rintro e w3 ⟨va, xs, c, rfl, hans, hoa, hx3⟩
  obtain ⟨rfl, hsp⟩ := hans.yes ex_ok1
  obtain rfl := hsp.unique ex_split1
  have ra := hoa.rd
  have hxw3 : Ext w w3 := hxw2.trans (((Ext.refl w2).alloc _).trans hx3)
  clear hans hsp hoa hx3 hxw2
  go_wp2_with fail
  refine (split_any 10 _ [3, 0, 4] _ (Rd.lit w3 (vis [3, 0, 4]) 3 (by simp [vis])) HB2.out (by simp)).mono ?_
  rintro e w4 ⟨vb, ys, c, rfl, hans, hob, hx4⟩
  obtain ⟨rfl, hsp⟩ := hans.yes ex_ok2
  obtain rfl := hsp.unique ex_split2
  have rb := hob.rd
  have hx34 : Ext w3 w4 := ((Ext.refl w3).alloc _).trans hx4
  have ra4 := ra.ext hx34
  have hxw4 := hxw3.trans hx34
  clear hans hsp hob hx4 hx34 hxw3 ra
  go_wp2_with fail
  have hl5 := Rd.lit w4 (vis [4, 3, 3]) 3 (by simp [vis])
  refine (same3_any va _ [4, 3, 3] [4, 3, 3] _ (ra4.ext ((Ext.refl _).alloc _)) hl5).mono ?_
  rintro e w5 ⟨rfl, hx5⟩
  rw [decide_eq_true rfl]
  have hx45 : Ext w4 w5 := ((Ext.refl w4).alloc _).trans hx5
  have rb5 := rb.ext hx45
  have hxw5 := hxw4.trans hx45
  clear hl5 hx5 hx45 ra4 rb hxw4
  go_wp2_with fail
  have hl6 := Rd.lit w5 (vis [4, 0, 6]) 3 (by simp [vis])
  refine (same3_any vb _ [4, 0, 6] [4, 0, 6] _ (rb5.ext ((Ext.refl _).alloc _)) hl6).mono ?_
  rintro e w6 ⟨rfl, hx6⟩
  rw [decide_eq_true rfl]
  have hx56 : Ext w5 w6 := ((Ext.refl w5).alloc _).trans hx6
  clear hl6 hx6 rb5
  go_wp2
  go_ret
  exact ⟨rfl, hxw5.trans hx56⟩
end Go.Proofs.Ytenencblpoeneaa
