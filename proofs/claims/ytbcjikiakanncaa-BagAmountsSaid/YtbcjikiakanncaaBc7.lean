/- package bag: the laws' bags: made from numbers. -/
import Derived.Test.YtbcjikiakanncaaBc6
namespace Go.Proofs.Ytbcjikiakanncaa
open Go.RowKit
set_option linter.unusedVariables false

theorem isB_snoc {l : List Int} {x : Int} (h : ∀ n ∈ l, amtB n = true) (hx : 0 ≤ x ∧ x ≤ 1099511627776) : ∀ n ∈ l ++ [x], amtB n = true := fun n hn => by
  rcases List.mem_append.1 hn with hn | hn
  · exact h n hn
  · simp only [List.mem_singleton] at hn; subst hn; exact (amtB_iff n).2 hx
theorem isB_all {l : List Int} (h : ∀ n ∈ l, amtB n = true) (hl : l.length ≤ 64) : isB l = true := by rw [isB_end h]; simpa using hl

set_option maxRecDepth 100000 in
set_option maxHeartbeats 2000000 in
theorem bag_any (n : Nat) (v : Value) (zs : List Int) (at_ : Nat) (w : World) (hn : n ≤ 8) (h : Rd w v (vis zs)) (hz : ∀ z ∈ zs, inI64 z) (ha : at_ ≤ 100) :
    Calls Try.prog 13 #[.int .i64 n, v, .int .i64 at_] w fun e w' => ∃ v' l, e = .returned v' ∧ Own w' w.heap.size 3 v' (vis l) ∧ l.length = n ∧ isB l = true ∧ Ext w w' := by
  obtain ⟨i0, hi, hz0, hz1, hz2⟩ := info_parts info_int
  have hh := h
  obtain ⟨A, c, rfl, _⟩ := h
  obtain ⟨_, a1, a2, a3⟩ := hh.at
  simp only [vis_len, maxLen] at *
  go_enter Try.func13, Try.ntmps13
  go_wp2_with fail
  go_loopw [8, 7] (fun i o wr => ∃ k : Nat, ∃ l : List Int, k ≤ n ∧ i = .int .i64 k ∧ l.length ≤ k ∧ k ≤ l.length ∧ Own wr w.heap.size 3 o (vis l) ∧ Ext w wr ∧ Hid (∀ x ∈ l, amtB x = true)) (fun i _ _ => n - (intOf i).toNat)
  case atStart => exact ⟨0, [], by omega, rfl, by simp, by simp, Own.of_nil, Ext.refl _, Lib.hid (by simp)⟩
  case round =>
    obtain ⟨k, l, hk, rfl, hl1, hl2, ho, hxr, hP⟩ := hrel
    have hsz := hxr.size
    by_cases hlt : k < n
    · by_cases hin : at_ + k < zs.length
      · obtain ⟨b, off, rfl, hcx⟩ := a3 (by omega)
        have c1 := hcx wr hxr (at_ + k) (.int .i64 zs[at_ + k]) (by simp [vis, hin])
        have hzi := hz zs[at_ + k] (by simp)
        have hr0 := Int.emod_nonneg zs[at_ + k] (show (1099511627777 : Int) ≠ 0 by omega)
        have hr1 := Int.emod_lt_of_pos zs[at_ + k] (show (0 : Int) < 1099511627777 by omega)
        generalize zs[at_ + k] = z at *
        clear hcx a3 hz
        go_wp2_with fail
        refine (around3_any z 1099511627777 _ hzi (by omega) (by omega)).mono ?_
        rintro e w1 ⟨rfl, rfl⟩
        generalize z % 1099511627777 = q at *
        by_cases hq : 0 < q % 5
        · go_wp2_with (at_builtin; refine wpList_app _ rfl (.tmp 34) (.tmp 36) _ rfl w.heap.size 3 i0 _ 8 Try.underlying22 hi hz0 hz1 hz2 rfl (by omega) _ _ rfl (ho.ext ((Ext.refl _).alloc _)) (some ⟨wr.heap.size, 0, none⟩) 1 1 [.int .i64 (q / 5 % 12)] rfl (Src.one _ _ _) ?_ ?_ ?_ ?_; (simp [Value.oneCell']); (rw [vis_len]; omega); (simp; omega); intro v1 w1 ho1 hg1 _)
          have hon : Own w1 w.heap.size 3 v1 (vis (l ++ [q / 5 % 12])) := by rw [vis_app]; exact ho1
          have hxn := Ext.app hxr (Ext.refl w) ho hg1
          clear ho1
          go_roundw
          case rel => exact ⟨k + 1, l ++ [q / 5 % 12], by omega, by go_num, by simp; omega, by simp; omega, hon, hxn, Lib.hid (isB_snoc hP.out (by omega))⟩
          case measure => simp [intOf]; omega
        · go_wp2_with (at_builtin; refine wpList_app _ rfl (.tmp 34) (.tmp 36) _ rfl w.heap.size 3 i0 _ 8 Try.underlying22 hi hz0 hz1 hz2 rfl (by omega) _ _ rfl (ho.ext ((Ext.refl _).alloc _)) (some ⟨wr.heap.size, 0, none⟩) 1 1 [.int .i64 q] rfl (Src.one _ _ _) ?_ ?_ ?_ ?_; (simp [Value.oneCell']); (rw [vis_len]; omega); (simp; omega); intro v1 w1 ho1 hg1 _)
          have hon : Own w1 w.heap.size 3 v1 (vis (l ++ [q])) := by rw [vis_app]; exact ho1
          have hxn := Ext.app hxr (Ext.refl w) ho hg1
          clear ho1
          go_roundw
          case rel => exact ⟨k + 1, l ++ [q], by omega, by go_num, by simp; omega, by simp; omega, hon, hxn, Lib.hid (isB_snoc hP.out (by omega))⟩
          case measure => simp [intOf]; omega
      · clear a3 hz
        go_wp2_with (at_builtin; refine wpList_app _ rfl (.tmp 34) (.tmp 36) _ rfl w.heap.size 3 i0 _ 8 Try.underlying22 hi hz0 hz1 hz2 rfl (by omega) _ _ rfl (ho.ext ((Ext.refl _).alloc _)) (some ⟨wr.heap.size, 0, none⟩) 1 1 [.int .i64 0] rfl (Src.one _ _ _) ?_ ?_ ?_ ?_; (simp [Value.oneCell']); (rw [vis_len]; omega); (simp; omega); intro v1 w1 ho1 hg1 _)
        have hon : Own w1 w.heap.size 3 v1 (vis (l ++ [0])) := by rw [vis_app]; exact ho1
        have hxn := Ext.app hxr (Ext.refl w) ho hg1
        clear ho1
        go_roundw
        case rel => exact ⟨k + 1, l ++ [0], by omega, by go_num, by simp; omega, by simp; omega, hon, hxn, Lib.hid (isB_snoc hP.out (by omega))⟩
        case measure => simp [intOf]; omega
    · clear a3 hz
      go_wp2
      go_ret
      exact ⟨_, l, rfl, ho, by omega, isB_all hP.out (by omega), hxr⟩
end Go.Proofs.Ytbcjikiakanncaa
