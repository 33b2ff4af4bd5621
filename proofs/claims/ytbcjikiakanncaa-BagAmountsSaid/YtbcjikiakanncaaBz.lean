/- package bag: the bag without units (the reference's Zero): contract. -/
import Derived.Test.YtbcjikiakanncaaBc7
namespace Go.Proofs.Ytbcjikiakanncaa
open Go.RowKit
set_option linter.unusedVariables false

set_option maxRecDepth 100000 in
set_option maxHeartbeats 2000000 in
theorem zero_any (n : Nat) (w : World) (hn : n ≤ 64) :
    Calls Try.prog 15 #[.int .i64 n] w fun e w' => ∃ v', e = .returned v' ∧ Own w' w.heap.size 3 v' (vis (List.replicate n 0)) ∧ Ext w w' := by
  obtain ⟨i0, hi, hz0, hz1, hz2⟩ := info_parts info_int
  go_enter Try.func15, Try.ntmps15
  go_wp2_with fail
  go_loopw [3, 4] (fun o i wr => ∃ k : Nat, k ≤ n ∧ i = .int .i64 k ∧ Own wr w.heap.size 3 o (vis (List.replicate k 0)) ∧ Ext w wr) (fun _ i _ => n - (intOf i).toNat)
  case atStart => exact ⟨0, by omega, rfl, Own.of_nil, Ext.refl _⟩
  case round =>
    obtain ⟨k, hk, rfl, ho, hxr⟩ := hrel
    have hsz := hxr.size
    by_cases hlt : k < n
    · have hz : (k : Int) < (n : Int) := by omega
      go_wp2_with (at_builtin; refine wpList_app _ rfl (.tmp 10) (.tmp 11) _ rfl w.heap.size 3 i0 _ 8 Try.underlying22 hi hz0 hz1 hz2 rfl (by omega) _ _ rfl (ho.ext ((Ext.refl _).alloc _)) (some ⟨wr.heap.size, 0, none⟩) 1 1 [.int .i64 0] rfl (Src.one _ _ _) ?_ ?_ ?_ ?_; (simp [Value.oneCell']); (rw [vis_len, List.length_replicate]; omega); (simp; omega); intro v1 w1 ho1 hg1 _)
      have hon : Own w1 w.heap.size 3 v1 (vis (List.replicate (k + 1) 0)) := by rw [List.replicate_succ', vis_app]; exact ho1
      have hxn := Ext.app hxr (Ext.refl w) ho hg1
      clear ho1
      go_roundw
      case rel => exact ⟨k + 1, by omega, by go_num, hon, hxn⟩
      case measure => simp [intOf]; omega
    · obtain rfl : k = n := by omega
      have hz : ¬ (k : Int) < (k : Int) := by omega
      go_wp2
      go_ret
      exact ⟨_, rfl, ho, hxr⟩
end Go.Proofs.Ytbcjikiakanncaa
