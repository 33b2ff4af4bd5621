/- The examples of section hash hold: lives returns true. -/
import Derived.Test.YtmeomkkbgppfkaaHc7
namespace Go.Proofs.Ytmeomkkbgppfkaa
open Go.RowKit
set_option linter.unusedVariables false

theorem lives1 : (sumI [97] [5] != sumI [97] [6]) = true := by decide +kernel
theorem lives2 : (bytesI [97] [1, 2] == sumI [97] [513, 2]) = true := by decide +kernel
theorem lives3 : (pairI 1 2 != pairI 1 3) = true := by decide +kernel

set_option maxHeartbeats 1000000 in
theorem lives01_any (w : World) : Calls Try.prog 15 #[] w fun e w' => e = .returned (.bool true) ∧ Ext w w' := by
  have l1 := lives1
  have l2 := lives2
  have l3 := lives3
  go_enter Try.func15, Try.ntmps15
  go_wp2_with fail
  refine (sum_any _ _ [5] _ (by decide) (Rd.lit w [.int .i64 5] 3 (by simp)) (by simp)).mono ?_
  rintro e w1 ⟨rfl, hx1⟩
  go_wp2_with fail
  refine (sum_any _ _ [6] _ (by decide) (Rd.lit w1 [.int .i64 6] 3 (by simp)) (by simp)).mono ?_
  rintro e w2 ⟨rfl, hx2⟩
  go_wp2_with fail
  refine (bytes_any _ _ [1, 2] _ (by decide) (Rd.lit w2 [.int .u8 1, .int .u8 2] 5 (by simp)) (by simp)).mono ?_
  rintro e w3 ⟨rfl, hx3⟩
  go_wp2_with fail
  refine (sum_any _ _ [513, 2] _ (by decide) (Rd.lit w3 [.int .i64 513, .int .i64 2] 3 (by simp)) (by simp)).mono ?_
  rintro e w4 ⟨rfl, hx4⟩
  go_wp2_with fail
  refine (pair_any _ _ _).mono ?_
  rintro e w5 ⟨rfl, hx5⟩
  go_wp2_with fail
  refine (pair_any _ _ _).mono ?_
  rintro e w6 ⟨rfl, hx6⟩
  go_wp2
  go_ret
  exact ⟨rfl, ((((((Ext.refl w).alloc _).trans hx1).alloc _).trans hx2).alloc _).trans hx3 |>.alloc _ |>.trans hx4 |>.trans hx5 |>.trans hx6⟩

end Go.Proofs.Ytmeomkkbgppfkaa
