/- HashSum: the walk of the law. -/
import Derived.Test.YtmeomkkbgppfkaaHc8
namespace Go.Proofs.Ytmeomkkbgppfkaa
open Go.RowKit
set_option linter.unusedVariables false

set_option maxHeartbeats 1000000 in
theorem HashSum_law (w : World) (s0 : ByteArray) (hs0 : s0.size ≤ maxLen) (v1 : Value) (z1 : List Int) (h1 : Rd w v1 (vis z1)) (hz1 : ∀ n ∈ z1, inI64 n) :
    Calls Try.prog 3 #[.string s0, v1] w fun e w' => e = .returned (.bool true) ∧ Ext w w' := by
  go_enter Try.func3, Try.ntmps3
  go_wp2_with fail
  refine (short_any s0 40 _ hs0 (by omega)).mono ?_
  rintro e w1 ⟨s, rfl, hs, rfl⟩
  have hsl : s.size ≤ 40 := by
    have : s.data.toList.length ≤ 40 := by rw [hs]; exact List.length_take_le _ _
    simpa using this
  have HS := Lib.hid hs
  clear hs
  go_wp2_with fail
  refine (ints_any v1 z1 12 _ h1 (by omega)).mono ?_
  rintro e w1 ⟨v, rfl, ho, hx1⟩
  have hr := ho.rd
  have hzl : (z1.take 12).length ≤ 12 := List.length_take_le _ _
  go_wp2_with fail
  refine (sum_any s v _ _ (by omega) hr (by omega)).mono ?_
  rintro e w2 ⟨rfl, hx2⟩
  go_wp2_with fail
  refine (rsum_any s v _ _ (by omega) (hr.ext hx2) (by omega)).mono ?_
  rintro e w3 ⟨rfl, hx3⟩
  go_wp2_with fail
  refine (sum_any s _ [] _ (by omega) (Rd.nil _) (by simp)).mono ?_
  rintro e w4 ⟨rfl, hx4⟩
  go_wp2_with fail
  refine (rsum_any s _ [] _ (by omega) (Rd.nil _) (by simp)).mono ?_
  rintro e w5 ⟨rfl, hx5⟩
  go_wp2_with fail
  refine (lives01_any _).mono ?_
  rintro e w6 ⟨rfl, hx6⟩
  go_wp2
  go_ret
  exact ⟨rfl, hx1.trans hx2 |>.trans hx3 |>.trans hx4 |>.trans hx5 |>.trans hx6⟩

end Go.Proofs.Ytmeomkkbgppfkaa
