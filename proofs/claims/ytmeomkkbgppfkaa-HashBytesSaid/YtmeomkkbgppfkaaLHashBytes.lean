/- HashBytes: the walk of the law. -/
import Derived.Test.YtmeomkkbgppfkaaHc8
namespace Go.Proofs.Ytmeomkkbgppfkaa
open Go.RowKit
set_option linter.unusedVariables false

set_option maxHeartbeats 1000000 in
theorem HashBytes_law (w : World) (s0 : ByteArray) (hs0 : s0.size ≤ maxLen) (v1 : Value) (b1 : List UInt8) (h1 : Rd w v1 (vbs b1)) (x : Int) (hx : 0 ≤ x ∧ x ≤ 18446744073709551615) (y : Int) (hy : 0 ≤ y ∧ y ≤ 18446744073709551615) :
    Calls Try.prog 4 #[.string s0, v1, .int .u64 x, .int .u64 y] w fun e w' => e = .returned (.bool true) ∧ Ext w w' := by
  go_enter Try.func4, Try.ntmps4
  go_wp2_with fail
  refine (short_any s0 20 _ hs0 (by omega)).mono ?_
  rintro e w1 ⟨s, rfl, hs, rfl⟩
  have hsl : s.size ≤ 20 := by
    have : s.data.toList.length ≤ 20 := by rw [hs]; exact List.length_take_le _ _
    simpa using this
  have HS := Lib.hid hs
  clear hs
  go_wp2_with fail
  refine (few_any v1 b1 60 _ h1 (by omega)).mono ?_
  rintro e w1 ⟨v, rfl, ho, hx1⟩
  have hr := ho.rd
  have hzl : (b1.take 60).length ≤ 60 := List.length_take_le _ _
  go_wp2_with fail
  refine (bytes_any s v _ _ (by omega) hr (by omega)).mono ?_
  rintro e w2 ⟨rfl, hx2⟩
  go_wp2_with fail
  refine (rbytes_any s v _ _ (by omega) (hr.ext hx2) (by omega)).mono ?_
  rintro e w3 ⟨rfl, hx3⟩
  go_wp2_with fail
  refine (pair_any x y _).mono ?_
  rintro e w4 ⟨rfl, hx4⟩
  go_wp2_with fail
  refine (rpair_any x y _).mono ?_
  rintro e w5 ⟨rfl, hx5⟩
  go_wp2_with fail
  refine (lives01_any _).mono ?_
  rintro e w6 ⟨rfl, hx6⟩
  go_wp2
  go_ret
  exact ⟨rfl, hx1.trans hx2 |>.trans hx3 |>.trans hx4 |>.trans hx5 |>.trans hx6⟩

end Go.Proofs.Ytmeomkkbgppfkaa
