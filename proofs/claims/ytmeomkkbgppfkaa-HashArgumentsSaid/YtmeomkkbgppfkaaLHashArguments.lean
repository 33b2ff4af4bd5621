/- HashArguments: the walk of the law. -/
import Derived.Test.YtmeomkkbgppfkaaHc8
namespace Go.Proofs.Ytmeomkkbgppfkaa
open Go.RowKit
set_option linter.unusedVariables false

set_option maxHeartbeats 1000000 in
theorem HashArguments_law (w : World) (v0 : Value) (z0 : List Int) (h0 : Rd w v0 (vis z0)) (hz0 : ∀ n ∈ z0, inI64 n) (v1 : Value) (b1 : List UInt8) (h1 : Rd w v1 (vbs b1)) :
    Calls Try.prog 10 #[v0, v1] w fun e w' => e = .returned (.bool true) ∧ Ext w w' := by
  have hzl : (z0.take 10).length ≤ 10 := List.length_take_le _ _
  have hbl : (b1.take 30).length ≤ 30 := List.length_take_le _ _
  go_enter Try.func10, Try.ntmps10
  go_wp2_with fail
  refine (ints_any v0 z0 10 _ h0 (by omega)).mono ?_
  rintro e w1 ⟨u, rfl, hou, hx1⟩
  have hu := hou.rd
  go_wp2_with fail
  refine (few_any v1 b1 30 _ (h1.ext hx1) (by omega)).mono ?_
  rintro e w2 ⟨c, rfl, hoc, hx2⟩
  have hc := hoc.rd
  go_wp2_with fail
  refine (sum_any _ u (z0.take 10) _ (by decide) (hu.ext hx2) (by omega)).mono ?_
  rintro e w3 ⟨rfl, hx3⟩
  go_wp2_with fail
  refine (bytes_any _ c (b1.take 30) _ (by decide) (hc.ext hx3) (by omega)).mono ?_
  rintro e w4 ⟨rfl, hx4⟩
  go_wp2_with fail
  have hx14 := hx1.trans hx2 |>.trans hx3 |>.trans hx4
  refine (ints_any v0 z0 10 _ (h0.ext hx14) (by omega)).mono ?_
  rintro e w5 ⟨u', rfl, hou', hx5⟩
  go_wp2_with fail
  refine (sameInts_any u u' _ _ _ (hu.ext (hx2.trans hx3 |>.trans hx4 |>.trans hx5)) hou'.rd).mono ?_
  rintro e w6 ⟨he6, hx6⟩
  rw [decide_eq_true rfl] at he6
  subst he6
  go_wp2_with fail
  have hx16 := hx14.trans hx5 |>.trans hx6
  refine (few_any v1 b1 30 _ (h1.ext hx16) (by omega)).mono ?_
  rintro e w7 ⟨c', rfl, hoc', hx7⟩
  go_wp2_with fail
  have hx37 := hx3.trans hx4 |>.trans hx5 |>.trans hx6 |>.trans hx7
  refine (sameBytes_any c c' _ _ _ (hc.ext hx37) hoc'.rd).mono ?_
  rintro e w8 ⟨he8, hx8⟩
  rw [decide_eq_true rfl] at he8
  subst he8
  go_wp2_with fail
  refine (sum_any _ u (z0.take 10) _ (by decide) (hu.ext (hx2.trans (hx37.trans hx8))) (by omega)).mono ?_
  rintro e w9 ⟨rfl, hx9⟩
  go_wp2_with fail
  refine (bytes_any _ c (b1.take 30) _ (by decide) (hc.ext (hx37.trans hx8 |>.trans hx9)) (by omega)).mono ?_
  rintro e w10 ⟨rfl, hx10⟩
  go_wp2_with fail
  refine (lives01_any _).mono ?_
  rintro e w11 ⟨rfl, hx11⟩
  go_wp2
  go_ret
  exact ⟨rfl, hx16.trans hx7 |>.trans hx8 |>.trans hx9 |>.trans hx10 |>.trans hx11⟩

end Go.Proofs.Ytmeomkkbgppfkaa
