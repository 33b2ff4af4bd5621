/- The examples of section dice hold: lives returns true. -/
import Derived.Test.YtjgpdimhgcacgaaDc5
import Derived.Lib.SlBytesConst
namespace Go.Proofs.Ytjgpdimhgcacgaa
open Go.RowKit
set_option linter.unusedVariables false

theorem acc_one (w : Int) (h : w ≤ 18446744073709551615) : accD w 1 = true := by
  rw [acc_yes w 1 (by omega)]
  exact decide_eq_true (by unfold overD; omega)
theorem roll_one (seed label : List UInt8) : rollD seed label 1 0 = (0, 0, 1) := by
  rw [rollD_yes _ _ _ _ (by omega), rollF, acc_one _ (wordD_range _ _ _).2]
  simp only [if_true]
  have : wordD seed label 0 % 1 = 0 := by omega
  rw [this, show wrap64 (0 + 1) = 1 by unfold wrap64; omega]

set_option maxHeartbeats 1000000 in
theorem lives04_any (w : World) : Calls Try.prog 18 #[] w fun e w' => e = .returned (.bool true) ∧ Ext w w' := by
  have kc := fun (w : World) (C : Array Value) (n c : Nat) => Lib.run_convert_bytes_const (P := Try.prog) w 22 5 C n c Try.underlying22 Try.underlying5
  go_enter Try.func18, Try.ntmps18
  go_wp2_with fail
  refine (reduce_any 10 4 _ (by omega) (by unfold inI64; omega)).mono ?_
  rintro e w1 ⟨he, rfl⟩
  rw [show redV 10 4 = 2 by decide +kernel, show accD 10 4 = true by decide +kernel] at he
  subst he
  go_wp2_with fail
  refine (reduce_any 18446744073709551615 3 _ (by omega) (by unfold inI64; omega)).mono ?_
  rintro e w1 ⟨he, rfl⟩
  rw [show redV 18446744073709551615 3 = 0 by decide +kernel, show accD 18446744073709551615 3 = false by decide +kernel] at he
  subst he
  go_wp2_with fail
  refine (reduce_any 18446744073709551615 4 _ (by omega) (by unfold inI64; omega)).mono ?_
  rintro e w1 ⟨he, rfl⟩
  rw [show redV 18446744073709551615 4 = 3 by decide +kernel, show accD 18446744073709551615 4 = true by decide +kernel] at he
  subst he
  go_wp2_with fail
  refine (new_any _ [115] _ _ (Rd.mark w [.int .u8 115] 5 (1, 2) (by simp)) (by simp)).mono ?_
  rintro e w2 ⟨g, rfl, hg, hgl, hd, hx⟩
  go_wp2_with fail
  refine (roll_any _ g [115] _ 0 1 w2 hd (by unfold inI64; omega) (by unfold inI64; omega) (by simp) (by decide)).mono ?_
  rintro e w3 ⟨he, hd3, hc3⟩
  have hr : rollD [115] [108] 1 0 = (0, 0, 1) := roll_one [115] [108]
  rw [show (({ data := #[108] } : ByteArray).data.toList) = [108] from rfl, hr] at he hd3
  subst he
  go_wp2_with fail
  refine (at_any _ g [115] _ 1 w3 hd3).mono ?_
  rintro e w4 ⟨rfl, rfl⟩
  go_wp2
  go_ret
  exact ⟨rfl, hc3.ext (((Ext.refl w).alloc _).trans hx) (by simp at hg; omega)⟩

end Go.Proofs.Ytjgpdimhgcacgaa
