/- BagLists: the walk of the law. -/
import Derived.Test.YtbcjikiakanncaaBl
import Derived.Test.YtbcjikiakanncaaBa4
namespace Go.Proofs.Ytbcjikiakanncaa
open Go.RowKit
set_option linter.unusedVariables false

set_option maxRecDepth 100000 in
set_option maxHeartbeats 8000000 in
theorem BagLists_law (w : World) (n : Int) (hn : inI64 n) (v1 : Value) (z1 : List Int) (h1 : Rd w v1 (vis z1)) (hz1 : ∀ n ∈ z1, inI64 n) (at_ : Int) (hat : inI64 at_) (by_ : Int) (hby : inI64 by_) :
    Calls Try.prog 6 #[.int .i64 n, v1, .int .i64 at_, .int .i64 by_] w fun e w' => e = .returned (.bool true) ∧ Ext w w' := by
  go_enter Try.func6, Try.ntmps6
  go_wp2_with fail
  refine (bags_any n v1 z1 at_ by_ _ hn h1 hz1 hat hby).mono ?_
  rintro e w1 ⟨vb, L, rfl, hB, hok, hx1⟩
  clear h1 hz1
  obtain ⟨g, f, rfl, hc⟩ := hB
  have hxw : Ext w w1 := hx1
  have HC := Lib.hid hc
  have HOK := Lib.hid hok
  clear hc hx1 hok
  obtain ⟨W2, hW2⟩ : ∃ W, W = w1 := ⟨_, rfl⟩
  rw [← hW2] at HC hxw ⊢
  clear hW2
  go_wp2_with fail
  go_loopw [10] (fun i wr => ∃ k : Nat, k ≤ 3 ∧ i = .int .i64 k ∧ Ext W2 wr) (fun i _ => 3 - (intOf i).toNat)
  case atStart => exact ⟨0, by omega, rfl, Ext.refl _⟩
  case round =>
    obtain ⟨i, hi, rfl, hxo⟩ := hrel
    by_cases hi3 : i < 3
    · have i1 : (i : Int) < 3 := by omega
      have i0 : (0 : Int) ≤ (i : Int) := by omega
      obtain ⟨ci, hri⟩ := HC.out i hi3
      obtain ⟨hai, hal⟩ := HOK.out i hi3
      have ei := hxo.cell ci
      generalize f i = va at *
      generalize L i = a at *
      have HAI := Lib.hid hai
      have HAL := Lib.hid hal
      clear hai hal
      have hri0 := hri
      obtain ⟨A, c, hva, -⟩ := hri0
      rw [vis_len] at hva
      subst hva
      have hle1 : a.length ≤ 9 := HAL.out
      have hni : inI64 (a.length : Int) := by unfold inI64; omega
      have HNI := Lib.hid hni
      clear hle1 hni
      go_wp2_with fail
      refine (amounts_any _ a _ (hri.ext hxo)).mono ?_
      rintro e w3 ⟨v3, rfl, ho3, hx3⟩
      have r3 := ho3.rd
      have hxS := hxo.trans hx3
      have ei := hxS.cell ci
      clear ho3 hx3
      go_wp2_with fail
      refine (amountsR_any _ a _ (hri.ext hxS)).mono ?_
      rintro e w4 ⟨v4, rfl, ho4, hx4⟩
      have r4 := ho4.rd
      replace r3 := r3.ext hx4
      replace hxS := hxS.trans hx4
      have ei := hxS.cell ci
      clear ho4 hx4
      go_wp2_with fail
      refine (sameA_any _ _ _ _ _ r3 r4).mono ?_
      rintro e w5 ⟨rfl, hx5⟩
      rw [decide_eq_true rfl]
      replace r3 := r3.ext hx5
      replace hxS := hxS.trans hx5
      have ei := hxS.cell ci
      clear hx5 r4
      go_wp2_with fail
      refine (isR_any _ a _ (hri.ext hxS)).mono ?_
      rintro e w6 ⟨rfl, rfl⟩
      rcases hc : isB a with _ | _
      · clear hc
        go_wp2
        go_roundw
        case rel => exact ⟨i + 1, by omega, by go_num, hxS⟩
        case measure => simp [intOf]; omega
      · have HOF := Lib.hid (of_amts hc)
        have HV := Lib.hid (valid_amts hc)
        clear hc
        go_wp2_with fail
        refine (of_any a.length _ (amtsB a) _ HNI.out r3 (amtsB_ok a)).mono ?_
        rintro e w7 ⟨v7, rfl, ho7, hx7⟩
        rw [HOF.out] at ho7 ⊢
        have r7 := ho7.rd
        replace r3 := r3.ext hx7
        replace hxS := hxS.trans hx7
        have ei := hxS.cell ci
        clear ho7 hx7
        go_wp2_with fail
        refine (same3_any _ _ a a _ r7 (hri.ext hxS)).mono ?_
        rintro e w8 ⟨rfl, hx8⟩
        rw [decide_eq_true rfl]
        replace r3 := r3.ext hx8
        replace hxS := hxS.trans hx8
        have ei := hxS.cell ci
        clear hx8 r7
        go_wp2_with fail
        refine (valid_any a.length _ (amtsB a) _ HNI.out r3 (amtsB_ok a)).mono ?_
        rintro e w9 ⟨rfl, hx9⟩
        rw [HV.out]
        replace hxS := hxS.trans hx9
        clear hx9 r3
        go_wp2
        go_roundw
        case rel => exact ⟨i + 1, by omega, by go_num, hxS⟩
        case measure => simp [intOf]; omega
    · have i2 : ¬ ((i : Int) < 3) := by omega
      go_wp2_with fail
      refine (lives13_any _).mono ?_
      rintro e w9 ⟨rfl, hx9⟩
      go_wp2
      go_ret
      exact ⟨rfl, (hxw.trans (by first | exact hxo | exact hxo.drew)).trans hx9⟩
end Go.Proofs.Ytbcjikiakanncaa
