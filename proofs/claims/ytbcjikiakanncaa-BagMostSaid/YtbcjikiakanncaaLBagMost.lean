/- BagMost: the walk of the law. -/
import Derived.Test.YtbcjikiakanncaaBl
import Derived.Test.YtbcjikiakanncaaBp2
namespace Go.Proofs.Ytbcjikiakanncaa
open Go.RowKit
set_option linter.unusedVariables false

set_option maxRecDepth 100000 in
set_option maxHeartbeats 8000000 in
theorem BagMost_law (w : World) (n : Int) (hn : inI64 n) (v1 : Value) (z1 : List Int) (h1 : Rd w v1 (vis z1)) (hz1 : ∀ n ∈ z1, inI64 n) (j : Int) (hj : inI64 j) (m : Int) (hm : inI64 m) :
    Calls Try.prog 7 #[.int .i64 n, v1, .int .i64 j, .int .i64 m] w fun e w' => e = .returned (.bool true) ∧ Ext w w' := by
  have hr0 := Int.emod_nonneg n (show (8 : Int) ≠ 0 by omega)
  have hr1 := Int.emod_lt_of_pos n (show (0 : Int) < 8 by omega)
  go_enter Try.func7, Try.ntmps7
  go_wp2_with fail
  refine (around3_any n 8 _ hn (by omega) (by omega)).mono ?_
  rintro e w1 ⟨rfl, rfl⟩
  obtain ⟨k, hk⟩ : ∃ k : Nat, n % 8 = (k : Int) := ⟨(n % 8).toNat, by omega⟩
  rw [hk] at hr0 hr1 ⊢
  clear hk
  have hk8 : k ≤ 8 := by omega
  have rz := h1
  have HX := Ext.refl w
  clear h1
  have hx0 := Int.emod_nonneg j (show (41 : Int) ≠ 0 by omega)
  have hx1 := Int.emod_lt_of_pos j (show (0 : Int) < 41 by omega)
  have hy0 := Int.emod_nonneg m (show (41 : Int) ≠ 0 by omega)
  have hy1 := Int.emod_lt_of_pos m (show (0 : Int) < 41 by omega)
  go_wp2_with fail
  refine (bag_any k v1 z1 0 _ hk8 rz hz1 (by omega)).mono ?_
  rintro e w2 ⟨va, a, rfl, ho, hla, hba, hx⟩
  replace rz := rz.ext hx
  replace HX := HX.trans hx
  have ra := ho.rd
  clear ho hx
  go_wp2_with fail
  refine (bag_any k v1 z1 3 _ hk8 rz hz1 (by omega)).mono ?_
  rintro e w3 ⟨vb, b, rfl, ho, hlb, hbb, hx⟩
  replace rz := rz.ext hx
  replace ra := ra.ext hx
  replace HX := HX.trans hx
  have rb := ho.rd
  clear ho hx
  have HF := Lib.hid (fitB_mk hba hbb (hla.trans hlb.symm))
  have HBB := Lib.hid (hbb)
  clear hla hlb hba hbb rz hz1 hr0 hr1 hk8
  go_wp2_with fail
  refine (around3_any j 41 _ hj (by omega) (by omega)).mono ?_
  rintro e w4 ⟨rfl, rfl⟩
  generalize j % 41 = x at *
  go_wp2_with fail
  refine (around3_any m 41 _ hm (by omega) (by omega)).mono ?_
  rintro e w5 ⟨rfl, rfl⟩
  generalize m % 41 = y at *
  have hxi : inI64 x := by unfold inI64; omega
  have hyi : inI64 y := by unfold inI64; omega
  have hzi : inI64 (x + y) := by unfold inI64; omega
  have hw : IntKind.i64.wrap (x + y) = x + y := by rw [IntKind.wrap_i64]; omega
  go_wp2_with fail
  refine (most_any _ _ _ _ _ ra rb).mono ?_
  rintro e wm ⟨rfl, rfl⟩
  go_wp2_with fail
  refine (times_any _ _ _ _ rb hxi).mono ?_
  rintro e w6 ⟨vp, rfl, ho, hx⟩
  replace ra := ra.ext hx
  replace rb := rb.ext hx
  replace HX := HX.trans hx
  have rp := ho.rd
  clear ho hx
  go_wp2_with fail
  refine (times_any _ _ _ _ rb hyi).mono ?_
  rintro e w7 ⟨vq, rfl, ho, hx⟩
  replace ra := ra.ext hx
  replace rb := rb.ext hx
  replace rp := rp.ext hx
  replace HX := HX.trans hx
  have rq := ho.rd
  clear ho hx
  go_wp2_with fail
  refine (times_any _ _ _ _ rb hzi).mono ?_
  rintro e w8 ⟨vr, rfl, ho, hx⟩
  replace ra := ra.ext hx
  replace rb := rb.ext hx
  replace rp := rp.ext hx
  replace rq := rq.ext hx
  replace HX := HX.trans hx
  have rr := ho.rd
  clear ho hx
  clear hw
  have HM := Lib.hid (most_covers HF.out hx0 (show x ≤ 40 by omega))
  have HL := Lib.hid (times_limit ((timesOk_iff b (x + y)).2 ⟨HBB.out, by omega, by omega⟩))
  have HT := Lib.hid (times_add HBB.out hx0 (show x ≤ 40 by omega) hy0 (show y ≤ 40 by omega))
  obtain ⟨P, e, hP⟩ : ∃ r q, timesB b x = (r, q) := ⟨_, _, rfl⟩
  obtain ⟨Q, f, hQ⟩ : ∃ r q, timesB b y = (r, q) := ⟨_, _, rfl⟩
  obtain ⟨R, g, hR⟩ : ∃ r q, timesB b (x + y) = (r, q) := ⟨_, _, rfl⟩
  rw [hP] at rp HM HT ⊢; rw [hQ] at rq HT ⊢; rw [hR] at rr HL HT ⊢
  simp only at rp rq rr HM HL HT ⊢
  clear hP hQ hR
  generalize mostB a b = M at *
  by_cases h0 : e = 0
  rotate_left
  · have hg : g = 4 := HL.out (fun hg => h0 (HT.out hg).1)
    have hle : ¬ (x ≤ M) := fun h => h0 (HM.out.2 h).1
    have hd : decide (x ≤ M) = false := decide_eq_false hle
    have hne : (e == 0) = false := by simp [h0]
    subst hg
    clear HT HM h0 hle
    go_wp2_with fail
    refine (lives13_any _).mono ?_
    rintro e w9 ⟨rfl, hx⟩
    have HX2 := HX.trans hx
    clear hx
    go_wp2
    go_ret
    exact ⟨rfl, HX2⟩
  subst h0
  have hc : coversB a P = decide (x ≤ M) := by
    have := HM.out
    cases h : coversB a P <;> simp [h] at this ⊢ <;> omega
  have HC := Lib.hid hc
  clear hc
  go_wp2_with fail
  refine (covers_any _ _ _ _ _ ra rp).mono ?_
  rintro e w9 ⟨rfl, hx⟩
  rw [HC.out]
  replace ra := ra.ext hx
  replace rb := rb.ext hx
  replace rp := rp.ext hx
  replace rq := rq.ext hx
  replace rr := rr.ext hx
  replace HX := HX.trans hx
  clear hx
  by_cases hg : g = 0
  rotate_left
  · have h4 := HL.out hg
    subst h4
    clear HT HM hg HL HC
    go_wp2_with fail
    refine (lives13_any _).mono ?_
    rintro e w10 ⟨rfl, hx⟩
    have HX2 := HX.trans hx
    clear hx
    go_wp2
    go_ret
    exact ⟨rfl, HX2⟩
  obtain ⟨-, hf, ha⟩ := HT.out hg
  subst hg hf
  have HA := Lib.hid ha
  clear ha HT HM HL HC
  go_wp2_with fail
  refine (add_any _ _ _ _ _ rp rq).mono ?_
  rintro e w10 ⟨vs, rfl, ho, hx⟩
  rw [HA.out] at ho ⊢
  replace ra := ra.ext hx
  replace rb := rb.ext hx
  replace rp := rp.ext hx
  replace rq := rq.ext hx
  replace rr := rr.ext hx
  replace HX := HX.trans hx
  have rs := ho.rd
  clear ho hx
  go_wp2_with fail
  refine (same3_any _ _ _ _ _ rs rr).mono ?_
  rintro e w11 ⟨rfl, hx⟩
  rw [decide_eq_true rfl]
  replace ra := ra.ext hx
  replace rb := rb.ext hx
  replace rp := rp.ext hx
  replace rq := rq.ext hx
  replace rr := rr.ext hx
  replace rs := rs.ext hx
  replace HX := HX.trans hx
  clear hx
  go_wp2_with fail
  refine (lives13_any _).mono ?_
  rintro e w12 ⟨rfl, hx⟩
  have HX2 := HX.trans hx
  clear hx
  go_wp2
  go_ret
  exact ⟨rfl, HX2⟩
end Go.Proofs.Ytbcjikiakanncaa
