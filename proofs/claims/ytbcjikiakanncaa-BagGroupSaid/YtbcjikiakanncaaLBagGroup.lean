/- BagGroup: the walk of the law. -/
import Derived.Test.YtbcjikiakanncaaBl
import Derived.Test.YtbcjikiakanncaaBp2
namespace Go.Proofs.Ytbcjikiakanncaa
open Go.RowKit
set_option linter.unusedVariables false

set_option maxRecDepth 100000 in
set_option maxHeartbeats 8000000 in
theorem BagGroup_law (w : World) (n : Int) (hn : inI64 n) (v1 : Value) (z1 : List Int) (h1 : Rd w v1 (vis z1)) (hz1 : ∀ n ∈ z1, inI64 n) :
    Calls Try.prog 9 #[.int .i64 n, v1] w fun e w' => e = .returned (.bool true) ∧ Ext w w' := by
  have hr0 := Int.emod_nonneg n (show (8 : Int) ≠ 0 by omega)
  have hr1 := Int.emod_lt_of_pos n (show (0 : Int) < 8 by omega)
  go_enter Try.func9, Try.ntmps9
  go_wp2_with fail
  refine (around3_any n 8 _ hn (by omega) (by omega)).mono ?_
  rintro e w1 ⟨rfl, rfl⟩
  obtain ⟨k, hk⟩ : ∃ k : Nat, n % 8 = (k : Int) := ⟨(n % 8).toNat, by omega⟩
  rw [hk] at hr0 hr1 ⊢
  clear hk
  have hk8 : k ≤ 8 := by omega
  have rz := h1
  have HX := Ext.refl w
  clear h1
  go_wp2_with fail
  refine (bag_any k v1 z1 0 _ hk8 rz hz1 (by omega)).mono ?_
  rintro e w2 ⟨va, a, rfl, ho, hla, hba, hx⟩
  replace rz := rz.ext hx
  replace HX := HX.trans hx
  have ra := ho.rd
  clear ho hx
  go_wp2_with fail
  refine (bag_any k v1 z1 3 _ hk8 rz hz1 (by omega)).mono ?_
  rintro e w3 ⟨vb, b, rfl, ho, hlb, hbb, hx⟩
  replace rz := rz.ext hx
  replace ra := ra.ext hx
  replace HX := HX.trans hx
  have rb := ho.rd
  clear ho hx
  go_wp2_with fail
  refine (bag_any k v1 z1 5 _ hk8 rz hz1 (by omega)).mono ?_
  rintro e w4 ⟨vc, c, rfl, ho, hlc, hbc, hx⟩
  replace rz := rz.ext hx
  replace ra := ra.ext hx
  replace rb := rb.ext hx
  replace HX := HX.trans hx
  have rc := ho.rd
  clear ho hx
  have HF := Lib.hid (fitB_mk hba hbb (hla.trans hlb.symm))
  have HG := Lib.hid (fitB_mk hbb hbc (hlb.trans hlc.symm))
  clear hla hlb hlc hba hbb hbc rz hz1 hr0 hr1 hk8
  go_wp2_with fail
  refine (add_any _ _ _ _ _ ra rb).mono ?_
  rintro e w5 ⟨vab, rfl, ho, hx⟩
  replace ra := ra.ext hx
  replace rb := rb.ext hx
  replace rc := rc.ext hx
  replace HX := HX.trans hx
  have rab := ho.rd
  clear ho hx
  go_wp2_with fail
  refine (add_any _ _ _ _ _ rb ra).mono ?_
  rintro e w6 ⟨vba, rfl, ho, hx⟩
  rw [addB_comm b a] at ho ⊢
  replace ra := ra.ext hx
  replace rb := rb.ext hx
  replace rc := rc.ext hx
  replace rab := rab.ext hx
  replace HX := HX.trans hx
  have rba := ho.rd
  clear ho hx
  by_cases h0 : (addB a b).2 = 0
  rotate_left
  · have h4 := addB_limit HF.out h0
    clear h0
    obtain ⟨r, q, hAB⟩ : ∃ r q, addB a b = (r, q) := ⟨_, _, rfl⟩
    rw [hAB] at h4 rab rba ⊢
    simp only at h4 rab rba ⊢
    subst h4
    clear hAB
    go_wp2_with fail
    refine (same3_any _ _ _ _ _ rab rba).mono ?_
    rintro e w7 ⟨rfl, hx⟩
    rw [decide_eq_true rfl]
    replace ra := ra.ext hx
    replace rb := rb.ext hx
    replace rc := rc.ext hx
    replace rab := rab.ext hx
    replace rba := rba.ext hx
    replace HX := HX.trans hx
    clear hx
    go_wp2_with fail
    refine (lives13_any _).mono ?_
    rintro e w8 ⟨rfl, hx⟩
    have HX2 := HX.trans hx
    clear hx
    go_wp2
    go_ret
    exact ⟨rfl, HX2⟩
  have HB := Lib.hid (sub_back HF.out h0)
  have HJ := Lib.hid (join_meet HF.out h0)
  have H3 := Lib.hid (add_three HF.out HG.out h0)
  have HS := Lib.hid (add_assoc HF.out HG.out h0)
  have HR := Lib.hid (addB_ok HF.out h0)
  obtain ⟨r, q, hAB⟩ : ∃ r q, addB a b = (r, q) := ⟨_, _, rfl⟩
  rw [hAB] at h0 rab rba HB HJ H3 HS HR ⊢
  simp only at h0 rab rba HB HJ H3 HS HR ⊢
  subst h0
  clear hAB
  go_wp2_with fail
  refine (same3_any _ _ _ _ _ rab rba).mono ?_
  rintro e w7 ⟨rfl, hx⟩
  rw [decide_eq_true rfl]
  replace ra := ra.ext hx
  replace rb := rb.ext hx
  replace rc := rc.ext hx
  replace rab := rab.ext hx
  replace rba := rba.ext hx
  replace HX := HX.trans hx
  clear hx
  go_wp2_with fail
  refine (sub_any _ _ _ _ _ rab rb).mono ?_
  rintro e w8 ⟨vbk, rfl, ho, hx⟩
  rw [HB.out] at ho ⊢
  replace ra := ra.ext hx
  replace rb := rb.ext hx
  replace rc := rc.ext hx
  replace rab := rab.ext hx
  replace rba := rba.ext hx
  replace HX := HX.trans hx
  have rbk := ho.rd
  clear ho hx
  go_wp2_with fail
  refine (join_any _ _ _ _ _ ra rb).mono ?_
  rintro e w9 ⟨vjn, rfl, ho, hx⟩
  replace ra := ra.ext hx
  replace rb := rb.ext hx
  replace rc := rc.ext hx
  replace rab := rab.ext hx
  replace rba := rba.ext hx
  replace rbk := rbk.ext hx
  replace HX := HX.trans hx
  have rjn := ho.rd
  clear ho hx
  go_wp2_with fail
  refine (meet_any _ _ _ _ _ ra rb).mono ?_
  rintro e w10 ⟨vmt, rfl, ho, hx⟩
  replace ra := ra.ext hx
  replace rb := rb.ext hx
  replace rc := rc.ext hx
  replace rab := rab.ext hx
  replace rba := rba.ext hx
  replace rbk := rbk.ext hx
  replace rjn := rjn.ext hx
  replace HX := HX.trans hx
  have rmt := ho.rd
  clear ho hx
  go_wp2_with fail
  refine (add_any _ _ _ _ _ rjn rmt).mono ?_
  rintro e w11 ⟨vsm, rfl, ho, hx⟩
  rw [HJ.out] at ho ⊢
  replace ra := ra.ext hx
  replace rb := rb.ext hx
  replace rc := rc.ext hx
  replace rab := rab.ext hx
  replace rba := rba.ext hx
  replace rbk := rbk.ext hx
  replace rjn := rjn.ext hx
  replace rmt := rmt.ext hx
  replace HX := HX.trans hx
  have rsm := ho.rd
  clear ho hx
  go_wp2_with fail
  refine (same3_any _ _ _ _ _ rbk ra).mono ?_
  rintro e w12 ⟨rfl, hx⟩
  rw [decide_eq_true rfl]
  replace ra := ra.ext hx
  replace rb := rb.ext hx
  replace rc := rc.ext hx
  replace rab := rab.ext hx
  replace rba := rba.ext hx
  replace rbk := rbk.ext hx
  replace rjn := rjn.ext hx
  replace rmt := rmt.ext hx
  replace rsm := rsm.ext hx
  replace HX := HX.trans hx
  clear hx
  go_wp2_with fail
  refine (same3_any _ _ _ _ _ rsm rab).mono ?_
  rintro e w13 ⟨rfl, hx⟩
  rw [decide_eq_true rfl]
  replace ra := ra.ext hx
  replace rb := rb.ext hx
  replace rc := rc.ext hx
  replace rab := rab.ext hx
  replace rba := rba.ext hx
  replace rbk := rbk.ext hx
  replace rjn := rjn.ext hx
  replace rmt := rmt.ext hx
  replace rsm := rsm.ext hx
  replace HX := HX.trans hx
  clear hx
  go_wp2_with fail
  refine (add_any _ _ _ _ _ rab rc).mono ?_
  rintro e w14 ⟨vabc, rfl, ho, hx⟩
  replace ra := ra.ext hx
  replace rb := rb.ext hx
  replace rc := rc.ext hx
  replace rab := rab.ext hx
  replace rba := rba.ext hx
  replace rbk := rbk.ext hx
  replace rjn := rjn.ext hx
  replace rmt := rmt.ext hx
  replace rsm := rsm.ext hx
  replace HX := HX.trans hx
  have rabc := ho.rd
  clear ho hx
  go_wp2_with fail
  refine (add_any _ _ _ _ _ rb rc).mono ?_
  rintro e w15 ⟨vbc, rfl, ho, hx⟩
  replace ra := ra.ext hx
  replace rb := rb.ext hx
  replace rc := rc.ext hx
  replace rab := rab.ext hx
  replace rba := rba.ext hx
  replace rbk := rbk.ext hx
  replace rjn := rjn.ext hx
  replace rmt := rmt.ext hx
  replace rsm := rsm.ext hx
  replace rabc := rabc.ext hx
  replace HX := HX.trans hx
  have rbc := ho.rd
  clear ho hx
  go_wp2_with fail
  refine (add_any _ _ _ _ _ ra rbc).mono ?_
  rintro e w16 ⟨vabd, rfl, ho, hx⟩
  replace ra := ra.ext hx
  replace rb := rb.ext hx
  replace rc := rc.ext hx
  replace rab := rab.ext hx
  replace rba := rba.ext hx
  replace rbk := rbk.ext hx
  replace rjn := rjn.ext hx
  replace rmt := rmt.ext hx
  replace rsm := rsm.ext hx
  replace rabc := rabc.ext hx
  replace rbc := rbc.ext hx
  replace HX := HX.trans hx
  have rabd := ho.rd
  clear ho hx
  by_cases h0 : (addB b c).2 = 0
  rotate_left
  · have h4 := H3.out h0
    obtain ⟨s, t, hBC⟩ : ∃ s t, addB b c = (s, t) := ⟨_, _, rfl⟩
    obtain ⟨s2, t2, hAC⟩ : ∃ s t, addB r c = (s, t) := ⟨_, _, rfl⟩
    rw [hBC] at h0; rw [hAC] at h4; simp only at h0 h4; rw [hBC, hAC]; simp only; subst h4
    have hne : (t != 0) = true := by simp [h0]
    have HN := Lib.hid h0
    clear hBC hAC h0 rabd rbc rabc H3 HS
    go_wp2_with fail
    refine (lives13_any _).mono ?_
    rintro e w17 ⟨rfl, hx⟩
    have HX2 := HX.trans hx
    clear hx
    go_wp2
    go_ret
    exact ⟨rfl, HX2⟩
  have hs := HS.out h0
  rw [← hs] at rabd ⊢
  clear hs
  generalize addB r c = AC at *
  obtain ⟨s, t, hBC⟩ : ∃ s t, addB b c = (s, t) := ⟨_, _, rfl⟩
  rw [hBC] at h0; simp only at h0; rw [hBC]; simp only; subst h0; clear hBC
  go_wp2_with fail
  refine (same3_any _ _ _ _ _ rabc rabd).mono ?_
  rintro e w17 ⟨rfl, hx⟩
  rw [decide_eq_true rfl]
  replace ra := ra.ext hx
  replace rb := rb.ext hx
  replace rc := rc.ext hx
  replace rab := rab.ext hx
  replace rba := rba.ext hx
  replace rbk := rbk.ext hx
  replace rjn := rjn.ext hx
  replace rmt := rmt.ext hx
  replace rsm := rsm.ext hx
  replace rabc := rabc.ext hx
  replace rbc := rbc.ext hx
  replace rabd := rabd.ext hx
  replace HX := HX.trans hx
  clear hx
  go_wp2_with fail
  refine (lives13_any _).mono ?_
  rintro e w18 ⟨rfl, hx⟩
  have HX2 := HX.trans hx
  clear hx
  go_wp2
  go_ret
  exact ⟨rfl, HX2⟩
end Go.Proofs.Ytbcjikiakanncaa
