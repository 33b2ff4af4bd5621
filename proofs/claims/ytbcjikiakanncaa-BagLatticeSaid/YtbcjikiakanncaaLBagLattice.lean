/- BagLattice: the walk of the law. -/
import Derived.Test.YtbcjikiakanncaaBl
import Derived.Test.YtbcjikiakanncaaBp2
namespace Go.Proofs.Ytbcjikiakanncaa
open Go.RowKit
set_option linter.unusedVariables false

set_option maxRecDepth 100000 in
set_option maxHeartbeats 8000000 in
theorem BagLattice_law (w : World) (n : Int) (hn : inI64 n) (v1 : Value) (z1 : List Int) (h1 : Rd w v1 (vis z1)) (hz1 : ∀ n ∈ z1, inI64 n) :
    Calls Try.prog 8 #[.int .i64 n, v1] w fun e w' => e = .returned (.bool true) ∧ Ext w w' := by
  have hr0 := Int.emod_nonneg n (show (8 : Int) ≠ 0 by omega)
  have hr1 := Int.emod_lt_of_pos n (show (0 : Int) < 8 by omega)
  go_enter Try.func8, Try.ntmps8
  go_wp2_with fail
  refine (around3_any n 8 _ hn (by omega) (by omega)).mono ?_
  rintro e w1 ⟨rfl, rfl⟩
  obtain ⟨k, hk⟩ : ∃ k : Nat, n % 8 = (k : Int) := ⟨(n % 8).toNat, by omega⟩
  rw [hk] at hr0 hr1 ⊢
  clear hk
  have hk8 : k ≤ 8 := by omega
  have rz := h1
  have HX := Ext.refl w
  clear h1
  go_wp2_with fail
  refine (bag_any k v1 z1 0 _ hk8 rz hz1 (by omega)).mono ?_
  rintro e w2 ⟨va, a, rfl, ho, hla, hba, hx⟩
  replace rz := rz.ext hx
  replace HX := HX.trans hx
  have ra := ho.rd
  clear ho hx
  go_wp2_with fail
  refine (bag_any k v1 z1 3 _ hk8 rz hz1 (by omega)).mono ?_
  rintro e w3 ⟨vb, b, rfl, ho, hlb, hbb, hx⟩
  replace rz := rz.ext hx
  replace ra := ra.ext hx
  replace HX := HX.trans hx
  have rb := ho.rd
  clear ho hx
  go_wp2_with fail
  refine (bag_any k v1 z1 6 _ hk8 rz hz1 (by omega)).mono ?_
  rintro e w4 ⟨vc, c, rfl, ho, hlc, hbc, hx⟩
  replace rz := rz.ext hx
  replace ra := ra.ext hx
  replace rb := rb.ext hx
  replace HX := HX.trans hx
  have rc := ho.rd
  clear ho hx
  have HF := Lib.hid (fitB_mk hba hbb (hla.trans hlb.symm))
  have HLC := Lib.hid (hla.trans hlc.symm)
  have HA := Lib.hid (hba)
  have HC := Lib.hid (hbc)
  clear hla hlb hlc hba hbb hbc rz hz1 hr0 hr1 hk8
  go_wp2_with fail
  refine (join_any _ _ _ _ _ ra rb).mono ?_
  rintro e w5 ⟨vu, rfl, ho, hx⟩
  replace ra := ra.ext hx
  replace rb := rb.ext hx
  replace rc := rc.ext hx
  replace HX := HX.trans hx
  have ru := ho.rd
  clear ho hx
  go_wp2_with fail
  refine (meet_any _ _ _ _ _ ra rb).mono ?_
  rintro e w6 ⟨vd, rfl, ho, hx⟩
  replace ra := ra.ext hx
  replace rb := rb.ext hx
  replace rc := rc.ext hx
  replace ru := ru.ext hx
  replace HX := HX.trans hx
  have rd := ho.rd
  clear ho hx
  have F1 := Lib.hid (join_covers HF.out)
  have F2 := Lib.hid (meet_covers HF.out)
  have F3 := Lib.hid ((join_covers (joinB_fit HF.out HC.out HLC.out)).1)
  have F4 := Lib.hid ((meet_covers (meetB_fit HF.out HC.out HLC.out)).1)
  have F5 := Lib.hid (fun h1 h2 => join_least HF.out HC.out HLC.out h1 h2)
  have F6 := Lib.hid (fun h1 h2 => meet_most HF.out HC.out HLC.out h1 h2)
  have F7 := Lib.hid (join_self HA.out)
  have F8 := Lib.hid (meet_join HF.out)
  have F9 := Lib.hid (join_meet_self HF.out)
  go_wp2_with fail
  refine (covers_any _ _ _ _ _ ru ra).mono ?_
  rintro e w7 ⟨rfl, hx⟩
  rw [F1.out.1]
  replace ra := ra.ext hx
  replace rb := rb.ext hx
  replace rc := rc.ext hx
  replace ru := ru.ext hx
  replace rd := rd.ext hx
  replace HX := HX.trans hx
  clear hx
  go_wp2_with fail
  refine (covers_any _ _ _ _ _ ru rb).mono ?_
  rintro e w8 ⟨rfl, hx⟩
  rw [F1.out.2]
  replace ra := ra.ext hx
  replace rb := rb.ext hx
  replace rc := rc.ext hx
  replace ru := ru.ext hx
  replace rd := rd.ext hx
  replace HX := HX.trans hx
  clear hx
  go_wp2_with fail
  refine (covers_any _ _ _ _ _ ra rd).mono ?_
  rintro e w9 ⟨rfl, hx⟩
  rw [F2.out.1]
  replace ra := ra.ext hx
  replace rb := rb.ext hx
  replace rc := rc.ext hx
  replace ru := ru.ext hx
  replace rd := rd.ext hx
  replace HX := HX.trans hx
  clear hx
  go_wp2_with fail
  refine (covers_any _ _ _ _ _ rb rd).mono ?_
  rintro e w10 ⟨rfl, hx⟩
  rw [F2.out.2]
  replace ra := ra.ext hx
  replace rb := rb.ext hx
  replace rc := rc.ext hx
  replace ru := ru.ext hx
  replace rd := rd.ext hx
  replace HX := HX.trans hx
  clear hx
  go_wp2_with fail
  refine (join_any _ _ _ _ _ ru rc).mono ?_
  rintro e w11 ⟨vh, rfl, ho, hx⟩
  replace ra := ra.ext hx
  replace rb := rb.ext hx
  replace rc := rc.ext hx
  replace ru := ru.ext hx
  replace rd := rd.ext hx
  replace HX := HX.trans hx
  have rh := ho.rd
  clear ho hx
  go_wp2_with fail
  refine (meet_any _ _ _ _ _ rd rc).mono ?_
  rintro e w12 ⟨vl, rfl, ho, hx⟩
  replace ra := ra.ext hx
  replace rb := rb.ext hx
  replace rc := rc.ext hx
  replace ru := ru.ext hx
  replace rd := rd.ext hx
  replace rh := rh.ext hx
  replace HX := HX.trans hx
  have rl := ho.rd
  clear ho hx
  go_wp2_with fail
  refine (covers_any _ _ _ _ _ rh ru).mono ?_
  rintro e w13 ⟨rfl, hx⟩
  rw [F3.out]
  replace ra := ra.ext hx
  replace rb := rb.ext hx
  replace rc := rc.ext hx
  replace ru := ru.ext hx
  replace rd := rd.ext hx
  replace rh := rh.ext hx
  replace rl := rl.ext hx
  replace HX := HX.trans hx
  clear hx
  go_wp2_with fail
  refine (covers_any _ _ _ _ _ rd rl).mono ?_
  rintro e w14 ⟨rfl, hx⟩
  rw [F4.out]
  replace ra := ra.ext hx
  replace rb := rb.ext hx
  replace rc := rc.ext hx
  replace ru := ru.ext hx
  replace rd := rd.ext hx
  replace rh := rh.ext hx
  replace rl := rl.ext hx
  replace HX := HX.trans hx
  clear hx
  go_wp2_with fail
  refine (covers_any _ _ _ _ _ rc ra).mono ?_
  rintro e w15 ⟨rfl, hx⟩
  replace ra := ra.ext hx
  replace rb := rb.ext hx
  replace rc := rc.ext hx
  replace ru := ru.ext hx
  replace rd := rd.ext hx
  replace rh := rh.ext hx
  replace rl := rl.ext hx
  replace HX := HX.trans hx
  clear hx
  rcases hca : coversB c a with _ | _
  · clear hca
    go_wp2_with fail
    refine (covers_any _ _ _ _ _ ra rc).mono ?_
    rintro e w16 ⟨rfl, hx⟩
    replace ra := ra.ext hx
    replace rb := rb.ext hx
    replace rc := rc.ext hx
    replace ru := ru.ext hx
    replace rd := rd.ext hx
    replace rh := rh.ext hx
    replace rl := rl.ext hx
    replace HX := HX.trans hx
    clear hx
    rcases hac : coversB a c with _ | _
    · clear hac
      go_wp2_with fail
      refine (join_any _ _ _ _ _ ra ra).mono ?_
      rintro e w17 ⟨vs1, rfl, ho, hx⟩
      rw [F7.out] at ho
      replace ra := ra.ext hx
      replace rb := rb.ext hx
      replace rc := rc.ext hx
      replace ru := ru.ext hx
      replace rd := rd.ext hx
      replace rh := rh.ext hx
      replace rl := rl.ext hx
      replace HX := HX.trans hx
      have rs1 := ho.rd
      clear ho hx
      go_wp2_with fail
      refine (same3_any _ _ _ _ _ rs1 ra).mono ?_
      rintro e w18 ⟨rfl, hx⟩
      rw [decide_eq_true rfl]
      replace ra := ra.ext hx
      replace rb := rb.ext hx
      replace rc := rc.ext hx
      replace ru := ru.ext hx
      replace rd := rd.ext hx
      replace rh := rh.ext hx
      replace rl := rl.ext hx
      replace rs1 := rs1.ext hx
      replace HX := HX.trans hx
      clear hx
      go_wp2_with fail
      refine (meet_any _ _ _ _ _ ra ru).mono ?_
      rintro e w19 ⟨vs2, rfl, ho, hx⟩
      rw [F8.out] at ho
      replace ra := ra.ext hx
      replace rb := rb.ext hx
      replace rc := rc.ext hx
      replace ru := ru.ext hx
      replace rd := rd.ext hx
      replace rh := rh.ext hx
      replace rl := rl.ext hx
      replace rs1 := rs1.ext hx
      replace HX := HX.trans hx
      have rs2 := ho.rd
      clear ho hx
      go_wp2_with fail
      refine (same3_any _ _ _ _ _ rs2 ra).mono ?_
      rintro e w20 ⟨rfl, hx⟩
      rw [decide_eq_true rfl]
      replace ra := ra.ext hx
      replace rb := rb.ext hx
      replace rc := rc.ext hx
      replace ru := ru.ext hx
      replace rd := rd.ext hx
      replace rh := rh.ext hx
      replace rl := rl.ext hx
      replace rs1 := rs1.ext hx
      replace rs2 := rs2.ext hx
      replace HX := HX.trans hx
      clear hx
      go_wp2_with fail
      refine (join_any _ _ _ _ _ ra rd).mono ?_
      rintro e w21 ⟨vs3, rfl, ho, hx⟩
      rw [F9.out] at ho
      replace ra := ra.ext hx
      replace rb := rb.ext hx
      replace rc := rc.ext hx
      replace ru := ru.ext hx
      replace rd := rd.ext hx
      replace rh := rh.ext hx
      replace rl := rl.ext hx
      replace rs1 := rs1.ext hx
      replace rs2 := rs2.ext hx
      replace HX := HX.trans hx
      have rs3 := ho.rd
      clear ho hx
      go_wp2_with fail
      refine (same3_any _ _ _ _ _ rs3 ra).mono ?_
      rintro e w22 ⟨rfl, hx⟩
      rw [decide_eq_true rfl]
      replace ra := ra.ext hx
      replace rb := rb.ext hx
      replace rc := rc.ext hx
      replace ru := ru.ext hx
      replace rd := rd.ext hx
      replace rh := rh.ext hx
      replace rl := rl.ext hx
      replace rs1 := rs1.ext hx
      replace rs2 := rs2.ext hx
      replace rs3 := rs3.ext hx
      replace HX := HX.trans hx
      clear hx
      go_wp2_with fail
      refine (lives13_any _).mono ?_
      rintro e w23 ⟨rfl, hx⟩
      have HX2 := HX.trans hx
      clear hx
      go_wp2
      go_ret
      exact ⟨rfl, HX2⟩
    · have HAC := Lib.hid hac
      clear hac
      go_wp2_with fail
      refine (covers_any _ _ _ _ _ rb rc).mono ?_
      rintro e w17 ⟨rfl, hx⟩
      replace ra := ra.ext hx
      replace rb := rb.ext hx
      replace rc := rc.ext hx
      replace ru := ru.ext hx
      replace rd := rd.ext hx
      replace rh := rh.ext hx
      replace rl := rl.ext hx
      replace HX := HX.trans hx
      clear hx
      rcases hbc : coversB b c with _ | _
      · clear hbc
        go_wp2_with fail
        refine (join_any _ _ _ _ _ ra ra).mono ?_
        rintro e w18 ⟨vs1, rfl, ho, hx⟩
        rw [F7.out] at ho
        replace ra := ra.ext hx
        replace rb := rb.ext hx
        replace rc := rc.ext hx
        replace ru := ru.ext hx
        replace rd := rd.ext hx
        replace rh := rh.ext hx
        replace rl := rl.ext hx
        replace HX := HX.trans hx
        have rs1 := ho.rd
        clear ho hx
        go_wp2_with fail
        refine (same3_any _ _ _ _ _ rs1 ra).mono ?_
        rintro e w19 ⟨rfl, hx⟩
        rw [decide_eq_true rfl]
        replace ra := ra.ext hx
        replace rb := rb.ext hx
        replace rc := rc.ext hx
        replace ru := ru.ext hx
        replace rd := rd.ext hx
        replace rh := rh.ext hx
        replace rl := rl.ext hx
        replace rs1 := rs1.ext hx
        replace HX := HX.trans hx
        clear hx
        go_wp2_with fail
        refine (meet_any _ _ _ _ _ ra ru).mono ?_
        rintro e w20 ⟨vs2, rfl, ho, hx⟩
        rw [F8.out] at ho
        replace ra := ra.ext hx
        replace rb := rb.ext hx
        replace rc := rc.ext hx
        replace ru := ru.ext hx
        replace rd := rd.ext hx
        replace rh := rh.ext hx
        replace rl := rl.ext hx
        replace rs1 := rs1.ext hx
        replace HX := HX.trans hx
        have rs2 := ho.rd
        clear ho hx
        go_wp2_with fail
        refine (same3_any _ _ _ _ _ rs2 ra).mono ?_
        rintro e w21 ⟨rfl, hx⟩
        rw [decide_eq_true rfl]
        replace ra := ra.ext hx
        replace rb := rb.ext hx
        replace rc := rc.ext hx
        replace ru := ru.ext hx
        replace rd := rd.ext hx
        replace rh := rh.ext hx
        replace rl := rl.ext hx
        replace rs1 := rs1.ext hx
        replace rs2 := rs2.ext hx
        replace HX := HX.trans hx
        clear hx
        go_wp2_with fail
        refine (join_any _ _ _ _ _ ra rd).mono ?_
        rintro e w22 ⟨vs3, rfl, ho, hx⟩
        rw [F9.out] at ho
        replace ra := ra.ext hx
        replace rb := rb.ext hx
        replace rc := rc.ext hx
        replace ru := ru.ext hx
        replace rd := rd.ext hx
        replace rh := rh.ext hx
        replace rl := rl.ext hx
        replace rs1 := rs1.ext hx
        replace rs2 := rs2.ext hx
        replace HX := HX.trans hx
        have rs3 := ho.rd
        clear ho hx
        go_wp2_with fail
        refine (same3_any _ _ _ _ _ rs3 ra).mono ?_
        rintro e w23 ⟨rfl, hx⟩
        rw [decide_eq_true rfl]
        replace ra := ra.ext hx
        replace rb := rb.ext hx
        replace rc := rc.ext hx
        replace ru := ru.ext hx
        replace rd := rd.ext hx
        replace rh := rh.ext hx
        replace rl := rl.ext hx
        replace rs1 := rs1.ext hx
        replace rs2 := rs2.ext hx
        replace rs3 := rs3.ext hx
        replace HX := HX.trans hx
        clear hx
        go_wp2_with fail
        refine (lives13_any _).mono ?_
        rintro e w24 ⟨rfl, hx⟩
        have HX2 := HX.trans hx
        clear hx
        go_wp2
        go_ret
        exact ⟨rfl, HX2⟩
      · have HBC := Lib.hid hbc
        clear hbc
        go_wp2_with fail
        refine (covers_any _ _ _ _ _ rd rc).mono ?_
        rintro e w18 ⟨rfl, hx⟩
        rw [F6.out HAC.out HBC.out]
        replace ra := ra.ext hx
        replace rb := rb.ext hx
        replace rc := rc.ext hx
        replace ru := ru.ext hx
        replace rd := rd.ext hx
        replace rh := rh.ext hx
        replace rl := rl.ext hx
        replace HX := HX.trans hx
        clear hx
        go_wp2_with fail
        refine (join_any _ _ _ _ _ ra ra).mono ?_
        rintro e w19 ⟨vs1, rfl, ho, hx⟩
        rw [F7.out] at ho
        replace ra := ra.ext hx
        replace rb := rb.ext hx
        replace rc := rc.ext hx
        replace ru := ru.ext hx
        replace rd := rd.ext hx
        replace rh := rh.ext hx
        replace rl := rl.ext hx
        replace HX := HX.trans hx
        have rs1 := ho.rd
        clear ho hx
        go_wp2_with fail
        refine (same3_any _ _ _ _ _ rs1 ra).mono ?_
        rintro e w20 ⟨rfl, hx⟩
        rw [decide_eq_true rfl]
        replace ra := ra.ext hx
        replace rb := rb.ext hx
        replace rc := rc.ext hx
        replace ru := ru.ext hx
        replace rd := rd.ext hx
        replace rh := rh.ext hx
        replace rl := rl.ext hx
        replace rs1 := rs1.ext hx
        replace HX := HX.trans hx
        clear hx
        go_wp2_with fail
        refine (meet_any _ _ _ _ _ ra ru).mono ?_
        rintro e w21 ⟨vs2, rfl, ho, hx⟩
        rw [F8.out] at ho
        replace ra := ra.ext hx
        replace rb := rb.ext hx
        replace rc := rc.ext hx
        replace ru := ru.ext hx
        replace rd := rd.ext hx
        replace rh := rh.ext hx
        replace rl := rl.ext hx
        replace rs1 := rs1.ext hx
        replace HX := HX.trans hx
        have rs2 := ho.rd
        clear ho hx
        go_wp2_with fail
        refine (same3_any _ _ _ _ _ rs2 ra).mono ?_
        rintro e w22 ⟨rfl, hx⟩
        rw [decide_eq_true rfl]
        replace ra := ra.ext hx
        replace rb := rb.ext hx
        replace rc := rc.ext hx
        replace ru := ru.ext hx
        replace rd := rd.ext hx
        replace rh := rh.ext hx
        replace rl := rl.ext hx
        replace rs1 := rs1.ext hx
        replace rs2 := rs2.ext hx
        replace HX := HX.trans hx
        clear hx
        go_wp2_with fail
        refine (join_any _ _ _ _ _ ra rd).mono ?_
        rintro e w23 ⟨vs3, rfl, ho, hx⟩
        rw [F9.out] at ho
        replace ra := ra.ext hx
        replace rb := rb.ext hx
        replace rc := rc.ext hx
        replace ru := ru.ext hx
        replace rd := rd.ext hx
        replace rh := rh.ext hx
        replace rl := rl.ext hx
        replace rs1 := rs1.ext hx
        replace rs2 := rs2.ext hx
        replace HX := HX.trans hx
        have rs3 := ho.rd
        clear ho hx
        go_wp2_with fail
        refine (same3_any _ _ _ _ _ rs3 ra).mono ?_
        rintro e w24 ⟨rfl, hx⟩
        rw [decide_eq_true rfl]
        replace ra := ra.ext hx
        replace rb := rb.ext hx
        replace rc := rc.ext hx
        replace ru := ru.ext hx
        replace rd := rd.ext hx
        replace rh := rh.ext hx
        replace rl := rl.ext hx
        replace rs1 := rs1.ext hx
        replace rs2 := rs2.ext hx
        replace rs3 := rs3.ext hx
        replace HX := HX.trans hx
        clear hx
        go_wp2_with fail
        refine (lives13_any _).mono ?_
        rintro e w25 ⟨rfl, hx⟩
        have HX2 := HX.trans hx
        clear hx
        go_wp2
        go_ret
        exact ⟨rfl, HX2⟩
  · have HCA := Lib.hid hca
    clear hca
    go_wp2_with fail
    refine (covers_any _ _ _ _ _ rc rb).mono ?_
    rintro e w16 ⟨rfl, hx⟩
    replace ra := ra.ext hx
    replace rb := rb.ext hx
    replace rc := rc.ext hx
    replace ru := ru.ext hx
    replace rd := rd.ext hx
    replace rh := rh.ext hx
    replace rl := rl.ext hx
    replace HX := HX.trans hx
    clear hx
    rcases hcb : coversB c b with _ | _
    · clear hcb
      go_wp2_with fail
      refine (covers_any _ _ _ _ _ ra rc).mono ?_
      rintro e w17 ⟨rfl, hx⟩
      replace ra := ra.ext hx
      replace rb := rb.ext hx
      replace rc := rc.ext hx
      replace ru := ru.ext hx
      replace rd := rd.ext hx
      replace rh := rh.ext hx
      replace rl := rl.ext hx
      replace HX := HX.trans hx
      clear hx
      rcases hac : coversB a c with _ | _
      · clear hac
        go_wp2_with fail
        refine (join_any _ _ _ _ _ ra ra).mono ?_
        rintro e w18 ⟨vs1, rfl, ho, hx⟩
        rw [F7.out] at ho
        replace ra := ra.ext hx
        replace rb := rb.ext hx
        replace rc := rc.ext hx
        replace ru := ru.ext hx
        replace rd := rd.ext hx
        replace rh := rh.ext hx
        replace rl := rl.ext hx
        replace HX := HX.trans hx
        have rs1 := ho.rd
        clear ho hx
        go_wp2_with fail
        refine (same3_any _ _ _ _ _ rs1 ra).mono ?_
        rintro e w19 ⟨rfl, hx⟩
        rw [decide_eq_true rfl]
        replace ra := ra.ext hx
        replace rb := rb.ext hx
        replace rc := rc.ext hx
        replace ru := ru.ext hx
        replace rd := rd.ext hx
        replace rh := rh.ext hx
        replace rl := rl.ext hx
        replace rs1 := rs1.ext hx
        replace HX := HX.trans hx
        clear hx
        go_wp2_with fail
        refine (meet_any _ _ _ _ _ ra ru).mono ?_
        rintro e w20 ⟨vs2, rfl, ho, hx⟩
        rw [F8.out] at ho
        replace ra := ra.ext hx
        replace rb := rb.ext hx
        replace rc := rc.ext hx
        replace ru := ru.ext hx
        replace rd := rd.ext hx
        replace rh := rh.ext hx
        replace rl := rl.ext hx
        replace rs1 := rs1.ext hx
        replace HX := HX.trans hx
        have rs2 := ho.rd
        clear ho hx
        go_wp2_with fail
        refine (same3_any _ _ _ _ _ rs2 ra).mono ?_
        rintro e w21 ⟨rfl, hx⟩
        rw [decide_eq_true rfl]
        replace ra := ra.ext hx
        replace rb := rb.ext hx
        replace rc := rc.ext hx
        replace ru := ru.ext hx
        replace rd := rd.ext hx
        replace rh := rh.ext hx
        replace rl := rl.ext hx
        replace rs1 := rs1.ext hx
        replace rs2 := rs2.ext hx
        replace HX := HX.trans hx
        clear hx
        go_wp2_with fail
        refine (join_any _ _ _ _ _ ra rd).mono ?_
        rintro e w22 ⟨vs3, rfl, ho, hx⟩
        rw [F9.out] at ho
        replace ra := ra.ext hx
        replace rb := rb.ext hx
        replace rc := rc.ext hx
        replace ru := ru.ext hx
        replace rd := rd.ext hx
        replace rh := rh.ext hx
        replace rl := rl.ext hx
        replace rs1 := rs1.ext hx
        replace rs2 := rs2.ext hx
        replace HX := HX.trans hx
        have rs3 := ho.rd
        clear ho hx
        go_wp2_with fail
        refine (same3_any _ _ _ _ _ rs3 ra).mono ?_
        rintro e w23 ⟨rfl, hx⟩
        rw [decide_eq_true rfl]
        replace ra := ra.ext hx
        replace rb := rb.ext hx
        replace rc := rc.ext hx
        replace ru := ru.ext hx
        replace rd := rd.ext hx
        replace rh := rh.ext hx
        replace rl := rl.ext hx
        replace rs1 := rs1.ext hx
        replace rs2 := rs2.ext hx
        replace rs3 := rs3.ext hx
        replace HX := HX.trans hx
        clear hx
        go_wp2_with fail
        refine (lives13_any _).mono ?_
        rintro e w24 ⟨rfl, hx⟩
        have HX2 := HX.trans hx
        clear hx
        go_wp2
        go_ret
        exact ⟨rfl, HX2⟩
      · have HAC := Lib.hid hac
        clear hac
        go_wp2_with fail
        refine (covers_any _ _ _ _ _ rb rc).mono ?_
        rintro e w18 ⟨rfl, hx⟩
        replace ra := ra.ext hx
        replace rb := rb.ext hx
        replace rc := rc.ext hx
        replace ru := ru.ext hx
        replace rd := rd.ext hx
        replace rh := rh.ext hx
        replace rl := rl.ext hx
        replace HX := HX.trans hx
        clear hx
        rcases hbc : coversB b c with _ | _
        · clear hbc
          go_wp2_with fail
          refine (join_any _ _ _ _ _ ra ra).mono ?_
          rintro e w19 ⟨vs1, rfl, ho, hx⟩
          rw [F7.out] at ho
          replace ra := ra.ext hx
          replace rb := rb.ext hx
          replace rc := rc.ext hx
          replace ru := ru.ext hx
          replace rd := rd.ext hx
          replace rh := rh.ext hx
          replace rl := rl.ext hx
          replace HX := HX.trans hx
          have rs1 := ho.rd
          clear ho hx
          go_wp2_with fail
          refine (same3_any _ _ _ _ _ rs1 ra).mono ?_
          rintro e w20 ⟨rfl, hx⟩
          rw [decide_eq_true rfl]
          replace ra := ra.ext hx
          replace rb := rb.ext hx
          replace rc := rc.ext hx
          replace ru := ru.ext hx
          replace rd := rd.ext hx
          replace rh := rh.ext hx
          replace rl := rl.ext hx
          replace rs1 := rs1.ext hx
          replace HX := HX.trans hx
          clear hx
          go_wp2_with fail
          refine (meet_any _ _ _ _ _ ra ru).mono ?_
          rintro e w21 ⟨vs2, rfl, ho, hx⟩
          rw [F8.out] at ho
          replace ra := ra.ext hx
          replace rb := rb.ext hx
          replace rc := rc.ext hx
          replace ru := ru.ext hx
          replace rd := rd.ext hx
          replace rh := rh.ext hx
          replace rl := rl.ext hx
          replace rs1 := rs1.ext hx
          replace HX := HX.trans hx
          have rs2 := ho.rd
          clear ho hx
          go_wp2_with fail
          refine (same3_any _ _ _ _ _ rs2 ra).mono ?_
          rintro e w22 ⟨rfl, hx⟩
          rw [decide_eq_true rfl]
          replace ra := ra.ext hx
          replace rb := rb.ext hx
          replace rc := rc.ext hx
          replace ru := ru.ext hx
          replace rd := rd.ext hx
          replace rh := rh.ext hx
          replace rl := rl.ext hx
          replace rs1 := rs1.ext hx
          replace rs2 := rs2.ext hx
          replace HX := HX.trans hx
          clear hx
          go_wp2_with fail
          refine (join_any _ _ _ _ _ ra rd).mono ?_
          rintro e w23 ⟨vs3, rfl, ho, hx⟩
          rw [F9.out] at ho
          replace ra := ra.ext hx
          replace rb := rb.ext hx
          replace rc := rc.ext hx
          replace ru := ru.ext hx
          replace rd := rd.ext hx
          replace rh := rh.ext hx
          replace rl := rl.ext hx
          replace rs1 := rs1.ext hx
          replace rs2 := rs2.ext hx
          replace HX := HX.trans hx
          have rs3 := ho.rd
          clear ho hx
          go_wp2_with fail
          refine (same3_any _ _ _ _ _ rs3 ra).mono ?_
          rintro e w24 ⟨rfl, hx⟩
          rw [decide_eq_true rfl]
          replace ra := ra.ext hx
          replace rb := rb.ext hx
          replace rc := rc.ext hx
          replace ru := ru.ext hx
          replace rd := rd.ext hx
          replace rh := rh.ext hx
          replace rl := rl.ext hx
          replace rs1 := rs1.ext hx
          replace rs2 := rs2.ext hx
          replace rs3 := rs3.ext hx
          replace HX := HX.trans hx
          clear hx
          go_wp2_with fail
          refine (lives13_any _).mono ?_
          rintro e w25 ⟨rfl, hx⟩
          have HX2 := HX.trans hx
          clear hx
          go_wp2
          go_ret
          exact ⟨rfl, HX2⟩
        · have HBC := Lib.hid hbc
          clear hbc
          go_wp2_with fail
          refine (covers_any _ _ _ _ _ rd rc).mono ?_
          rintro e w19 ⟨rfl, hx⟩
          rw [F6.out HAC.out HBC.out]
          replace ra := ra.ext hx
          replace rb := rb.ext hx
          replace rc := rc.ext hx
          replace ru := ru.ext hx
          replace rd := rd.ext hx
          replace rh := rh.ext hx
          replace rl := rl.ext hx
          replace HX := HX.trans hx
          clear hx
          go_wp2_with fail
          refine (join_any _ _ _ _ _ ra ra).mono ?_
          rintro e w20 ⟨vs1, rfl, ho, hx⟩
          rw [F7.out] at ho
          replace ra := ra.ext hx
          replace rb := rb.ext hx
          replace rc := rc.ext hx
          replace ru := ru.ext hx
          replace rd := rd.ext hx
          replace rh := rh.ext hx
          replace rl := rl.ext hx
          replace HX := HX.trans hx
          have rs1 := ho.rd
          clear ho hx
          go_wp2_with fail
          refine (same3_any _ _ _ _ _ rs1 ra).mono ?_
          rintro e w21 ⟨rfl, hx⟩
          rw [decide_eq_true rfl]
          replace ra := ra.ext hx
          replace rb := rb.ext hx
          replace rc := rc.ext hx
          replace ru := ru.ext hx
          replace rd := rd.ext hx
          replace rh := rh.ext hx
          replace rl := rl.ext hx
          replace rs1 := rs1.ext hx
          replace HX := HX.trans hx
          clear hx
          go_wp2_with fail
          refine (meet_any _ _ _ _ _ ra ru).mono ?_
          rintro e w22 ⟨vs2, rfl, ho, hx⟩
          rw [F8.out] at ho
          replace ra := ra.ext hx
          replace rb := rb.ext hx
          replace rc := rc.ext hx
          replace ru := ru.ext hx
          replace rd := rd.ext hx
          replace rh := rh.ext hx
          replace rl := rl.ext hx
          replace rs1 := rs1.ext hx
          replace HX := HX.trans hx
          have rs2 := ho.rd
          clear ho hx
          go_wp2_with fail
          refine (same3_any _ _ _ _ _ rs2 ra).mono ?_
          rintro e w23 ⟨rfl, hx⟩
          rw [decide_eq_true rfl]
          replace ra := ra.ext hx
          replace rb := rb.ext hx
          replace rc := rc.ext hx
          replace ru := ru.ext hx
          replace rd := rd.ext hx
          replace rh := rh.ext hx
          replace rl := rl.ext hx
          replace rs1 := rs1.ext hx
          replace rs2 := rs2.ext hx
          replace HX := HX.trans hx
          clear hx
          go_wp2_with fail
          refine (join_any _ _ _ _ _ ra rd).mono ?_
          rintro e w24 ⟨vs3, rfl, ho, hx⟩
          rw [F9.out] at ho
          replace ra := ra.ext hx
          replace rb := rb.ext hx
          replace rc := rc.ext hx
          replace ru := ru.ext hx
          replace rd := rd.ext hx
          replace rh := rh.ext hx
          replace rl := rl.ext hx
          replace rs1 := rs1.ext hx
          replace rs2 := rs2.ext hx
          replace HX := HX.trans hx
          have rs3 := ho.rd
          clear ho hx
          go_wp2_with fail
          refine (same3_any _ _ _ _ _ rs3 ra).mono ?_
          rintro e w25 ⟨rfl, hx⟩
          rw [decide_eq_true rfl]
          replace ra := ra.ext hx
          replace rb := rb.ext hx
          replace rc := rc.ext hx
          replace ru := ru.ext hx
          replace rd := rd.ext hx
          replace rh := rh.ext hx
          replace rl := rl.ext hx
          replace rs1 := rs1.ext hx
          replace rs2 := rs2.ext hx
          replace rs3 := rs3.ext hx
          replace HX := HX.trans hx
          clear hx
          go_wp2_with fail
          refine (lives13_any _).mono ?_
          rintro e w26 ⟨rfl, hx⟩
          have HX2 := HX.trans hx
          clear hx
          go_wp2
          go_ret
          exact ⟨rfl, HX2⟩
    · have HCB := Lib.hid hcb
      clear hcb
      go_wp2_with fail
      refine (covers_any _ _ _ _ _ rc ru).mono ?_
      rintro e w17 ⟨rfl, hx⟩
      rw [F5.out HCA.out HCB.out]
      replace ra := ra.ext hx
      replace rb := rb.ext hx
      replace rc := rc.ext hx
      replace ru := ru.ext hx
      replace rd := rd.ext hx
      replace rh := rh.ext hx
      replace rl := rl.ext hx
      replace HX := HX.trans hx
      clear hx
      go_wp2_with fail
      refine (covers_any _ _ _ _ _ ra rc).mono ?_
      rintro e w18 ⟨rfl, hx⟩
      replace ra := ra.ext hx
      replace rb := rb.ext hx
      replace rc := rc.ext hx
      replace ru := ru.ext hx
      replace rd := rd.ext hx
      replace rh := rh.ext hx
      replace rl := rl.ext hx
      replace HX := HX.trans hx
      clear hx
      rcases hac : coversB a c with _ | _
      · clear hac
        go_wp2_with fail
        refine (join_any _ _ _ _ _ ra ra).mono ?_
        rintro e w19 ⟨vs1, rfl, ho, hx⟩
        rw [F7.out] at ho
        replace ra := ra.ext hx
        replace rb := rb.ext hx
        replace rc := rc.ext hx
        replace ru := ru.ext hx
        replace rd := rd.ext hx
        replace rh := rh.ext hx
        replace rl := rl.ext hx
        replace HX := HX.trans hx
        have rs1 := ho.rd
        clear ho hx
        go_wp2_with fail
        refine (same3_any _ _ _ _ _ rs1 ra).mono ?_
        rintro e w20 ⟨rfl, hx⟩
        rw [decide_eq_true rfl]
        replace ra := ra.ext hx
        replace rb := rb.ext hx
        replace rc := rc.ext hx
        replace ru := ru.ext hx
        replace rd := rd.ext hx
        replace rh := rh.ext hx
        replace rl := rl.ext hx
        replace rs1 := rs1.ext hx
        replace HX := HX.trans hx
        clear hx
        go_wp2_with fail
        refine (meet_any _ _ _ _ _ ra ru).mono ?_
        rintro e w21 ⟨vs2, rfl, ho, hx⟩
        rw [F8.out] at ho
        replace ra := ra.ext hx
        replace rb := rb.ext hx
        replace rc := rc.ext hx
        replace ru := ru.ext hx
        replace rd := rd.ext hx
        replace rh := rh.ext hx
        replace rl := rl.ext hx
        replace rs1 := rs1.ext hx
        replace HX := HX.trans hx
        have rs2 := ho.rd
        clear ho hx
        go_wp2_with fail
        refine (same3_any _ _ _ _ _ rs2 ra).mono ?_
        rintro e w22 ⟨rfl, hx⟩
        rw [decide_eq_true rfl]
        replace ra := ra.ext hx
        replace rb := rb.ext hx
        replace rc := rc.ext hx
        replace ru := ru.ext hx
        replace rd := rd.ext hx
        replace rh := rh.ext hx
        replace rl := rl.ext hx
        replace rs1 := rs1.ext hx
        replace rs2 := rs2.ext hx
        replace HX := HX.trans hx
        clear hx
        go_wp2_with fail
        refine (join_any _ _ _ _ _ ra rd).mono ?_
        rintro e w23 ⟨vs3, rfl, ho, hx⟩
        rw [F9.out] at ho
        replace ra := ra.ext hx
        replace rb := rb.ext hx
        replace rc := rc.ext hx
        replace ru := ru.ext hx
        replace rd := rd.ext hx
        replace rh := rh.ext hx
        replace rl := rl.ext hx
        replace rs1 := rs1.ext hx
        replace rs2 := rs2.ext hx
        replace HX := HX.trans hx
        have rs3 := ho.rd
        clear ho hx
        go_wp2_with fail
        refine (same3_any _ _ _ _ _ rs3 ra).mono ?_
        rintro e w24 ⟨rfl, hx⟩
        rw [decide_eq_true rfl]
        replace ra := ra.ext hx
        replace rb := rb.ext hx
        replace rc := rc.ext hx
        replace ru := ru.ext hx
        replace rd := rd.ext hx
        replace rh := rh.ext hx
        replace rl := rl.ext hx
        replace rs1 := rs1.ext hx
        replace rs2 := rs2.ext hx
        replace rs3 := rs3.ext hx
        replace HX := HX.trans hx
        clear hx
        go_wp2_with fail
        refine (lives13_any _).mono ?_
        rintro e w25 ⟨rfl, hx⟩
        have HX2 := HX.trans hx
        clear hx
        go_wp2
        go_ret
        exact ⟨rfl, HX2⟩
      · have HAC := Lib.hid hac
        clear hac
        go_wp2_with fail
        refine (covers_any _ _ _ _ _ rb rc).mono ?_
        rintro e w19 ⟨rfl, hx⟩
        replace ra := ra.ext hx
        replace rb := rb.ext hx
        replace rc := rc.ext hx
        replace ru := ru.ext hx
        replace rd := rd.ext hx
        replace rh := rh.ext hx
        replace rl := rl.ext hx
        replace HX := HX.trans hx
        clear hx
        rcases hbc : coversB b c with _ | _
        · clear hbc
          go_wp2_with fail
          refine (join_any _ _ _ _ _ ra ra).mono ?_
          rintro e w20 ⟨vs1, rfl, ho, hx⟩
          rw [F7.out] at ho
          replace ra := ra.ext hx
          replace rb := rb.ext hx
          replace rc := rc.ext hx
          replace ru := ru.ext hx
          replace rd := rd.ext hx
          replace rh := rh.ext hx
          replace rl := rl.ext hx
          replace HX := HX.trans hx
          have rs1 := ho.rd
          clear ho hx
          go_wp2_with fail
          refine (same3_any _ _ _ _ _ rs1 ra).mono ?_
          rintro e w21 ⟨rfl, hx⟩
          rw [decide_eq_true rfl]
          replace ra := ra.ext hx
          replace rb := rb.ext hx
          replace rc := rc.ext hx
          replace ru := ru.ext hx
          replace rd := rd.ext hx
          replace rh := rh.ext hx
          replace rl := rl.ext hx
          replace rs1 := rs1.ext hx
          replace HX := HX.trans hx
          clear hx
          go_wp2_with fail
          refine (meet_any _ _ _ _ _ ra ru).mono ?_
          rintro e w22 ⟨vs2, rfl, ho, hx⟩
          rw [F8.out] at ho
          replace ra := ra.ext hx
          replace rb := rb.ext hx
          replace rc := rc.ext hx
          replace ru := ru.ext hx
          replace rd := rd.ext hx
          replace rh := rh.ext hx
          replace rl := rl.ext hx
          replace rs1 := rs1.ext hx
          replace HX := HX.trans hx
          have rs2 := ho.rd
          clear ho hx
          go_wp2_with fail
          refine (same3_any _ _ _ _ _ rs2 ra).mono ?_
          rintro e w23 ⟨rfl, hx⟩
          rw [decide_eq_true rfl]
          replace ra := ra.ext hx
          replace rb := rb.ext hx
          replace rc := rc.ext hx
          replace ru := ru.ext hx
          replace rd := rd.ext hx
          replace rh := rh.ext hx
          replace rl := rl.ext hx
          replace rs1 := rs1.ext hx
          replace rs2 := rs2.ext hx
          replace HX := HX.trans hx
          clear hx
          go_wp2_with fail
          refine (join_any _ _ _ _ _ ra rd).mono ?_
          rintro e w24 ⟨vs3, rfl, ho, hx⟩
          rw [F9.out] at ho
          replace ra := ra.ext hx
          replace rb := rb.ext hx
          replace rc := rc.ext hx
          replace ru := ru.ext hx
          replace rd := rd.ext hx
          replace rh := rh.ext hx
          replace rl := rl.ext hx
          replace rs1 := rs1.ext hx
          replace rs2 := rs2.ext hx
          replace HX := HX.trans hx
          have rs3 := ho.rd
          clear ho hx
          go_wp2_with fail
          refine (same3_any _ _ _ _ _ rs3 ra).mono ?_
          rintro e w25 ⟨rfl, hx⟩
          rw [decide_eq_true rfl]
          replace ra := ra.ext hx
          replace rb := rb.ext hx
          replace rc := rc.ext hx
          replace ru := ru.ext hx
          replace rd := rd.ext hx
          replace rh := rh.ext hx
          replace rl := rl.ext hx
          replace rs1 := rs1.ext hx
          replace rs2 := rs2.ext hx
          replace rs3 := rs3.ext hx
          replace HX := HX.trans hx
          clear hx
          go_wp2_with fail
          refine (lives13_any _).mono ?_
          rintro e w26 ⟨rfl, hx⟩
          have HX2 := HX.trans hx
          clear hx
          go_wp2
          go_ret
          exact ⟨rfl, HX2⟩
        · have HBC := Lib.hid hbc
          clear hbc
          go_wp2_with fail
          refine (covers_any _ _ _ _ _ rd rc).mono ?_
          rintro e w20 ⟨rfl, hx⟩
          rw [F6.out HAC.out HBC.out]
          replace ra := ra.ext hx
          replace rb := rb.ext hx
          replace rc := rc.ext hx
          replace ru := ru.ext hx
          replace rd := rd.ext hx
          replace rh := rh.ext hx
          replace rl := rl.ext hx
          replace HX := HX.trans hx
          clear hx
          go_wp2_with fail
          refine (join_any _ _ _ _ _ ra ra).mono ?_
          rintro e w21 ⟨vs1, rfl, ho, hx⟩
          rw [F7.out] at ho
          replace ra := ra.ext hx
          replace rb := rb.ext hx
          replace rc := rc.ext hx
          replace ru := ru.ext hx
          replace rd := rd.ext hx
          replace rh := rh.ext hx
          replace rl := rl.ext hx
          replace HX := HX.trans hx
          have rs1 := ho.rd
          clear ho hx
          go_wp2_with fail
          refine (same3_any _ _ _ _ _ rs1 ra).mono ?_
          rintro e w22 ⟨rfl, hx⟩
          rw [decide_eq_true rfl]
          replace ra := ra.ext hx
          replace rb := rb.ext hx
          replace rc := rc.ext hx
          replace ru := ru.ext hx
          replace rd := rd.ext hx
          replace rh := rh.ext hx
          replace rl := rl.ext hx
          replace rs1 := rs1.ext hx
          replace HX := HX.trans hx
          clear hx
          go_wp2_with fail
          refine (meet_any _ _ _ _ _ ra ru).mono ?_
          rintro e w23 ⟨vs2, rfl, ho, hx⟩
          rw [F8.out] at ho
          replace ra := ra.ext hx
          replace rb := rb.ext hx
          replace rc := rc.ext hx
          replace ru := ru.ext hx
          replace rd := rd.ext hx
          replace rh := rh.ext hx
          replace rl := rl.ext hx
          replace rs1 := rs1.ext hx
          replace HX := HX.trans hx
          have rs2 := ho.rd
          clear ho hx
          go_wp2_with fail
          refine (same3_any _ _ _ _ _ rs2 ra).mono ?_
          rintro e w24 ⟨rfl, hx⟩
          rw [decide_eq_true rfl]
          replace ra := ra.ext hx
          replace rb := rb.ext hx
          replace rc := rc.ext hx
          replace ru := ru.ext hx
          replace rd := rd.ext hx
          replace rh := rh.ext hx
          replace rl := rl.ext hx
          replace rs1 := rs1.ext hx
          replace rs2 := rs2.ext hx
          replace HX := HX.trans hx
          clear hx
          go_wp2_with fail
          refine (join_any _ _ _ _ _ ra rd).mono ?_
          rintro e w25 ⟨vs3, rfl, ho, hx⟩
          rw [F9.out] at ho
          replace ra := ra.ext hx
          replace rb := rb.ext hx
          replace rc := rc.ext hx
          replace ru := ru.ext hx
          replace rd := rd.ext hx
          replace rh := rh.ext hx
          replace rl := rl.ext hx
          replace rs1 := rs1.ext hx
          replace rs2 := rs2.ext hx
          replace HX := HX.trans hx
          have rs3 := ho.rd
          clear ho hx
          go_wp2_with fail
          refine (same3_any _ _ _ _ _ rs3 ra).mono ?_
          rintro e w26 ⟨rfl, hx⟩
          rw [decide_eq_true rfl]
          replace ra := ra.ext hx
          replace rb := rb.ext hx
          replace rc := rc.ext hx
          replace ru := ru.ext hx
          replace rd := rd.ext hx
          replace rh := rh.ext hx
          replace rl := rl.ext hx
          replace rs1 := rs1.ext hx
          replace rs2 := rs2.ext hx
          replace rs3 := rs3.ext hx
          replace HX := HX.trans hx
          clear hx
          go_wp2_with fail
          refine (lives13_any _).mono ?_
          rintro e w27 ⟨rfl, hx⟩
          have HX2 := HX.trans hx
          clear hx
          go_wp2
          go_ret
          exact ⟨rfl, HX2⟩
end Go.Proofs.Ytbcjikiakanncaa
