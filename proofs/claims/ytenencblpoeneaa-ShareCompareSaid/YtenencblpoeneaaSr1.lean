/- the reference of package share: Divide, Part, Ceil: contracts. -/
import Derived.Test.YtenencblpoeneaaSc3
namespace Go.Proofs.Ytenencblpoeneaa
open Go.RowKit
set_option linter.unusedVariables false

theorem divR_ok {a b d : Int} (h : a * b / d ≤ 1152921504606846976) : divR a b d = (a * b / d, a * b % d, true) := if_pos h
theorem divR_no {a b d : Int} (h : 1152921504606846976 < a * b / d) : divR a b d = (0, 0, false) := if_neg (by omega)

set_option maxRecDepth 100000 in
set_option maxHeartbeats 4000000 in
theorem divR_any (a0 b d : Int) (w : World) (h0 : 0 ≤ a0) (h1 : a0 ≤ 1152921504606846976) (b0 : 0 ≤ b) (b1 : b ≤ 1152921504606846976) (d0 : 1 ≤ d) (d1 : d ≤ 1152921504606846976) :
    Calls Try.prog 46 #[.int .i64 a0, .int .i64 b, .int .i64 d] w fun e w' => e = .returned (.tuple #[.int .i64 (divR a0 b d).1, .int .i64 (divR a0 b d).2.1, .bool (divR a0 b d).2.2]) ∧ w = w' := by
  have HS := Lib.hid (divI_start (b := b) h0 h1 d0)
  have hQ0 : 0 ≤ b / d := Int.ediv_nonneg b0 (by omega)
  have hQ1 : b / d ≤ 1152921504606846976 := Int.le_trans (Int.ediv_le_self _ b0) b1
  have hR0 : 0 ≤ b % d := Int.emod_nonneg _ (by omega)
  have hR1 : b % d < d := Int.emod_lt_of_pos _ (by omega)
  have HAY := Lib.hid (fun q r => add_yes b d q r)
  have HAN := Lib.hid (fun q r => add_no b d q r)
  have HNO := Lib.hid (fun h => divR_no (a := a0) (b := b) (d := d) h)
  have HOK := Lib.hid (fun h => divR_ok (a := a0) (b := b) (d := d) h)
  have HBL := Lib.hid (fun m a q r q' r' => divI_big_lo (a0 := a0) (b := b) (d := d) (m := m) (a := a) (q := q) (r := r) (q' := q') (r' := r') d0 b0)
  have HBH := Lib.hid (fun m a q r q' r' q'' r'' => divI_big_hi (a0 := a0) (b := b) (d := d) (m := m) (a := a) (q := q) (r := r) (q' := q') (r' := r') (q'' := q'') (r'' := r'') d0 b0)
  have HEND := Lib.hid (fun a q r h => divI_end (a0 := a0) (b := b) (d := d) (a := a) (q := q) (r := r) d0 h)
  go_enter Try.func46, Try.ntmps46
  go_wp2
  go_loop [0, 9, 10, 11] (fun xa xq xr xb => ∃ (m : Nat) (a q r : Int), m ≤ 61 ∧ xa = .int .i64 a ∧ xq = .int .i64 q ∧ xr = .int .i64 r ∧ xb = .int .i64 (bitI m) ∧ Hid (DivI a0 b d m a q r)) (fun xa xq xr xb => (RowKit.intOf xb).toNat)
  case atStart => exact ⟨61, _, _, _, by omega, rfl, rfl, rfl, by rfl, HS⟩
  case round =>
    obtain ⟨m, a, q, r, hm, rfl, rfl, rfl, rfl, HI⟩ := hrel
    clear HS
    rcases m with _ | m
    · have hb0 : bitI 0 = 0 := rfl
      rw [hb0]
      clear hb0
      obtain ⟨E1, E2⟩ := HEND.out a q r HI.out
      have HR := Lib.hid (HOK.out (by rw [E1]; exact HI.out.q2))
      have HE1 := Lib.hid E1
      have HE2 := Lib.hid E2
      clear E1 E2
      go_wp2
      go_ret3
      rw [HR.out, HE1.out, HE2.out]
      exact ⟨rfl, rfl⟩
    · have hbm : bitI (m + 1) = pwI m := rfl
      rw [hbm]
      clear hbm
      have hB0 := pwI_pos m
      have hB1 := pwI_le (show m ≤ 60 by omega)
      have hhalf := bitI_half m
      have HLO := Lib.hid (fun q' r' h1 h2 h3 h4 h5 h6 => divI_lo (q' := q') (r' := r') HI.out h1 h2 h3 h4 h5 h6)
      have HHI := Lib.hid (fun q' r' q'' r'' h1 h2 h3 h4 h5 h6 h7 => divI_hi (q' := q') (r' := r') (q'' := q'') (r'' := r'') HI.out h1 h2 h3 h4 h5 h6 h7)
      have BL := Lib.hid (fun q' r' h1 h2 h3 => HBL.out m a q r q' r' HI.out h1 h2 h3)
      have BH := Lib.hid (fun q' r' q'' r'' h1 h2 h3 h4 h5 => HBH.out m a q r q' r' q'' r'' HI.out h1 h2 h3 h4 h5)
      have HH := Lib.hid hhalf
      have hbr : Hid (0 ≤ bitI m ∧ bitI m < pwI m) := Lib.hid (by rw [← hhalf]; omega)
      clear hhalf
      have a1 := HI.out.a1
      have r1 := HI.out.r1
      have r2 := HI.out.r2
      have q1 := HI.out.q1
      have q2 := HI.out.q2
      have DY := Lib.hid (dbl_yes d q r)
      have DN := Lib.hid (dbl_no d q r)
      have ha2 : a ≤ 2305843009213693952 := by
        have := HI.out.a2
        rw [pwI_succ] at this
        omega
      clear HI HBL HBH HEND
      generalize pwI m = B at *
      by_cases c1 : d ≤ 2 * r
      · by_cases c2 : B ≤ a
        · by_cases c3 : d ≤ 2 * r - d + b % d
          · by_cases c4 : 1152921504606846976 < 2 * q + 1 + b / d + 1
            · have HR := Lib.hid (HNO.out (BH.out _ _ _ _ c2 DY.out (HAY.out _ _) (by omega) c4))
              go_wp2
              go_ret3
              rw [HR.out]
              exact ⟨rfl, rfl⟩
            · have HN := Lib.hid (HHI.out _ _ _ _ c2 DY.out (HAY.out _ _) (by omega) (by omega) (by omega) (by omega))
              go_wp2
              go_round
              case rel => exact ⟨m, _, _, _, by omega, rfl, rfl, rfl, by rw [HH.out], HN⟩
              case measure => simp [RowKit.intOf]; omega
          · by_cases c4 : 1152921504606846976 < 2 * q + 1 + b / d
            · have HR := Lib.hid (HNO.out (BH.out _ _ _ _ c2 DY.out (HAN.out _ _) (by omega) c4))
              go_wp2
              go_ret3
              rw [HR.out]
              exact ⟨rfl, rfl⟩
            · have HN := Lib.hid (HHI.out _ _ _ _ c2 DY.out (HAN.out _ _) (by omega) (by omega) (by omega) (by omega))
              go_wp2
              go_round
              case rel => exact ⟨m, _, _, _, by omega, rfl, rfl, rfl, by rw [HH.out], HN⟩
              case measure => simp [RowKit.intOf]; omega
        · by_cases c4 : 1152921504606846976 < 2 * q + 1
          · have HR := Lib.hid (HNO.out (BL.out _ _ DY.out (by omega) c4))
            go_wp2
            go_ret3
            rw [HR.out]
            exact ⟨rfl, rfl⟩
          · have HN := Lib.hid (HLO.out _ _ (by omega) DY.out (by omega) (by omega) (by omega) (by omega))
            go_wp2
            go_round
            case rel => exact ⟨m, _, _, _, by omega, rfl, rfl, rfl, by rw [HH.out], HN⟩
            case measure => simp [RowKit.intOf]; omega
      · by_cases c2 : B ≤ a
        · by_cases c3 : d ≤ 2 * r + b % d
          · by_cases c4 : 1152921504606846976 < 2 * q + b / d + 1
            · have HR := Lib.hid (HNO.out (BH.out _ _ _ _ c2 DN.out (HAY.out _ _) (by omega) c4))
              go_wp2
              go_ret3
              rw [HR.out]
              exact ⟨rfl, rfl⟩
            · have HN := Lib.hid (HHI.out _ _ _ _ c2 DN.out (HAY.out _ _) (by omega) (by omega) (by omega) (by omega))
              go_wp2
              go_round
              case rel => exact ⟨m, _, _, _, by omega, rfl, rfl, rfl, by rw [HH.out], HN⟩
              case measure => simp [RowKit.intOf]; omega
          · by_cases c4 : 1152921504606846976 < 2 * q + b / d
            · have HR := Lib.hid (HNO.out (BH.out _ _ _ _ c2 DN.out (HAN.out _ _) (by omega) c4))
              go_wp2
              go_ret3
              rw [HR.out]
              exact ⟨rfl, rfl⟩
            · have HN := Lib.hid (HHI.out _ _ _ _ c2 DN.out (HAN.out _ _) (by omega) (by omega) (by omega) (by omega))
              go_wp2
              go_round
              case rel => exact ⟨m, _, _, _, by omega, rfl, rfl, rfl, by rw [HH.out], HN⟩
              case measure => simp [RowKit.intOf]; omega
        · by_cases c4 : 1152921504606846976 < 2 * q
          · have HR := Lib.hid (HNO.out (BL.out _ _ DN.out (by omega) c4))
            go_wp2
            go_ret3
            rw [HR.out]
            exact ⟨rfl, rfl⟩
          · have HN := Lib.hid (HLO.out _ _ (by omega) DN.out (by omega) (by omega) (by omega) (by omega))
            go_wp2
            go_round
            case rel => exact ⟨m, _, _, _, by omega, rfl, rfl, rfl, by rw [HH.out], HN⟩
            case measure => simp [RowKit.intOf]; omega

set_option maxRecDepth 100000 in
set_option maxHeartbeats 2000000 in
theorem partR_any (t n d : Int) (w : World) :
    Calls Try.prog 24 #[.int .i64 t, .int .i64 n, .int .i64 d] w fun e w' => e = .returned (.tuple #[.int .i64 (partP t n d).1, .int .i64 (partP t n d).2]) ∧ Ext w w' := by
  have HNO := Lib.hid (fun h => partP_no (t := t) (n := n) (d := d) h)
  have HB := Lib.hid (argsP_bools t n d)
  go_enter Try.func24, Try.ntmps24
  go_wp2_with fail
  refine (ramt_any t _).mono ?_
  rintro e w1 ⟨rfl, rfl⟩
  go_wp2_with fail
  refine (rlrg_any n _).mono ?_
  rintro e w1 ⟨rfl, rfl⟩
  go_wp2_with fail
  refine (rlrg_any d _).mono ?_
  rintro e w1 ⟨rfl, rfl⟩
  rcases ht : amtS t with _ | _
  · have HR := Lib.hid (HNO.out (by rw [HB.out, ht]; rfl))
    clear ht
    go_wp2
    go_ret2
    rw [HR.out]
    exact ⟨rfl, Ext.refl _⟩
  · have HT := Lib.hid ht
    clear ht
    rcases hn : lrgS n with _ | _
    · have HR := Lib.hid (HNO.out (by rw [HB.out, HT.out, hn]; rfl))
      clear hn
      go_wp2
      go_ret2
      rw [HR.out]
      exact ⟨rfl, Ext.refl _⟩
    · have HN := Lib.hid hn
      clear hn
      rcases hd : lrgS d with _ | _
      · have HR := Lib.hid (HNO.out (by rw [HB.out, HT.out, HN.out, hd]; rfl))
        clear hd
        go_wp2
        go_ret2
        rw [HR.out]
        exact ⟨rfl, Ext.refl _⟩
      · have HD := Lib.hid hd
        clear hd
        by_cases h0 : d = 0
        · have HR := Lib.hid (HNO.out (by rw [HB.out, HT.out, HN.out, HD.out, decide_eq_true h0]; rfl))
          have hd0 : (d == 0) = true := by simp [h0]
          clear h0
          go_wp2
          go_ret2
          rw [HR.out]
          exact ⟨rfl, Ext.refl _⟩
        · have HA : Hid (argsP t n d = true) := Lib.hid (by rw [HB.out, HT.out, HN.out, HD.out, decide_eq_false h0]; rfl)
          have hd0 : (d == 0) = false := by simp [h0]
          obtain ⟨t0, t1⟩ := (amtS_iff t).1 HT.out
          obtain ⟨n0, n1⟩ := (lrgS_iff n).1 HN.out
          obtain ⟨d0, d1⟩ := (lrgS_iff d).1 HD.out
          clear HNO HB HT HN HD
          have hd1 : 1 ≤ d := by omega
          clear h0
          go_wp2_with fail
          refine (divR_any t n d _ t0 (by omega) n0 n1 hd1 d1).mono ?_
          rintro e w2 ⟨rfl, rfl⟩
          rcases Int.lt_or_le 1152921504606846976 (t * n / d) with hb | hb
          · have HR := Lib.hid (partP_big HA.out (by omega))
            rw [divR_no hb]
            clear hb
            go_wp2
            go_ret2
            rw [HR.out]
            exact ⟨rfl, Ext.refl _⟩
          · rw [divR_ok hb]
            rcases Int.lt_or_le 1099511627776 (t * n / d) with hc | hc
            · have HR := Lib.hid (partP_big HA.out hc)
              generalize t * n / d = q at *
              generalize t * n % d = r at *
              go_wp2
              go_ret2
              rw [HR.out]
              exact ⟨rfl, Ext.refl _⟩
            · have HR := Lib.hid (partP_ok HA.out hc)
              generalize t * n / d = q at *
              generalize t * n % d = r at *
              go_wp2
              go_ret2
              rw [HR.out]
              exact ⟨rfl, Ext.refl _⟩

set_option maxRecDepth 100000 in
set_option maxHeartbeats 2000000 in
theorem ceilR_any (t n d : Int) (w : World) :
    Calls Try.prog 26 #[.int .i64 t, .int .i64 n, .int .i64 d] w fun e w' => e = .returned (.tuple #[.int .i64 (ceilP t n d).1, .int .i64 (ceilP t n d).2]) ∧ Ext w w' := by
  have HC := Lib.hid (fun h => partP_OK (t := t) (n := n) (d := d) h)
  have HNO := Lib.hid (fun h => ceilP_no (t := t) (n := n) (d := d) h)
  have HOK := Lib.hid (fun h => ceilP_ok (t := t) (n := n) (d := d) h)
  have HBG := Lib.hid (fun h => ceilP_big (t := t) (n := n) (d := d) h)
  go_enter Try.func26, Try.ntmps26
  go_wp2_with fail
  refine (partR_any t n d _).mono ?_
  rintro e w1 ⟨rfl, hx1⟩
  generalize (partP t n d).1 = q at *
  generalize (partP t n d).2 = c at *
  by_cases hc : c = 0
  · obtain ⟨⟨t0, t1⟩, ⟨n0, n1⟩, d0, d1, hq, rfl⟩ := HC.out hc
    replace HOK := Lib.hid (HOK.out hc)
    replace HBG := Lib.hid (HBG.out hc)
    subst hc
    go_wp2_with fail
    refine (divR_any t n d _ t0 (by omega) n0 n1 (by omega) d1).mono ?_
    rintro e w2 ⟨rfl, rfl⟩
    rw [divR_ok (show t * n / d ≤ 1152921504606846976 by omega)]
    have hy : t * n % d = t * n % d := rfl
    generalize hyy : t * n % d = y at hy ⊢
    replace hy := hyy.symm
    clear hyy
    have hq0 : 0 ≤ t * n / d := Int.ediv_nonneg (Int.mul_nonneg t0 n0) (by omega)
    have hcq : ceilQ (t * n) d = if 0 < t * n % d then t * n / d + 1 else t * n / d := rfl
    rw [← hy] at hcq
    have HCQ := Lib.hid hcq
    clear hcq hy HC HNO
    generalize t * n / d = q at *
    by_cases hr : 0 < y
    · by_cases hbig : q + 1 ≤ 1099511627776
      · have HR := Lib.hid (HOK.out (by rw [HCQ.out, if_pos hr]; omega))
        go_wp2
        go_ret2
        rw [HR.out, HCQ.out, if_pos hr]
        exact ⟨rfl, hx1⟩
      · have HR := Lib.hid (HBG.out (by rw [HCQ.out, if_pos hr]; omega))
        go_wp2
        go_ret2
        rw [HR.out]
        exact ⟨rfl, hx1⟩
    · have HR := Lib.hid (HOK.out (by rw [HCQ.out, if_neg (show ¬ 0 < y by omega)]; exact hq))
      go_wp2
      go_ret2
      rw [HR.out, HCQ.out, if_neg (show ¬ 0 < y by omega)]
      exact ⟨rfl, hx1⟩
  · have HR := Lib.hid (HNO.out hc)
    have hc' : (c != 0) = true := by simp [hc]
    clear hc
    go_wp2
    go_ret2
    rw [HR.out]
    exact ⟨rfl, hx1⟩
end Go.Proofs.Ytenencblpoeneaa
