/- the reference of package share: Compare: contract. -/
import Derived.Test.YtenencblpoeneaaSk1
namespace Go.Proofs.Ytenencblpoeneaa
open Go.RowKit
set_option linter.unusedVariables false

theorem wrap_tdiv {a b : Int} (ha : 0 ≤ a) (ha1 : a ≤ 1152921504606846976) (hb : 0 < b) : IntKind.i64.wrap (a.tdiv b) = a / b := by
  rw [Int.tdiv_eq_ediv_of_nonneg ha, IntKind.wrap_i64]
  have h1 : 0 ≤ a / b := Int.ediv_nonneg ha (by omega)
  have h2 : a / b ≤ a := Int.ediv_le_self _ ha
  omega

set_option maxRecDepth 100000 in
set_option maxHeartbeats 4000000 in
theorem compareR_any (a0 b0 c0 d0 : Int) (w : World) :
    Calls Try.prog 31 #[.int .i64 a0, .int .i64 b0, .int .i64 c0, .int .i64 d0] w fun e w' => e = .returned (.tuple #[.int .i64 (cmpP a0 b0 c0 d0).1, .int .i64 (cmpP a0 b0 c0 d0).2]) ∧ Ext w w' := by
  have HNO := Lib.hid (fun h => cmpP_no (a := a0) (b := b0) (c := c0) (d := d0) h)
  have HBAD := Lib.hid (fun x hx h => argsC_bad (a := a0) (b := b0) (c := c0) (d := d0) (x := x) hx h)
  have HIFF := Lib.hid (argsC_iff a0 b0 c0 d0)
  go_enter Try.func31, Try.ntmps31
  go_wp2_with fail
  refine (rlrg_any a0 _).mono ?_
  rintro e w1 ⟨rfl, rfl⟩
  go_wp2_with fail
  refine (rlrg_any b0 _).mono ?_
  rintro e w1 ⟨rfl, rfl⟩
  go_wp2_with fail
  refine (rlrg_any c0 _).mono ?_
  rintro e w1 ⟨rfl, rfl⟩
  go_wp2_with fail
  refine (rlrg_any d0 _).mono ?_
  rintro e w1 ⟨rfl, rfl⟩
  rcases ha : lrgS a0 with _ | _
  · have HR := Lib.hid (HNO.out (HBAD.out a0 (by simp) ha))
    clear ha
    go_wp2
    go_ret2
    rw [HR.out]
    exact ⟨rfl, Ext.refl _⟩
  rcases hb : lrgS b0 with _ | _
  · have HR := Lib.hid (HNO.out (HBAD.out b0 (by simp) hb))
    clear hb
    go_wp2
    go_ret2
    rw [HR.out]
    exact ⟨rfl, Ext.refl _⟩
  rcases hc : lrgS c0 with _ | _
  · have HR := Lib.hid (HNO.out (HBAD.out c0 (by simp) hc))
    clear hc
    go_wp2
    go_ret2
    rw [HR.out]
    exact ⟨rfl, Ext.refl _⟩
  rcases hd : lrgS d0 with _ | _
  · have HR := Lib.hid (HNO.out (HBAD.out d0 (by simp) hd))
    clear hd
    go_wp2
    go_ret2
    rw [HR.out]
    exact ⟨rfl, Ext.refl _⟩
  have HALL : Hid (∀ x ∈ [a0, b0, c0, d0], lrgS x = true) := Lib.hid (by
    intro x hx
    simp only [List.mem_cons, List.not_mem_nil, or_false] at hx
    rcases hx with rfl | rfl | rfl | rfl <;> assumption)
  obtain ⟨ha1, ha2⟩ := (lrgS_iff a0).1 ha
  obtain ⟨hb1, hb2⟩ := (lrgS_iff b0).1 hb
  obtain ⟨hc1, hc2⟩ := (lrgS_iff c0).1 hc
  obtain ⟨hd1, hd2⟩ := (lrgS_iff d0).1 hd
  clear ha hb hc hd HBAD
  by_cases hb0 : b0 = 0
  · have HR := Lib.hid (HNO.out (by rw [← Bool.not_eq_true, HIFF.out]; intro h; exact h.2.1 hb0))
    have hb0' : (b0 == 0) = true := by simp [hb0]
    clear hb0
    go_wp2
    go_ret2
    rw [HR.out]
    exact ⟨rfl, Ext.refl _⟩
  have hb0' : (b0 == 0) = false := by simp [hb0]
  by_cases hd0 : d0 = 0
  · have HR := Lib.hid (HNO.out (by rw [← Bool.not_eq_true, HIFF.out]; intro h; exact h.2.2 hd0))
    have hd0' : (d0 == 0) = true := by simp [hd0]
    clear hd0 hb0
    go_wp2
    go_ret2
    rw [HR.out]
    exact ⟨rfl, Ext.refl _⟩
  have hd0' : (d0 == 0) = false := by simp [hd0]
  have HR := Lib.hid (cmpP_ok (HIFF.out.2 ⟨HALL.out, hb0, hd0⟩))
  have hb3 : 0 < b0 := by omega
  have hd3 : 0 < d0 := by omega
  clear hb0 hd0 HIFF HNO HALL
  go_wp2_with fail
  go_loopw [0, 1, 2, 3, 14] (fun x0 x1 x2 x3 x14 wr => ∃ a b c d s : Int, x0 = .int .i64 a ∧ x1 = .int .i64 b ∧ x2 = .int .i64 c ∧ x3 = .int .i64 d ∧ x14 = .int .i64 s ∧ (0 ≤ a ∧ a ≤ 1152921504606846976) ∧ (0 < b ∧ b ≤ 1152921504606846976) ∧ (0 ≤ c ∧ c ≤ 1152921504606846976) ∧ (0 < d ∧ d ≤ 1152921504606846976) ∧ (s = 1 ∨ s = -1) ∧ Hid (cmpQ a0 b0 c0 d0 = s * cmpQ a b c d) ∧ Ext w wr) (fun _ x1 _ _ _ _ => (RowKit.intOf x1).toNat)
  case atStart => exact ⟨a0, b0, c0, d0, 1, rfl, rfl, rfl, rfl, rfl, ⟨ha1, ha2⟩, ⟨hb3, hb2⟩, ⟨hc1, hc2⟩, ⟨hd3, hd2⟩, .inl rfl, Lib.hid (by rw [Int.one_mul]), Ext.refl _⟩
  case round =>
    obtain ⟨a, b, c, d, s, rfl, rfl, rfl, rfl, rfl, ⟨a1, a2⟩, ⟨b1, b2⟩, ⟨c1, c2⟩, ⟨d1, d2⟩, hs, HK, hxr⟩ := hrel
    clear ha1 ha2 hb1 hb2 hc1 hc2 hd1 hd2 hb0' hd0' hb3 hd3
    have GT := Lib.hid (fun h => cmp_whole_gt (a := a) (b := b) (c := c) (d := d) b1 d1 h)
    have LT := Lib.hid (fun h => cmp_whole_lt (a := a) (b := b) (c := c) (d := d) b1 d1 h)
    have C0 := Lib.hid (fun h => cmp_both (a := a) (b := b) (c := c) (d := d) b1 d1 h)
    have CP := Lib.hid (fun h => cmp_p0 (a := a) (b := b) (c := c) (d := d) b1 d1 h)
    have CQ := Lib.hid (fun h => cmp_q0 (a := a) (b := b) (c := c) (d := d) b1 d1 h)
    have CN := Lib.hid (fun h => cmp_next (a := a) (b := b) (c := c) (d := d) b1 d1 h)
    have p0 := Int.emod_nonneg a (show b ≠ 0 by omega)
    have p1 := Int.emod_lt_of_pos a b1
    have q0 := Int.emod_nonneg c (show d ≠ 0 by omega)
    have q1 := Int.emod_lt_of_pos c d1
    by_cases hxy : a / b = c / d
    · have hxy' : (a / b != c / d) = false := by simp [hxy]
      have HXY := Lib.hid hxy
      clear hxy GT LT
      by_cases hp : a % b = 0
      · have hp' : (a % b == 0) = true := by simp [hp]
        by_cases hq : c % d = 0
        · have hq' : (c % d == 0) = true := by simp [hq]
          have HV : Hid (cmpQ a0 b0 c0 d0 = 0) := Lib.hid (by rw [HK.out, C0.out HXY.out hp hq, Int.mul_zero])
          clear hp hq CP CQ CN C0
          go_wp2_with fail
          go_quiet (fail)
          go_wp2_with fail
          go_ret2
          rw [HR.out, HV.out]
          exact ⟨rfl, hxr.drewN _⟩
        · have hq' : (c % d == 0) = false := by simp [hq]
          have HV : Hid (cmpQ a0 b0 c0 d0 = -s) := Lib.hid (by rw [HK.out, CP.out HXY.out hp hq]; omega)
          clear hp hq CP CQ CN C0
          rcases hs with rfl | rfl
          · go_wp2_with fail
            go_quiet (fail)
            go_wp2_with fail
            go_ret2
            rw [HR.out, HV.out]
            exact ⟨rfl, hxr.drewN _⟩
          · go_wp2_with fail
            go_quiet (fail)
            go_wp2_with fail
            go_ret2
            rw [HR.out, HV.out]
            exact ⟨rfl, hxr.drewN _⟩
      · have hp' : (a % b == 0) = false := by simp [hp]
        by_cases hq : c % d = 0
        · have hq' : (c % d == 0) = true := by simp [hq]
          have HV : Hid (cmpQ a0 b0 c0 d0 = s) := Lib.hid (by rw [HK.out, CQ.out HXY.out hp hq, Int.mul_one])
          clear hp hq CP CQ CN C0
          go_wp2_with fail
          go_quiet (fail)
          go_wp2_with fail
          go_ret2
          rw [HR.out, HV.out]
          exact ⟨rfl, hxr.drewN _⟩
        · have hq' : (c % d == 0) = false := by simp [hq]
          have HV : Hid (cmpQ a0 b0 c0 d0 = -s * cmpQ b (a % b) d (c % d)) := Lib.hid (by rw [HK.out, CN.out HXY.out, Int.mul_neg, Int.neg_mul])
          have hp2 : 0 < a % b := by omega
          have hq2 : 0 < c % d := by omega
          clear hp hq CP CQ CN C0
          rcases hs with rfl | rfl
          · go_wp2_with fail
            go_quiet (fail)
            go_wp2_with fail
            go_roundw
            case rel => exact ⟨b, a % b, d, c % d, -1, rfl, rfl, rfl, rfl, rfl, ⟨by omega, b2⟩, ⟨hp2, by omega⟩, ⟨by omega, d2⟩, ⟨hq2, by omega⟩, .inr rfl, HV, hxr.drewN _⟩
            case measure => simp [RowKit.intOf]; omega
          · go_wp2_with fail
            go_quiet (fail)
            go_wp2_with fail
            go_roundw
            case rel => exact ⟨b, a % b, d, c % d, 1, rfl, rfl, rfl, rfl, rfl, ⟨by omega, b2⟩, ⟨hp2, by omega⟩, ⟨by omega, d2⟩, ⟨hq2, by omega⟩, .inl rfl, HV, hxr.drewN _⟩
            case measure => simp [RowKit.intOf]; omega
    · have hxy' : (a / b != c / d) = true := by simp [hxy]
      by_cases hgt : c / d < a / b
      · have HV : Hid (cmpQ a0 b0 c0 d0 = s) := Lib.hid (by rw [HK.out, GT.out hgt, Int.mul_one])
        clear hxy CP CQ CN C0 GT LT
        go_wp2_with fail
        go_quiet (fail)
        go_wp2_with fail
        go_quiet (fail)
        go_wp2_with fail
        go_ret2
        rw [HR.out, HV.out]
        exact ⟨rfl, by first | exact hxr.drewN _ | exact (hxr.drewN _).drewN _⟩
      · have HV : Hid (cmpQ a0 b0 c0 d0 = -s) := Lib.hid (by rw [HK.out, LT.out (by omega)]; omega)
        clear hxy CP CQ CN C0 GT LT
        rcases hs with rfl | rfl
        · go_wp2_with fail
          go_quiet (fail)
          go_wp2_with fail
          go_quiet (fail)
          go_wp2_with fail
          go_ret2
          rw [HR.out, HV.out]
          exact ⟨rfl, by first | exact hxr.drewN _ | exact (hxr.drewN _).drewN _⟩
        · go_wp2_with fail
          go_quiet (fail)
          go_wp2_with fail
          go_quiet (fail)
          go_wp2_with fail
          go_ret2
          rw [HR.out, HV.out]
          exact ⟨rfl, by first | exact hxr.drewN _ | exact (hxr.drewN _).drewN _⟩
end Go.Proofs.Ytenencblpoeneaa
