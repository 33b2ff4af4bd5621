/- share.Compare and the reference's: contracts. -/
import Derived.Test.YtenencblpoeneaaSr1
import Derived.Test.YtenencblpoeneaaSp5
import Derived.Test.YtenencblpoeneaaMm
namespace Go.Proofs.Ytenencblpoeneaa
open Go.RowKit
set_option linter.unusedVariables false

set_option maxRecDepth 100000 in
set_option maxHeartbeats 4000000 in
theorem compare_any (a b c d : Int) (w : World) :
    Calls Try.prog 30 #[.int .i64 a, .int .i64 b, .int .i64 c, .int .i64 d] w fun e w' => e = .returned (.tuple #[.int .i64 (cmpP a b c d).1, .int .i64 (cmpP a b c d).2]) ∧ Ext w w' := by
  have HNO := Lib.hid (fun h => cmpP_no (a := a) (b := b) (c := c) (d := d) h)
  have HBAD := Lib.hid (fun x hx h => argsC_bad (a := a) (b := b) (c := c) (d := d) (x := x) hx h)
  have HIFF := Lib.hid (argsC_iff a b c d)
  obtain ⟨W, hW⟩ : ∃ W, W = w.alloc (.cells #[.int .i64 a, .int .i64 b, .int .i64 c, .int .i64 d] 3) := ⟨_, rfl⟩
  have hB : Blk W w.heap.size 3 (vis [a, b, c, d]) := by rw [hW]; exact Blk.new w 3 _
  have hxw : Ext w W := by rw [hW]; exact (Ext.refl w).alloc _
  have HB := Lib.hid hB
  obtain ⟨L, hL⟩ : ∃ L, L = [a, b, c, d] := ⟨_, rfl⟩
  have HL : Hid (L.length = 4) := Lib.hid (by rw [hL]; rfl)
  rw [← hL] at HB HBAD HIFF
  have HLE := Lib.hid hL
  clear hB hL
  go_enter Try.func30, Try.ntmps30
  go_wp2_with fail
  rw [← hW]
  clear hW
  go_loop [22] (fun x22 => ∃ k : Nat, k ≤ 4 ∧ x22 = .int .i64 k ∧ Hid (∀ x ∈ L.take k, lrgS x = true)) (fun x22 => 4 - (RowKit.intOf x22).toNat)
  case atStart => exact ⟨0, by omega, rfl, Lib.hid (by simp)⟩
  case round =>
    obtain ⟨k, hk, rfl, HP⟩ := hrel
    by_cases hlt : k < 4
    · have hkL : k < L.length := by rw [HL.out]; exact hlt
      have c1 := HB.out.cell k
      rw [show (vis L)[k]? = some (.int .i64 L[k]) by simp [vis, hkL]] at c1
      have hz : (k : Int) < 4 := by omega
      have k0 : (0 : Int) ≤ (k : Int) := by omega
      have HN : Hid (lrgS L[k] = true → ∀ x ∈ L.take (k + 1), lrgS x = true) := Lib.hid (fun h x hx => by
        rw [List.take_succ_eq_append_getElem hkL] at hx
        rcases List.mem_append.1 hx with hx | hx
        · exact HP.out x hx
        · simp only [List.mem_singleton] at hx; subst hx; exact h)
      have HBD := Lib.hid (HBAD.out L[k] (by simp))
      generalize L[k] = y at *
      clear hkL HBAD
      go_wp2_with fail
      refine (slrg_any y _).mono ?_
      rintro e w1 ⟨rfl, rfl⟩
      rcases hy : lrgS y with _ | _
      · have HR := Lib.hid (HNO.out (HBD.out hy))
        clear hy
        go_wp2
        go_ret2
        rw [HR.out]
        exact ⟨rfl, hxw⟩
      · have HN2 := Lib.hid (HN.out hy)
        clear hy
        go_wp2
        go_round
        case rel => exact ⟨k + 1, by omega, by go_num, HN2⟩
        case measure => simp [RowKit.intOf]; omega
    · have hz : ¬ (k : Int) < 4 := by omega
      have hall : ∀ x ∈ L, lrgS x = true := by
        have := HP.out
        rwa [List.take_of_length_le (by rw [HL.out]; omega)] at this
      have hall' : ∀ x ∈ [a, b, c, d], lrgS x = true := by rw [← HLE.out]; exact hall
      have ha := (lrgS_iff a).1 (hall' a (by simp))
      have hb := (lrgS_iff b).1 (hall' b (by simp))
      have hc := (lrgS_iff c).1 (hall' c (by simp))
      have hd := (lrgS_iff d).1 (hall' d (by simp))
      have HALL := Lib.hid hall
      clear hall hall' HBAD HP
      by_cases hb0 : b = 0
      · have HR := Lib.hid (HNO.out (by rw [← Bool.not_eq_true, HIFF.out]; intro h; exact h.2.1 hb0))
        have hb0' : (b == 0) = true := by simp [hb0]
        clear hb0
        go_wp2
        go_ret2
        rw [HR.out]
        exact ⟨rfl, hxw⟩
      · have hb0' : (b == 0) = false := by simp [hb0]
        by_cases hd0 : d = 0
        · have HR := Lib.hid (HNO.out (by rw [← Bool.not_eq_true, HIFF.out]; intro h; exact h.2.2 hd0))
          have hd0' : (d == 0) = true := by simp [hd0]
          clear hb0 hd0
          go_wp2
          go_ret2
          rw [HR.out]
          exact ⟨rfl, hxw⟩
        · have hd0' : (d == 0) = false := by simp [hd0]
          have HR := Lib.hid (cmpP_ok (HIFF.out.2 ⟨HALL.out, hb0, hd0⟩))
          have HLT := Lib.hid (fun h => cmpQ_lt (a := a) (b := b) (c := c) (d := d) h)
          have HEQ := Lib.hid (fun h => cmpQ_eq (a := a) (b := b) (c := c) (d := d) h)
          have HGT := Lib.hid (fun h => cmpQ_gt (a := a) (b := b) (c := c) (d := d) h)
          obtain ⟨X0, X1⟩ := prod_range ha.1 ha.2 hd.1 hd.2
          obtain ⟨Y0, Y1⟩ := prod_range hc.1 hc.2 hb.1 hb.2
          obtain ⟨ha0, ha1⟩ := ha
          obtain ⟨hb0'', hb1⟩ := hb
          obtain ⟨hc0, hc1⟩ := hc
          obtain ⟨hd0'', hd1⟩ := hd
          clear hb0 hd0 HIFF HNO
          go_wp2_with fail
          refine (mul64_any a d (by omega) (by omega) (by omega) (by omega) _).mono ?_
          rintro e w1 ⟨rfl, rfl⟩
          go_wp2_with fail
          refine (mul64_any c b (by omega) (by omega) (by omega) (by omega) _).mono ?_
          rintro e w1 ⟨rfl, rfl⟩
          generalize a * d = X at *
          generalize c * b = Y at *
          rcases Int.lt_trichotomy X Y with hlt' | heq | hgt
          · have HV := Lib.hid (HLT.out hlt')
            by_cases h1 : X / 18446744073709551616 < Y / 18446744073709551616
            · clear hlt'
              generalize X / 18446744073709551616 = p1 at *
              generalize Y / 18446744073709551616 = p2 at *
              go_wp2
              go_ret2
              rw [HR.out, HV.out]
              exact ⟨rfl, hxw⟩
            · have h2 : (X / 18446744073709551616 == Y / 18446744073709551616) = true := by simp; omega
              have h3 : X % 18446744073709551616 < Y % 18446744073709551616 := by omega
              clear hlt'
              generalize X / 18446744073709551616 = p1 at *
              generalize Y / 18446744073709551616 = p2 at *
              generalize X % 18446744073709551616 = q1 at *
              generalize Y % 18446744073709551616 = q2 at *
              go_wp2
              go_ret2
              rw [HR.out, HV.out]
              exact ⟨rfl, hxw⟩
          · have HV := Lib.hid (HEQ.out heq)
            subst heq
            clear X1 Y1
            generalize X / 18446744073709551616 = p1 at *
            generalize X % 18446744073709551616 = q1 at *
            have h1 : ¬ p1 < p1 := by omega
            have h2 : (p1 == p1) = true := by simp
            have h3 : ¬ q1 < q1 := by omega
            have h4 : (q1 == q1) = true := by simp
            go_wp2
            go_ret2
            rw [HR.out, HV.out]
            exact ⟨rfl, hxw⟩
          · have HV := Lib.hid (HGT.out hgt)
            by_cases h1 : Y / 18446744073709551616 < X / 18446744073709551616
            · have h2 : ¬ X / 18446744073709551616 < Y / 18446744073709551616 := by omega
              have h3 : (X / 18446744073709551616 == Y / 18446744073709551616) = false := by simp; omega
              clear hgt
              generalize X / 18446744073709551616 = p1 at *
              generalize Y / 18446744073709551616 = p2 at *
              go_wp2
              go_ret2
              rw [HR.out, HV.out]
              exact ⟨rfl, hxw⟩
            · have h0 : ¬ X / 18446744073709551616 < Y / 18446744073709551616 := by omega
              have h2 : (X / 18446744073709551616 == Y / 18446744073709551616) = true := by simp; omega
              have h3 : ¬ X % 18446744073709551616 < Y % 18446744073709551616 := by omega
              have h4 : (X % 18446744073709551616 == Y % 18446744073709551616) = false := by simp; omega
              clear hgt
              generalize X / 18446744073709551616 = p1 at *
              generalize Y / 18446744073709551616 = p2 at *
              generalize X % 18446744073709551616 = q1 at *
              generalize Y % 18446744073709551616 = q2 at *
              go_wp2
              go_ret2
              rw [HR.out, HV.out]
              exact ⟨rfl, hxw⟩
end Go.Proofs.Ytenencblpoeneaa
