/- package wire: the Reader: Uint. -/
import Derived.Test.YtjgpdimhgcacgaaWd1
namespace Go.Proofs.Ytjgpdimhgcacgaa
open Go.RowKit
set_option linter.unusedVariables false

theorem RAt.ok {w : World} {B : Nat → Prop} {g : Nat} {bs : List UInt8} (h : RAt w B g (.ok bs)) : RRaw w B g bs 0 := by
  obtain ⟨bs', e, h, rfl, rfl⟩ := h; exact h
theorem RAt.err {w : World} {B : Nat → Prop} {g : Nat} {e : Int} (h : RAt w B g (.error e)) : e ≠ 0 ∧ ∃ bs, RRaw w B g bs e := by
  obtain ⟨bs', e', h, rfl, he⟩ := h; exact ⟨he, _, h⟩
theorem RRaw.cell1 {w : World} {B : Nat → Prop} {g : Nat} {bs : List UInt8} {e : Int} (h : RRaw w B g bs e) : w.cell? ⟨g, 1, none⟩ = some (.int .i64 e) := by
  obtain ⟨v, hb, _⟩ := h; exact hb.cell 1
theorem RRaw.okAt {w : World} {B : Nat → Prop} {g : Nat} {bs : List UInt8} (h : RRaw w B g bs 0) : RAt w B g (.ok bs) := ⟨bs, 0, h, rfl, rfl⟩
theorem RRaw.errAt {w : World} {B : Nat → Prop} {g : Nat} {bs : List UInt8} {e : Int} (h : RRaw w B g bs e) (he : e ≠ 0) : RAt w B g (.error e) := ⟨bs, e, h, rfl, he⟩

set_option maxHeartbeats 2000000 in
theorem ruint_any (B : Nat → Prop) (g : Nat) (s0 : RS) (w : World) (h : RAt w B g s0) :
    Calls Try.prog 66 #[.pointer (some ⟨g, 0, none⟩)] w fun e' w' => e' = .returned (.int .u64 (uintR s0).1) ∧ RAt w' B g (uintR s0).2 ∧ Chg g w w' := by
  go_enter Try.func66, Try.ntmps66
  go_wp2_with fail
  go_loopw [4, 3] (fun i n wr => ∃ k : Nat, ∃ m : Int, ∃ s : RS, i = .int .i64 k ∧ n = .int .u64 m ∧ k ≤ 10 ∧ RAt wr B g s ∧ Chg g w wr ∧ Hid ((∃ bs, s = .ok bs ∧ k ≤ 9 ∧ 0 ≤ m ∧ m < 128 ^ k ∧ uintL k m bs = uintR s0) ∨ (∃ e, s = .error e ∧ uintR s0 = (0, .error e)))) (fun i _ _ => 11 - (intOf i).toNat)
  case atStart =>
    refine ⟨0, 0, s0, rfl, rfl, by omega, h, Chg.refl g w, Lib.hid ?_⟩
    cases s0 with
    | ok bs => exact .inl ⟨bs, rfl, by omega, by omega, by decide, rfl⟩
    | error e => exact .inr ⟨e, rfl, rfl⟩
  case round =>
    obtain ⟨k, m, s, rfl, rfl, hk10, hs, hx, hd⟩ := hrel
    rcases hd.out with ⟨bs, rfl, hk9, hm0, hm1, hu⟩ | ⟨e, rfl, hu⟩
    · clear hd
      have hraw := hs.ok
      have c1 := hraw.cell1
      have HU := Lib.hid hu
      have HM := Lib.hid hm1
      clear hu hm1
      go_wp2_with fail
      refine (rnext_any B g _ _ hs).mono ?_
      rintro e1 w1 ⟨rfl, hs1, hx1⟩
      rcases bs with _ | ⟨c, r⟩
      · obtain ⟨-, bs1, hraw1⟩ := RAt.err hs1
        simp only [nextR] at *
        rw [show (((0 : UInt8).toNat : Nat) : Int) = 0 from rfl]
        have c1' := hraw1.cell1
        by_cases hk0 : k = 0
        · subst hk0
          go_wp2_with fail
          go_roundw
          case rel => exact ⟨1, _, _, rfl, rfl, by omega, hs1, hx.trans hx1, Lib.hid (.inr ⟨3, rfl, HU.out.symm⟩)⟩
          case measure => simp [intOf]
        · have hk0b : decide ((0 : Int) < (k : Int)) = true := by simp; omega
          cases hk9b : ((k : Int) == 9)
          all_goals
            go_wp2_with fail
            refine (rfail_any B g bs1 3 2 _ hraw1).mono ?_
            rintro e2 w2 ⟨rfl, hraw2, hx2⟩
            rw [if_neg (by decide)] at hraw2
            have c1'' := hraw2.cell1
            go_wp2_with fail
            go_roundw
            case rel => exact ⟨k + 1, _, _, by go_num, rfl, by omega, hraw2.errAt (by decide), (hx.trans hx1).trans hx2, Lib.hid (.inr ⟨3, rfl, HU.out.symm⟩)⟩
            case measure => simp [intOf]; omega
      · have hraw1 := RAt.ok hs1
        simp only [nextR] at *
        have c1' := hraw1.cell1
        have hcl := u8_lt c
        obtain ⟨u, hu⟩ : ∃ u : Int, u = (c.toNat : Int) := ⟨_, rfl⟩
        by_cases hbad : (k = 9 ∧ 1 < c.toNat) ∨ (0 < k ∧ c.toNat = 0)
        · have HV : Hid (uintR s0 = (0, .error 2)) := Lib.hid (by rw [← HU.out, uintL, if_pos hbad])
          rw [← hu]
          have hu0 : 0 ≤ u := by omega
          have hu1 : u < 256 := by omega
          have hcases : (k = 9 ∧ 1 < u) ∨ (k ≠ 9 ∧ 0 < k ∧ u = 0) ∨ (k = 9 ∧ u = 0) := by omega
          clear hbad hu hcl
          rcases hcases with ⟨hk, hc⟩ | ⟨hkn, hk, hc⟩ | ⟨hk, hc⟩
          · subst hk
            go_wp2_with fail
            refine (rfail_any B g r 0 2 _ hraw1).mono ?_
            rintro e2 w2 ⟨rfl, hraw2, hx2⟩
            rw [if_pos rfl] at hraw2
            have c1'' := hraw2.cell1
            by_cases hc128 : u < 128
            · go_wp2_with fail
              go_roundw
              case rel => exact ⟨10, _, _, rfl, rfl, by omega, hraw2.errAt (by decide), (hx.trans hx1).trans hx2, Lib.hid (.inr ⟨2, rfl, HV.out⟩)⟩
              case measure => simp [intOf]
            · go_wp2_with fail
              go_roundw
              case rel => exact ⟨10, _, _, rfl, rfl, by omega, hraw2.errAt (by decide), (hx.trans hx1).trans hx2, Lib.hid (.inr ⟨2, rfl, HV.out⟩)⟩
              case measure => simp [intOf]
          · subst hc
            have hk9b : ((k : Int) == 9) = false := by simp; omega
            have hk0b : decide ((0 : Int) < (k : Int)) = true := by simp; omega
            go_wp2_with fail
            refine (rfail_any B g r 0 2 _ hraw1).mono ?_
            rintro e2 w2 ⟨rfl, hraw2, hx2⟩
            rw [if_pos rfl] at hraw2
            have c1'' := hraw2.cell1
            go_wp2_with fail
            go_roundw
            case rel => exact ⟨k + 1, _, _, by go_num, rfl, by omega, hraw2.errAt (by decide), (hx.trans hx1).trans hx2, Lib.hid (.inr ⟨2, rfl, HV.out⟩)⟩
            case measure => simp [intOf]; omega
          · subst hk hc
            go_wp2_with fail
            refine (rfail_any B g r 0 2 _ hraw1).mono ?_
            rintro e2 w2 ⟨rfl, hraw2, hx2⟩
            rw [if_pos rfl] at hraw2
            have c1'' := hraw2.cell1
            go_wp2_with fail
            go_roundw
            case rel => exact ⟨10, _, _, rfl, rfl, by omega, hraw2.errAt (by decide), (hx.trans hx1).trans hx2, Lib.hid (.inr ⟨2, rfl, HV.out⟩)⟩
            case measure => simp [intOf]
        · rw [← hu]
          by_cases h128 : c.toNat < 128
          · have HV : Hid (uintR s0 = (m + u * 128 ^ k, .ok r)) := Lib.hid (by rw [← HU.out, uintL, if_neg hbad, if_pos h128, hu])
            have hu0 : 0 ≤ u := by omega
            have hu1 : u < 128 := by omega
            have hb1 : k = 9 → u ≤ 1 := by omega
            have hb2 : 0 < k → u ≠ 0 := by omega
            clear hbad hu hcl h128
            by_cases hk : k = 9
            · have hu2 := hb1 hk
              have hd1 : decide (1 < u) = false := by simp; omega
              have hd2 : (u == 0) = false := by have := hb2 (by omega); simpa using this
              subst hk
              go_wp2_with fail
              go_ret
              rw [HV.out]
              refine ⟨ret_int ?_, hraw1.okAt, hx.trans hx1⟩
              rw [acc_walk9 m u hm0 HM.out hu0 hu2, Int.emod_eq_of_lt hu0 (by omega)]
            · have hk9b : ((k : Int) == 9) = false := by simp; omega
              by_cases hk0 : k = 0
              · subst hk0
                go_wp2_with fail
                go_ret
                rw [HV.out]
                refine ⟨ret_int ?_, hraw1.okAt, hx.trans hx1⟩
                rw [acc_walk0 m u hm0 HM.out hu0 (by omega), Int.emod_eq_of_lt hu0 (by omega)]
              · have hd2 : (u == 0) = false := by have := hb2 (by omega); simpa using this
                have hk0b : decide ((0 : Int) < (k : Int)) = true := by simp; omega
                go_wp2_with fail
                go_ret
                rw [HV.out]
                refine ⟨ret_int ?_, hraw1.okAt, hx.trans hx1⟩
                rw [acc_walk m u k hk9 hm0 HM.out hu0 (by omega) (by omega), Int.emod_eq_of_lt hu0 (by omega)]
          · have hk9' : k ≤ 8 := by
              rcases Nat.lt_or_ge k 9 with h | h
              · omega
              · exact absurd (.inl ⟨by omega, by omega⟩) hbad
            have HV : Hid (uintL (k + 1) (m + u % 128 * 128 ^ k) r = uintR s0) := Lib.hid (by
              rw [← HU.out, uintL, if_neg hbad, if_neg h128]
              congr 2
              rw [show u % 128 = ((c.toNat - 128 : Nat) : Int) by omega])
            have hb := mul_bound (u % 128) 127 (128 ^ k) (by omega) (by omega) (pow128 k hk9).2
            have HM' : Hid (0 ≤ m + u % 128 * 128 ^ k ∧ m + u % 128 * 128 ^ k < 128 ^ (k + 1)) := Lib.hid (by
              have := HM.out
              rw [Int.pow_succ]; omega)
            have hu0 : 128 ≤ u := by omega
            have hu1 : u < 256 := by omega
            have hd2 : (u == 0) = false := by simp; omega
            have hk9b : ((k : Int) == 9) = false := by simp; omega
            clear hbad hu hcl h128 hb
            by_cases hk0 : k = 0
            · subst hk0
              go_wp2_with fail
              go_roundw
              case rel => exact ⟨1, m + u % 128 * 128 ^ 0, .ok r, rfl, by rw [acc_walk0 m u hm0 HM.out (by omega) (by omega)], by omega, hraw1.okAt, hx.trans hx1, Lib.hid (.inl ⟨r, rfl, by omega, HM'.out.1, HM'.out.2, HV.out⟩)⟩
              case measure => simp [intOf]
            · have hk0b : decide ((0 : Int) < (k : Int)) = true := by simp; omega
              go_wp2_with fail
              go_roundw
              case rel => exact ⟨k + 1, m + u % 128 * 128 ^ k, .ok r, by go_num, by rw [acc_walk m u k hk9 hm0 HM.out (by omega) (by omega) (by omega)], by omega, hraw1.okAt, hx.trans hx1, Lib.hid (.inl ⟨r, rfl, by omega, HM'.out.1, HM'.out.2, HV.out⟩)⟩
              case measure => simp [intOf]; omega
    · clear hd
      obtain ⟨he, bs, hraw⟩ := RAt.err hs
      have c1 := hraw.cell1
      have he' : (e == 0) = false := by simpa using he
      go_wp2
      go_ret
      rw [hu]
      exact ⟨rfl, hs, hx⟩

end Go.Proofs.Ytjgpdimhgcacgaa
