/- the reference of package wire: its Reader: Uint, Int, Bool, length. -/
import Derived.Test.YtfkdaipmbakomaaWd3
import Derived.Test.YtfkdaipmbakomaaWe1
namespace Go.Proofs.Ytfkdaipmbakomaa
open Go.RowKit
set_option linter.unusedVariables false

/-- a reference Reader at block g: the bytes (in a block of B), the error -/
def QRaw (w : World) (B : Nat → Prop) (g : Nat) (bs : List UInt8) (e : Int) : Prop :=
  ∃ v, Blk w g 44 [v, .int .i64 e] ∧ Rd w v (vbs bs) ∧ Far v B g
def QAt (w : World) (B : Nat → Prop) (g : Nat) (s : RS) : Prop := ∃ bs e, QRaw w B g bs e ∧ RIs s bs e

section
variable {w w' : World} {B B' : Nat → Prop} {g : Nat} {bs : List UInt8} {e : Int} {s : RS}
theorem QRaw.lt (h : QRaw w B g bs e) : g < w.heap.size := h.choose_spec.1.lt
theorem QAt.lt (h : QAt w B g s) : g < w.heap.size := by obtain ⟨_, _, h, _⟩ := h; exact h.lt
theorem QRaw.ext (h : QRaw w B g bs e) (hx : Ext w w') : QRaw w' B g bs e := by
  obtain ⟨v, h1, h2, h3⟩ := h
  exact ⟨v, h1.ext hx, h2.ext hx, h3⟩
theorem QAt.ext (h : QAt w B g s) (hx : Ext w w') : QAt w' B g s := by
  obtain ⟨bs, e, h, hs⟩ := h
  exact ⟨bs, e, h.ext hx, hs⟩
theorem QAt.ok (h : QAt w B g (.ok bs)) : QRaw w B g bs 0 := by
  obtain ⟨bs', e, h, rfl, rfl⟩ := h; exact h
theorem QAt.err (h : QAt w B g (.error e)) : e ≠ 0 ∧ ∃ bs, QRaw w B g bs e := by
  obtain ⟨bs', e', h, rfl, he⟩ := h; exact ⟨he, _, h⟩
theorem QRaw.cell1 (h : QRaw w B g bs e) : w.cell? ⟨g, 1, none⟩ = some (.int .i64 e) := by
  obtain ⟨v, hb, _⟩ := h; exact hb.cell 1
theorem QRaw.okAt (h : QRaw w B g bs 0) : QAt w B g (.ok bs) := ⟨bs, 0, h, rfl, rfl⟩
theorem QRaw.errAt (h : QRaw w B g bs e) (he : e ≠ 0) : QAt w B g (.error e) := ⟨bs, e, h, rfl, he⟩
/-- the error is recorded -/
theorem QRaw.fail (h : QRaw w B g bs e) (x : Int) : QRaw (w.setCell ⟨g, 1, none⟩ (.int .i64 x)) B g bs x := by
  obtain ⟨v, hb, hr, hf⟩ := h
  exact ⟨v, hb.set 1 _, hr.chg (Chg.set g 1 w _) hf.ne, hf⟩
/-- another slice of the same block -/
theorem QRaw.store {bs' : List UInt8} {v v' : Value} (hb : Blk w g 44 [v, .int .i64 e]) (hr : Rd w v' (vbs bs')) (hf : Far v' B g) : QRaw (w.setCell ⟨g, 0, none⟩ v') B g bs' e :=
  ⟨v', hb.set 0 _, hr.chg (Chg.set g 0 w _) hf.ne, hf⟩
theorem QAt.mono (h : QAt w B g s) (hB : ∀ k, B k → B' k) : QAt w B' g s := by
  obtain ⟨bs, e, ⟨v, h1, h2, h3⟩, hs⟩ := h
  exact ⟨bs, e, ⟨v, h1, h2, fun k hk => ⟨(h3 k hk).1, hB k (h3 k hk).2⟩⟩, hs⟩
theorem QAt.chg {g' : Nat} (h : QAt w B g s) (hc : Chg g' w w') (hB : ∀ k, B k → k ≠ g') (hg : g ≠ g') : QAt w' B g s := by
  obtain ⟨bs, e, ⟨v, h1, h2, h3⟩, hs⟩ := h
  exact ⟨bs, e, ⟨v, hc.blk h1 hg, h2.chg hc (fun e => hB _ (h3 _ e).2 rfl), h3⟩, hs⟩
end

theorem Rd.dropAt {w : World} {bb off n c : Nat} {xs : List Value} (h : Rd w (.slice (some ⟨bb, off, none⟩) n c) xs) (j : Nat) (hj : j ≤ n) {o' n' c' : Nat} (ho : o' = off + j ∨ n' = 0) (hn : n' = n - j) (hc1 : n' ≤ c') (hc2 : c' ≤ c) :
    Rd w (.slice (some ⟨bb, o', none⟩) n' c') (xs.drop j) := by
  obtain ⟨A, c1, hv, h1, h2, h3⟩ := h
  injection hv with e1 e2 e3
  subst e2 e3
  refine ⟨some ⟨bb, o', none⟩, c', by rw [List.length_drop, hn], by rw [List.length_drop]; omega, by omega, ?_⟩
  rcases h3 with rfl | ⟨b, o, hA, hc⟩
  · exact .inl (by simp)
  · rw [← e1] at hA
    injection hA with hA
    injection hA with ha hb
    subst ha hb
    rcases ho with rfl | h0
    · refine .inr ⟨bb, off + j, rfl, fun i u hu => ?_⟩
      rw [Nat.add_assoc]
      exact hc (j + i) u (by simpa using hu)
    · exact .inl (List.drop_eq_nil_of_le (by omega))
theorem Rd.takeAt {w : World} {A : Option Addr} {n c : Nat} {xs : List Value} (h : Rd w (.slice A n c) xs) (j : Nat) (hj : j ≤ n) : Rd w (.slice A j c) (xs.take j) := by
  obtain ⟨A', c1, hv, h1, h2, h3⟩ := h
  injection hv with e1 e2 e3
  subst e1 e2 e3
  have hl : (xs.take j).length = j := by simp; omega
  refine ⟨A, c, by rw [hl], by rw [hl]; omega, h2, ?_⟩
  rcases h3 with rfl | ⟨b, o, hA, hc⟩
  · exact .inl (by simp)
  · refine .inr ⟨b, o, hA, fun i u hu => hc i u ?_⟩
    rw [List.getElem?_take] at hu
    split at hu
    · exact hu
    · cases hu

theorem vbs_drop (l : List UInt8) (j : Nat) : (vbs l).drop j = vbs (l.drop j) := by simp [vbs]
theorem vbs_take (l : List UInt8) (j : Nat) : (vbs l).take j = vbs (l.take j) := by simp [vbs]

/-- the accumulation, as the reference writes it -/
theorem qacc (m u : Int) (k : Nat) (hk : k ≤ 9) (h0 : 0 ≤ m) (h1 : m < 128 ^ k) (hu0 : 0 ≤ u) (hu : u < 256) (h9 : k = 9 → u % 128 ≤ 1) :
    IntKind.u64.wrap (m + IntKind.u64.wrap (u % 128 * 128 ^ k)) = m + u % 128 * 128 ^ k := by
  obtain ⟨p1, p2⟩ := pow128 k hk
  have hb : 0 ≤ u % 128 * 128 ^ k ∧ m + u % 128 * 128 ^ k < 18446744073709551616 := by
    by_cases h : k = 9
    · subst h
      have hb := mul_bound (u % 128) 1 (128 ^ 9) (by omega) (h9 rfl) p2
      omega
    · obtain ⟨p3, p4⟩ := pow128_8 k (by omega)
      have hb := mul_bound (u % 128) 127 (128 ^ k) (by omega) (by omega) p2
      omega
  rw [IntKind.wrap_u64, IntKind.wrap_u64]
  omega

set_option maxRecDepth 100000 in
set_option maxHeartbeats 4000000 in
theorem quint_any (B : Nat → Prop) (g : Nat) (s0 : RS) (w : World) (h : QAt w B g s0) :
    Calls Try.prog 50 #[.pointer (some ⟨g, 0, none⟩)] w fun e' w' => e' = .returned (.int .u64 (uintR s0).1) ∧ QAt w' B g (uintR s0).2 ∧ Chg g w w' := by
  cases s0 with
  | error e =>
    obtain ⟨he, bs, hraw⟩ := h.err
    have c1 := hraw.cell1
    have he' : (e == 0) = false := by simpa using he
    go_enter Try.func50, Try.ntmps50
    go_wp2_with fail
    go_loop [5, 3, 4] (fun i n u => True) (fun i _ _ => 0)
    case atStart => exact trivial
    case round =>
      go_wp2
      go_ret
      exact ⟨rfl, h, Chg.refl g w⟩
  | ok bs =>
    have hraw := h.ok
    have c1 := hraw.cell1
    obtain ⟨v, hb, hr, hf⟩ := h.ok
    have c0 := hb.cell 0
    have f0 := hb.frozen 0
    have f1 := hb.frozen 1
    simp only [List.getElem?_cons_zero] at c0
    have hr0 := hr
    obtain ⟨A, c, rfl, _⟩ := hr
    obtain ⟨_, a1, a2, a3⟩ := hr0.at
    simp only [vbs_len, maxLen] at *
    go_enter Try.func50, Try.ntmps50
    go_wp2_with fail
    go_loop [5, 3, 4] (fun i n u => ∃ k : Nat, ∃ m : Int, i = .int .i64 k ∧ n = .int .u64 m ∧ u = .int .u64 (128 ^ k) ∧ k ≤ 9 ∧ k ≤ bs.length ∧ 0 ≤ m ∧ m < 128 ^ k ∧ Hid (uintL k m (bs.drop k) = uintR (.ok bs))) (fun i _ _ => 11 - (intOf i).toNat)
    case atStart => exact ⟨0, 0, rfl, rfl, by simp, by omega, by omega, by omega, by decide, Lib.hid (by simp [uintR])⟩
    case round =>
      obtain ⟨k, m, rfl, rfl, rfl, hk9, hkl, hm0, hm1, HU⟩ := hrel
      have HM := Lib.hid hm1
      obtain ⟨P, hP⟩ : ∃ P : Int, P = 128 ^ k := ⟨_, rfl⟩
      have hPb := pow128 k hk9
      rw [← hP] at hPb ⊢
      obtain ⟨hPb1, hPb0⟩ := hPb
      have HP := Lib.hid hP
      clear hP hm1
      by_cases hlt : k < bs.length
      · obtain ⟨bb, off, rfl, hcx⟩ := a3 (by omega)
        have ck := hcx w (Ext.refl _) k (.int .u8 bs[k].toNat) (by simp [vbs, hlt])
        have hcl := u8_lt bs[k]
        have hdr : bs.drop k = bs[k] :: bs.drop (k + 1) := List.drop_eq_getElem_cons hlt
        rw [hdr] at HU
        have hne : ¬ bs = [] := by rintro rfl; simp at hlt
        clear hcx a3 hdr
        obtain ⟨x, hx⟩ : ∃ x, x = bs[k] := ⟨_, rfl⟩
        obtain ⟨u, hu⟩ : ∃ u : Int, u = (bs[k].toNat : Int) := ⟨_, rfl⟩
        rw [← hu] at ck
        rw [← hx] at hu hcl HU
        clear hx
        have hu0 : 0 ≤ u := by omega
        have hu1 : u < 256 := by omega
        by_cases hbad : (k = 9 ∧ 1 < x.toNat) ∨ (0 < k ∧ x.toNat = 0)
        · have HV : Hid (uintR (.ok bs) = (0, .error 2)) := Lib.hid (by rw [← HU.out, uintL, if_pos hbad])
          have hcases : (k = 9 ∧ 1 < u) ∨ (k ≠ 9 ∧ 0 < k ∧ u = 0) ∨ (k = 9 ∧ u = 0) := by omega
          clear hbad hu hcl HU
          rcases hcases with ⟨rfl, hc⟩ | ⟨hkn, hk, rfl⟩ | ⟨rfl, rfl⟩
          · go_wp2
            go_ret
            rw [HV.out]
            exact ⟨rfl, (hraw.fail 2).errAt (by decide), Chg.set g 1 w _⟩
          · have hk9b : ((k : Int) == 9) = false := by simp; omega
            have hk0b : decide ((0 : Int) < (k : Int)) = true := by simp; omega
            go_wp2
            go_ret
            rw [HV.out]
            exact ⟨rfl, (hraw.fail 2).errAt (by decide), Chg.set g 1 w _⟩
          · go_wp2
            go_ret
            rw [HV.out]
            exact ⟨rfl, (hraw.fail 2).errAt (by decide), Chg.set g 1 w _⟩
        · have hb1 : k = 9 → u ≤ 1 := by omega
          have hb2 : 0 < k → u ≠ 0 := by omega
          have HA : Hid (IntKind.u64.wrap (m + IntKind.u64.wrap (u % 128 * P)) = m + u % 128 * P) := Lib.hid (by
            rw [HP.out]; exact qacc m u k hk9 hm0 HM.out hu0 hu1 (by omega))
          by_cases h128 : x.toNat < 128
          · have HV : Hid (uintR (.ok bs) = (m + u % 128 * P, .ok (bs.drop (k + 1)))) := Lib.hid (by
              rw [← HU.out, uintL, if_neg hbad, if_pos h128, HP.out, Int.emod_eq_of_lt hu0 (by omega), hu])
            have hu2 : u < 128 := by omega
            clear hbad hu hcl HU h128
            have hq : k = 9 ∨ k = 0 ∨ (k ≠ 9 ∧ 0 < k) := by omega
            have hr2 : ∀ o' n' c' : Nat, (o' = off + (k + 1) ∨ n' = 0) → n' = bs.length - (k + 1) → n' ≤ c' → c' ≤ c → Rd w (.slice (some ⟨bb, o', none⟩) n' c') (vbs (bs.drop (k + 1))) := fun o' n' c' q1 q2 q3 q4 => by
              rw [← vbs_drop]; exact Rd.dropAt hr0 (k + 1) (by omega) q1 q2 q3 q4
            have HR := Lib.hid hr2
            clear hr2
            have hcap : c = k + 1 ∨ k + 1 < c := by omega
            rcases hcap with hcap | hcap
            · subst hcap
              rcases hq with rfl | rfl | ⟨hk1, hk2⟩
              · have hd1 : decide (1 < u) = false := by have := hb1 rfl; simp; omega
                have hd2 : (u == 0) = false := by have := hb2 (by omega); simpa using this
                go_wp2
                go_ret
                rw [HV.out]
                refine ⟨ret_int HA.out, (QRaw.store (v' := .slice (some ⟨bb, off, none⟩) 0 0) hb (HR.out off 0 0 (.inr rfl) (by omega) (by omega) (by omega)) hf).okAt, Chg.set g 0 w _⟩
              · rw [Nat.add_zero] at ck
                go_wp2
                go_ret
                rw [HV.out]
                refine ⟨ret_int HA.out, (QRaw.store (v' := .slice (some ⟨bb, off, none⟩) 0 0) hb (HR.out off 0 0 (.inr rfl) (by omega) (by omega) (by omega)) hf).okAt, Chg.set g 0 w _⟩
              · have hk9b : ((k : Int) == 9) = false := by simp; omega
                have hk0b : decide ((0 : Int) < (k : Int)) = true := by simp; omega
                have hd2 : (u == 0) = false := by have := hb2 (by omega); simpa using this
                go_wp2
                go_ret
                rw [HV.out]
                refine ⟨ret_int HA.out, (QRaw.store (v' := .slice (some ⟨bb, off, none⟩) 0 0) hb (HR.out off 0 0 (.inr rfl) (by omega) (by omega) (by omega)) hf).okAt, Chg.set g 0 w _⟩
            · rcases hq with rfl | rfl | ⟨hk1, hk2⟩
              · have hd1 : decide (1 < u) = false := by have := hb1 rfl; simp; omega
                have hd2 : (u == 0) = false := by have := hb2 (by omega); simpa using this
                go_wp2
                go_ret
                rw [HV.out]
                refine ⟨ret_int HA.out, (QRaw.store hb (HR.out _ _ _ (.inl rfl) (by omega) (by omega) (by omega)) hf).okAt, Chg.set g 0 w _⟩
              · rw [Nat.add_zero] at ck
                go_wp2
                go_ret
                rw [HV.out]
                refine ⟨ret_int HA.out, (QRaw.store hb (HR.out _ _ _ (.inl rfl) (by omega) (by omega) (by omega)) hf).okAt, Chg.set g 0 w _⟩
              · have hk9b : ((k : Int) == 9) = false := by simp; omega
                have hk0b : decide ((0 : Int) < (k : Int)) = true := by simp; omega
                have hd2 : (u == 0) = false := by have := hb2 (by omega); simpa using this
                go_wp2
                go_ret
                rw [HV.out]
                refine ⟨ret_int HA.out, (QRaw.store hb (HR.out _ _ _ (.inl rfl) (by omega) (by omega) (by omega)) hf).okAt, Chg.set g 0 w _⟩
          · have hk8 : k ≤ 8 := by
              rcases Nat.lt_or_ge k 9 with h | h
              · omega
              · exact absurd (.inl ⟨by omega, by omega⟩) hbad
            have HV : Hid (uintL (k + 1) (m + u % 128 * P) (bs.drop (k + 1)) = uintR (.ok bs)) := Lib.hid (by
              rw [← HU.out, uintL, if_neg hbad, if_neg h128, HP.out]
              congr 2
              rw [show u % 128 = ((x.toNat - 128 : Nat) : Int) by omega])
            have hb := mul_bound (u % 128) 127 P (by omega) (by omega) hPb0
            have hp8 := (pow128_8 k hk8).1
            rw [← HP.out] at hp8
            have HM' : Hid (0 ≤ m + u % 128 * P ∧ m + u % 128 * P < 128 ^ (k + 1)) := Lib.hid (by
              have := HM.out
              rw [← HP.out] at this
              rw [Int.pow_succ, ← HP.out]; omega)
            have HP' : Hid (P * 128 = 128 ^ (k + 1)) := Lib.hid (by rw [Int.pow_succ, ← HP.out])
            have hu2 : 128 ≤ u := by omega
            have hd2 : (u == 0) = false := by simp; omega
            have hk9b : ((k : Int) == 9) = false := by simp; omega
            clear hbad hu hcl h128 hb HU
            by_cases hk0 : k = 0
            · subst hk0
              rw [Nat.add_zero] at ck
              go_wp2
              go_round
              case rel => exact ⟨1, m + u % 128 * P, rfl, by rw [HA.out], by rw [HP'.out], by omega, by omega, HM'.out.1, HM'.out.2, HV⟩
              case measure => simp [intOf]
            · have hk0b : decide ((0 : Int) < (k : Int)) = true := by simp; omega
              go_wp2
              go_round
              case rel => exact ⟨k + 1, m + u % 128 * P, by go_num, by rw [HA.out], by rw [HP'.out], by omega, by omega, HM'.out.1, HM'.out.2, HV⟩
              case measure => simp [intOf]; omega
      · have HV : Hid (uintR (.ok bs) = (0, .error 3)) := Lib.hid (by rw [← HU.out, List.drop_eq_nil_of_le (by omega)]; rfl)
        clear a3
        go_wp2
        go_ret
        rw [HV.out]
        exact ⟨rfl, (hraw.fail 3).errAt (by decide), Chg.set g 1 w _⟩
end Go.Proofs.Ytfkdaipmbakomaa
