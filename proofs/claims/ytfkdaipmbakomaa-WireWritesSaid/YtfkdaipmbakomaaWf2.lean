/- the reference of package wire: its Reader: Int, Bool, length, Raw, Ints, End. -/
import Derived.Test.YtfkdaipmbakomaaWf1
namespace Go.Proofs.Ytfkdaipmbakomaa
open Go.RowKit
set_option linter.unusedVariables false

set_option maxHeartbeats 1000000 in
theorem back_any (z : Int) (w : World) (hz : 0 ≤ z ∧ z ≤ 18446744073709551615) :
    Calls Try.prog 63 #[.int .u64 z] w fun e w' => e = .returned (.int .i64 (unzig z)) ∧ w = w' := by
  obtain ⟨hz1, hz2⟩ := hz
  have h2 : z % 2 = 0 ∨ z % 2 = 1 := by omega
  rcases h2 with h | h
  · have h' : (z % 2 == 1) = false := by rw [h]; rfl
    have HZ := Lib.hid h
    clear h
    go_enter Try.func63, Try.ntmps63
    go_wp2
    go_ret
    exact ⟨ret_int (by rw [unzig, if_pos HZ.out]), rfl⟩
  · have h' : (z % 2 == 1) = true := by rw [h]; rfl
    have HZ := Lib.hid h
    clear h
    go_enter Try.func63, Try.ntmps63
    go_wp2
    go_ret
    refine ⟨ret_int ?_, rfl⟩
    rw [unzig, if_neg (by rw [HZ.out]; omega)]

set_option maxHeartbeats 1000000 in
theorem qint_any (B : Nat → Prop) (g : Nat) (s : RS) (w : World) (h : QAt w B g s) :
    Calls Try.prog 51 #[.pointer (some ⟨g, 0, none⟩)] w fun e' w' => e' = .returned (.int .i64 (intR s).1) ∧ QAt w' B g (intR s).2 ∧ Chg g w w' := by
  go_enter Try.func51, Try.ntmps51
  go_wp2_with fail
  refine (quint_any B g s _ h).mono ?_
  rintro e1 w1 ⟨rfl, h1, hx1⟩
  go_wp2_with fail
  refine (back_any _ _ (uintR_range s)).mono ?_
  rintro e1 w2 ⟨rfl, rfl⟩
  go_wp2
  go_ret
  exact ⟨rfl, h1, hx1⟩

set_option maxHeartbeats 1000000 in
theorem qend_any (B : Nat → Prop) (g : Nat) (s : RS) (w : World) (h : QAt w B g s) :
    Calls Try.prog 26 #[.pointer (some ⟨g, 0, none⟩)] w fun e' w' => e' = .returned (.int .i64 (endR s)) ∧ w = w' := by
  cases s with
  | error e =>
    obtain ⟨he, bs, hraw⟩ := h.err
    have c1 := hraw.cell1
    have he' : (e == 0) = false := by simpa using he
    go_enter Try.func26, Try.ntmps26
    go_wp2
    go_ret
    exact ⟨rfl, rfl⟩
  | ok bs =>
    obtain ⟨v, hb, hr, hf⟩ := h.ok
    have c0 := hb.cell 0
    have c1 := hb.cell 1
    simp only [List.getElem?_cons_succ, List.getElem?_cons_zero] at c0 c1
    obtain ⟨A, c, rfl, -⟩ := hr
    rw [vbs_len] at c0
    rcases bs with _ | ⟨b, r⟩
    · go_enter Try.func26, Try.ntmps26
      go_wp2
      go_ret
      exact ⟨rfl, rfl⟩
    · have hl : 0 < (b :: r).length := by simp
      generalize (b :: r).length = n at *
      go_enter Try.func26, Try.ntmps26
      go_wp2
      go_ret
      exact ⟨rfl, rfl⟩

set_option maxHeartbeats 2000000 in
theorem qbool_any (B : Nat → Prop) (g : Nat) (s : RS) (w : World) (h : QAt w B g s) :
    Calls Try.prog 52 #[.pointer (some ⟨g, 0, none⟩)] w fun e' w' => e' = .returned (.bool (boolR s).1) ∧ QAt w' B g (boolR s).2 ∧ Chg g w w' := by
  cases s with
  | error e =>
    obtain ⟨he, bs, hraw⟩ := h.err
    have c1 := hraw.cell1
    have he' : (e == 0) = false := by simpa using he
    have he2 : (e != 0) = true := by simpa using he
    go_enter Try.func52, Try.ntmps52
    go_wp2
    go_ret
    exact ⟨rfl, h, Chg.refl g w⟩
  | ok bs =>
    have hraw := h.ok
    obtain ⟨v, hb, hr, hf⟩ := h.ok
    have c0 := hb.cell 0
    have c1 := hb.cell 1
    have f0 := hb.frozen 0
    have f1 := hb.frozen 1
    simp only [List.getElem?_cons_succ, List.getElem?_cons_zero] at c0 c1
    have hr0 := hr
    obtain ⟨A, c, rfl, -⟩ := hr
    obtain ⟨-, a1, a2, a3⟩ := hr0.at
    simp only [vbs_len] at *
    rcases bs with _ | ⟨b, r⟩
    · go_enter Try.func52, Try.ntmps52
      go_wp2
      go_ret
      exact ⟨rfl, (hraw.fail 3).errAt (by decide), Chg.set g 1 w _⟩
    · obtain ⟨bb, off, rfl, hcx⟩ := a3 (by simp)
      have hck := hcx w (Ext.refl _) 0 (.int .u8 b.toNat) (by simp [vbs])
      rw [Nat.add_zero] at hck
      have hu0 := u8_lt b
      obtain ⟨u, hu⟩ : ∃ u, u = b.toNat := ⟨_, rfl⟩
      have HB : Hid (boolR (.ok (b :: r)) = if 1 < u then (false, .error 2) else (u == 1, .ok r)) := Lib.hid (by rw [hu]; rfl)
      rw [← hu] at hu0 hck
      have hr2 : ∀ o' n' c' : Nat, (o' = off + 1 ∨ n' = 0) → n' = r.length + 1 - 1 → n' ≤ c' → c' ≤ c → Rd w (.slice (some ⟨bb, o', none⟩) n' c') (vbs r) := fun o' n' c' q1 q2 q3 q4 =>
        Rd.dropAt hr0 1 (by simp) q1 q2 q3 q4
      have HR := Lib.hid hr2
      simp only [List.length_cons] at *
      clear hr2 hu hcx a3 h
      generalize hn : r.length = n at *
      have hl : (((n + 1 : Nat) : Int) == 0) = false := by simp; omega
      have hl2 : ((n : Int) + 1 == 0) = false := by simp; omega
      have HN := Lib.hid hn
      clear hn
      by_cases h2 : 1 < u
      · rw [if_pos h2] at HB
        clear hr0
        go_enter Try.func52, Try.ntmps52
        go_wp2
        go_ret
        rw [HB.out]
        exact ⟨rfl, (hraw.fail 2).errAt (by decide), Chg.set g 1 w _⟩
      · rw [if_neg h2] at HB
        have h3 : ¬ ((1 : Int) < (u : Int)) := by omega
        have HC : Hid (((u : Int) == 1) = (u == 1)) := Lib.hid (by rw [Bool.eq_iff_iff, beq_iff_eq, beq_iff_eq]; omega)
        have hcap : c = 1 ∨ 1 < c := by omega
        clear hraw hr0 h2
        rcases hcap with rfl | hcap
        · have : n = 0 := by omega
          subst this
          go_enter Try.func52, Try.ntmps52
          go_wp2
          go_ret
          rw [HB.out]
          exact ⟨by rw [← HC.out]; rfl, (QRaw.store (v' := .slice (some ⟨bb, off, none⟩) 0 0) hb (HR.out off 0 0 (.inr rfl) (by omega) (by omega) (by omega)) hf).okAt, Chg.set g 0 w _⟩
        · go_enter Try.func52, Try.ntmps52
          go_wp2
          go_ret
          rw [HB.out]
          exact ⟨by rw [← HC.out]; rfl, (QRaw.store hb (HR.out _ _ _ (.inl rfl) (by omega) (by omega) (by omega)) hf).okAt, Chg.set g 0 w _⟩

def lenV (p : Nat × RS) : Int := match p.2 with | .ok _ => (p.1 : Int) | .error _ => 0
theorem lenV_err {p : Nat × RS} {e : Int} (h : p.2 = .error e) : lenV p = 0 := by unfold lenV; rw [h]
theorem lenV_ok (n : Nat) (bs : List UInt8) : lenV (n, .ok bs) = n := rfl

set_option maxHeartbeats 2000000 in
theorem qlength_any (B : Nat → Prop) (g : Nat) (s : RS) (w : World) (h : QAt w B g s) (hl : ∀ bs, (uintR s).2 = .ok bs → bs.length ≤ 1000000000) :
    Calls Try.prog 64 #[.pointer (some ⟨g, 0, none⟩)] w fun e' w' => e' = .returned (.int .i64 (lenV (lenR s))) ∧ QAt w' B g (lenR s).2 ∧ Chg g w w' := by
  have hrg := uintR_range s
  go_enter Try.func64, Try.ntmps64
  go_wp2_with fail
  refine (quint_any B g s _ h).mono ?_
  rintro e1 w1 ⟨rfl, h1, hx1⟩
  rcases hu : uintR s with ⟨n, s1⟩
  rw [hu] at h1 hrg hl
  obtain ⟨hn0, hn1⟩ := hrg
  simp only at hn0 hn1 h1 ⊢
  cases s1 with
  | error e =>
    have HL : Hid ((lenR s).2 = .error e) := Lib.hid (by unfold lenR; rw [hu])
    clear hu
    obtain ⟨he, bs, hraw⟩ := h1.err
    have c1 := hraw.cell1
    have he' : (e == 0) = false := by simpa using he
    have he2 : (e != 0) = true := by simpa using he
    go_wp2
    go_ret
    rw [lenV_err HL.out, HL.out]
    exact ⟨rfl, h1, hx1⟩
  | ok bs =>
    have hbl := hl bs rfl
    have hraw := h1.ok
    obtain ⟨v, hb, hr, hf⟩ := h1.ok
    have c0 := hb.cell 0
    have c1 := hb.cell 1
    have f1 := hb.frozen 1
    simp only [List.getElem?_cons_succ, List.getElem?_cons_zero] at c0 c1
    obtain ⟨A, c, rfl, -⟩ := hr
    rw [vbs_len] at c0
    by_cases hs : (bs.length : Int) < n
    · have HL : Hid ((lenR s).2 = .error 3) := Lib.hid (by unfold lenR; rw [hu]; simp only; rw [if_pos hs])
      clear hu hl
      go_wp2
      go_ret
      rw [lenV_err HL.out, HL.out]
      exact ⟨rfl, (hraw.fail 3).errAt (by decide), hx1.trans (Chg.set g 1 w1 _)⟩
    · have HL : Hid (lenR s = (n.toNat, .ok bs)) := Lib.hid (by unfold lenR; rw [hu]; simp only; rw [if_neg hs])
      clear hu hl
      go_wp2
      go_ret
      rw [HL.out]
      exact ⟨ret_int (by rw [lenV_ok]; omega), h1, hx1⟩
end Go.Proofs.Ytfkdaipmbakomaa
