/- package wire: the laws' values: what is written and read, in sequences; one encoding; prefixes. Nothing of the program is named. -/
import Derived.Test.YtfkdaipmbakomaaWq
namespace Go.Proofs.Ytfkdaipmbakomaa
open Go.RowKit
set_option linter.unusedVariables false

/-- a value of the laws: 0 unsigned, 1 signed, 2 truth value, 3 string, 4 byte slice, 5 list -/
structure WV where
  k : Nat
  u : Int
  n : Int
  b : List UInt8
  l : List Int
def vU (n : Int) : WV := ⟨0, n, 0, [], []⟩
def vI (n : Int) : WV := ⟨1, 0, n, [], []⟩
def vT (t : Bool) : WV := ⟨2, 0, if t then 1 else 0, [], []⟩
def vS (bs : List UInt8) : WV := ⟨3, 0, 0, bs, []⟩
def vR (bs : List UInt8) : WV := ⟨4, 0, 0, bs, []⟩
def vL (xs : List Int) : WV := ⟨5, 0, 0, [], xs⟩
def WV.ok (v : WV) : Prop :=
  (∃ n : Int, v = vU n ∧ 0 ≤ n ∧ n ≤ 18446744073709551615) ∨ (∃ n, v = vI n ∧ inI64 n) ∨ (∃ t, v = vT t) ∨
  (∃ bs, v = vS bs ∧ bs.length ≤ 100000) ∨ (∃ bs, v = vR bs ∧ bs.length ≤ 100000) ∨ (∃ xs, v = vL xs ∧ xs.length ≤ 100000 ∧ ∀ n ∈ xs, inI64 n)
def encV (v : WV) : List UInt8 :=
  if v.k = 0 then uvar v.u else if v.k = 1 then uvar (zig v.n) else if v.k = 2 then boolW (v.n == 1) else if v.k = 3 ∨ v.k = 4 then rawW v.b else intsW v.l
def encVs (l : List WV) : List UInt8 := l.flatMap encV
def readV (k : Nat) (s : RS) : WV × RS :=
  if k = 0 then (vU (uintR s).1, (uintR s).2) else if k = 1 then (vI (intR s).1, (intR s).2) else if k = 2 then (vT (boolR s).1, (boolR s).2)
  else if k = 3 then (vS (rawR s).1, (rawR s).2) else if k = 4 then (vR (rawR s).1, (rawR s).2) else (vL (intsR s).1, (intsR s).2)

theorem encVs_app (a b : List WV) : encVs (a ++ b) = encVs a ++ encVs b := by simp [encVs]
theorem encVs_one (v : WV) : encVs [v] = encV v := by simp [encVs]
theorem encVs_cons (v : WV) (l : List WV) : encVs (v :: l) = encV v ++ encVs l := by simp [encVs]
theorem encV_U (n : Int) : encV (vU n) = uvar n := rfl
theorem encV_I (n : Int) : encV (vI n) = uvar (zig n) := rfl
theorem encV_T (t : Bool) : encV (vT t) = boolW t := by cases t <;> rfl
theorem encV_S (bs : List UInt8) : encV (vS bs) = rawW bs := rfl
theorem encV_R (bs : List UInt8) : encV (vR bs) = rawW bs := rfl
theorem encV_L (xs : List Int) : encV (vL xs) = intsW xs := rfl
theorem rawW_len (bs : List UInt8) (h : bs.length ≤ 100000) : (rawW bs).length ≤ 100010 := by
  have := uvar_len10 bs.length (by omega)
  unfold rawW; simp; omega
theorem intsW_len (xs : List Int) (h : xs.length ≤ 100000) (hx : ∀ n ∈ xs, inI64 n) : (intsW xs).length ≤ 1000010 := by
  have := uvar_len10 xs.length (by omega)
  have := itemsW_len xs hx
  unfold intsW; simp; omega
theorem encV_len (v : WV) (h : v.ok) : (encV v).length ≤ 1000010 := by
  rcases h with ⟨n, rfl, h1, h2⟩ | ⟨n, rfl, h⟩ | ⟨t, rfl⟩ | ⟨bs, rfl, h⟩ | ⟨bs, rfl, h⟩ | ⟨xs, rfl, h, hx⟩
  · have := uvar_len10 n h2; rw [encV_U]; omega
  · have := uvar_len10 (zig n) (zig_range n h).2; rw [encV_I]; omega
  · rw [encV_T]; cases t <;> simp [boolW]
  · have := rawW_len bs h; rw [encV_S]; omega
  · have := rawW_len bs h; rw [encV_R]; omega
  · exact intsW_len xs h hx
theorem encVs_len : ∀ (l : List WV), (∀ v ∈ l, v.ok) → (encVs l).length ≤ 1000010 * l.length
  | [], _ => by simp [encVs]
  | v :: r, h => by
    have h1 := encVs_len r (fun x hx => h x (by simp [hx]))
    have h2 := encV_len v (h v (by simp))
    rw [encVs_cons]; simp; omega

/-- what was written is read -/
theorem readV_enc (v : WV) (rest : List UInt8) (h : v.ok) : readV v.k (.ok (encV v ++ rest)) = (v, .ok rest) := by
  rcases h with ⟨n, rfl, h1, h2⟩ | ⟨n, rfl, h⟩ | ⟨t, rfl⟩ | ⟨bs, rfl, h⟩ | ⟨bs, rfl, h⟩ | ⟨xs, rfl, h, hx⟩
  · rw [encV_U]; show (vU (uintR _).1, (uintR _).2) = _; rw [uintR_uvar n rest ⟨h1, h2⟩]
  · rw [encV_I]; show (vI (intR _).1, (intR _).2) = _; rw [intR_uvar n rest h]
  · rw [encV_T]; show (vT (boolR _).1, (boolR _).2) = _; rw [boolR_boolW t rest]
  · rw [encV_S]; show (vS (rawR _).1, (rawR _).2) = _; rw [rawR_rawW bs rest (by omega)]
  · rw [encV_R]; show (vR (rawR _).1, (rawR _).2) = _; rw [rawR_rawW bs rest (by omega)]
  · rw [encV_L]; show (vL (intsR _).1, (intsR _).2) = _; rw [intsR_intsW xs rest (by omega) hx]

/-- one encoding -/
theorem uintL_back : ∀ (bs : List UInt8) (i : Nat) (n m : Int) (rest : List UInt8), uintL i n bs = (m, .ok rest) →
    ∃ d : Int, 0 ≤ d ∧ (0 < i → 1 ≤ d) ∧ m = n + d * 128 ^ i ∧ bs = uvar d ++ rest
  | [], i, n, m, rest, h => by simp [uintL] at h
  | c :: r, i, n, m, rest, h => by
    have hc := u8_lt c
    rw [uintL] at h
    split at h
    · cases h
    · rename_i hx
      split at h
      · rename_i h128
        simp only [Prod.mk.injEq, Except.ok.injEq] at h
        obtain ⟨rfl, rfl⟩ := h
        refine ⟨c.toNat, by omega, fun hi => by omega, rfl, ?_⟩
        rw [uvar_lo _ (by omega)]
        simp
      · rename_i h128
        obtain ⟨d, h1, h2, h3, h4⟩ := uintL_back r _ _ _ _ h
        have h2 := h2 (by omega)
        refine ⟨((c.toNat - 128 : Nat) : Int) + 128 * d, by omega, by omega, ?_, ?_⟩
        · rw [h3, Int.pow_succ, Int.add_mul]
          have : d * (128 ^ i * 128) = 128 * d * 128 ^ i := by rw [Int.mul_comm (128 ^ i) 128, ← Int.mul_assoc, Int.mul_comm d 128]
          omega
        · rw [uvar_hi _ (by omega), h4]
          have e1 : UInt8.ofNat (128 + (((c.toNat - 128 : Nat) : Int) + 128 * d).toNat % 128) = c := by
            apply UInt8.toNat_inj.1; rw [UInt8.toNat_ofNat']; omega
          have e2 : (((c.toNat - 128 : Nat) : Int) + 128 * d) / 128 = d := by omega
          rw [e1, e2]; rfl
theorem uintR_back (bs rest : List UInt8) (m : Int) (h : uintR (.ok bs) = (m, .ok rest)) : bs = uvar m ++ rest := by
  obtain ⟨d, h1, h2, h3, h4⟩ := uintL_back bs 0 0 m rest h
  rw [h3, h4]; simp
theorem intR_back (bs rest : List UInt8) (n : Int) (h : intR (.ok bs) = (n, .ok rest)) : bs = uvar (zig n) ++ rest := by
  unfold intR at h
  have hr := uintR_range (.ok bs)
  rcases hu : uintR (.ok bs) with ⟨z, s⟩
  rw [hu] at h hr
  simp only [Prod.mk.injEq] at h
  obtain ⟨rfl, rfl⟩ := h
  rw [zig_unzig z hr.1]
  exact uintR_back bs rest z hu
theorem boolR_back (bs rest : List UInt8) (t : Bool) (h : boolR (.ok bs) = (t, .ok rest)) : bs = boolW t ++ rest := by
  rcases bs with _ | ⟨c, r⟩
  · cases h
  · simp only [boolR, nextR] at h
    split at h
    · cases h
    · rename_i hc
      simp only [Prod.mk.injEq, Except.ok.injEq] at h
      obtain ⟨rfl, rfl⟩ := h
      have : c = 0 ∨ c = 1 := by
        have : c.toNat = 0 ∨ c.toNat = 1 := by omega
        rcases this with h | h
        · exact .inl (UInt8.toNat_inj.1 h)
        · exact .inr (UInt8.toNat_inj.1 h)
      rcases this with rfl | rfl <;> rfl
theorem lenR_back (bs r : List UInt8) (n : Nat) (h : lenR (.ok bs) = (n, .ok r)) : bs = uvar n ++ r ∧ n ≤ r.length := by
  unfold lenR at h
  have hr := uintR_range (.ok bs)
  rcases hu : uintR (.ok bs) with ⟨z, s⟩
  rw [hu] at h hr
  cases s with
  | error e => simp at h
  | ok l =>
    simp only at h
    split at h
    · cases h
    · rename_i hx
      simp only [Prod.mk.injEq, Except.ok.injEq] at h
      obtain ⟨rfl, rfl⟩ := h
      refine ⟨?_, by omega⟩
      rw [show ((z.toNat : Nat) : Int) = z by omega]
      exact uintR_back bs l z hu
theorem bytesR_err (n : Nat) (out : List UInt8) (e : Int) : bytesR n out (.error e) = ([], .error e) := by cases n <;> rfl
theorem numsR_err (n : Nat) (out : List Int) (e : Int) : numsR n out (.error e) = ([], .error e) := by cases n <;> rfl
theorem bytesR_back : ∀ (n : Nat) (out bs o rest : List UInt8), bytesR n out (.ok bs) = (o, .ok rest) → ∃ l, l.length = n ∧ o = out ++ l ∧ bs = l ++ rest
  | 0, out, bs, o, rest, h => by
    simp only [bytesR, Prod.mk.injEq, Except.ok.injEq] at h
    exact ⟨[], rfl, by simp [h.1], by simp [h.2]⟩
  | n + 1, out, [], o, rest, h => by
    simp only [bytesR, nextR, bytesR_err, Prod.mk.injEq] at h
    cases h.2
  | n + 1, out, c :: r, o, rest, h => by
    simp only [bytesR, nextR] at h
    obtain ⟨l, h1, h2, h3⟩ := bytesR_back n _ r o rest h
    exact ⟨c :: l, by simp [h1], by simp [h2], by simp [h3]⟩
theorem numsR_back : ∀ (n : Nat) (out o : List Int) (bs rest : List UInt8), numsR n out (.ok bs) = (o, .ok rest) → ∃ l, l.length = n ∧ o = out ++ l ∧ bs = itemsW l ++ rest ∧ ∀ x ∈ l, inI64 x
  | 0, out, o, bs, rest, h => by
    simp only [numsR, Prod.mk.injEq, Except.ok.injEq] at h
    exact ⟨[], rfl, by simp [h.1], by simp [h.2, itemsW], by simp⟩
  | n + 1, out, o, bs, rest, h => by
    simp only [numsR] at h
    rcases hu : intR (.ok bs) with ⟨x, s⟩
    have hx := intR_range (.ok bs)
    rw [hu] at h hx
    cases s with
    | error e => simp only [numsR_err, Prod.mk.injEq] at h; cases h.2
    | ok r =>
      obtain ⟨l, h1, h2, h3, h4⟩ := numsR_back n _ o r rest h
      have := intR_back bs r x hu
      refine ⟨x :: l, by simp [h1], by simp [h2], ?_, by simpa using ⟨hx, h4⟩⟩
      rw [show x :: l = [x] ++ l from rfl, itemsW_app, itemsW_one, List.append_assoc, ← h3]; exact this
theorem rawR_back (bs o rest : List UInt8) (h : rawR (.ok bs) = (o, .ok rest)) : bs = rawW o ++ rest ∧ o.length ≤ bs.length := by
  unfold rawR at h
  rcases hu : lenR (.ok bs) with ⟨n, s⟩
  rw [hu] at h
  cases s with
  | error e => simp only [bytesR_err, Prod.mk.injEq] at h; cases h.2
  | ok r =>
    obtain ⟨h1, h2⟩ := lenR_back bs r n hu
    obtain ⟨l, h3, h4, h5⟩ := bytesR_back n [] r o rest h
    simp only [List.nil_append] at h4
    subst h4
    refine ⟨?_, by rw [h1, h5]; simp; omega⟩
    rw [rawW, h3, List.append_assoc, ← h5]; exact h1
theorem intsR_back (bs rest : List UInt8) (o : List Int) (h : intsR (.ok bs) = (o, .ok rest)) : bs = intsW o ++ rest ∧ o.length ≤ bs.length ∧ ∀ x ∈ o, inI64 x := by
  unfold intsR at h
  rcases hu : lenR (.ok bs) with ⟨n, s⟩
  rw [hu] at h
  cases s with
  | error e => simp only [numsR_err, Prod.mk.injEq] at h; cases h.2
  | ok r =>
    obtain ⟨h1, h2⟩ := lenR_back bs r n hu
    obtain ⟨l, h3, h4, h5, h6⟩ := numsR_back n [] o r rest h
    simp only [List.nil_append] at h4
    subst h4
    refine ⟨?_, by rw [h1]; simp; omega, h6⟩
    rw [intsW, h3, List.append_assoc, ← h5]; exact h1
theorem readV_back (k : Nat) (hk : k ≤ 5) (bs rest : List UInt8) (v : WV) (hl : bs.length ≤ 100000) (h : readV k (.ok bs) = (v, .ok rest)) : v.ok ∧ v.k = k ∧ bs = encV v ++ rest := by
  have hc : k = 0 ∨ k = 1 ∨ k = 2 ∨ k = 3 ∨ k = 4 ∨ k = 5 := by omega
  rcases hc with rfl | rfl | rfl | rfl | rfl | rfl
  · have hr := uintR_range (.ok bs)
    simp only [readV, if_true] at h
    rcases hu : uintR (.ok bs) with ⟨z, s⟩
    rw [hu] at h hr
    simp only [Prod.mk.injEq] at h
    obtain ⟨rfl, rfl⟩ := h
    exact ⟨.inl ⟨z, rfl, hr⟩, rfl, by rw [encV_U]; exact uintR_back _ _ _ hu⟩
  · have hr := intR_range (.ok bs)
    simp [readV] at h
    rcases hu : intR (.ok bs) with ⟨z, s⟩
    rw [hu] at h hr
    obtain ⟨rfl, rfl⟩ := h
    exact ⟨.inr (.inl ⟨z, rfl, hr⟩), rfl, by rw [encV_I]; exact intR_back _ _ _ hu⟩
  · simp [readV] at h
    rcases hu : boolR (.ok bs) with ⟨z, s⟩
    rw [hu] at h
    obtain ⟨rfl, rfl⟩ := h
    exact ⟨.inr (.inr (.inl ⟨z, rfl⟩)), rfl, by rw [encV_T]; exact boolR_back _ _ _ hu⟩
  · simp [readV] at h
    rcases hu : rawR (.ok bs) with ⟨z, s⟩
    rw [hu] at h
    obtain ⟨rfl, rfl⟩ := h
    obtain ⟨h1, h2⟩ := rawR_back _ _ _ hu
    exact ⟨.inr (.inr (.inr (.inl ⟨z, rfl, by omega⟩))), rfl, by rw [encV_S]; exact h1⟩
  · simp [readV] at h
    rcases hu : rawR (.ok bs) with ⟨z, s⟩
    rw [hu] at h
    obtain ⟨rfl, rfl⟩ := h
    obtain ⟨h1, h2⟩ := rawR_back _ _ _ hu
    exact ⟨.inr (.inr (.inr (.inr (.inl ⟨z, rfl, by omega⟩)))), rfl, by rw [encV_R]; exact h1⟩
  · simp [readV] at h
    rcases hu : intsR (.ok bs) with ⟨z, s⟩
    rw [hu] at h
    obtain ⟨rfl, rfl⟩ := h
    obtain ⟨h1, h2, h3⟩ := intsR_back _ _ _ hu
    exact ⟨.inr (.inr (.inr (.inr (.inr ⟨z, rfl, by omega, h3⟩)))), rfl, by rw [encV_L]; exact h1⟩

/-- errors stay -/
def zeroV (k : Nat) : WV := ⟨k, 0, 0, [], []⟩
theorem readV_err (k : Nat) (hk : k ≤ 5) (e : Int) : readV k (.error e) = (zeroV k, .error e) := by
  have hc : k = 0 ∨ k = 1 ∨ k = 2 ∨ k = 3 ∨ k = 4 ∨ k = 5 := by omega
  rcases hc with rfl | rfl | rfl | rfl | rfl | rfl <;> rfl
theorem readV_k (k : Nat) (hk : k ≤ 5) (s : RS) : (readV k s).1.k = k := by
  have hc : k = 0 ∨ k = 1 ∨ k = 2 ∨ k = 3 ∨ k = 4 ∨ k = 5 := by omega
  rcases hc with rfl | rfl | rfl | rfl | rfl | rfl <;> rfl

/-- prefixes -/
theorem uintL_prefix (d : Int) (i : Nat) (m : Int) (p q : List UInt8) (h0 : 0 ≤ d) (hi : i ≤ 9) (hn : d * 128 ^ i ≤ 18446744073709551615) (h : uvar d = p ++ q) (hq : q ≠ []) : uintL i m p = (0, .error 3) := by
  have h9 : i = 9 → d ≤ 1 := by
    rintro rfl
    have : (128 : Int) ^ 9 = 9223372036854775808 := by decide
    rw [this] at hn; omega
  rcases p with _ | ⟨c, p⟩
  · rfl
  · by_cases hl : d < 128
    · rw [uvar_lo d hl] at h
      simp only [List.cons_append, List.cons.injEq] at h
      have := h.2
      simp at this
      exact absurd this.2 hq
    · rw [uvar_hi d (by omega)] at h
      simp only [List.cons_append, List.cons.injEq] at h
      obtain ⟨rfl, h⟩ := h
      have hc := u8_ofNat (128 + d.toNat % 128) (by omega)
      rw [uintL, if_neg (by omega), if_neg (by omega)]
      refine uintL_prefix (d / 128) (i + 1) _ p q (by omega) (by omega) ?_ h hq
      have hs := split128 d (128 ^ i)
      have hp := (pow128 i hi).2
      have hq := Int.mul_nonneg (show 0 ≤ d % 128 by omega) (show (0 : Int) ≤ 128 ^ i by omega)
      rw [Int.pow_succ]; omega
termination_by d.toNat
decreasing_by omega
theorem uintR_prefix (d : Int) (p q : List UInt8) (h0 : 0 ≤ d) (hn : d ≤ 18446744073709551615) (h : uvar d = p ++ q) (hq : q ≠ []) : uintR (.ok p) = (0, .error 3) :=
  uintL_prefix d 0 0 p q h0 (by omega) (by simp; omega) h hq
theorem intR_prefix (n : Int) (p q : List UInt8) (hn : inI64 n) (h : uvar (zig n) = p ++ q) (hq : q ≠ []) : intR (.ok p) = (0, .error 3) := by
  unfold intR
  rw [uintR_prefix (zig n) p q (zig_range n hn).1 (zig_range n hn).2 h hq]; rfl
theorem lenR_short (n : Nat) (a : List UInt8) (hn : (n : Int) ≤ 18446744073709551615) (h : a.length < n) : (lenR (.ok (uvar n ++ a))).2 = .error 3 := by
  unfold lenR
  rw [uintR_uvar n a ⟨by omega, hn⟩]
  simp only
  rw [if_pos (by omega)]
theorem app_split {a b p q : List UInt8} (h : a ++ b = p ++ q) (hq : q ≠ []) : (∃ c, a = p ++ c ∧ c ≠ []) ∨ (∃ c, p = a ++ c ∧ b = c ++ q) := by
  rcases List.append_eq_append_iff.1 h with ⟨c, h1, h2⟩ | ⟨c, h1, h2⟩
  · exact .inr ⟨c, h1, h2⟩
  · by_cases hc : c = []
    · subst hc
      simp at h1 h2
      exact .inr ⟨[], by simp [h1], by simp [h2]⟩
    · exact .inl ⟨c, h1, hc⟩
theorem rawR_prefix (bs p q : List UInt8) (hl : bs.length ≤ 100000) (h : rawW bs = p ++ q) (hq : q ≠ []) : (rawR (.ok p)).2 = .error 3 := by
  have he : (lenR (.ok p)).2 = .error 3 := by
    rcases app_split h hq with ⟨c, h1, h2⟩ | ⟨c, rfl, h2⟩
    · unfold lenR; rw [uintR_prefix bs.length p c (by omega) (by omega) h1 h2]
    · refine lenR_short bs.length c (by omega) ?_
      have h3 := congrArg List.length h2
      rw [List.length_append] at h3
      have h4 := List.length_pos_iff.2 hq
      omega
  unfold rawR
  rw [he, bytesR_err]
theorem numsR_prefix : ∀ (l out : List Int) (a q : List UInt8), (∀ n ∈ l, inI64 n) → itemsW l = a ++ q → q ≠ [] → (numsR l.length out (.ok a)).2 = .error 3
  | [], out, a, q, _, h, hq => by
    have : a ++ q = [] := h.symm
    simp at this
    exact absurd this.2 hq
  | n :: r, out, a, q, hl, h, hq => by
    rw [show n :: r = [n] ++ r from rfl, itemsW_app, itemsW_one] at h
    simp only [List.length_cons, numsR]
    rcases app_split h hq with ⟨c, h1, h2⟩ | ⟨c, rfl, h2⟩
    · rw [intR_prefix n a c (hl n (by simp)) h1 h2, numsR_err]
    · rw [intR_uvar n c (hl n (by simp))]
      exact numsR_prefix r _ c q (fun x hx => hl x (by simp [hx])) h2 hq
theorem intsR_prefix (xs : List Int) (p q : List UInt8) (hl : xs.length ≤ 100000) (hx : ∀ n ∈ xs, inI64 n) (h : intsW xs = p ++ q) (hq : q ≠ []) : (intsR (.ok p)).2 = .error 3 := by
  unfold intsR
  rcases app_split h hq with ⟨c, h1, h2⟩ | ⟨c, rfl, h2⟩
  · have he : (lenR (.ok p)).2 = .error 3 := by unfold lenR; rw [uintR_prefix xs.length p c (by omega) (by omega) h1 h2]
    rw [he, numsR_err]
  · by_cases hs : c.length < xs.length
    · rw [lenR_short xs.length c (by omega) hs, numsR_err]
    · rw [lenR_uvar xs.length c (by omega) (by omega)]
      exact numsR_prefix xs [] c q hx h2 hq
theorem readV_prefix (v : WV) (p q : List UInt8) (hv : v.ok) (h : encV v = p ++ q) (hq : q ≠ []) : (readV v.k (.ok p)).2 = .error 3 := by
  rcases hv with ⟨n, rfl, h1, h2⟩ | ⟨n, rfl, h1⟩ | ⟨t, rfl⟩ | ⟨bs, rfl, h1⟩ | ⟨bs, rfl, h1⟩ | ⟨xs, rfl, h1, hx⟩
  · rw [encV_U] at h; show (uintR _).2 = _; rw [uintR_prefix n p q h1 h2 h hq]
  · rw [encV_I] at h; show (intR _).2 = _; rw [intR_prefix n p q h1 h hq]
  · rw [encV_T] at h
    have : p = [] := by
      rcases p with _ | ⟨c, p⟩
      · rfl
      · have h3 := congrArg List.length h
        rw [List.length_append, List.length_cons] at h3
        have h4 := List.length_pos_iff.2 hq
        have h5 : (boolW t).length = 1 := by cases t <;> rfl
        omega
    subst this; rfl
  · rw [encV_S] at h; exact rawR_prefix bs p q h1 h hq
  · rw [encV_R] at h; exact rawR_prefix bs p q h1 h hq
  · rw [encV_L] at h; exact intsR_prefix xs p q h1 hx h hq

end Go.Proofs.Ytfkdaipmbakomaa
