/- The plain side of package wire: what was written is read again. Nothing of the program is named. -/
import Derived.Test.YtjgpdimhgcacgaaWr
namespace Go.Proofs.Ytjgpdimhgcacgaa
open Go.RowKit
set_option linter.unusedVariables false

theorem split128 (n P : Int) : n % 128 * P + n / 128 * (P * 128) = n * P := by
  have h : n = 128 * (n / 128) + n % 128 := by omega
  have e : n / 128 * (P * 128) = 128 * (n / 128) * P := by rw [Int.mul_comm P 128, ← Int.mul_assoc, Int.mul_comm (n / 128) 128]
  rw [e, ← Int.add_mul]
  congr 1; omega

theorem uintL_uvar (n : Int) (i : Nat) (m : Int) (rest : List UInt8) (h0 : 0 ≤ n) (hi : i ≤ 9) (hn : n * 128 ^ i ≤ 18446744073709551615) (h1 : i = 0 ∨ 1 ≤ n) :
    uintL i m (uvar n ++ rest) = (m + n * 128 ^ i, .ok rest) := by
  have h9 : i = 9 → n ≤ 1 := by
    rintro rfl
    have : (128 : Int) ^ 9 = 9223372036854775808 := by decide
    rw [this] at hn; omega
  by_cases hl : n < 128
  · rw [uvar_lo n hl]
    have hc := u8_ofNat n.toNat (by omega)
    show uintL i m (UInt8.ofNat n.toNat :: rest) = _
    rw [uintL, if_neg (by omega), if_pos (by omega), hc]
    congr 3; omega
  · rw [uvar_hi n (by omega)]
    have hc := u8_ofNat (128 + n.toNat % 128) (by omega)
    show uintL i m (UInt8.ofNat (128 + n.toNat % 128) :: (uvar (n / 128) ++ rest)) = _
    have hm : ((UInt8.ofNat (128 + n.toNat % 128)).toNat - 128 : Nat) = n.toNat % 128 := by omega
    have hm2 : ((n.toNat % 128 : Nat) : Int) = n % 128 := by omega
    have hs := split128 n (128 ^ i)
    rw [uintL, if_neg (by omega), if_neg (by omega), hm, hm2]
    have hp := (pow128 i hi).2
    have hq := Int.mul_nonneg (show 0 ≤ n % 128 by omega) (show (0 : Int) ≤ 128 ^ i by omega)
    rw [uintL_uvar (n / 128) (i + 1) _ rest (by omega) (by omega) (by rw [Int.pow_succ]; omega) (.inr (by omega)), Int.pow_succ, show m + n % 128 * 128 ^ i + n / 128 * (128 ^ i * 128) = m + n * 128 ^ i by omega]
termination_by n.toNat
decreasing_by omega

theorem uintR_uvar (n : Int) (rest : List UInt8) (h : 0 ≤ n ∧ n ≤ 18446744073709551615) : uintR (.ok (uvar n ++ rest)) = (n, .ok rest) := by
  show uintL 0 0 _ = _
  rw [uintL_uvar n 0 0 rest h.1 (by omega) (by simp; omega) (.inl rfl)]
  simp
theorem intR_uvar (n : Int) (rest : List UInt8) (h : inI64 n) : intR (.ok (uvar (zig n) ++ rest)) = (n, .ok rest) := by
  rw [intR, uintR_uvar _ rest (zig_range n h), unzig_zig]
theorem boolR_boolW (t : Bool) (rest : List UInt8) : boolR (.ok (boolW t ++ rest)) = (t, .ok rest) := by cases t <;> rfl
theorem lenR_uvar (n : Nat) (rest : List UInt8) (h : n ≤ rest.length) (hn : (n : Int) ≤ 18446744073709551615) : lenR (.ok (uvar n ++ rest)) = (n, .ok rest) := by
  have hu := uintR_uvar n rest ⟨by omega, hn⟩
  unfold lenR
  rw [hu]
  simp only
  rw [if_neg (by omega)]
  simp
theorem bytesR_app : ∀ (bs out rest : List UInt8), bytesR bs.length out (.ok (bs ++ rest)) = (out ++ bs, .ok rest)
  | [], out, rest => by simp [bytesR]
  | b :: r, out, rest => by
    show bytesR r.length (out ++ [b]) (.ok (r ++ rest)) = _
    rw [bytesR_app r]; simp
theorem rawR_rawW (bs rest : List UInt8) (h : (bs.length : Int) ≤ 18446744073709551615) : rawR (.ok (rawW bs ++ rest)) = (bs, .ok rest) := by
  unfold rawR rawW
  rw [List.append_assoc, lenR_uvar bs.length (bs ++ rest) (by simp) h]
  simpa using bytesR_app bs [] rest
theorem itemsW_len_ge : ∀ (l : List Int), l.length ≤ (itemsW l).length
  | [] => by simp
  | n :: r => by
    have := itemsW_len_ge r
    have hp := uvar_pos (zig n)
    rw [show n :: r = [n] ++ r from rfl, itemsW_app, itemsW_one]
    simp; omega
theorem numsR_app : ∀ (l out : List Int) (rest : List UInt8), (∀ n ∈ l, inI64 n) → numsR l.length out (.ok (itemsW l ++ rest)) = (out ++ l, .ok rest)
  | [], out, rest, _ => by simp [numsR, itemsW]
  | n :: r, out, rest, h => by
    have e := intR_uvar n (itemsW r ++ rest) (h n (by simp))
    rw [show n :: r = [n] ++ r from rfl, itemsW_app, itemsW_one, List.append_assoc, List.length_append, List.length_singleton, Nat.add_comm 1]
    show numsR r.length (out ++ [(intR _).1]) (intR _).2 = _
    rw [e, numsR_app r _ rest (fun m hm => h m (by simp [hm]))]
    simp
theorem intsR_intsW (l : List Int) (rest : List UInt8) (hl : (l.length : Int) ≤ 18446744073709551615) (h : ∀ n ∈ l, inI64 n) : intsR (.ok (intsW l ++ rest)) = (l, .ok rest) := by
  have := itemsW_len_ge l
  unfold intsR intsW
  rw [List.append_assoc, lenR_uvar l.length (itemsW l ++ rest) (by simp; omega) hl]
  simpa using numsR_app l [] rest h
theorem lenR_rawW (bs rest : List UInt8) (h : (bs.length : Int) ≤ 18446744073709551615) : lenR (.ok (rawW bs ++ rest)) = (bs.length, .ok (bs ++ rest)) := by
  unfold rawW
  rw [List.append_assoc, lenR_uvar bs.length (bs ++ rest) (by simp) h]
theorem lenR_intsW (l : List Int) (rest : List UInt8) (hl : (l.length : Int) ≤ 18446744073709551615) : lenR (.ok (intsW l ++ rest)) = (l.length, .ok (itemsW l ++ rest)) := by
  have := itemsW_len_ge l
  unfold intsW
  rw [List.append_assoc, lenR_uvar l.length (itemsW l ++ rest) (by simp; omega) hl]

/-- what is left never grows -/
theorem uintL_left : ∀ (bs : List UInt8) (i : Nat) (n : Int) (r : List UInt8), (uintL i n bs).2 = .ok r → r.length < bs.length
  | [], i, n, r, h => by simp [uintL] at h
  | c :: t, i, n, r, h => by
    rw [uintL] at h
    split at h
    · cases h
    · split at h
      · cases h; simp
      · have := uintL_left t _ _ r h; simp; omega
theorem lenR_left (bs r : List UInt8) (h : (lenR (.ok bs)).2 = .ok r) : r.length ≤ bs.length := by
  unfold lenR at h
  rcases hu : uintR (.ok bs) with ⟨n, s⟩
  rw [hu] at h
  cases s with
  | error e => cases h
  | ok l =>
    have := uintL_left bs 0 0 l (by show (uintR (.ok bs)).2 = _; rw [hu])
    simp only at h
    split at h
    · cases h
    · cases h; omega
theorem lenR_bound (s : RS) (N : Nat) (h : ∀ bs, s = .ok bs → bs.length ≤ N) : ∀ bs, (lenR s).2 = .ok bs → bs.length ≤ N := by
  intro bs hb
  cases s with
  | error e => simp [lenR, uintR] at hb
  | ok l => have := lenR_left l bs hb; have := h l rfl; omega

end Go.Proofs.Ytjgpdimhgcacgaa
