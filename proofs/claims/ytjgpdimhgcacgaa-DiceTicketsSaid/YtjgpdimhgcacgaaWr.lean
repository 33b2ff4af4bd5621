/- The plain side of package wire's Reader: what it reads, as functions on what is left and on the recorded error. Nothing of the program is named. -/
import Derived.Test.YtjgpdimhgcacgaaWp
namespace Go.Proofs.Ytjgpdimhgcacgaa
open Go.RowKit
set_option linter.unusedVariables false

/-- a Reader's state: the recorded error, or what is left -/
abbrev RS := Except Int (List UInt8)

def nextR : RS → UInt8 × RS
  | .error e => (0, .error e)
  | .ok [] => (0, .error 3)
  | .ok (c :: r) => (c, .ok r)

def uintL : Nat → Int → List UInt8 → Int × RS
  | _, _, [] => (0, .error 3)
  | i, n, c :: r =>
    if (i = 9 ∧ 1 < c.toNat) ∨ (0 < i ∧ c.toNat = 0) then (0, .error 2)
    else if c.toNat < 128 then (n + c.toNat * 128 ^ i, .ok r) else uintL (i + 1) (n + (c.toNat - 128 : Nat) * 128 ^ i) r
def uintR : RS → Int × RS
  | .error e => (0, .error e)
  | .ok bs => uintL 0 0 bs
def intR (s : RS) : Int × RS := (unzig (uintR s).1, (uintR s).2)
def boolR (s : RS) : Bool × RS :=
  match nextR s with
  | (c, .ok r) => if 1 < c.toNat then (false, .error 2) else (c.toNat == 1, .ok r)
  | (c, .error e) => (false, .error e)
/-- n bytes -/
def bytesR : Nat → List UInt8 → RS → List UInt8 × RS
  | _, out, .error e => ([], .error e)
  | 0, out, .ok bs => (out, .ok bs)
  | n + 1, out, .ok bs => bytesR n (out ++ [(nextR (.ok bs)).1]) (nextR (.ok bs)).2
/-- n numbers -/
def numsR : Nat → List Int → RS → List Int × RS
  | _, out, .error e => ([], .error e)
  | 0, out, .ok bs => (out, .ok bs)
  | n + 1, out, .ok bs => numsR n (out ++ [(intR (.ok bs)).1]) (intR (.ok bs)).2
/-- a length: more than what is left is an error -/
def lenR (s : RS) : Nat × RS :=
  match uintR s with
  | (n, .ok bs) => if (bs.length : Int) < n then (n.toNat, .error 3) else (n.toNat, .ok bs)
  | (n, .error e) => (n.toNat, .error e)
def rawR (s : RS) : List UInt8 × RS := bytesR (lenR s).1 [] (lenR s).2
def intsR (s : RS) : List Int × RS := numsR (lenR s).1 [] (lenR s).2
def endR : RS → Int
  | .error e => e
  | .ok [] => 0
  | .ok (_ :: _) => 2

theorem pow128 : ∀ i : Nat, i ≤ 9 → (128 : Int) ^ i ≤ 9223372036854775808 ∧ 1 ≤ (128 : Int) ^ i
  | 0, _ | 1, _ | 2, _ | 3, _ | 4, _ | 5, _ | 6, _ | 7, _ | 8, _ | 9, _ => by decide
  | n + 10, h => by omega
theorem pow128_8 : ∀ i : Nat, i ≤ 8 → (128 : Int) ^ i ≤ 72057594037927936 ∧ 1 ≤ (128 : Int) ^ i
  | 0, _ | 1, _ | 2, _ | 3, _ | 4, _ | 5, _ | 6, _ | 7, _ | 8, _ => by decide
  | n + 9, h => by omega
theorem pow_128_2 (i : Nat) : (128 : Int) ^ i = 2 ^ (7 * i) := by rw [show (128 : Int) = 2 ^ 7 by decide, ← Int.pow_mul]
theorem pow_128_2n (i : Nat) : 128 ^ i = 2 ^ (7 * i) := by rw [show 128 = 2 ^ 7 by decide, ← Nat.pow_mul]

theorem mul_bound (m k P : Int) (hm : 0 ≤ m) (hk : m ≤ k) (hP : 1 ≤ P) : 0 ≤ m * P ∧ m * P ≤ k * P :=
  ⟨Int.mul_nonneg hm (by omega), Int.mul_le_mul_of_nonneg_right hk (by omega)⟩

theorem uintL_range : ∀ (bs : List UInt8) (i : Nat) (n : Int), i ≤ 9 → 0 ≤ n → n < 128 ^ i → 0 ≤ (uintL i n bs).1 ∧ (uintL i n bs).1 ≤ 18446744073709551615
  | [], i, n, _, _, _ => by simp [uintL]
  | c :: r, i, n, hi, h0, h1 => by
    obtain ⟨p1, p2⟩ := pow128 i hi
    have hc := u8_lt c
    rw [uintL]
    split
    · simp
    · rename_i hx
      split
      · rename_i h128
        by_cases h9 : i = 9
        · subst h9
          have : c.toNat ≤ 1 := by omega
          have hb := mul_bound c.toNat 1 (128 ^ 9) (by omega) (by omega) p2
          refine ⟨by show 0 ≤ _ + _; omega, by show _ + _ ≤ _; omega⟩
        · obtain ⟨p3, p4⟩ := pow128_8 i (by omega)
          have hb := mul_bound c.toNat 127 (128 ^ i) (by omega) (by omega) p2
          refine ⟨by show 0 ≤ _ + _; omega, by show _ + _ ≤ _; omega⟩
      · rename_i h128
        have hi9 : i ≠ 9 := by intro h; apply hx; left; omega
        have hb := mul_bound (c.toNat - 128 : Nat) 127 (128 ^ i) (by omega) (by omega) p2
        refine uintL_range r (i + 1) _ (by omega) (by omega) ?_
        rw [Int.pow_succ]; omega
theorem uintR_range (s : RS) : 0 ≤ (uintR s).1 ∧ (uintR s).1 ≤ 18446744073709551615 := by
  cases s with
  | error e => simp [uintR]
  | ok bs => exact uintL_range bs 0 0 (by omega) (by omega) (by decide)
theorem intR_range (s : RS) : inI64 (intR s).1 := unzig_range _ (uintR_range s)

/-- the accumulation, as the walk writes it -/
theorem acc_or (n c : Int) (i : Nat) (hi : i ≤ 9) (h0 : 0 ≤ n) (h1 : n < 128 ^ i) (hc0 : 0 ≤ c) (hc : c < 128) (h9 : i = 9 → c ≤ 1) : bits BinOp.or IntKind.u64 n (c * 128 ^ i) = n + c * 128 ^ i := by
  obtain ⟨p1, p2⟩ := pow128 i hi
  have hb : 0 ≤ c * 128 ^ i ∧ c * 128 ^ i < 18446744073709551616 := by
    by_cases h : i = 9
    · subst h
      have hb := mul_bound c 1 (128 ^ 9) (by omega) (h9 rfl) p2
      omega
    · obtain ⟨p3, p4⟩ := pow128_8 i (by omega)
      have hb := mul_bound c 127 (128 ^ i) (by omega) (by omega) p2
      omega
  obtain ⟨m, rfl⟩ := Int.eq_ofNat_of_zero_le h0
  obtain ⟨d, rfl⟩ := Int.eq_ofNat_of_zero_le hc0
  have e : (d : Int) * 128 ^ i = ((d * 2 ^ (7 * i) : Nat) : Int) := by rw [← pow_128_2n]; simp
  have e2 : (128 : Int) ^ i = ((2 ^ (7 * i) : Nat) : Int) := by rw [← pow_128_2n]; simp
  rw [e] at hb ⊢
  rw [e2] at h1
  rw [u64_or_nat m _ (by omega) (by omega), Nat.or_comm, nat_join (7 * i) (d * 2 ^ (7 * i)) m (Nat.mul_mod_left _ _) (by omega)]
  omega

theorem acc_walk (m u : Int) (k : Nat) (hk : k ≤ 9) (h0 : 0 ≤ m) (h1 : m < 128 ^ k) (hu0 : 0 ≤ u) (hu : u < 256) (h9 : k = 9 → u % 128 ≤ 1) :
    bits BinOp.or IntKind.u64 m (IntKind.u64.wrap (IntKind.u64.wrap (bits BinOp.andNot IntKind.u8 u 128) * 2 ^ (7 * k))) = m + u % 128 * 128 ^ k := by
  have e1 : bits BinOp.andNot IntKind.u8 u 128 = u % 128 := by
    rw [u8_andNot u 128 hu0 hu (by omega) (by omega)]
    rw [show 255 - (128 : Int).toNat = 127 from rfl, nat_mask7]
    omega
  have e2 : IntKind.u64.wrap (u % 128) = u % 128 := by rw [IntKind.wrap_u64]; omega
  obtain ⟨p1, p2⟩ := pow128 k hk
  have hb : 0 ≤ u % 128 * 128 ^ k ∧ u % 128 * 128 ^ k < 18446744073709551616 := by
    by_cases h : k = 9
    · have hb := mul_bound (u % 128) 1 (128 ^ k) (by omega) (h9 h) p2
      omega
    · obtain ⟨p3, p4⟩ := pow128_8 k (by omega)
      have hb := mul_bound (u % 128) 127 (128 ^ k) (by omega) (by omega) p2
      omega
  rw [e1, e2, ← pow_128_2]
  have e3 : IntKind.u64.wrap (u % 128 * 128 ^ k) = u % 128 * 128 ^ k := by rw [IntKind.wrap_u64]; omega
  rw [e3]
  exact acc_or m (u % 128) k hk h0 h1 (by omega) (by omega) h9
theorem acc_walk0 (m u : Int) (h0 : 0 ≤ m) (h1 : m < 128 ^ 0) (hu0 : 0 ≤ u) (hu : u < 256) :
    bits BinOp.or IntKind.u64 m (IntKind.u64.wrap (IntKind.u64.wrap (bits BinOp.andNot IntKind.u8 u 128))) = m + u % 128 * 128 ^ 0 := by
  have := acc_walk m u 0 (by omega) h0 h1 hu0 hu (by omega)
  rwa [show (2 : Int) ^ (7 * 0) = 1 by decide, Int.mul_one] at this
theorem acc_walk9 (m u : Int) (h0 : 0 ≤ m) (h1 : m < 128 ^ 9) (hu0 : 0 ≤ u) (hu : u ≤ 1) :
    bits BinOp.or IntKind.u64 m (IntKind.u64.wrap (IntKind.u64.wrap (bits BinOp.andNot IntKind.u8 u 128) * 9223372036854775808)) = m + u % 128 * 128 ^ 9 := by
  have := acc_walk m u 9 (by omega) h0 h1 hu0 (by omega) (by omega)
  rwa [show (2 : Int) ^ (7 * 9) = 9223372036854775808 by decide] at this

end Go.Proofs.Ytjgpdimhgcacgaa
