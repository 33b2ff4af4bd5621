/- The plain side of package hash: what its functions compute, over lists and integers. Nothing of the program is named. -/
import Derived.Test.YtbcjikiakanncaaPl
import Derived.Laws.BitsAllLaws
namespace Go.Proofs.Ytbcjikiakanncaa
open Go.RowKit
set_option linter.unusedVariables false

/-- what mix computes, as the walk writes it -/
def mixI (a b : Int) : Int :=
  bits BinOp.xor IntKind.u64 (IntKind.u64.wrap (bits BinOp.xor IntKind.u64 a b * 11400714819323198485)) (IntKind.u64.wrap (bits BinOp.xor IntKind.u64 a b * 11400714819323198485) / 4294967296)

/-- a group of bytes as a number, the first byte the least -/
def leI : List UInt8 → Int
  | [] => 0
  | b :: r => b.toNat + 256 * leI r

theorem leI_nonneg : ∀ l, 0 ≤ leI l
  | [] => by simp [leI]
  | b :: r => by have := leI_nonneg r; simp only [leI]; omega

theorem u8_lt (b : UInt8) : b.toNat < 256 := b.toNat_lt

theorem leI_lt : ∀ (l : List UInt8), leI l < 256 ^ l.length
  | [] => by simp [leI]
  | b :: r => by
    have h := leI_lt r
    have hb := u8_lt b
    simp only [leI, List.length_cons, Int.pow_succ]
    omega

theorem leI_snoc : ∀ (l : List UInt8) (b : UInt8), leI (l ++ [b]) = leI l + b.toNat * 256 ^ l.length
  | [], b => by simp [leI]
  | c :: r, b => by
    have h := leI_snoc r b
    simp only [List.cons_append, leI, h, List.length_cons, Int.pow_succ]
    rw [Int.mul_add, ← Int.mul_assoc (b.toNat : Int), Int.mul_comm ((b.toNat : Int) * 256 ^ r.length) 256]
    omega

/-- word number q -/
def wordAt (bs : List UInt8) (q : Nat) : Int := leI ((bs.drop (8 * q)).take 8)
def wordsUpto (bs : List UInt8) (n : Nat) : List Int := (List.range n).map (wordAt bs)
def nWords (bs : List UInt8) : Nat := (bs.length + 7) / 8
def wordsOf (bs : List UInt8) : List Int := wordsUpto bs (nWords bs)

theorem wordsUpto_succ (bs : List UInt8) (n : Nat) : wordsUpto bs (n + 1) = wordsUpto bs n ++ [wordAt bs n] := by simp [wordsUpto, List.range_succ]
theorem wordsUpto_len (bs : List UInt8) (n : Nat) : (wordsUpto bs n).length = n := by simp [wordsUpto]
theorem pow256 : ∀ (n : Nat), n ≤ 8 → (256 : Int) ^ n ≤ 18446744073709551616
  | 0, _ | 1, _ | 2, _ | 3, _ | 4, _ | 5, _ | 6, _ | 7, _ | 8, _ => by decide
  | n + 9, h => by omega
theorem pow256' : ∀ (n : Nat), n ≤ 7 → (256 : Int) ^ n ≤ 72057594037927936
  | 0, _ | 1, _ | 2, _ | 3, _ | 4, _ | 5, _ | 6, _ | 7, _ => by decide
  | n + 8, h => by omega
theorem leI_le8 (l : List UInt8) (h : l.length ≤ 8) : leI l ≤ 18446744073709551615 := by
  have := leI_lt l; have := pow256 _ h; omega
theorem leI_le7 (l : List UInt8) (h : l.length ≤ 7) : leI l ≤ 72057594037927935 := by
  have := leI_lt l; have := pow256' _ h; omega
theorem wordAt_range (bs : List UInt8) (q : Nat) : 0 ≤ wordAt bs q ∧ wordAt bs q ≤ 18446744073709551615 :=
  ⟨leI_nonneg _, leI_le8 _ (List.length_take_le _ _)⟩

/-- what Sum computes -/
def sumI (label : List UInt8) (l : List Int) : Int :=
  mixI (l.foldl (fun s n => mixI s (IntKind.u64.wrap n)) (mixI (mixI ((wordsOf label).foldl mixI 0) label.length) l.length)) 0
/-- what Bytes computes -/
def bytesI (label b : List UInt8) : Int := sumI label ((wordsOf b).map wrap64 ++ [(b.length : Int)])
def pairI (a b : Int) : Int := sumI [112, 97, 105, 114] [wrap64 a, wrap64 b]

theorem mixI_range (a b : Int) : 0 ≤ mixI a b ∧ mixI a b ≤ 18446744073709551615 := by
  unfold mixI
  generalize IntKind.u64.wrap (bits BinOp.xor IntKind.u64 a b * 11400714819323198485) = m
  generalize m / 4294967296 = n
  show 0 ≤ IntKind.u64.wrap _ ∧ _
  constructor
  · rw [IntKind.wrap_u64]; omega
  · show IntKind.u64.wrap _ ≤ _
    rw [IntKind.wrap_u64]; omega

theorem sumI_range (label : List UInt8) (l : List Int) : 0 ≤ sumI label l ∧ sumI label l ≤ 18446744073709551615 := mixI_range _ _

theorem or_small (a b : Nat) (i : Nat) (ha : a < 2 ^ i) : a ||| (b * 2 ^ i) = a + b * 2 ^ i := by
  rw [Nat.or_comm, nat_join i (b * 2 ^ i) a (Nat.mul_mod_left _ _) ha]
  omega

theorem or_step_at (i : Nat) (K : Int) (a : Int) (b : Nat) (hK : K = ((2 ^ i : Nat) : Int)) (hi : i ≤ 56) (ha : 0 ≤ a) (ha2 : a < K) (hb : b < 256) :
    bits BinOp.or IntKind.u64 a (IntKind.u64.wrap (IntKind.u64.wrap (b : Int) * K)) = a + b * K := by
  obtain ⟨n, rfl⟩ := Int.eq_ofNat_of_zero_le ha
  subst hK
  have hn : n < 2 ^ i := by exact Int.ofNat_lt.1 ha2
  have hp : 2 ^ i ≤ 2 ^ 56 := Nat.pow_le_pow_right (by omega) hi
  have hp2 : 2 ^ 56 = 72057594037927936 := by decide
  have hm : b * 2 ^ i ≤ 255 * 72057594037927936 := Nat.mul_le_mul (by omega) (by omega)
  have e1 : IntKind.u64.wrap (b : Int) = b := by rw [IntKind.wrap_u64]; omega
  have e2 : IntKind.u64.wrap ((b : Int) * ((2 ^ i : Nat) : Int)) = ((b * 2 ^ i : Nat) : Int) := by
    rw [IntKind.wrap_u64, ← Int.natCast_mul]; omega
  rw [e1, e2, u64_or_nat _ _ (by omega) (by omega), or_small _ _ _ hn]
  simp

theorem or_step (l : List UInt8) (j : Nat) (b : UInt8) (hj : j < 8) (hb : l[j]? = some b) :
    bits BinOp.or IntKind.u64 (leI (l.take j)) (IntKind.u64.wrap (IntKind.u64.wrap (b.toNat : Int) * 2 ^ (8 * j))) = leI (l.take (j + 1)) := by
  have hjl : j < l.length := by
    rcases Nat.lt_or_ge j l.length with h | h
    · exact h
    · rw [List.getElem?_eq_none h] at hb; cases hb
  have hbe : l[j] = b := by rw [List.getElem?_eq_getElem hjl] at hb; exact Option.some.inj hb
  have hlen : (l.take j).length = j := by simp; omega
  have h1 := leI_lt (l.take j)
  have h0 := leI_nonneg (l.take j)
  rw [hlen] at h1
  have e256 : (256 : Int) ^ j = 2 ^ (8 * j) := by rw [Int.pow_mul]; rfl
  rw [e256] at h1
  have hcast : (2 : Int) ^ (8 * j) = ((2 ^ (8 * j) : Nat) : Int) := by simp
  rw [List.take_succ_eq_append_getElem hjl, leI_snoc, hlen, hbe, e256]
  exact or_step_at (8 * j) _ _ _ hcast (by omega) h0 h1 (u8_lt b)
end Go.Proofs.Ytbcjikiakanncaa

