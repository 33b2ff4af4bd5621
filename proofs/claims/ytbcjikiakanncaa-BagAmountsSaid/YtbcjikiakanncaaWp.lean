/- The plain side of package wire: what its functions write and read, over lists and integers. Nothing of the program is named. -/
import Derived.Test.YtbcjikiakanncaaHp
namespace Go.Proofs.Ytbcjikiakanncaa
open Go.RowKit
set_option linter.unusedVariables false

/-- the varint of a number -/
def uvarN (n : Nat) : List UInt8 := if n < 128 then [UInt8.ofNat n] else UInt8.ofNat (128 + n % 128) :: uvarN (n / 128)
termination_by n
decreasing_by omega
def uvar (n : Int) : List UInt8 := uvarN n.toNat
theorem uvar_lo (n : Int) (h : n < 128) : uvar n = [UInt8.ofNat n.toNat] := by
  rw [uvar, uvarN, if_pos (by omega)]
theorem uvar_hi (n : Int) (h : 128 ≤ n) : uvar n = UInt8.ofNat (128 + n.toNat % 128) :: uvar (n / 128) := by
  rw [uvar, uvarN, if_neg (by omega), uvar, show (n / 128).toNat = n.toNat / 128 by omega]
theorem uvar_len : ∀ (k : Nat) (n : Int), n < 128 ^ (k + 1) → (uvar n).length ≤ k + 1
  | 0, n, h => by rw [uvar_lo n (by simpa using h)]; simp
  | k + 1, n, h => by
    by_cases h1 : n < 128
    · rw [uvar_lo n h1]; simp
    · rw [uvar_hi n (by omega)]
      have := uvar_len k (n / 128) (by rw [Int.pow_succ] at h; exact Int.ediv_lt_of_lt_mul (by omega) h)
      simp; omega
theorem uvar_len10 (n : Int) (h : n ≤ 18446744073709551615) : (uvar n).length ≤ 10 := uvar_len 9 n (by have : (128 : Int) ^ (9 + 1) = 1180591620717411303424 := by decide
                                                                                                       omega)
theorem uvar_pos (n : Int) : 0 < (uvar n).length := by
  by_cases h1 : n < 128
  · rw [uvar_lo n h1]; simp
  · rw [uvar_hi n (by omega)]; simp

/-- the zigzag form -/
def zig (n : Int) : Int := if 0 ≤ n then 2 * n else -2 * n - 1
def unzig (z : Int) : Int := if z % 2 = 0 then z / 2 else -(z / 2) - 1
theorem zig_range (n : Int) (h : inI64 n) : 0 ≤ zig n ∧ zig n ≤ 18446744073709551615 := by
  obtain ⟨h1, h2⟩ := h; unfold zig; split <;> omega
theorem unzig_range (z : Int) (h : 0 ≤ z ∧ z ≤ 18446744073709551615) : inI64 (unzig z) := by
  unfold unzig inI64; split <;> omega
theorem unzig_zig (n : Int) : unzig (zig n) = n := by
  unfold zig; split <;> (unfold unzig; split <;> omega)
theorem zig_unzig (z : Int) (h : 0 ≤ z) : zig (unzig z) = z := by
  unfold unzig; split <;> (unfold zig; split <;> omega)

/-- the encodings -/
def boolW (b : Bool) : List UInt8 := if b then [1] else [0]
def rawW (bs : List UInt8) : List UInt8 := uvar bs.length ++ bs
def itemsW (l : List Int) : List UInt8 := l.flatMap fun n => uvar (zig n)
def intsW (l : List Int) : List UInt8 := uvar l.length ++ itemsW l
theorem itemsW_app (a b : List Int) : itemsW (a ++ b) = itemsW a ++ itemsW b := by simp [itemsW]
theorem itemsW_one (n : Int) : itemsW [n] = uvar (zig n) := by simp [itemsW]
theorem itemsW_len : ∀ (l : List Int), (∀ n ∈ l, inI64 n) → (itemsW l).length ≤ 10 * l.length
  | [], _ => by simp [itemsW]
  | n :: r, h => by
    have h1 := itemsW_len r (fun m hm => h m (by simp [hm]))
    have h2 := uvar_len10 (zig n) (zig_range n (h n (by simp))).2
    rw [show n :: r = [n] ++ r from rfl, itemsW_app, itemsW_one]
    simp; omega

theorem u8_ofNat (n : Nat) (h : n < 256) : ((UInt8.ofNat n).toNat : Int) = n := by
  rw [UInt8.toNat_ofNat']; omega

set_option maxRecDepth 20000 in
theorem or128 : ∀ a : Fin 256, a.val ||| 128 = 128 + a.val % 128 := by decide
theorem uvar_byte (k : Int) (h0 : 0 ≤ k) : bits BinOp.or IntKind.u8 (k % 256) 128 = ((UInt8.ofNat (128 + k.toNat % 128)).toNat : Int) := by
  rw [u8_ofNat _ (by omega), u8_or (k % 256) 128 (by omega) (by omega) (by omega) (by omega)]
  have := or128 ⟨(k % 256).toNat, by omega⟩
  simp only at this
  rw [show (128 : Int).toNat = 128 from rfl, this]
  omega

end Go.Proofs.Ytbcjikiakanncaa
