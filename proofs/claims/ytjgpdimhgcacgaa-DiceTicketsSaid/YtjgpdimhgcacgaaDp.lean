/- The plain side of package dice: words, the reduction of a word, rolls. Nothing of the program is named. -/
import Derived.Test.YtjgpdimhgcacgaaHq
namespace Go.Proofs.Ytjgpdimhgcacgaa
open Go.RowKit
set_option linter.unusedVariables false

/-- a word of a stream -/
def wordD (seed label : List UInt8) (p : Int) : Int := sumI [119, 111, 114, 100] [wrap64 (bytesI label seed), p]
theorem wordD_range (seed label : List UInt8) (p : Int) : 0 ≤ wordD seed label p ∧ wordD seed label p ≤ 18446744073709551615 := sumI_range _ _

/-- how many words are not accepted -/
def overD (n : Int) : Int := 18446744073709551616 % n
/-- is the word accepted? -/
def accD (w n : Int) : Bool := decide (1 ≤ n) && decide (w ≤ 18446744073709551615 - overD n)
def redV (w n : Int) : Int := if accD w n = true then w % n else 0

theorem over_range (n : Int) (h : 1 ≤ n) : 0 ≤ overD n ∧ overD n < n := ⟨Int.emod_nonneg _ (by omega), Int.emod_lt_of_pos _ (by omega)⟩
theorem acc_iff (w n : Int) (h : 1 ≤ n) (h0 : 0 ≤ w) (h1 : w ≤ 18446744073709551615) : (18446744073709551615 - w < n - 1 - w % n) ↔ 18446744073709551615 - overD n < w := by
  unfold overD
  have e1 := Int.mul_ediv_add_emod w n
  have e2 := Int.mul_ediv_add_emod 18446744073709551616 n
  have r1 := Int.emod_nonneg w (show n ≠ 0 by omega)
  have r2 := Int.emod_lt_of_pos w (show 0 < n by omega)
  have s1 := Int.emod_nonneg 18446744073709551616 (show n ≠ 0 by omega)
  have s2 := Int.emod_lt_of_pos 18446744073709551616 (show 0 < n by omega)
  generalize hq : w / n = q at *
  generalize hr : w % n = r at *
  generalize hQ : (18446744073709551616 : Int) / n = Q at *
  generalize ho : (18446744073709551616 : Int) % n = o at *
  clear hq hr hQ ho
  rcases Int.lt_or_le q Q with hlt | hge
  · have hm : n * (q + 1) ≤ n * Q := Int.mul_le_mul_of_nonneg_left (by omega) (by omega)
    rw [Int.mul_add] at hm
    constructor <;> intro _ <;> omega
  · have hm : n * Q ≤ n * q := Int.mul_le_mul_of_nonneg_left hge (by omega)
    constructor <;> intro _ <;> omega

/-- k rolls' worth of words from position p on: the result, the error, the position behind -/
def rollF (seed label : List UInt8) (n : Int) : Nat → Int → Int × Int × Int
  | 0, p => (0, 4, p)
  | k + 1, p => if accD (wordD seed label p) n = true then (wordD seed label p % n, 0, wrap64 (p + 1)) else rollF seed label n k (wrap64 (p + 1))
def rollD (seed label : List UInt8) (n p : Int) : Int × Int × Int := if n < 1 then (0, 1, p) else rollF seed label n 128 p
/-- position after j words -/
def posD (p : Int) : Nat → Int
  | 0 => p
  | j + 1 => wrap64 (posD p j + 1)

end Go.Proofs.Ytjgpdimhgcacgaa
