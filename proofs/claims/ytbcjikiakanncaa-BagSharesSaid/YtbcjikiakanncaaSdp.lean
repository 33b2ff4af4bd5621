/- The plain arithmetic of math/bits.Div64 (two digits in base 2^32). Nothing of the program is named. -/
import Derived.RowKit
namespace Go.Proofs.Ytbcjikiakanncaa
open Go.RowKit
set_option linter.unusedVariables false

/-- u : the part that is left, v : the next digit, a, b : the divisor's digits -/
structure DArg (u v a b : Int) : Prop where
  a1 : 2147483648 ≤ a
  a2 : a < 4294967296
  b1 : 0 ≤ b
  b2 : b < 4294967296
  u1 : 0 ≤ u
  u2 : u < a * 4294967296 + b
  v1 : 0 ≤ v
  v2 : v < 4294967296
/-- the digit sought -/
def dQ (u v a b : Int) : Int := (u * 4294967296 + v) / (a * 4294967296 + b)
def dR (u v a b : Int) : Int := (u * 4294967296 + v) % (a * 4294967296 + b)
def DInv (u v a b q r : Int) : Prop := q * a + r = u ∧ 0 ≤ r ∧ 0 ≤ q ∧ dQ u v a b ≤ q ∧ q ≤ 4294967297

theorem mul_split2 (q a b : Int) : q * (a * 4294967296 + b) = q * a * 4294967296 + q * b := by
  rw [Int.mul_add, Int.mul_assoc]

theorem dQ_range {u v a b : Int} (h : DArg u v a b) : 0 ≤ dQ u v a b ∧ dQ u v a b < 4294967296 := by
  obtain ⟨a1, a2, b1, b2, u1, u2, v1, v2⟩ := h
  exact ⟨Int.ediv_nonneg (by omega) (by omega), Int.ediv_lt_of_lt_mul (by omega) (by omega)⟩
theorem dR_range {u v a b : Int} (h : DArg u v a b) : 0 ≤ dR u v a b ∧ dR u v a b < a * 4294967296 + b := by
  obtain ⟨a1, a2, b1, b2, u1, u2, v1, v2⟩ := h
  exact ⟨Int.emod_nonneg _ (by omega), Int.emod_lt_of_pos _ (by omega)⟩
theorem dQR (u v a b : Int) : dQ u v a b * (a * 4294967296 + b) + dR u v a b = u * 4294967296 + v := by
  unfold dQ dR
  have := Int.mul_ediv_add_emod (u * 4294967296 + v) (a * 4294967296 + b)
  rw [Int.mul_comm] at this
  exact this

theorem dstart {u v a b : Int} (h : DArg u v a b) : DInv u v a b (u / a) (u - u / a * a) ∧ u - u / a * a < 4294967296 := by
  obtain ⟨a1, a2, b1, b2, u1, u2, v1, v2⟩ := h
  have e := Int.mul_ediv_add_emod u a
  have r0 := Int.emod_nonneg u (show a ≠ 0 by omega)
  have r1 := Int.emod_lt_of_pos u (show 0 < a by omega)
  have q0 : 0 ≤ u / a := Int.ediv_nonneg u1 (by omega)
  have q1 : u / a < 4294967298 := Int.ediv_lt_of_lt_mul (by omega) (by omega)
  rw [Int.mul_comm] at e
  generalize u / a = q at *
  generalize u % a = r at *
  have hb : 0 ≤ q * b := Int.mul_nonneg q0 b1
  refine ⟨⟨by omega, by omega, q0, ?_, by omega⟩, by omega⟩
  have : dQ u v a b < q + 1 := Int.ediv_lt_of_lt_mul (by omega) (by
    rw [Int.add_mul, mul_split2]
    generalize q * a = p at *
    generalize q * b = s at *
    omega)
  omega

theorem dstop {u v a b q r : Int} (h : DArg u v a b) (i : DInv u v a b q r) (h2 : q * b ≤ 4294967296 * r + v) : q = dQ u v a b := by
  obtain ⟨a1, a2, b1, b2, u1, u2, v1, v2⟩ := h
  obtain ⟨i1, i2, i3, i4, i5⟩ := i
  have : q ≤ dQ u v a b := Int.le_ediv_of_mul_le (by omega) (by
    rw [mul_split2]
    generalize q * a = p at *
    generalize q * b = s at *
    omega)
  omega

theorem dgo {u v a b q r : Int} (h : DArg u v a b) (i : DInv u v a b q r) (c : 4294967296 ≤ q ∨ 4294967296 * r + v < q * b) : DInv u v a b (q - 1) (r + a) ∧ 1 ≤ q := by
  have hq := dQ_range h
  obtain ⟨a1, a2, b1, b2, u1, u2, v1, v2⟩ := h
  obtain ⟨i1, i2, i3, i4, i5⟩ := i
  have : dQ u v a b < q := by
    rcases c with c | c
    · omega
    · exact Int.ediv_lt_of_lt_mul (by omega) (by
        rw [mul_split2]
        generalize q * a = p at *
        generalize q * b = s at *
        omega)
  refine ⟨⟨?_, by omega, by omega, by omega, by omega⟩, by omega⟩
  rw [Int.sub_mul]; omega

theorem dbreak {u v a b q r : Int} (h : DArg u v a b) (i : DInv u v a b q r) (hq : q ≤ 4294967296) (c : 4294967296 ≤ r) : q = dQ u v a b := by
  refine dstop h i ?_
  obtain ⟨a1, a2, b1, b2, u1, u2, v1, v2⟩ := h
  obtain ⟨i1, i2, i3, i4, i5⟩ := i
  have := Int.mul_le_mul_of_nonneg_right hq b1
  omega

theorem dprod {q b : Int} (h0 : 0 ≤ q) (h1 : q < 4294967296) (b0 : 0 ≤ b) (b1 : b < 4294967296) : 0 ≤ q * b ∧ q * b ≤ 18446744065119617025 := by
  refine ⟨Int.mul_nonneg h0 b0, ?_⟩
  have := Int.mul_le_mul (show q ≤ 4294967295 by omega) (show b ≤ 4294967295 by omega) b0 (by omega)
  omega

/-- what is left, as the walk writes it (modulo 2^64) -/
theorem dleft {u v a b : Int} (h : DArg u v a b) (y : Int) (hy : y = a * 4294967296 + b) :
    (u * 4294967296 + v - dQ u v a b * y) % 18446744073709551616 = dR u v a b := by
  have e := dQR u v a b
  have r := dR_range h
  rw [hy]
  generalize dQ u v a b * (a * 4294967296 + b) = p at *
  obtain ⟨a1, a2, b1, b2, u1, u2, v1, v2⟩ := h
  omega

/-- the shift: T = 2^s, R = 2^(64-s) -/
theorem dshift {hi lo y T R : Int} (hT : 1 ≤ T) (hR : 1 ≤ R) (hTR : R * T = 18446744073709551616) (h0 : 0 ≤ hi) (hy : hi < y) (l0 : 0 ≤ lo) (l1 : lo < 18446744073709551616) :
    0 ≤ lo / R ∧ lo / R < T ∧ 0 ≤ hi * T ∧ hi * T + lo / R < y * T ∧ (hi * 18446744073709551616 + lo) * T = (hi * T + lo / R) * 18446744073709551616 + lo * T % 18446744073709551616 := by
  have e1 : lo * T / 18446744073709551616 = lo / R := by rw [← hTR]; exact Int.mul_ediv_mul_of_pos_left lo R (by omega)
  have e2 := Int.mul_ediv_add_emod (lo * T) 18446744073709551616
  rw [e1] at e2
  have e3 : lo / R < T := Int.ediv_lt_of_lt_mul (by omega) (by rw [Int.mul_comm, hTR]; exact l1)
  have e4 : 0 ≤ lo / R := Int.ediv_nonneg l0 (by omega)
  have e5 := Int.mul_nonneg h0 (show 0 ≤ T by omega)
  have e6 := Int.mul_le_mul_of_nonneg_right (show hi + 1 ≤ y by omega) (show 0 ≤ T by omega)
  rw [Int.add_mul] at e6
  refine ⟨e4, e3, e5, by omega, ?_⟩
  rw [Int.add_mul, Int.mul_right_comm, Int.add_mul]
  omega

theorem djoin {N y T Y Q r : Int} (hT : 1 ≤ T) (hy : 1 ≤ y) (hY : Y = y * T) (h : N * T = Q * Y + r) (r0 : 0 ≤ r) (r1 : r < Y) : N / y = Q ∧ r / T = N % y := by
  have e1 : r = (N - Q * y) * T := by rw [Int.sub_mul, h, hY, Int.mul_assoc]; omega
  have e2 : r / T = N - Q * y := by rw [e1]; exact Int.mul_ediv_cancel _ (by omega)
  have h0 : 0 ≤ N - Q * y := by rw [← e2]; exact Int.ediv_nonneg r0 (by omega)
  have h1 : N - Q * y < y := by rw [← e2]; exact Int.ediv_lt_of_lt_mul (by omega) (by rw [← hY]; exact r1)
  have e3 : N / y = Q := by
    have : N = (N - Q * y) + y * Q := by rw [Int.mul_comm y Q]; omega
    rw [this, Int.add_mul_ediv_left _ _ (by omega), Int.ediv_eq_zero_of_lt h0 h1]; omega
  refine ⟨e3, ?_⟩
  rw [e2, ← e3, Int.emod_def, Int.mul_comm]

end Go.Proofs.Ytbcjikiakanncaa
