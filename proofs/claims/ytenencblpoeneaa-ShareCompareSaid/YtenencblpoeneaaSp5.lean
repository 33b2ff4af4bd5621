/- package share, plain: comparing fractions, by the whole parts and by the reciprocals of the rests. Nothing of the program is named. -/
import Derived.Test.YtenencblpoeneaaSp3
namespace Go.Proofs.Ytenencblpoeneaa
open Go.RowKit
set_option linter.unusedVariables false

theorem argsC_iff (a b c d : Int) : argsC a b c d = true ↔ (∀ x ∈ [a, b, c, d], lrgS x = true) ∧ b ≠ 0 ∧ d ≠ 0 := by
  unfold argsC
  simp [and_assoc]
theorem argsC_bad {a b c d x : Int} (hx : x ∈ [a, b, c, d]) (h : lrgS x = false) : argsC a b c d = false := by
  rw [← Bool.not_eq_true, argsC_iff]
  intro h'
  have := h'.1 x hx
  rw [h] at this; cases this
theorem cmpP_no {a b c d : Int} (h : argsC a b c d = false) : cmpP a b c d = (0, 1) := by unfold cmpP; rw [h]; rfl
theorem cmpP_ok {a b c d : Int} (h : argsC a b c d = true) : cmpP a b c d = (cmpQ a b c d, 0) := by unfold cmpP; rw [if_pos h]
theorem cmpQ_lt {a b c d : Int} (h : a * d < c * b) : cmpQ a b c d = -1 := if_pos h
theorem cmpQ_eq {a b c d : Int} (h : a * d = c * b) : cmpQ a b c d = 0 := by unfold cmpQ; rw [if_neg (by omega), if_pos h]
theorem cmpQ_gt {a b c d : Int} (h : c * b < a * d) : cmpQ a b c d = 1 := by unfold cmpQ; rw [if_neg (by omega), if_neg (by omega)]

section
variable {a b c d : Int}
theorem frac_diff (hb : 0 < b) (hd : 0 < d) : a * d - c * b = b * d * (a / b - c / d) + (a % b * d - c % d * b) := by
  have e1 := Int.mul_ediv_add_emod a b
  have e2 := Int.mul_ediv_add_emod c d
  generalize a / b = x at *
  generalize c / d = y at *
  generalize a % b = p at *
  generalize c % d = q at *
  rw [← e1, ← e2, Int.add_mul, Int.add_mul, Int.mul_sub, Int.mul_right_comm b x d, Int.mul_right_comm d y b, Int.mul_comm d b]
  omega
theorem frac_small (hb : 0 < b) (hd : 0 < d) : 0 ≤ a % b * d ∧ a % b * d ≤ b * d - d ∧ 0 ≤ c % d * b ∧ c % d * b ≤ b * d - b := by
  have p0 := Int.emod_nonneg a (show b ≠ 0 by omega)
  have p1 := Int.emod_lt_of_pos a hb
  have q0 := Int.emod_nonneg c (show d ≠ 0 by omega)
  have q1 := Int.emod_lt_of_pos c hd
  refine ⟨Int.mul_nonneg p0 (by omega), ?_, Int.mul_nonneg q0 (by omega), ?_⟩
  · have := Int.mul_le_mul_of_nonneg_right (show a % b ≤ b - 1 by omega) (show 0 ≤ d by omega)
    rw [Int.sub_mul, Int.one_mul] at this; exact this
  · have := Int.mul_le_mul_of_nonneg_right (show c % d ≤ d - 1 by omega) (show 0 ≤ b by omega)
    rw [Int.sub_mul, Int.one_mul, Int.mul_comm d b] at this; exact this
theorem cmp_whole_gt (hb : 0 < b) (hd : 0 < d) (h : c / d < a / b) : cmpQ a b c d = 1 := by
  apply cmpQ_gt
  have e := frac_diff (a := a) (c := c) hb hd
  obtain ⟨s1, s2, s3, s4⟩ := frac_small (a := a) (c := c) hb hd
  have := Int.mul_le_mul_of_nonneg_left (show 1 ≤ a / b - c / d by omega) (show 0 ≤ b * d from Int.mul_nonneg (by omega) (by omega))
  omega
theorem cmp_whole_lt (hb : 0 < b) (hd : 0 < d) (h : a / b < c / d) : cmpQ a b c d = -1 := by
  apply cmpQ_lt
  have e := frac_diff (a := a) (c := c) hb hd
  obtain ⟨s1, s2, s3, s4⟩ := frac_small (a := a) (c := c) hb hd
  have := Int.mul_le_mul_of_nonneg_left (show a / b - c / d ≤ -1 by omega) (show 0 ≤ b * d from Int.mul_nonneg (by omega) (by omega))
  omega
theorem frac_same (hb : 0 < b) (hd : 0 < d) (h : a / b = c / d) : a * d - c * b = a % b * d - c % d * b := by
  have e := frac_diff (a := a) (c := c) hb hd
  rw [h, Int.sub_self, Int.mul_zero] at e
  omega
theorem cmp_both (hb : 0 < b) (hd : 0 < d) (h : a / b = c / d) (h1 : a % b = 0) (h2 : c % d = 0) : cmpQ a b c d = 0 := by
  apply cmpQ_eq
  have e := frac_same hb hd h
  rw [h1, h2] at e
  simp at e; omega
theorem cmp_p0 (hb : 0 < b) (hd : 0 < d) (h : a / b = c / d) (h1 : a % b = 0) (h2 : c % d ≠ 0) : cmpQ a b c d = -1 := by
  apply cmpQ_lt
  have e := frac_same hb hd h
  have q0 := Int.emod_nonneg c (show d ≠ 0 by omega)
  have := Int.mul_pos (show 0 < c % d by omega) hb
  rw [h1] at e
  simp at e; omega
theorem cmp_q0 (hb : 0 < b) (hd : 0 < d) (h : a / b = c / d) (h1 : a % b ≠ 0) (h2 : c % d = 0) : cmpQ a b c d = 1 := by
  apply cmpQ_gt
  have e := frac_same hb hd h
  have p0 := Int.emod_nonneg a (show b ≠ 0 by omega)
  have := Int.mul_pos (show 0 < a % b by omega) hd
  rw [h2] at e
  simp at e; omega
theorem cmp_next (hb : 0 < b) (hd : 0 < d) (h : a / b = c / d) : cmpQ a b c d = - cmpQ b (a % b) d (c % d) := by
  have e := frac_same hb hd h
  rw [Int.mul_comm (a % b) d, Int.mul_comm (c % d) b] at e
  rcases Int.lt_trichotomy (a * d) (c * b) with k | k | k
  · rw [cmpQ_lt k, cmpQ_gt (by omega)]
  · rw [cmpQ_eq k, cmpQ_eq (by omega)]; rfl
  · rw [cmpQ_gt k, cmpQ_lt (by omega)]; rfl
end

/-- laws of the order -/
theorem cmpQ_swap (a b c d : Int) : cmpQ a b c d = - cmpQ c d a b := by
  rcases Int.lt_trichotomy (a * d) (c * b) with k | k | k
  · rw [cmpQ_lt k, cmpQ_gt k]
  · rw [cmpQ_eq k, cmpQ_eq k.symm]; rfl
  · rw [cmpQ_gt k, cmpQ_lt k]; rfl
theorem cmpQ_same (a b k : Int) : cmpQ a b (k * a) (k * b) = 0 := cmpQ_eq (by rw [Int.mul_left_comm, Int.mul_assoc])
theorem cmpQ_le_iff (a b c d : Int) : cmpQ a b c d ≤ 0 ↔ a * d ≤ c * b := by
  rcases Int.lt_trichotomy (a * d) (c * b) with k | k | k
  · rw [cmpQ_lt k]; omega
  · rw [cmpQ_eq k]; omega
  · rw [cmpQ_gt k]; omega
theorem cmpQ_ge_iff (a b c d : Int) : 0 ≤ cmpQ a b c d ↔ c * b ≤ a * d := by
  rcases Int.lt_trichotomy (a * d) (c * b) with k | k | k
  · rw [cmpQ_lt k]; omega
  · rw [cmpQ_eq k]; omega
  · rw [cmpQ_gt k]; omega
theorem le_cancel {x y k : Int} (hk : 0 < k) (h : x * k ≤ y * k) : x ≤ y := Int.le_of_mul_le_mul_right h hk
theorem cmpQ_trans {a b c d e f : Int} (hb : 0 < b) (hd : 0 < d) (hf : 0 < f) (h1 : a * d ≤ c * b) (h2 : c * f ≤ e * d) : a * f ≤ e * b := by
  apply le_cancel hd
  have k1 := Int.mul_le_mul_of_nonneg_right h1 (show 0 ≤ f by omega)
  have k2 := Int.mul_le_mul_of_nonneg_right h2 (show 0 ≤ b by omega)
  rw [Int.mul_right_comm a f d, Int.mul_right_comm e b d]
  rw [Int.mul_right_comm c b f] at k1
  omega
end Go.Proofs.Ytenencblpoeneaa
