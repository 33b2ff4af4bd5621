/- package share, plain: the reference's division bit by bit; the answers of Part, Ceil, Compare. Nothing of the program is named. -/
import Derived.Test.YtbcjikiakanncaaSp2
namespace Go.Proofs.Ytbcjikiakanncaa
open Go.RowKit
set_option linter.unusedVariables false

def amtS (n : Int) : Bool := decide (AmtI n)
def lrgS (n : Int) : Bool := decide (LrgI n)
theorem amtS_iff (n : Int) : amtS n = true ↔ 0 ≤ n ∧ n ≤ 1099511627776 := decide_eq_true_iff
theorem lrgS_iff (n : Int) : lrgS n = true ↔ 0 ≤ n ∧ n ≤ 1152921504606846976 := decide_eq_true_iff
theorem amtS_not (n : Int) : amtS n = false ↔ n < 0 ∨ 1099511627776 < n := by rw [← Bool.not_eq_true, amtS_iff]; omega
theorem lrgS_not (n : Int) : lrgS n = false ↔ n < 0 ∨ 1152921504606846976 < n := by rw [← Bool.not_eq_true, lrgS_iff]; omega
theorem argsP_bools (t n d : Int) : argsP t n d = (amtS t && lrgS n && lrgS d && !decide (d = 0)) := rfl

/-- two to the m -/
def pwI (m : Nat) : Int := ((2 ^ m : Nat) : Int)
theorem pwI_succ (m : Nat) : pwI (m + 1) = 2 * pwI m := by unfold pwI; rw [Nat.pow_succ]; omega
theorem pwI_pos (m : Nat) : 1 ≤ pwI m := by
  have := Nat.pow_pos (show 0 < 2 by omega) (n := m)
  unfold pwI; omega
theorem pwI_le {m : Nat} (h : m ≤ 60) : pwI m ≤ 1152921504606846976 := by
  have h2 : (2 : Nat) ^ m ≤ 2 ^ 60 := Nat.pow_le_pow_right (by omega) h
  unfold pwI
  omega
/-- the bit at the loop's head, m bits are left -/
def bitI : Nat → Int
  | 0 => 0
  | m + 1 => pwI m
theorem bitI_half (m : Nat) : pwI m / 2 = bitI m := by
  cases m with
  | zero => rfl
  | succ m => rw [pwI_succ]; show _ = pwI m; omega

structure DivI (a0 b d : Int) (m : Nat) (a q r : Int) : Prop where
  a1 : 0 ≤ a
  a2 : a < pwI m
  r1 : 0 ≤ r
  r2 : r < d
  q1 : 0 ≤ q
  q2 : q ≤ 1152921504606846976
  ex : ∃ A, 0 ≤ A ∧ a0 = A * pwI m + a ∧ A * b = q * d + r

theorem divI_start {a0 b d : Int} (h0 : 0 ≤ a0) (h1 : a0 ≤ 1152921504606846976) (hd : 1 ≤ d) : DivI a0 b d 61 a0 0 0 :=
  ⟨h0, by unfold pwI; omega, by omega, by omega, by omega, by omega, 0, by omega, by omega, by omega⟩
theorem divI_end {a0 b d a q r : Int} (hd : 1 ≤ d) (h : DivI a0 b d 0 a q r) : a0 * b / d = q ∧ a0 * b % d = r := by
  obtain ⟨a1, a2, r1, r2, q1, q2, A, hA, e1, e2⟩ := h
  have e3 : pwI 0 = 1 := rfl
  rw [e3] at e1 a2
  have : a0 = A := by omega
  subst this
  rw [e2]
  constructor
  · rw [Int.add_comm, Int.add_mul_ediv_right _ _ (by omega), Int.ediv_eq_zero_of_lt r1 r2]; omega
  · rw [Int.add_comm, Int.add_mul_emod_self_right, Int.emod_eq_of_lt r1 r2]

/-- the first half of a round: doubled -/
def DblI (d q r q' r' : Int) : Prop := q' * d + r' = 2 * (q * d + r)
theorem dbl_yes (d q r : Int) : DblI d q r (2 * q + 1) (2 * r - d) := by unfold DblI; rw [Int.add_mul, Int.mul_assoc, Int.one_mul]; omega
theorem dbl_no (d q r : Int) : DblI d q r (2 * q) (2 * r) := by unfold DblI; rw [Int.mul_assoc]; omega
/-- the second half: b added -/
def AddI (b d q r q' r' : Int) : Prop := q' * d + r' = q * d + r + b
theorem add_yes (b d q r : Int) : AddI b d q r (q + b / d + 1) (r + b % d - d) := by
  unfold AddI
  have := Int.mul_ediv_add_emod b d
  rw [Int.mul_comm] at this
  rw [Int.add_mul, Int.add_mul, Int.one_mul]; omega
theorem add_no (b d q r : Int) : AddI b d q r (q + b / d) (r + b % d) := by
  unfold AddI
  have := Int.mul_ediv_add_emod b d
  rw [Int.mul_comm] at this
  rw [Int.add_mul]; omega

theorem divI_lo {a0 b d : Int} {m : Nat} {a q r q' r' : Int} (h : DivI a0 b d (m + 1) a q r) (ha : a < pwI m) (h1 : DblI d q r q' r') (r1 : 0 ≤ r') (r2 : r' < d) (q1 : 0 ≤ q') (q2 : q' ≤ 1152921504606846976) : DivI a0 b d m a q' r' := by
  obtain ⟨b1, b2, b3, b4, b5, b6, A, hA, e1, e2⟩ := h
  refine ⟨b1, ha, r1, r2, q1, q2, 2 * A, by omega, ?_, ?_⟩
  · rw [e1, pwI_succ, ← Int.mul_assoc, Int.mul_comm A 2]
  · rw [Int.mul_assoc, e2, h1]
theorem divI_hi {a0 b d : Int} {m : Nat} {a q r q' r' q'' r'' : Int} (h : DivI a0 b d (m + 1) a q r) (ha : pwI m ≤ a) (h1 : DblI d q r q' r') (h2 : AddI b d q' r' q'' r'') (r1 : 0 ≤ r'') (r2 : r'' < d) (q1 : 0 ≤ q'') (q2 : q'' ≤ 1152921504606846976) : DivI a0 b d m (a - pwI m) q'' r'' := by
  obtain ⟨b1, b2, b3, b4, b5, b6, A, hA, e1, e2⟩ := h
  rw [pwI_succ] at b2
  refine ⟨by omega, by omega, r1, r2, q1, q2, 2 * A + 1, by omega, ?_, ?_⟩
  · rw [e1, pwI_succ, Int.add_mul, ← Int.mul_assoc, Int.mul_comm A 2]; omega
  · rw [Int.add_mul, Int.mul_assoc, e2, h2, h1]; omega

theorem le_div_of {x y d : Int} (hd : 0 < d) (h : y * d ≤ x) : y ≤ x / d := Int.le_ediv_of_mul_le hd h
theorem divI_big_lo {a0 b d : Int} {m : Nat} {a q r q' r' : Int} (hd : 1 ≤ d) (hb : 0 ≤ b) (h : DivI a0 b d (m + 1) a q r) (h1 : DblI d q r q' r') (r1 : 0 ≤ r') (hq : 1152921504606846976 < q') : 1152921504606846976 < a0 * b / d := by
  obtain ⟨b1, b2, b3, b4, b5, b6, A, hA, e1, e2⟩ := h
  have h3 : q' ≤ a0 * b / d := by
    apply le_div_of (by omega)
    have h4 : (2 * A) * b ≤ a0 * b := by
      apply Int.mul_le_mul_of_nonneg_right _ hb
      have := pwI_pos m
      have h5 : A * (2 * 1) ≤ A * (2 * pwI m) := Int.mul_le_mul_of_nonneg_left (by omega) hA
      rw [e1, pwI_succ]; omega
    rw [Int.mul_assoc, e2] at h4
    unfold DblI at h1; omega
  omega
theorem divI_big_hi {a0 b d : Int} {m : Nat} {a q r q' r' q'' r'' : Int} (hd : 1 ≤ d) (hb : 0 ≤ b) (h : DivI a0 b d (m + 1) a q r) (ha : pwI m ≤ a) (h1 : DblI d q r q' r') (h2 : AddI b d q' r' q'' r'') (r1 : 0 ≤ r'') (hq : 1152921504606846976 < q'') : 1152921504606846976 < a0 * b / d := by
  obtain ⟨b1, b2, b3, b4, b5, b6, A, hA, e1, e2⟩ := h
  have h3 : q'' ≤ a0 * b / d := by
    apply le_div_of (by omega)
    have h4 : (2 * A + 1) * b ≤ a0 * b := by
      apply Int.mul_le_mul_of_nonneg_right _ hb
      have := pwI_pos m
      have h5 : A * (2 * 1) ≤ A * (2 * pwI m) := Int.mul_le_mul_of_nonneg_left (by omega) hA
      rw [e1, pwI_succ]; omega
    rw [Int.add_mul, Int.mul_assoc, e2] at h4
    unfold DblI at h1; unfold AddI at h2; omega
  omega

/-- what the reference's Divide answers -/
def divR (a b d : Int) : Int × Int × Bool := if a * b / d ≤ 1152921504606846976 then (a * b / d, a * b % d, true) else (0, 0, false)

/-- what Part and Ceil answer: the number, the code (ErrArg 1, ErrRange 5) -/
def partP (t n d : Int) : Int × Int := if argsP t n d then (if t * n / d ≤ 1099511627776 then (t * n / d, 0) else (0, 5)) else (0, 1)
def ceilP (t n d : Int) : Int × Int := if (partP t n d).2 = 0 then (if ceilQ (t * n) d ≤ 1099511627776 then (ceilQ (t * n) d, 0) else (0, 5)) else (0, (partP t n d).2)
theorem partP_no {t n d : Int} (h : argsP t n d = false) : partP t n d = (0, 1) := by unfold partP; rw [h]; rfl
theorem partP_big {t n d : Int} (h : argsP t n d = true) (k : 1099511627776 < t * n / d) : partP t n d = (0, 5) := by unfold partP; rw [if_pos h, if_neg (by omega)]
theorem partP_ok {t n d : Int} (h : argsP t n d = true) (k : t * n / d ≤ 1099511627776) : partP t n d = (t * n / d, 0) := by unfold partP; rw [if_pos h, if_pos k]

/-- what Compare answers -/
def argsC (a b c d : Int) : Bool := lrgS a && lrgS b && lrgS c && lrgS d && !decide (b = 0) && !decide (d = 0)
def cmpP (a b c d : Int) : Int × Int := if argsC a b c d then (cmpQ a b c d, 0) else (0, 1)
end Go.Proofs.Ytbcjikiakanncaa
