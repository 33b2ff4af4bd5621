/- package share, plain: what the laws say of the method; Part and Ceil; comparing fractions. Nothing of the program is named. -/
import Derived.Test.YtbcjikiakanncaaSp1
namespace Go.Proofs.Ytbcjikiakanncaa
open Go.RowKit
set_option linter.unusedVariables false

theorem mul_ediv_scale (a s k : Int) (hk : 0 < k) : (k * a) / (k * s) = a / s := Int.mul_ediv_mul_of_pos a s hk
theorem mul_emod_scale (a s k : Int) (hk : 0 < k) : (k * a) % (k * s) = k * (a % s) := Int.mul_emod_mul_of_pos a s hk

def scaleS (k : Int) (ws : List Int) : List Int := ws.map fun w => k * w
theorem scale_sum (k : Int) (ws : List Int) : totS (scaleS k ws) = k * totS ws := by
  unfold scaleS
  induction ws with
  | nil => simp [totS]
  | cons w ws ih => simp only [List.map_cons, totS, ih, Int.mul_add]
theorem scale_q (t k : Int) (ws : List Int) (hk : 0 < k) : qS t (totS (scaleS k ws)) (scaleS k ws) = qS t (totS ws) ws := by
  rw [scale_sum]
  unfold qS scaleS
  rw [List.map_map]
  apply List.map_congr_left
  intro w _
  simp only [Function.comp]
  rw [show t * (k * w) = k * (t * w) from Int.mul_left_comm t k w, mul_ediv_scale _ _ _ hk]
theorem scale_r (t k : Int) (ws : List Int) (hk : 0 < k) : rS t (totS (scaleS k ws)) (scaleS k ws) = scaleS k (rS t (totS ws) ws) := by
  rw [scale_sum]
  unfold rS scaleS
  rw [List.map_map, List.map_map]
  apply List.map_congr_left
  intro w _
  simp only [Function.comp]
  rw [show t * (k * w) = k * (t * w) from Int.mul_left_comm t k w, mul_emod_scale _ _ _ hk]
theorem scale_getD (k : Int) (r : List Int) (i : Nat) : (scaleS k r).getD i 0 = k * r.getD i 0 := by
  unfold scaleS
  rw [List.getD_eq_getElem?_getD, List.getElem?_map, List.getD_eq_getElem?_getD]
  rcases r[i]? with _ | x <;> simp
theorem scale_bef (k : Int) (r : List Int) (hk : 0 < k) (i j : Nat) : Bef (scaleS k r) i j ↔ Bef r i j := by
  unfold Bef
  rw [scale_getD, scale_getD, Int.mul_lt_mul_left hk]
  have : k * r.getD i 0 = k * r.getD j 0 ↔ r.getD i 0 = r.getD j 0 := by
    constructor
    · intro h; exact Int.eq_of_mul_eq_mul_left (by omega) h
    · intro h; rw [h]
  rw [this]
theorem IsSplit.scale {t k : Int} {ws xs : List Int} (hk : 0 < k) (h : IsSplit t (scaleS k ws) xs) : IsSplit t ws xs := by
  obtain ⟨L, h1, h2, rfl⟩ := h
  rw [scale_r _ _ _ hk] at h1
  have hl : (scaleS k (rS t (totS ws) ws)).length = (rS t (totS ws) ws).length := by simp [scaleS]
  refine ⟨L, ⟨h1.nd, fun i hi => by rw [← hl]; exact h1.lt i hi, fun i hi j hj hn => (scale_bef k _ hk i j).1 (h1.bef i hi j (by rw [hl]; exact hj) hn)⟩, ?_, ?_⟩
  · rw [h2]; unfold leftS; rw [scale_q _ _ _ hk]
  · rw [scale_q _ _ _ hk]

section
variable {t : Int} {ws xs : List Int} {got : Nat → Prop}
/-- a part's place about its quota -/
theorem SplitAt.part (h : SplitAt t ws xs got) (i : Nat) (hi : i < ws.length) :
    (got i ∧ xs.getD i 0 = t * ws.getD i 0 / totS ws + 1 ∧ 0 < t * ws.getD i 0 % totS ws) ∨ (¬ got i ∧ xs.getD i 0 = t * ws.getD i 0 / totS ws) := by
  by_cases hg : got i
  · exact .inl ⟨hg, h.yes i hi hg⟩
  · exact .inr ⟨hg, h.no i hi hg⟩

theorem SplitAt.mono (h : SplitAt t ws xs got) (ht : 0 ≤ t) (hs : 0 < totS ws) (i j : Nat) (hi : i < ws.length) (hj : j < ws.length) (hw : ws.getD j 0 < ws.getD i 0) : xs.getD j 0 ≤ xs.getD i 0 := by
  have hq : t * ws.getD j 0 / totS ws ≤ t * ws.getD i 0 / totS ws := Int.ediv_le_ediv hs (Int.mul_le_mul_of_nonneg_left (by omega) ht)
  have e1 := Int.mul_ediv_add_emod (t * ws.getD i 0) (totS ws)
  have e2 := Int.mul_ediv_add_emod (t * ws.getD j 0) (totS ws)
  rcases h.part j hj with ⟨gj, ej, pj⟩ | ⟨gj, ej⟩
  · rcases h.part i hi with ⟨gi, ei, pi⟩ | ⟨gi, ei⟩
    · omega
    · rcases Int.lt_or_le (t * ws.getD j 0 / totS ws) (t * ws.getD i 0 / totS ws) with hlt | hge
      · omega
      · exfalso
        have hb := (h.first j i hj hi gj gi).le
        rw [rS_at _ _ _ hi, rS_at _ _ _ hj] at hb
        have : t * ws.getD j 0 / totS ws = t * ws.getD i 0 / totS ws := by omega
        rw [this] at e2
        have : t * ws.getD i 0 ≤ t * ws.getD j 0 := by omega
        rcases Int.lt_or_le 0 t with h0 | h0
        · have := Int.mul_lt_mul_of_pos_left hw h0; omega
        · have : t = 0 := by omega
          subst this
          simp at pj
  · rcases h.part i hi with ⟨gi, ei, pi⟩ | ⟨gi, ei⟩ <;> omega

theorem SplitAt.low (h : SplitAt t ws xs got) (i : Nat) (hi : i < ws.length) : t * ws.getD i 0 / totS ws ≤ xs.getD i 0 := by
  rcases h.part i hi with ⟨gi, ei, pi⟩ | ⟨gi, ei⟩ <;> omega
/-- the quota rounded up -/
def ceilQ (a s : Int) : Int := if 0 < a % s then a / s + 1 else a / s
theorem SplitAt.high (h : SplitAt t ws xs got) (i : Nat) (hi : i < ws.length) : xs.getD i 0 ≤ ceilQ (t * ws.getD i 0) (totS ws) := by
  unfold ceilQ
  rcases h.part i hi with ⟨gi, ei, pi⟩ | ⟨gi, ei⟩
  · rw [if_pos pi]; omega
  · split <;> omega

def farI (a b : Int) : Int := if a < b then b - a else a - b
theorem SplitAt.best (h : SplitAt t ws xs got) (hs : 0 < totS ws) (i j : Nat) (hi : i < ws.length) (hj : j < ws.length) :
    farI (xs.getD i 0 * totS ws) (t * ws.getD i 0) + farI (xs.getD j 0 * totS ws) (t * ws.getD j 0) ≤
      farI ((xs.getD i 0 - 1) * totS ws) (t * ws.getD i 0) + farI ((xs.getD j 0 + 1) * totS ws) (t * ws.getD j 0) := by
  have e1 := Int.mul_ediv_add_emod (t * ws.getD i 0) (totS ws)
  have e2 := Int.mul_ediv_add_emod (t * ws.getD j 0) (totS ws)
  have a1 := Int.emod_nonneg (t * ws.getD i 0) (show totS ws ≠ 0 by omega)
  have a2 := Int.emod_lt_of_pos (t * ws.getD i 0) hs
  have b1 := Int.emod_nonneg (t * ws.getD j 0) (show totS ws ≠ 0 by omega)
  have b2 := Int.emod_lt_of_pos (t * ws.getD j 0) hs
  rw [Int.sub_mul, Int.add_mul, Int.one_mul]
  have hf : ∀ c d : Int, farI c d = if c < d then d - c else c - d := fun _ _ => rfl
  rcases h.part i hi with ⟨gi, ei, pi⟩ | ⟨gi, ei⟩ <;> rcases h.part j hj with ⟨gj, ej, pj⟩ | ⟨gj, ej⟩
  case inl.inr =>
    have hb := (h.first i j hi hj gi gj).le
    rw [rS_at _ _ _ hi, rS_at _ _ _ hj] at hb
    rw [ei, ej, Int.add_mul, Int.one_mul, Int.mul_comm _ (totS ws), Int.mul_comm _ (totS ws)]
    generalize totS ws * (t * ws.getD i 0 / totS ws) = A at *
    generalize totS ws * (t * ws.getD j 0 / totS ws) = B at *
    simp only [hf]
    (repeat' split) <;> omega
  all_goals
    rw [ei, ej]
    try simp only [Int.add_mul, Int.one_mul]
    rw [Int.mul_comm (t * ws.getD i 0 / totS ws) (totS ws), Int.mul_comm (t * ws.getD j 0 / totS ws) (totS ws)]
    generalize totS ws * (t * ws.getD i 0 / totS ws) = A at *
    generalize totS ws * (t * ws.getD j 0 / totS ws) = B at *
    simp only [hf]
    (repeat' split) <;> omega
end

/-- numbers of the package -/
def AmtI (n : Int) : Prop := 0 ≤ n ∧ n ≤ 1099511627776
def LrgI (n : Int) : Prop := 0 ≤ n ∧ n ≤ 1152921504606846976
instance (n : Int) : Decidable (AmtI n) := inferInstanceAs (Decidable (_ ∧ _))
instance (n : Int) : Decidable (LrgI n) := inferInstanceAs (Decidable (_ ∧ _))
/-- what Part and Ceil answer (codes: OK 0, ErrArg A, ErrRange R) -/
def argsP (t n d : Int) : Bool := decide (AmtI t) && decide (LrgI n) && decide (LrgI d) && !decide (d = 0)
theorem argsP_iff (t n d : Int) : argsP t n d = true ↔ AmtI t ∧ LrgI n ∧ 0 < d ∧ d ≤ 1152921504606846976 := by
  unfold argsP
  simp only [Bool.and_eq_true, decide_eq_true_eq, Bool.not_eq_true', decide_eq_false_iff_not]
  unfold AmtI LrgI; omega
theorem argsP_not (t n d : Int) : argsP t n d = false ↔ ¬ (AmtI t ∧ LrgI n ∧ 0 < d ∧ d ≤ 1152921504606846976) := by
  rw [← Bool.not_eq_true, argsP_iff]

/-- a split of t by its own parts is the same -/
theorem IsSplit.again {t : Int} {xs ys : List Int} (ht : 0 < t) (hx : totS xs = t) (h : IsSplit t xs ys) : ys = xs := by
  obtain ⟨L, h1, h2, rfl⟩ := h
  have e : qS t (totS xs) xs = xs := by
    unfold qS
    rw [hx]
    conv => rhs; rw [← List.map_id xs]
    apply List.map_congr_left
    intro x _
    rw [Int.mul_ediv_cancel_left _ (by omega)]; rfl
  have h3 : L.length = 0 := by
    have : leftS t (totS xs) xs = 0 := by unfold leftS; rw [e, hx]; omega
    omega
  rw [List.eq_nil_of_length_eq_zero h3, e]; rfl

/-- the rest of a fraction -/
theorem part_rest {t n d : Int} (hd : 0 < d) : t * n / d + ceilQ (t * (d - n)) d = t := by
  have e1 := Int.mul_ediv_add_emod (t * n) d
  have e2 := Int.mul_ediv_add_emod (t * (d - n)) d
  have a1 := Int.emod_nonneg (t * n) (show d ≠ 0 by omega)
  have a2 := Int.emod_lt_of_pos (t * n) hd
  have b1 := Int.emod_nonneg (t * (d - n)) (show d ≠ 0 by omega)
  have b2 := Int.emod_lt_of_pos (t * (d - n)) hd
  have e3 : d * (t * n / d + t * (d - n) / d) + (t * n % d + t * (d - n) % d) = d * t := by
    rw [Int.mul_add]
    have : t * n + t * (d - n) = d * t := by rw [← Int.mul_add, show n + (d - n) = d by omega, Int.mul_comm]
    omega
  unfold ceilQ
  generalize t * n / d = x at *
  generalize t * (d - n) / d = y at *
  have e4 : d * (t - (x + y)) = t * n % d + t * (d - n) % d := by rw [Int.mul_sub]; omega
  generalize t * n % d = r at *
  generalize t * (d - n) % d = u at *
  generalize hz : t - (x + y) = z at *
  have z0 : 0 ≤ z := by
    rcases Int.lt_or_le z 0 with h | h
    · have := Int.mul_neg_of_pos_of_neg hd h; omega
    · exact h
  have z1 : z < 2 := by
    rcases Int.lt_or_le z 2 with h | h
    · exact h
    · have := Int.mul_le_mul_of_nonneg_left h (show 0 ≤ d by omega); omega
  have hz01 : z = 0 ∨ z = 1 := by omega
  rcases hz01 with rfl | rfl
  · simp at e4
    rw [if_neg (by omega)]; omega
  · simp at e4
    rw [if_pos (by omega)]; omega

/-- the sign of a/b - c/d -/
def cmpQ (a b c d : Int) : Int := if a * d < c * b then -1 else if a * d = c * b then 0 else 1
end Go.Proofs.Ytbcjikiakanncaa
