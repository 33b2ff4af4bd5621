/- The plain side of package bag: what its functions compute, over lists of integers. Nothing of the program is named. -/
import Derived.Test.YtbcjikiakanncaaPl
namespace Go.Proofs.Ytbcjikiakanncaa
open Go.RowKit
set_option linter.unusedVariables false

def amtB (n : Int) : Bool := decide (0 ≤ n) && decide (n ≤ 1099511627776)
def isB (l : List Int) : Bool := l.all amtB && decide (l.length ≤ 64)
def fitB (a b : List Int) : Bool := (isB a && isB b) && decide (a.length = b.length)
def addB (a b : List Int) : List Int × Int := if fitB a b then (if isB (List.zipWith (· + ·) a b) then (List.zipWith (· + ·) a b, 0) else ([], 4)) else ([], 1)
def subB (a b : List Int) : List Int × Int := if fitB a b then (if isB (List.zipWith (· - ·) a b) then (List.zipWith (· - ·) a b, 0) else ([], 10)) else ([], 1)
def timesOk (b : List Int) (k : Int) : Bool := isB b && (decide (0 ≤ k) && decide (k ≤ 1048576))
def timesB (b : List Int) (k : Int) : List Int × Int := if timesOk b k then (if isB (b.map (· * k)) then (b.map (· * k), 0) else ([], 4)) else ([], 1)
def joinB (a b : List Int) : List Int := if fitB a b then List.zipWith max a b else []
def meetB (a b : List Int) : List Int := if fitB a b then List.zipWith min a b else []
def mostStep (k : Int) (p : Int × Int) : Int := if 0 < p.2 then min k (p.1 / p.2) else k
def mostB (a b : List Int) : Int := if fitB a b then (a.zip b).foldl mostStep 1048576 else 0
def coversB (a b : List Int) : Bool := decide ((subB a b).2 = 0)

theorem amtB_iff (n : Int) : amtB n = true ↔ 0 ≤ n ∧ n ≤ 1099511627776 := by simp [amtB]
theorem amtB_not (n : Int) : amtB n = false ↔ n < 0 ∨ 1099511627776 < n := by
  rw [← Bool.not_eq_true, amtB_iff]; omega
theorem isB_iff (l : List Int) : isB l = true ↔ (∀ n ∈ l, 0 ≤ n ∧ n ≤ 1099511627776) ∧ l.length ≤ 64 := by
  simp [isB, amtB_iff]
theorem fitB_iff (a b : List Int) : fitB a b = true ↔ isB a = true ∧ isB b = true ∧ a.length = b.length := by
  simp [fitB, and_assoc]
theorem isB_len {l : List Int} (h : isB l = true) : l.length ≤ 64 := ((isB_iff l).1 h).2
theorem isB_get {l : List Int} (h : isB l = true) (i : Nat) (hi : i < l.length) : 0 ≤ l[i] ∧ l[i] ≤ 1099511627776 := ((isB_iff l).1 h).1 _ (List.getElem_mem hi)
theorem isB_of {l : List Int} (h : ∀ i (hi : i < l.length), 0 ≤ l[i] ∧ l[i] ≤ 1099511627776) (hl : l.length ≤ 64) : isB l = true :=
  (isB_iff l).2 ⟨fun n hn => by obtain ⟨i, hi, rfl⟩ := List.getElem_of_mem hn; exact h i hi, hl⟩
theorem isB_nil : isB [] = true := rfl
theorem timesOk_iff (b : List Int) (k : Int) : timesOk b k = true ↔ isB b = true ∧ 0 ≤ k ∧ k ≤ 1048576 := by simp [timesOk]
theorem i64_of_isB {l : List Int} (h : isB l = true) : ∀ n ∈ l, inI64 n := fun n hn => by
  have := ((isB_iff l).1 h).1 n hn
  unfold inI64; omega

/-- a zip with one function, element by element -/
theorem zw_len (f : Int → Int → Int) (a b : List Int) (h : a.length = b.length) : (List.zipWith f a b).length = a.length := by simp; omega
theorem zw_get (f : Int → Int → Int) (a b : List Int) (i : Nat) (h : i < (List.zipWith f a b).length) : (List.zipWith f a b)[i] = f (a[i]'(by simp at h; omega)) (b[i]'(by simp at h; omega)) := by simp

/-- the reference's Add: it stops at the first sum above the limit -/
theorem isB_zw_add (a b : List Int) (h : fitB a b = true) : isB (List.zipWith (· + ·) a b) = true ↔ ∀ i (h1 : i < a.length) (h2 : i < b.length), a[i] + b[i] ≤ 1099511627776 := by
  obtain ⟨ha, hb, hl⟩ := (fitB_iff a b).1 h
  constructor
  · intro hz i h1 h2
    have := (isB_get hz i (by simp; omega)).2
    simpa using this
  · intro hz
    refine isB_of (fun i hi => ?_) (by have := isB_len ha; simp; omega)
    simp at hi
    have hi1 : i < a.length := by omega
    have hi2 : i < b.length := by omega
    have h1 := isB_get ha i hi1
    have h2 := isB_get hb i hi2
    have := hz i hi1 hi2
    simp; omega
theorem isB_zw_sub (a b : List Int) (h : fitB a b = true) : isB (List.zipWith (· - ·) a b) = true ↔ ∀ i (h1 : i < a.length) (h2 : i < b.length), b[i] ≤ a[i] := by
  obtain ⟨ha, hb, hl⟩ := (fitB_iff a b).1 h
  constructor
  · intro hz i h1 h2
    have := (isB_get hz i (by simp; omega)).1
    simp at this; omega
  · intro hz
    refine isB_of (fun i hi => ?_) (by have := isB_len ha; simp; omega)
    simp at hi
    have hi1 : i < a.length := by omega
    have hi2 : i < b.length := by omega
    have h1 := isB_get ha i hi1
    have h2 := isB_get hb i hi2
    have := hz i hi1 hi2
    simp; omega
theorem isB_map_mul (b : List Int) (k : Int) (h : timesOk b k = true) : isB (b.map (· * k)) = true ↔ ∀ i (h1 : i < b.length), b[i] * k ≤ 1099511627776 := by
  obtain ⟨hb, hk0, hk1⟩ := (timesOk_iff b k).1 h
  constructor
  · intro hz i h1
    have := (isB_get hz i (by simpa using h1)).2
    simpa using this
  · intro hz
    refine isB_of (fun i hi => ?_) (by have := isB_len hb; simp; omega)
    simp at hi
    have h1 := isB_get hb i hi
    have h2 := hz i hi
    have h3 := Int.mul_nonneg h1.1 hk0
    simp; omega
theorem mul_k_bound {x k : Int} (hx0 : 0 ≤ x) (hx : x ≤ 1099511627776) (hk0 : 0 ≤ k) (hk : k ≤ 1048576) : 0 ≤ x * k ∧ x * k ≤ 1152921504606846976 := by
  refine ⟨Int.mul_nonneg hx0 hk0, ?_⟩
  have := Int.mul_le_mul hx hk hk0 (by omega)
  omega
theorem joinB_isB (a b : List Int) : isB (joinB a b) = true := by
  unfold joinB
  split
  · rename_i h
    obtain ⟨ha, hb, hl⟩ := (fitB_iff a b).1 h
    refine isB_of (fun i hi => ?_) (by have := isB_len ha; simp; omega)
    simp at hi
    have hi1 : i < a.length := by omega
    have hi2 : i < b.length := by omega
    have h1 := isB_get ha i hi1
    have h2 := isB_get hb i hi2
    simp; omega
  · rfl
theorem meetB_isB (a b : List Int) : isB (meetB a b) = true := by
  unfold meetB
  split
  · rename_i h
    obtain ⟨ha, hb, hl⟩ := (fitB_iff a b).1 h
    refine isB_of (fun i hi => ?_) (by have := isB_len ha; simp; omega)
    simp at hi
    have hi1 : i < a.length := by omega
    have hi2 : i < b.length := by omega
    have h1 := isB_get ha i hi1
    have h2 := isB_get hb i hi2
    simp; omega
  · rfl
theorem mostStep_range (k : Int) (p : Int × Int) (hk : 0 ≤ k ∧ k ≤ 1048576) (hp : 0 ≤ p.1) : 0 ≤ mostStep k p ∧ mostStep k p ≤ 1048576 := by
  unfold mostStep
  split
  · have := Int.ediv_nonneg hp (show 0 ≤ p.2 by omega)
    omega
  · exact hk
theorem most_fold_range : ∀ (l : List (Int × Int)) (k : Int), 0 ≤ k ∧ k ≤ 1048576 → (∀ p ∈ l, 0 ≤ p.1) → 0 ≤ l.foldl mostStep k ∧ l.foldl mostStep k ≤ 1048576
  | [], k, hk, _ => hk
  | p :: r, k, hk, h => most_fold_range r _ (mostStep_range k p hk (h p (by simp))) (fun q hq => h q (by simp [hq]))
end Go.Proofs.Ytbcjikiakanncaa
