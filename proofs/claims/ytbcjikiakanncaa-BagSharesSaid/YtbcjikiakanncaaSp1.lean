/- package share, plain: the method of the largest remainders. Nothing of the program is named. -/
import Derived.RowKit
namespace Go.Proofs.Ytbcjikiakanncaa
open Go.RowKit
set_option linter.unusedVariables false

/-- j comes before i: a greater rest, or the same rest at a smaller place -/
def Bef (r : List Int) (j i : Nat) : Prop := r.getD i 0 < r.getD j 0 ∨ (r.getD j 0 = r.getD i 0 ∧ j < i)
theorem Bef.trans {r : List Int} {a b c : Nat} (h : Bef r a b) (k : Bef r b c) : Bef r a c := by unfold Bef at *; omega
theorem Bef.asymm {r : List Int} (a b : Nat) (h : Bef r a b) : ¬ Bef r b a := by unfold Bef at *; omega
theorem Bef.le {r : List Int} {a b : Nat} (h : Bef r a b) : r.getD b 0 ≤ r.getD a 0 := by unfold Bef at *; omega

theorem sub_of_len : ∀ {l m : List Nat}, l.Nodup → (∀ x ∈ l, x ∈ m) → m.length ≤ l.length → ∀ x ∈ m, x ∈ l
  | [], m, _, _, hl, x, hx => by
    have : m = [] := List.eq_nil_of_length_eq_zero (by simpa using hl)
    subst this; simp at hx
  | a :: l, m, hn, hs, hl, x, hx => by
    have hn' := List.nodup_cons.1 hn
    have ha := hs a (by simp)
    by_cases e : x = a
    · simp [e]
    · have h1 : ∀ y ∈ l, y ∈ m.erase a := fun y hy => by
        have : y ≠ a := fun e => hn'.1 (e ▸ hy)
        exact (List.mem_erase_of_ne this).2 (hs y (by simp [hy]))
      have h2 : (m.erase a).length ≤ l.length := by
        rw [List.length_erase_of_mem ha]
        simp only [List.length_cons] at hl; omega
      have := sub_of_len hn'.2 h1 h2 x ((List.mem_erase_of_ne e).2 hx)
      simp [this]

/-- 1 more at each of some places -/
def bump (xs : List Int) (L : List Nat) : List Int := L.foldl (fun a i => a.set i (a.getD i 0 + 1)) xs
theorem bump_snoc (xs : List Int) (L : List Nat) (i : Nat) : bump xs (L ++ [i]) = (bump xs L).set i ((bump xs L).getD i 0 + 1) := by
  simp [bump, List.foldl_append]
theorem bump_len (xs : List Int) (L : List Nat) : (bump xs L).length = xs.length := by
  unfold bump
  induction L generalizing xs with
  | nil => rfl
  | cons i L ih => rw [List.foldl_cons, ih, List.length_set]
theorem getD_set (xs : List Int) (i j : Nat) (v : Int) : (xs.set i v).getD j 0 = if i = j ∧ j < xs.length then v else xs.getD j 0 := by
  rw [List.getD_eq_getElem?_getD, List.getElem?_set, List.getD_eq_getElem?_getD]
  by_cases h : i = j
  · subst h
    by_cases hl : i < xs.length
    · simp [hl]
    · simp [hl]
  · simp [h]
theorem bump_at (xs : List Int) (L : List Nat) (hn : L.Nodup) (i : Nat) (hi : i < xs.length) : (bump xs L).getD i 0 = xs.getD i 0 + if i ∈ L then 1 else 0 := by
  unfold bump
  induction L generalizing xs with
  | nil => simp
  | cons j L ih =>
    have hn' := List.nodup_cons.1 hn
    rw [List.foldl_cons, ih _ hn'.2 (by rw [List.length_set]; exact hi), getD_set]
    by_cases h : j = i
    · subst h
      rw [if_pos ⟨rfl, hi⟩, if_neg hn'.1, if_pos (by simp)]; omega
    · rw [if_neg (by omega)]
      have : i ∈ j :: L ↔ i ∈ L := by simp; intro e; exact absurd e.symm h
      simp only [this]

def totS : List Int → Int
  | [] => 0
  | x :: l => x + totS l
theorem totS_app (a b : List Int) : totS (a ++ b) = totS a + totS b := by
  induction a with
  | nil => simp [totS]
  | cons x a ih => simp only [List.cons_append, totS, ih]; omega
theorem totS_snoc (a : List Int) (x : Int) : totS (a ++ [x]) = totS a + x := by rw [totS_app]; simp [totS]
theorem totS_nonneg {l : List Int} (h : ∀ x ∈ l, 0 ≤ x) : 0 ≤ totS l := by
  induction l with
  | nil => simp [totS]
  | cons x l ih =>
    have := h x (by simp)
    have := ih fun y hy => h y (by simp [hy])
    simp only [totS]; omega
theorem totS_le {l : List Int} {m : Int} (h : ∀ x ∈ l, x ≤ m) : totS l ≤ l.length * m := by
  induction l with
  | nil => simp [totS]
  | cons x l ih =>
    have := h x (by simp)
    have := ih fun y hy => h y (by simp [hy])
    simp only [totS, List.length_cons, Int.natCast_add, Int.add_mul]; omega
theorem totS_mem {l : List Int} (h : ∀ x ∈ l, 0 ≤ x) : ∀ x ∈ l, x ≤ totS l := by
  induction l with
  | nil => simp
  | cons y l ih =>
    intro x hx
    have h0 := h y (by simp)
    have h1 : ∀ x ∈ l, 0 ≤ x := fun z hz => h z (by simp [hz])
    have h2 := totS_nonneg h1
    simp only [totS]
    rcases List.mem_cons.1 hx with rfl | hx
    · omega
    · have := ih h1 x hx; omega
theorem totS_perm {a b : List Int} (h : a.Perm b) : totS a = totS b := by
  induction h with
  | nil => rfl
  | cons x _ ih => simp only [totS, ih]
  | swap x y l => simp only [totS]; omega
  | trans _ _ h1 h2 => rw [h1, h2]
theorem range_getD (r : List Int) : (List.range r.length).map (fun i => r.getD i 0) = r := by
  apply List.ext_getElem
  · simp
  · intro i h1 h2
    simp [List.getD_eq_getElem?_getD, h2]
theorem totS_set (xs : List Int) (i : Nat) (hi : i < xs.length) (v : Int) : totS (xs.set i v) = totS xs - xs.getD i 0 + v := by
  induction xs generalizing i with
  | nil => simp at hi
  | cons x xs ih =>
    cases i with
    | zero => simp [totS]; omega
    | succ i =>
      have := ih i (by simpa using hi)
      simp only [List.set_cons_succ, totS, this, List.getD_cons_succ]; omega
theorem totS_bump (xs : List Int) (L : List Nat) (h : ∀ i ∈ L, i < xs.length) : totS (bump xs L) = totS xs + L.length := by
  unfold bump
  induction L generalizing xs with
  | nil => simp
  | cons i L ih =>
    have hi := h i (by simp)
    rw [List.foldl_cons, ih _ (fun j hj => by rw [List.length_set]; exact h j (by simp [hj])), totS_set _ _ hi]
    simp only [List.length_cons, Int.natCast_add]; omega

/-- the quotas rounded down, the rests -/
def qS (t s : Int) (ws : List Int) : List Int := ws.map fun w => t * w / s
def rS (t s : Int) (ws : List Int) : List Int := ws.map fun w => t * w % s
theorem qS_len (t s : Int) (ws : List Int) : (qS t s ws).length = ws.length := by simp [qS]
theorem rS_len (t s : Int) (ws : List Int) : (rS t s ws).length = ws.length := by simp [rS]
theorem getD_map0 (f : Int → Int) (ws : List Int) {i : Nat} (hi : i < ws.length) : (ws.map f).getD i 0 = f (ws.getD i 0) := by
  simp [List.getD_eq_getElem?_getD, hi]
theorem qS_at (t s : Int) (ws : List Int) {i : Nat} (hi : i < ws.length) : (qS t s ws).getD i 0 = t * ws.getD i 0 / s := getD_map0 _ ws hi
theorem rS_at (t s : Int) (ws : List Int) {i : Nat} (hi : i < ws.length) : (rS t s ws).getD i 0 = t * ws.getD i 0 % s := getD_map0 _ ws hi
theorem qr_sum (t s : Int) (ws : List Int) : totS (qS t s ws) * s + totS (rS t s ws) = t * totS ws := by
  unfold qS rS
  induction ws with
  | nil => simp [totS]
  | cons w ws ih =>
    have := Int.mul_ediv_add_emod (t * w) s
    rw [Int.mul_comm s] at this
    simp only [List.map_cons, totS, Int.add_mul, Int.mul_add]
    omega
def leftS (t s : Int) (ws : List Int) : Int := t - totS (qS t s ws)
theorem left_sum (t : Int) (ws : List Int) : leftS t (totS ws) ws * totS ws = totS (rS t (totS ws) ws) := by
  have := qr_sum t (totS ws) ws
  unfold leftS
  rw [Int.sub_mul]; omega
theorem rS_range {t s : Int} {ws : List Int} (hs : 0 < s) : ∀ x ∈ rS t s ws, 0 ≤ x ∧ x ≤ s - 1 := by
  intro x hx
  simp only [rS, List.mem_map] at hx
  obtain ⟨w, _, rfl⟩ := hx
  have h1 := Int.emod_nonneg (t * w) (show s ≠ 0 by omega)
  have h2 := Int.emod_lt_of_pos (t * w) hs
  omega
theorem left_range {t : Int} {ws : List Int} (hs : 0 < totS ws) : 0 ≤ leftS t (totS ws) ws ∧ leftS t (totS ws) ws ≤ ws.length := by
  have h := left_sum t ws
  have h0 := totS_nonneg (fun x hx => (rS_range (t := t) (ws := ws) hs x hx).1)
  have h1 := totS_le (fun x hx => (rS_range (t := t) (ws := ws) hs x hx).2)
  rw [rS_len] at h1
  rw [← h] at h0 h1
  constructor
  · rcases Int.lt_or_le (leftS t (totS ws) ws) 0 with hn | hn
    · have := Int.mul_neg_of_neg_of_pos hn hs; omega
    · exact hn
  · rcases Int.lt_or_le (ws.length : Int) (leftS t (totS ws) ws) with hn | hn
    · have := Int.mul_lt_mul_of_pos_right hn hs
      have h2 : (ws.length : Int) * (totS ws - 1) ≤ ws.length * totS ws := Int.mul_le_mul_of_nonneg_left (by omega) (by omega)
      omega
    · exact hn

/-- xs is the split of t by the weights ws: the places L get 1 more -/
structure Picks (r : List Int) (L : List Nat) : Prop where
  nd : L.Nodup
  lt : ∀ i ∈ L, i < r.length
  bef : ∀ i ∈ L, ∀ j, j < r.length → j ∉ L → Bef r i j
theorem Picks.unique {r : List Int} {L M : List Nat} (h : Picks r L) (k : Picks r M) (hl : L.length = M.length) (i : Nat) : i ∈ L ↔ i ∈ M := by
  have key : ∀ {L M : List Nat}, Picks r L → Picks r M → L.length = M.length → ∀ i ∈ L, i ∈ M := by
    intro L M h k hl i hi
    by_cases hm : i ∈ M
    · exact hm
    · exfalso
      by_cases hs : ∀ x ∈ M, x ∈ L
      · exact hm (sub_of_len k.nd hs (by omega) i hi)
      · simp only [Classical.not_forall] at hs
        obtain ⟨j, hj, hjl⟩ := hs
        exact Bef.asymm _ _ (h.bef i hi j (k.lt j hj) hjl) (k.bef j hj i (h.lt i hi) hm)
  exact ⟨key h k hl i, key k h hl.symm i⟩

def IsSplit (t : Int) (ws xs : List Int) : Prop :=
  ∃ L : List Nat, Picks (rS t (totS ws) ws) L ∧ (L.length : Int) = leftS t (totS ws) ws ∧ xs = bump (qS t (totS ws) ws) L

theorem ext_getD {xs ys : List Int} (hl : xs.length = ys.length) (h : ∀ i, i < xs.length → xs.getD i 0 = ys.getD i 0) : xs = ys := by
  apply List.ext_getElem hl
  intro i h1 h2
  have := h i h1
  simpa [List.getD_eq_getElem?_getD, h1, h2] using this

theorem IsSplit.unique {t : Int} {ws xs ys : List Int} (h : IsSplit t ws xs) (k : IsSplit t ws ys) : xs = ys := by
  obtain ⟨L, h1, h2, rfl⟩ := h
  obtain ⟨M, k1, k2, rfl⟩ := k
  have hm := h1.unique k1 (by omega)
  refine ext_getD (by simp [bump_len]) fun i hi => ?_
  rw [bump_len] at hi
  rw [bump_at _ _ h1.nd i hi, bump_at _ _ k1.nd i hi]
  simp only [hm i]
theorem IsSplit.len {t : Int} {ws xs : List Int} (h : IsSplit t ws xs) : xs.length = ws.length := by
  obtain ⟨L, h1, h2, rfl⟩ := h
  rw [bump_len, qS_len]

/-- what the laws ask: each part is the quota, or 1 more where the rest is not 0; a greater rest goes first; the sum -/
structure SplitAt (t : Int) (ws xs : List Int) (got : Nat → Prop) : Prop where
  yes : ∀ i, i < ws.length → got i → xs.getD i 0 = t * ws.getD i 0 / totS ws + 1 ∧ 0 < t * ws.getD i 0 % totS ws
  no : ∀ i, i < ws.length → ¬ got i → xs.getD i 0 = t * ws.getD i 0 / totS ws
  first : ∀ i j, i < ws.length → j < ws.length → got i → ¬ got j → Bef (rS t (totS ws) ws) i j
  sum : totS xs = t

def zeroed (r : List Int) (L : List Nat) : List Int := L.foldl (fun a i => a.set i 0) r
theorem zeroed_at (r : List Int) (L : List Nat) (j : Nat) : (zeroed r L).getD j 0 = if j ∈ L then 0 else r.getD j 0 := by
  unfold zeroed
  induction L generalizing r with
  | nil => simp
  | cons i L ih =>
    rw [List.foldl_cons, ih, getD_set]
    by_cases h : j ∈ L
    · rw [if_pos h, if_pos (by simp [h])]
    · rw [if_neg h]
      by_cases e : i = j
      · subst e
        rw [if_pos (show i ∈ i :: L by simp)]
        by_cases hl : i < r.length
        · rw [if_pos ⟨rfl, hl⟩]
        · rw [if_neg (fun h => hl h.2)]; simp [List.getD_eq_getElem?_getD, List.getElem?_eq_none (Nat.le_of_not_lt hl)]
      · rw [if_neg (by omega), if_neg (by simp; exact ⟨fun h' => e h'.symm, h⟩)]
theorem getD_le {r : List Int} {m : Int} (hm : 0 ≤ m) (h : ∀ j, r.getD j 0 ≤ m) : ∀ x ∈ r, x ≤ m := fun x hx => by
  obtain ⟨j, hj, rfl⟩ := List.getElem_of_mem hx
  have := h j
  simpa [List.getD_eq_getElem?_getD, hj] using this
theorem zeroed_sum (r : List Int) (L : List Nat) (m : Int) (hm : 0 ≤ m) (h : ∀ j, r.getD j 0 ≤ m) (hL : ∀ i ∈ L, i < r.length) : totS r ≤ totS (zeroed r L) + L.length * m := by
  unfold zeroed
  induction L generalizing r with
  | nil => simp
  | cons i L ih =>
    have hi := hL i (by simp)
    have := ih (r.set i 0) (fun j => by rw [getD_set]; split; exact hm; exact h j) (fun j hj => by rw [List.length_set]; exact hL j (by simp [hj]))
    rw [totS_set _ _ hi] at this
    have := h i
    rw [List.foldl_cons]
    simp only [List.length_cons, Int.natCast_add, Int.add_mul]; omega

theorem getD_mem0 {r : List Int} {P : Int → Prop} (h0 : P 0) (h : ∀ x ∈ r, P x) (j : Nat) : P (r.getD j 0) := by
  rw [List.getD_eq_getElem?_getD]
  by_cases hj : j < r.length
  · rw [List.getElem?_eq_getElem hj]; exact h _ (by simp)
  · rw [List.getElem?_eq_none (by omega)]; exact h0

theorem IsSplit.at {t : Int} {ws xs : List Int} (h : IsSplit t ws xs) (hs : 0 < totS ws) : ∃ got, SplitAt t ws xs got := by
  obtain ⟨L, h1, h2, rfl⟩ := h
  have hl := left_sum t ws
  have hR := rS_range (t := t) (ws := ws) hs
  have hrl := rS_len t (totS ws) ws
  have hpos : ∀ i ∈ L, 0 < (rS t (totS ws) ws).getD i 0 := by
    intro i hi
    rcases Int.lt_or_le 0 ((rS t (totS ws) ws).getD i 0) with h | h0
    · exact h
    exfalso
    have e1 := zeroed_sum (rS t (totS ws) ws) L (totS ws - 1) (by omega) (getD_mem0 (by omega) fun x hx => (hR x hx).2) h1.lt
    have e2 : totS (zeroed (rS t (totS ws) ws) L) ≤ (zeroed (rS t (totS ws) ws) L).length * 0 := by
      apply totS_le
      refine getD_le (by omega) fun j => ?_
      rw [zeroed_at]
      by_cases hj : j ∈ L
      · rw [if_pos hj]; omega
      · rw [if_neg hj]
        by_cases hjl : j < (rS t (totS ws) ws).length
        · have := (h1.bef i hi j hjl hj).le; omega
        · simp [List.getD_eq_getElem?_getD, List.getElem?_eq_none (Nat.le_of_not_lt hjl)]
    rw [← hl, ← h2, Int.mul_sub] at e1
    have : 0 < L.length := by
      cases L with
      | nil => simp at hi
      | cons => simp
    omega
  have hltq : ∀ i ∈ L, i < (qS t (totS ws) ws).length := fun i hi => by rw [qS_len, ← hrl]; exact h1.lt i hi
  refine ⟨fun i => i ∈ L, fun i hi hg => ⟨?_, ?_⟩, fun i hi hg => ?_, fun i j hi hj hg hn => ?_, ?_⟩
  · rw [bump_at _ _ h1.nd i (by rw [qS_len]; exact hi), if_pos hg, qS_at _ _ _ hi]
  · have := hpos i hg
    rwa [rS_at _ _ _ hi] at this
  · rw [bump_at _ _ h1.nd i (by rw [qS_len]; exact hi), if_neg hg, qS_at _ _ _ hi]; omega
  · exact h1.bef i hg j (by rw [hrl]; exact hj) hn
  · rw [totS_bump _ _ hltq, h2]
    unfold leftS; omega

/-- the first places of an ordering -/
theorem picks_of_order {r : List Int} {O : List Nat} (h1 : O.Perm (List.range r.length)) (h2 : O.Pairwise (Bef r)) (k : Nat) : Picks r (O.take k) := by
  have hcut := List.take_append_drop k O
  have h2' := h2
  rw [← hcut, List.pairwise_append] at h2'
  have hnd : O.Nodup := h1.nodup_iff.2 List.nodup_range
  have hmem : ∀ i, i ∈ O ↔ i < r.length := fun i => by rw [h1.mem_iff]; simp
  refine ⟨(List.take_sublist k O).nodup hnd, fun i hi => (hmem i).1 (List.mem_of_mem_take hi), fun i hi j hj hn => h2'.2.2 i hi j ?_⟩
  have := (hmem j).2 hj
  rw [← hcut, List.mem_append] at this
  exact this.resolve_left hn

/-- an element x moves left through a sorted list A; R: what is not sorted yet -/
def insAt (A : List Nat) (j : Nat) (x : Nat) (R : List Nat) : List Nat := A.take j ++ x :: (A.drop j ++ R)
theorem insAt_len (A : List Nat) (j x : Nat) (R : List Nat) : (insAt A j x R).length = A.length + 1 + R.length := by
  have := congrArg List.length (List.take_append_drop j A)
  unfold insAt
  simp only [List.length_append, List.length_cons] at *; omega
theorem insAt_top (A : List Nat) (x : Nat) (R : List Nat) : insAt A A.length x R = A ++ x :: R := by simp [insAt]
theorem insAt_succ (A : List Nat) (j x : Nat) (R : List Nat) (hj : j < A.length) : insAt A (j + 1) x R = A.take j ++ A[j] :: x :: (A.drop (j + 1) ++ R) := by
  unfold insAt
  rw [List.take_succ_eq_append_getElem hj, List.append_assoc]; rfl
theorem insAt_same (A : List Nat) (j x : Nat) (R : List Nat) (hj : j < A.length) : insAt A j x R = A.take j ++ x :: A[j] :: (A.drop (j + 1) ++ R) := by
  unfold insAt
  rw [List.drop_eq_getElem_cons hj]; rfl
theorem insAt_get (A : List Nat) (j x : Nat) (R : List Nat) (hj : j < A.length) : (insAt A (j + 1) x R)[j + 1]? = some x ∧ (insAt A (j + 1) x R)[j]? = some A[j] := by
  have hl : (A.take j).length = j := by simp; omega
  rw [insAt_succ _ _ _ _ hj]
  constructor
  · rw [List.getElem?_append_right (by omega), hl, show j + 1 - j = 1 by omega]; rfl
  · rw [List.getElem?_append_right (by omega), hl, show j - j = 0 by omega]; rfl
theorem insAt_swap (A : List Nat) (j x : Nat) (R : List Nat) (hj : j < A.length) :
    ((insAt A (j + 1) x R).set (j + 1) A[j]).set j x = insAt A j x R ∧ ((insAt A (j + 1) x R).set j x).set (j + 1) A[j] = insAt A j x R := by
  have hl : (A.take j).length = j := by simp; omega
  have h1 : ((insAt A (j + 1) x R).set (j + 1) A[j]).set j x = insAt A j x R := by
    rw [insAt_succ _ _ _ _ hj, insAt_same _ _ _ _ hj]
    rw [List.set_append_right _ _ (by omega), hl, show j + 1 - j = 1 by omega, List.set_append_right _ _ (by omega), hl, show j - j = 0 by omega]
    rfl
  refine ⟨h1, ?_⟩
  rw [List.set_comm _ _ (by omega)]
  exact h1
theorem ins_sorted {r : List Int} {A : List Nat} {j x : Nat} (h : A.Pairwise (Bef r)) (hd : ∀ y ∈ A.drop j, Bef r x y) (hs : j = 0 ∨ ∃ h : j - 1 < A.length, Bef r A[j - 1] x) (hj : j ≤ A.length) :
    (A.take j ++ x :: A.drop j).Pairwise (Bef r) := by
  have h' := h
  rw [← List.take_append_drop j A, List.pairwise_append] at h'
  rw [List.pairwise_append, List.pairwise_cons]
  refine ⟨h'.1, ⟨hd, h'.2.1⟩, fun a ha b hb => ?_⟩
  have hax : Bef r a x := by
    rcases hs with rfl | ⟨hl, hb⟩
    · simp at ha
    · obtain ⟨i, hi, rfl⟩ := List.getElem_of_mem ha
      rw [List.length_take] at hi
      rw [List.getElem_take]
      by_cases e : i = j - 1
      · subst e; exact hb
      · exact (List.pairwise_iff_getElem.1 h i (j - 1) (by omega) hl (by omega)).trans hb
  rcases List.mem_cons.1 hb with rfl | hb
  · exact hax
  · exact hax.trans (hd b hb)
theorem ins_perm (A : List Nat) (j x : Nat) : (A.take j ++ x :: A.drop j).Perm (x :: A) := by
  have := List.perm_middle (a := x) (l₁ := A.take j) (l₂ := A.drop j)
  rwa [List.take_append_drop] at this

end Go.Proofs.Ytbcjikiakanncaa
