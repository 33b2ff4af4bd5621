/- package share, plain: the greedy method of the reference. Nothing of the program is named. -/
import Derived.Test.YtenencblpoeneaaSp3
namespace Go.Proofs.Ytenencblpoeneaa
open Go.RowKit
set_option linter.unusedVariables false

theorem nodup_len_le : ∀ {l m : List Nat}, l.Nodup → (∀ x ∈ l, x ∈ m) → l.length ≤ m.length
  | [], m, _, _ => by simp
  | a :: l, m, hn, hs => by
    have hn' := List.nodup_cons.1 hn
    have ha := hs a (by simp)
    have h1 : ∀ y ∈ l, y ∈ m.erase a := fun y hy => by
      have : y ≠ a := fun e => hn'.1 (e ▸ hy)
      exact (List.mem_erase_of_ne this).2 (hs y (by simp [hy]))
    have := nodup_len_le hn'.2 h1
    rw [List.length_erase_of_mem ha] at this
    have h0 : 0 < m.length := List.length_pos_of_mem ha
    simp only [List.length_cons]; omega

def marked (r : List Int) (L : List Nat) : List Int := L.foldl (fun a i => a.set i (-1)) r
theorem marked_snoc (r : List Int) (L : List Nat) (i : Nat) : marked r (L ++ [i]) = (marked r L).set i (-1) := by simp [marked, List.foldl_append]
theorem marked_len (r : List Int) (L : List Nat) : (marked r L).length = r.length := by
  unfold marked
  induction L generalizing r with
  | nil => rfl
  | cons i L ih => rw [List.foldl_cons, ih, List.length_set]
theorem marked_at (r : List Int) (L : List Nat) (j : Nat) (hj : j < r.length) : (marked r L).getD j 0 = if j ∈ L then -1 else r.getD j 0 := by
  unfold marked
  induction L generalizing r with
  | nil => simp
  | cons i L ih =>
    rw [List.foldl_cons, ih _ (by rw [List.length_set]; exact hj), getD_set]
    by_cases h : j ∈ L
    · rw [if_pos h, if_pos (by simp [h])]
    · rw [if_neg h]
      by_cases e : i = j
      · subst e
        rw [if_pos (show i ∈ i :: L by simp), if_pos ⟨rfl, hj⟩]
      · rw [if_neg (by omega), if_neg (by simp; exact ⟨fun h' => e h'.symm, h⟩)]

/-- best is the first greatest of the first i -/
def FMax (cur : List Int) (best i : Nat) : Prop := best < i ∧ ∀ j, j < i → j ≠ best → Bef cur best j
theorem fmax_start (cur : List Int) : FMax cur 0 1 := ⟨by omega, fun j h1 h2 => by omega⟩
theorem fmax_up {cur : List Int} {best i : Nat} (h : FMax cur best i) (hc : cur.getD best 0 < cur.getD i 0) : FMax cur i (i + 1) := by
  refine ⟨by omega, fun j h1 h2 => .inl ?_⟩
  by_cases e : j = best
  · subst e; exact hc
  · have := (h.2 j (by omega) e).le; omega
theorem fmax_stay {cur : List Int} {best i : Nat} (h : FMax cur best i) (hc : ¬ cur.getD best 0 < cur.getD i 0) : FMax cur best (i + 1) := by
  refine ⟨by have := h.1; omega, fun j h1 h2 => ?_⟩
  by_cases e : j = i
  · subst e
    have := h.1
    unfold Bef; omega
  · exact h.2 j (by omega) h2
theorem Picks.nil (r : List Int) : Picks r [] := ⟨List.nodup_nil, by simp, by simp⟩
theorem Picks.snoc {r : List Int} {L : List Nat} {best : Nat} (h : Picks r L) (hr : ∀ x ∈ r, 0 ≤ x) (hl : L.length < r.length) (hf : FMax (marked r L) best r.length) : Picks r (L ++ [best]) := by
  have hb := hf.1
  obtain ⟨j0, hj0, hj1⟩ : ∃ j, j < r.length ∧ j ∉ L := by
    by_cases hs : ∀ j, j < r.length → j ∈ L
    · exfalso
      have := nodup_len_le (l := List.range r.length) (m := L) List.nodup_range (fun x hx => hs x (by simpa using hx))
      simp at this; omega
    · simp only [Classical.not_forall] at hs
      obtain ⟨j, h1, h2⟩ := hs
      exact ⟨j, h1, h2⟩
  have h0 : 0 ≤ r.getD j0 0 := getD_mem0 (P := fun x => 0 ≤ x) (by omega) hr j0
  have hbl : best ∉ L := by
    intro hbl
    have hne : j0 ≠ best := fun e => hj1 (e ▸ hbl)
    have hle := (hf.2 j0 hj0 hne).le
    rw [marked_at _ _ _ hj0, if_neg hj1, marked_at _ _ _ hb, if_pos hbl] at hle
    omega
  refine ⟨?_, ?_, ?_⟩
  · rw [List.nodup_append]
    exact ⟨h.nd, by simp, fun a ha b hb' => by simp only [List.mem_singleton] at hb'; subst hb'; exact fun e => hbl (e ▸ ha)⟩
  · intro i hi
    rcases List.mem_append.1 hi with hi | hi
    · exact h.lt i hi
    · simp only [List.mem_singleton] at hi; subst hi; exact hb
  · intro i hi j hj hn
    have hn1 : j ∉ L := fun e => hn (List.mem_append_left _ e)
    have hn2 : j ≠ best := fun e => hn (List.mem_append_right _ (by simp [e]))
    rcases List.mem_append.1 hi with hi | hi
    · exact h.bef i hi j hj hn1
    · simp only [List.mem_singleton] at hi; subst hi
      have := hf.2 j hj hn2
      unfold Bef at this ⊢
      rw [marked_at _ _ _ hj, if_neg hn1, marked_at _ _ _ hb, if_neg hbl] at this
      exact this
end Go.Proofs.Ytenencblpoeneaa
