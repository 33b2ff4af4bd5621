/- From the opened rows of a [][]byte argument to RdR. -/
import Derived.Test.YtjgpdimhgcacgaaLw
import Derived.Test.YtjgpdimhgcacgaaDj
namespace Go.Proofs.Ytjgpdimhgcacgaa
open Go.RowKit
set_option linter.unusedVariables false

theorem rdR_nil (w : World) : RdR w (.slice none 0 0) [] := ⟨[], Rd.nil w, rfl, fun i u bs h _ => by simp at h⟩
theorem rdR_of_rows {base : Nat} {w : World} {a : Addr} {len cap : Nat} {A : Nat → Option Addr} {L C : Nat → Nat} {Z : Nat → List Int} (hl : len ≤ cap) (hm : cap ≤ maxLen)
    (hr : ∀ r, r < cap → w.cell? (a.add r) = some (.slice (A r) (L r) (C r)) ∧ L r ≤ C r ∧ C r ≤ maxLen ∧ (Z r).length = C r ∧ (∀ n ∈ Z r, (Lit.int .u8 n).wf = true) ∧ (A r = none → C r = 0) ∧
      ∀ a', A r = some a' → base ≤ a'.block ∧ ∀ c, c < C r → w.cell? (a'.add c) = some (.int .u8 ((Z r).getD c 0))) :
    ∃ S : List (List UInt8), RdR w (.slice (some a) len cap) S := by
  have each : ∀ r, ∃ l : List UInt8, r < cap → Rd w (.slice (A r) (L r) (C r)) (vbs l) := by
    intro r
    by_cases h : r < cap
    · obtain ⟨-, h2, h3, h4, h5, h6, h7⟩ := hr r h
      have hrow : RowOf .u8 w (A r) (L r) (C r) (Z r) := by
        cases hA : A r with
        | none =>
          have hC := h6 hA
          exact .inl ⟨rfl, by omega, hC, List.eq_nil_of_length_eq_zero (by omega)⟩
        | some a' => exact .inr ⟨a', rfl, h2, h3, h4, fun i hi => (h7 a' hA).2 i (by omega), h5⟩
      obtain ⟨l, hl⟩ := rdB_of_row hrow
      exact ⟨l, fun _ => hl⟩
    · exact ⟨[], fun h' => absurd h' h⟩
  refine ⟨(List.range len).map (fun r => Classical.choose (each r)), (List.range len).map (fun r => .slice (A r) (L r) (C r)), ?_, by simp, ?_⟩
  · have hlen : ((List.range len).map (fun r => Value.slice (A r) (L r) (C r))).length = len := by simp
    refine ⟨some a, cap, by rw [hlen], by rw [hlen]; exact hl, hm, ?_⟩
    rcases Nat.eq_zero_or_pos len with h0 | h0
    · subst h0; exact .inl (by simp)
    · right
      have h1 := (hr 0 (by omega)).1
      obtain ⟨b, off, spot⟩ := a
      have hspot : spot = none := by simpa [Addr.add] using World.cell?_spot h1
      subst hspot
      refine ⟨b, off, rfl, fun j u hu => ?_⟩
      have hj : j < len := by
        rcases Nat.lt_or_ge j len with h | h
        · exact h
        · rw [List.getElem?_eq_none (by rw [hlen]; exact h)] at hu; cases hu
      have h2 := (hr j (by omega)).1
      rw [addr_add] at h2
      rw [h2, ← hu, List.getElem?_map, List.getElem?_range hj]
      rfl
  · intro i u bs hu hb
    have hi : i < len := by
      rcases Nat.lt_or_ge i len with h | h
      · exact h
      · rw [List.getElem?_eq_none (by simp; exact h)] at hu; cases hu
    rw [List.getElem?_map, List.getElem?_range hi] at hu hb
    injection hu with hu
    injection hb with hb
    subst hu hb
    exact Classical.choose_spec (each i) (by omega)
end Go.Proofs.Ytjgpdimhgcacgaa
