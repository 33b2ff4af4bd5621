/- Words on what stays as it is while blocks elsewhere are written. Nothing of the program is named. -/
import Derived.Test.YtbcjikiakanncaaMm
namespace Go.Proofs.Ytbcjikiakanncaa
open Go.RowKit
set_option linter.unusedVariables false

/-- blocks b .. c-1 are unchanged -/
def Span (b c : Nat) (w w' : World) : Prop := ∀ k, b ≤ k → k < c → w'.heap[k]? = w.heap[k]?
theorem Span.trans {b c : Nat} {w1 w2 w3 : World} (h : Span b c w1 w2) (k : Span b c w2 w3) : Span b c w1 w3 := fun i h1 h2 => (k i h1 h2).trans (h i h1 h2)
theorem Ext.span {b c : Nat} {w w' : World} (h : Ext w w') (hc : c ≤ w.heap.size) : Span b c w w' := fun k _ h2 => h.block (by omega)
theorem Chg.span {b c g : Nat} {w w' : World} (h : Chg g w w') (hc : c ≤ w.heap.size) (hg : g < b ∨ c ≤ g) : Span b c w w' := fun k h1 h2 =>
  World.grownBy.block h k (by omega) (by intro e; injection e with e; omega)
theorem Own.of_block {w w' : World} {base : Nat} {e : TypeId} {v : Value} {xs : List Value} (h : Own w base e v xs) (hk : ∀ k, v.ownBlock = some k → w'.heap[k]? = w.heap[k]?) : Own w' base e v xs := by
  refine ⟨h.1, ?_⟩
  rcases h.2 with h | ⟨g, cap, cur, rfl, h1, h2, h3⟩
  · exact .inl h
  · exact .inr ⟨g, cap, cur, rfl, h1, (hk g rfl).trans h2, h3⟩
/-- an owned slice's form -/
theorem Own.form' {w : World} {base : Nat} {e : TypeId} {v : Value} {xs : List Value} (h : Own w base e v xs) : ∃ A cap, v = .slice A xs.length cap ∧ (0 < xs.length → ∃ g, A = some ⟨g, 0, none⟩) := by
  rcases h.2 with ⟨rfl, h0⟩ | ⟨g, cap, cur, rfl, h1, h2, h3⟩
  · exact ⟨none, 0, by rw [h0], fun h => by omega⟩
  · exact ⟨_, cap, rfl, fun _ => ⟨g, rfl⟩⟩
theorem Own.farR {w w' : World} {base : Nat} {row : Option Nat} {e : TypeId} {v : Value} {xs : List Value} (h : Own w base e v xs) (hc : w.grownBy w' row) (hg : ∀ k, row = some k → k < base) : Own w' base e v xs :=
  h.of_block fun k hk => World.grownBy.block hc k (h.lt k hk).2 (by intro e; have := hg k e.symm; have := (h.lt k hk).1; omega)
theorem spanR {b c : Nat} {w w' : World} {row : Option Nat} (h : w.grownBy w' row) (hc : c ≤ w.heap.size) (hg : ∀ k, row = some k → k < b ∨ c ≤ k) : Span b c w w' := fun k h1 h2 =>
  World.grownBy.block h k (by omega) (by intro e; have := hg k e.symm; omega)
/-- one store in a loop that fills an owned slice -/
theorem Own.fill {w : World} {base g cap : Nat} {e : TypeId} {xs : List Value} (h : Own w base e (.slice (some ⟨g, 0, none⟩) xs.length cap) xs) {k : Nat} (hk : k < xs.length) :
    (∃ u, w.cell? ⟨g, k, none⟩ = some u) ∧ w.frozen? ⟨g, k, none⟩ = false ∧ ∀ u, Own (w.setCell ⟨g, k, none⟩ u) base e (.slice (some ⟨g, 0, none⟩) xs.length cap) (xs.set k u) := by
  obtain ⟨g', cap', hv, -, -, h3, h4, h5⟩ := h.at (by omega)
  injection hv with e1 e2 e3
  injection e1 with e1
  injection e1 with e1
  subst e1 e3
  exact ⟨⟨xs[k], h3 w (Ext.refl w) k _ (List.getElem?_eq_getElem hk)⟩, h4 k, fun u => h5 k u⟩

end Go.Proofs.Ytbcjikiakanncaa
