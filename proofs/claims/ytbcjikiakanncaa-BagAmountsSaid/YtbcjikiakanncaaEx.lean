/- A region that draws its order, whose operations read and whose callees add to memory at most: one walk of the text's order serves every order. The class of worlds: all that extend one world. -/
import Derived.Test.YtbcjikiakanncaaPl
import Derived.Deep.AppendLies
namespace Go.Proofs.Ytbcjikiakanncaa
open Go.RowKit
set_option linter.unusedVariables false

structure ExtW (w0 : World) where
  w : World
  ext : Ext w0 w
instance (w0 : World) : Nonempty (ExtW w0) := ⟨⟨w0, Ext.refl w0⟩⟩

/-- The beginning: behind it 'repeat (go_big_quiet_step (tac))', then 'refine wpQuiet_nil ?_; intro _ hw; obtain ⟨⟨w1, hx1⟩, rfl⟩ := hw; dsimp only'. -/
theorem wp_region_ext {P : Program} (w0 : World) {id : Nat} {Q : Exit → Act → World → Prop} {a : Act} {w : World} {l : List Oper} (h0 : Ext w0 w) (hm : P.follows .mixedOrders = true) (hB : Region.lexB .any l.toArray = true)
    (h : wpQuiet P l.toArray (fun w' => ∃ x : ExtW w0, w' = x.w) (fun a' => ∀ w', (∃ x : ExtW w0, w' = x.w) → Q .normal a' w') l a) : (Code.region id l.toArray true).wp P Q a w :=
  wp_region_quiet (C := fun w' => ∃ x : ExtW w0, w' = x.w) hm hB ⟨⟨_, Ext.drew h0⟩, rfl⟩ (by simpa using h)

theorem calls_ext {P : Program} {w0 : World} {x : ExtW w0} {f : FuncId} {args : Array Value} {v : Value}
    (h : Calls P f args x.w fun e w' => e = .returned v ∧ Ext x.w w') : Calls P f args x.w fun e w'' => e = .returned v ∧ ∃ y : ExtW w0, w'' = y.w :=
  h.mono fun _ w' ⟨he, hx⟩ => ⟨he, ⟨w', x.ext.trans hx⟩, rfl⟩
theorem calls_ext_same {P : Program} {w0 : World} {x : ExtW w0} {f : FuncId} {args : Array Value} {v : Value}
    (h : Calls P f args x.w fun e w' => e = .returned v ∧ x.w = w') : Calls P f args x.w fun e w'' => e = .returned v ∧ ∃ y : ExtW w0, w'' = y.w :=
  h.mono fun _ w' ⟨he, hx⟩ => ⟨he, x, hx.symm⟩
theorem Own.at {w : World} {base : Nat} {e : TypeId} {v : Value} {xs : List Value} (h : Own w base e v xs) (hn : 0 < xs.length) :
    ∃ g cap, v = .slice (some ⟨g, 0, none⟩) xs.length cap ∧ base ≤ g ∧ g < w.heap.size ∧ (∀ (w' : World), Ext w w' → ∀ (j : Nat) (u : Value), xs[j]? = some u → w'.cell? ⟨g, j, none⟩ = some u) ∧ (∀ j, w.frozen? ⟨g, j, none⟩ = false) ∧
      ∀ (j : Nat) (u : Value), Own (w.setCell ⟨g, j, none⟩ u) base e (.slice (some ⟨g, 0, none⟩) xs.length cap) (xs.set j u) := by
  obtain ⟨g, cap, rfl, hb, hg⟩ := World.ownsRow.form h hn
  refine ⟨g, cap, rfl, hb, (h.lt g rfl).2, fun w' hx j u hu => ?_, fun j => h.frozenAt j, fun j u => ?_⟩
  · have hj : j < xs.length := by
      rcases Nat.lt_or_ge j xs.length with h | h
      · exact h
      · rw [List.getElem?_eq_none h] at hu; cases hu
    have := World.ownsRow.cellAt h j (by omega)
    exact hx.cell (this.trans hu)
  · have := World.ownsRow.stored h j u
    unfold Own
    rw [List.length_set]
    exact this.1

theorem Rd.lit (w : World) (cs : List Value) (t : TypeId) (hl : cs.length ≤ 1000000) : Rd (w.alloc (.cells cs.toArray t)) (.slice (some ⟨w.heap.size, 0, none⟩) cs.length cs.length) cs := by
  refine ⟨_, _, rfl, Nat.le_refl _, by simp only [maxLen]; omega, .inr ⟨_, 0, rfl, fun j u hu => ?_⟩⟩
  rw [Nat.zero_add, ← hu]
  have : (w.alloc (.cells cs.toArray t)).heap[w.heap.size]? = some (.cells cs.toArray t) := heap_alloc_new w _
  unfold World.cell?
  simp only [this]
  simp

/-- behind an append of one element (laid in a block of its own first) onto a slice of the call's own -/

theorem Ext.app {w0 w a b : World} {e : TypeId} {v : Value} {xs : List Value} {o : Obj} (h : Ext w a) (h0 : Ext w0 w) (ho : Own a w0.heap.size e v xs) (hg : (a.alloc o).grownBy b v.ownBlock) : Ext w0 b :=
  ((h0.trans h).alloc o).grown hg (fun k e => (ho.lt k e).1)
theorem Rd.mark (w : World) (cs : List Value) (t : TypeId) (fr : Nat × Nat) (hl : cs.length ≤ 1000000) : Rd (w.alloc (.cells cs.toArray t fr)) (.slice (some ⟨w.heap.size, 0, none⟩) cs.length cs.length) cs := by
  refine ⟨_, _, rfl, Nat.le_refl _, by simp only [maxLen]; omega, .inr ⟨_, 0, rfl, fun j u hu => ?_⟩⟩
  rw [Nat.zero_add, ← hu]
  have := World.cell?_alloc_mark w cs.toArray t fr j
  rw [this]
  simp

end Go.Proofs.Ytbcjikiakanncaa
