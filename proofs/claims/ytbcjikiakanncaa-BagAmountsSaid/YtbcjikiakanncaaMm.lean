/- More words on memory: a block known whole; one block written. Nothing of the program is named. -/
import Derived.Test.YtbcjikiakanncaaEx
namespace Go.Proofs.Ytbcjikiakanncaa
open Go.RowKit
set_option linter.unusedVariables false

/-- block g holds just the cells cs (element type t), none of them frozen -/
def Blk (w : World) (g : Nat) (t : TypeId) (cs : List Value) : Prop := w.heap[g]? = some (.cells cs.toArray t (0, 0))

section
variable {w w' : World} {g : Nat} {t : TypeId} {cs : List Value}
theorem Blk.lt (h : Blk w g t cs) : g < w.heap.size := (Array.getElem?_eq_some_iff.1 h).1
theorem Blk.cell (h : Blk w g t cs) (i : Nat) : w.cell? ⟨g, i, none⟩ = cs[i]? := by
  have := cell_of_row w g i cs.toArray t (0, 0) h
  rw [this]; simp
theorem Blk.frozen (h : Blk w g t cs) (i : Nat) : w.frozen? ⟨g, i, none⟩ = false := by
  unfold Blk at h
  simp [World.frozen?, h]
theorem Blk.new (w : World) (t : TypeId) (cs : List Value) : Blk (w.alloc (.cells cs.toArray t)) w.heap.size t cs := heap_alloc_new w _
theorem Blk.ext (h : Blk w g t cs) (hx : Ext w w') : Blk w' g t cs := (hx.block h.lt).trans h
theorem Blk.set (h : Blk w g t cs) (i : Nat) (u : Value) : Blk (w.setCell ⟨g, i, none⟩ u) g t (cs.set i u) := by
  unfold Blk at h ⊢
  simp [World.setCell, Array.getElem?_modify, h]
theorem Blk.far (h : Blk w g t cs) {p : Addr} (hp : g ≠ p.block) (u : Value) : Blk (w.setCell p u) g t cs := (Below.heap_setCell w p u g hp).trans h
theorem Blk.ne_ {g' : Nat} {t' : TypeId} {cs' : List Value} (h : Blk w g t cs) (h' : Blk w g' t' cs') (hne : t ≠ t') : g ≠ g' := by
  rintro rfl
  unfold Blk at h h'
  rw [h] at h'
  injection h' with h'
  injection h' with _ ht
  exact hne ht
end

/-- of what w holds, block g alone may have turned in w' -/
def Chg (g : Nat) (w w' : World) : Prop := w.grownBy w' (some g)
section
variable {a b c w w' : World} {g : Nat}
theorem Chg.refl (g : Nat) (w : World) : Chg g w w := World.grownBy.refl w _
theorem Chg.of_ext (h : Ext a b) : Chg g a b := ⟨h.os, h.tape, h.output, h.size, fun k hk _ => h.block hk⟩
theorem Chg.trans (h : Chg g a b) (k : Chg g b c) : Chg g a c := World.grownBy.trans h k
theorem Chg.size (h : Chg g a b) : a.heap.size ≤ b.heap.size := World.grownBy.size h
theorem Chg.ext {w0 : World} (h0 : Ext w0 a) (h : Chg g a b) (hg : w0.heap.size ≤ g) : Ext w0 b := h0.grown h (fun k e => by cases e; exact hg)
theorem Chg.set (g i : Nat) (w : World) (u : Value) : Chg g w (w.setCell ⟨g, i, none⟩ u) :=
  ⟨rfl, rfl, rfl, by simp [World.setCell], fun k _ hne => Below.heap_setCell w _ u k (fun e => hne (by rw [e]))⟩
theorem Chg.blk {g' : Nat} {t : TypeId} {cs : List Value} (h : Chg g w w') (hb : Blk w g' t cs) (hne : g' ≠ g) : Blk w' g' t cs :=
  (World.grownBy.block h g' hb.lt (by simpa using hne)).trans hb
theorem Chg.cell {p : Addr} {v : Value} (h : Chg g w w') (hc : w.cell? p = some v) (hne : p.block ≠ g) : w'.cell? p = some v :=
  (World.cell?_of_block (World.grownBy.block h p.block (World.block_lt_of_cell? w p hc) (by simpa using hne))).trans hc
end

theorem Rd.chg {w w' : World} {g : Nat} {v : Value} {xs : List Value} (h : Rd w v xs) (hc : Chg g w w') (hne : v.ownBlock ≠ some g) : Rd w' v xs := by
  obtain ⟨A, c, rfl, h1, h2, h3⟩ := h
  refine ⟨A, c, rfl, h1, h2, ?_⟩
  rcases h3 with h3 | ⟨b, off, rfl, hcx⟩
  · exact .inl h3
  · refine .inr ⟨b, off, rfl, fun j u hu => hc.cell (hcx j u hu) ?_⟩
    simpa [Value.ownBlock] using hne

theorem Own.chg {w w' : World} {base : Nat} {e : TypeId} {g : Nat} {v : Value} {xs : List Value} (h : Own w base e v xs) (hc : Chg g w w') (hne : v.ownBlock ≠ some g) : Own w' base e v xs :=
  World.ownsRow.kept h hc (.inr hne)

/-- a slice that reads in w lies below w's heap's size, if it has an element -/
theorem Rd.ne_new {w : World} {v : Value} {xs : List Value} (h : Rd w v xs) {g : Nat} (hg : w.heap.size ≤ g) (hx : xs ≠ []) : v.ownBlock ≠ some g := by
  obtain ⟨A, c, rfl, h1, h2, h3⟩ := h
  rcases h3 with h3 | ⟨b, off, rfl, hcx⟩
  · exact absurd h3 hx
  · have : 0 < xs.length := by cases xs with | nil => exact absurd rfl hx | cons => simp
    have := World.block_lt_of_cell? w _ (hcx 0 _ (List.getElem?_eq_getElem this))
    simp only [Value.ownBlock]
    intro e
    injection e with e
    subst e
    exact absurd this (by simp; omega)

theorem Own.ne_new {w : World} {base : Nat} {e : TypeId} {v : Value} {xs : List Value} (h : Own w base e v xs) {g : Nat} (hg : w.heap.size ≤ g) : v.ownBlock ≠ some g := fun e' => by
  have := (h.lt g e').2; omega

/-- a value's block: one of B, not g -/
def Far (v : Value) (B : Nat → Prop) (g : Nat) : Prop := ∀ k, v.ownBlock = some k → k ≠ g ∧ B k
theorem Far.ne {v : Value} {B : Nat → Prop} {g : Nat} (h : Far v B g) : v.ownBlock ≠ some g := fun e => (h g e).1 rfl

end Go.Proofs.Ytbcjikiakanncaa
