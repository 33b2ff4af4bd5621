/- package wire: the Reader: lists. -/
import Derived.Test.YtbcjikiakanncaaWd3
namespace Go.Proofs.Ytbcjikiakanncaa
open Go.RowKit
set_option linter.unusedVariables false

/-- a Reader survives what happens behind B -/
theorem RAt.below {w w' : World} {B : Nat → Prop} {g b : Nat} {s : RS} (h : RAt w B g s) (hx : Below b w w') (hB : ∀ k, B k → k < b) (hg : g < b) : RAt w' B g s := by
  obtain ⟨bs, e, ⟨v, hb, hr, hf⟩, hs⟩ := h
  refine ⟨bs, e, ⟨v, ?_, hr.below hx (fun k hk => hB k (hf k hk).2), hf⟩, hs⟩
  exact (Below.block hx g hg).trans hb
/-- a Reader survives a change of another block -/
theorem RAt.chg {w w' : World} {B : Nat → Prop} {g g' : Nat} {s : RS} (h : RAt w B g s) (hx : Chg g' w w') (hB : ∀ k, B k → k ≠ g') (hg : g ≠ g') : RAt w' B g s := by
  obtain ⟨bs, e, ⟨v, hb, hr, hf⟩, hs⟩ := h
  exact ⟨bs, e, ⟨v, hx.blk hb hg, hr.chg hx (fun e => hB _ (hf _ e).2 rfl), hf⟩, hs⟩
theorem RAt.grownR {w w' : World} {B : Nat → Prop} {g : Nat} {s : RS} {row : Option Nat} (h : RAt w B g s) (hx : w.grownBy w' row) (hk : ∀ k, row = some k → ¬ B k ∧ k ≠ g) : RAt w' B g s := by
  cases row with
  | none => exact h.ext (⟨hx.os, hx.tape, hx.output, hx.size, fun k hk => World.grownBy.block hx k hk (by simp)⟩ : Below _ _ _)
  | some g' => exact h.chg hx (fun k hB e => (hk g' rfl).1 (e ▸ hB)) (fun e => (hk g' rfl).2 e.symm)
theorem RAt.mono {w : World} {B B' : Nat → Prop} {g : Nat} {s : RS} (h : RAt w B g s) (hB : ∀ k, B k → B' k) : RAt w B' g s := by
  obtain ⟨bs, e, ⟨v, hb, hr, hf⟩, hs⟩ := h
  exact ⟨bs, e, ⟨v, hb, hr, fun k hk => ⟨(hf k hk).1, hB k (hf k hk).2⟩⟩, hs⟩

theorem lenR_le (s : RS) : (∃ e, (lenR s).2 = .error e) ∨ ∃ bs, (lenR s).2 = .ok bs ∧ (lenR s).1 ≤ bs.length := by
  unfold lenR
  rcases hu : uintR s with ⟨n, s1⟩
  cases s1 with
  | error e => exact .inl ⟨e, rfl⟩
  | ok bs =>
    simp only
    split
    · exact .inl ⟨_, rfl⟩
    · rename_i h
      exact .inr ⟨bs, rfl, by show n.toNat ≤ _; omega⟩

/-- list's beginning: the length, and what it does to the state -/
theorem lenR_ok {s : RS} {n : Int} {bs : List UInt8} (h : uintR s = (n, .ok bs)) : lenR s = if (bs.length : Int) < n then (n.toNat, .error 3) else (n.toNat, .ok bs) := by
  unfold lenR; rw [h]
theorem lenR_err {s : RS} {n : Int} {e : Int} (h : uintR s = (n, .error e)) : lenR s = (n.toNat, .error e) := by
  unfold lenR; rw [h]

theorem Chg.below {g : Nat} {a b c : World} (h : Chg g a b) (k : Below a.heap.size b c) : Chg g a c :=
  ⟨k.os.trans h.os, k.tape.trans h.tape, k.output.trans h.output, Nat.le_trans h.size k.size, fun i hi hne => (k.block i hi).trans (World.grownBy.block h i hi hne)⟩
/-- a slice appended to: a Reader and all below survive -/
theorem app_below {w w2 w3 : World} {x : Obj} {v : Value} {e : TypeId} {xs : List Value} (hs : w.heap.size ≤ w2.heap.size) (ho : Own w2 w.heap.size e v xs) (hg : (w2.alloc x).grownBy w3 v.ownBlock) : Below w.heap.size w2 w3 :=
  Below.grown (Below.alloc (Below.refl _ _) hs x) hg (by simp; omega) (fun k e => (ho.lt k e).1)





end Go.Proofs.Ytbcjikiakanncaa
