/- package dice: sequences of rolls; a die while other blocks are written. -/
import Derived.Test.YtjgpdimhgcacgaaDc6
import Derived.Test.YtjgpdimhgcacgaaDs
import Derived.Test.YtjgpdimhgcacgaaMo
namespace Go.Proofs.Ytjgpdimhgcacgaa
open Go.RowKit
set_option linter.unusedVariables false

theorem DiceAt.grownR {w w' : World} {R : Nat → Prop} {g : Nat} {seed : List UInt8} {label : ByteArray} {p : Int} {row : Option Nat} (h : DiceAt w R g seed label p) (hx : w.grownBy w' row) (hk : ∀ k, row = some k → ¬ R k ∧ k ≠ g) : DiceAt w' R g seed label p := by
  cases row with
  | none => exact h.ext (⟨hx.os, hx.tape, hx.output, hx.size, fun k hk => World.grownBy.block hx k hk (by simp)⟩ : Below _ _ _)
  | some g' => exact h.chg hx (fun e => (hk g' rfl).2 e.symm) (fun k hR e => (hk g' rfl).1 (e ▸ hR))

theorem DiceAt.belowD {w w' : World} {R : Nat → Prop} {g b : Nat} {seed : List UInt8} {label : ByteArray} {p : Int} (h : DiceAt w R g seed label p) (hx : Below b w w') (hg : g < b) (hR : ∀ k, R k → k < b) : DiceAt w' R g seed label p := by
  obtain ⟨v, h1, ⟨A, c, rfl, h4, h5, h6⟩, h3⟩ := h
  refine ⟨_, (hx.block g hg).trans h1, ⟨A, c, rfl, h4, h5, ?_⟩, h3⟩
  rcases h6 with h6 | ⟨b', off, rfl, hcx⟩
  · exact .inl h6
  · exact .inr ⟨b', off, rfl, fun j u hu => (World.cell?_of_block (hx.block _ (hR b' (h3 b' rfl).2))).trans (hcx j u hu)⟩

theorem rollF_err (seed label : List UInt8) (n : Int) : ∀ (m : Nat) (p : Int), (rollF seed label n m p).2.1 = 0 ∨ (rollF seed label n m p).2.1 = 4
  | 0, p => .inr rfl
  | k + 1, p => by
    rw [rollF]
    split
    · exact .inl rfl
    · exact rollF_err seed label n k _
theorem rollF_pos (seed label : List UInt8) (n : Int) : ∀ (m : Nat) (p : Int), inI64 p → inI64 (rollF seed label n m p).2.2
  | 0, p, h => h
  | k + 1, p, h => by
    rw [rollF]
    split
    · exact wrap64_range _
    · exact rollF_pos seed label n k _ (wrap64_range _)
theorem rollF_val (seed label : List UInt8) (n : Int) (hn : 1 ≤ n) : ∀ (m : Nat) (p : Int), 0 ≤ (rollF seed label n m p).1 ∧ (rollF seed label n m p).1 < n
  | 0, p => ⟨by simp [rollF], by simp [rollF]; omega⟩
  | k + 1, p => by
    rw [rollF]
    split
    · exact ⟨Int.emod_nonneg _ (by omega), Int.emod_lt_of_pos _ (by omega)⟩
    · exact rollF_val seed label n hn k _
theorem rollD_err (seed label : List UInt8) (n p : Int) (hn : 1 ≤ n) : (rollD seed label n p).2.1 = 0 ∨ (rollD seed label n p).2.1 = 4 := by
  rw [rollD_yes _ _ _ _ hn]; exact rollF_err _ _ _ _ _
theorem rollD_pos (seed label : List UInt8) (n p : Int) (hp : inI64 p) : inI64 (rollD seed label n p).2.2 := by
  unfold rollD; split
  · exact hp
  · exact rollF_pos _ _ _ _ _ hp
theorem rollD_val (seed label : List UInt8) (n p : Int) (hn : 1 ≤ n) : 0 ≤ (rollD seed label n p).1 ∧ (rollD seed label n p).1 < n := by
  rw [rollD_yes _ _ _ _ hn]; exact rollF_val _ _ _ hn _ _

/-- the position after i rolls with the sides made of ns, and roll i's result -/
def posR (seed label : List UInt8) (ns : List Int) (p : Int) : Nat → Int
  | 0 => p
  | i + 1 => (rollD seed label (sidesD (ns.getD i 0)) (posR seed label ns p i)).2.2
def valR (seed label : List UInt8) (ns : List Int) (p : Int) (i : Nat) : Int := (rollD seed label (sidesD (ns.getD i 0)) (posR seed label ns p i)).1
theorem posR_range (seed label : List UInt8) (ns : List Int) (p : Int) (hp : inI64 p) : ∀ i, inI64 (posR seed label ns p i)
  | 0 => hp
  | i + 1 => rollD_pos _ _ _ _ (posR_range seed label ns p hp i)

end Go.Proofs.Ytjgpdimhgcacgaa
