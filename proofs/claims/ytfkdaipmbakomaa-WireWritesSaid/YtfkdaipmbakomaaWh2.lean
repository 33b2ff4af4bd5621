/- package wire: small words for the laws of sequences. -/
import Derived.Test.YtfkdaipmbakomaaWg4
import Derived.Test.YtfkdaipmbakomaaWh1
namespace Go.Proofs.Ytfkdaipmbakomaa
open Go.RowKit
set_option linter.unusedVariables false

theorem WV.ok.k5 {v : WV} (hv : v.ok) : v.k ≤ 5 := by
  rcases hv with ⟨n, rfl, _⟩ | ⟨n, rfl, _⟩ | ⟨t, rfl⟩ | ⟨bs, rfl, _⟩ | ⟨bs, rfl, _⟩ | ⟨xs, rfl, _⟩ <;> first | (show (0 : Nat) ≤ 5; omega) | (show (1 : Nat) ≤ 5; omega) | (show (2 : Nat) ≤ 5; omega) | (show (3 : Nat) ≤ 5; omega) | (show (4 : Nat) ≤ 5; omega) | (show (5 : Nat) ≤ 5; omega)
theorem below_chg {b g : Nat} {w a c : World} (h : Below b w a) (k : Chg g a c) (hb : b ≤ a.heap.size) (hg : b ≤ g) : Below b w c := Below.grown h k hb (fun k e => by cases e; exact hg)
theorem vbs_set (bs : List UInt8) (m : Nat) (c : Int) (x : UInt8) (h : c = (x.toNat : Int)) : (vbs bs).set m (.int .u8 c) = vbs (bs.set m x) := by subst h; simp [vbs, List.map_set]
theorem endR_zero (s : RS) (h : ∀ e, s = .error e → e ≠ 0) : (s = .ok [] ∧ endR s = 0) ∨ (endR s ≠ 0) := by
  cases s with
  | error e => exact .inr (h e rfl)
  | ok l => cases l with
    | nil => exact .inl ⟨rfl, rfl⟩
    | cons c r => exact .inr (by show (2 : Int) ≠ 0; decide)
theorem OwnV.chgR {w w' : World} {base g : Nat} {o : Value} {got : List WV} {B : Nat → Prop} {s : RS} (h : OwnV w base o got) (hr : RAt w B g s) (hc : Chg g w w') (hg : g < base) : OwnV w' base o got := by
  obtain ⟨bs, e, ⟨v, hb, -⟩, -⟩ := hr
  exact h.keep (KeepUI.chg hc hb (by decide) (by decide)) fun k hk => World.grownBy.block hc k (h.lt k hk).2 (by intro e; injection e with e; have := (h.lt k hk).1; omega)
theorem RAt.ne0 {w : World} {B : Nat → Prop} {g : Nat} {s : RS} (h : RAt w B g s) : ∀ e, s = .error e → e ≠ 0 := by
  rintro e rfl; exact h.err.1
theorem appV_below {w5 w6 : World} {base : Nat} {o : Value} {x : Obj} {got : List WV} (hs : base ≤ w5.heap.size) (ho : OwnV w5 base o got) (hg : (w5.alloc x).grownBy w6 o.ownBlock) : Below base w5 w6 :=
  Below.grown (Below.alloc (Below.refl _ _) hs x) hg (by simp; omega) (fun k e => (ho.lt k e).1)

end Go.Proofs.Ytfkdaipmbakomaa
