/- package dice: a list of seeds that a law builds of the first bytes of others. -/
import Derived.Test.YtjgpdimhgcacgaaDj
namespace Go.Proofs.Ytjgpdimhgcacgaa
open Go.RowKit
set_option linter.unusedVariables false

/-- two slices that lie apart -/
def Apart (v v' : Value) : Prop := ∀ k, v.ownBlock = some k → v'.ownBlock ≠ some k
theorem apart_nil (v : Value) : Apart (.slice none 0 0) v := fun k h => by simp [Value.ownBlock] at h
theorem app_apart {a b : World} {base : Nat} {e : TypeId} {o : Obj} {v v' v2 : Value} {ys : List Value} (h2 : Own a base e v2 ys) (hg : (a.alloc o).grownBy b v.ownBlock)
    (hv : v'.ownBlock = v.ownBlock ∨ v'.ownBlock = some (a.alloc o).heap.size) (hs : Apart v v2) : Own b base e v2 ys ∧ Apart v' v2 := by
  have ha : Ext a (a.alloc o) := (Ext.refl a).alloc o
  have h3 := h2.ext ha
  refine ⟨h3.of_block fun k hk => World.grownBy.block hg k (h3.lt k hk).2 (fun e' => hs k e'.symm hk), fun k hk hk2 => ?_⟩
  rcases hv with hv | hv
  · exact hs k (hv ▸ hk) hk2
  · rw [hv] at hk
    injection hk with hk
    have := (h3.lt k hk2).2
    omega

/-- a slice x of the call's own, of slices of the call's own, reads as Ls -/
structure Bld (W : World) (base : Nat) (x : Value) (vs : List Value) (Ls : List (List UInt8)) : Prop where
  own : Own W base 22 x vs
  len : vs.length = Ls.length
  el : ∀ (i : Nat) (u : Value) (bs : List UInt8), vs[i]? = some u → Ls[i]? = some bs → Own W base 5 u (vbs bs) ∧ Apart x u
theorem Bld.nil (W : World) (base : Nat) : Bld W base (.slice none 0 0) [] [] := ⟨Own.nil _ _ _, rfl, fun i u bs h => by simp at h⟩
theorem Bld.ext {W W' : World} {base : Nat} {x : Value} {vs : List Value} {Ls : List (List UInt8)} (h : Bld W base x vs Ls) (hx : Ext W W') : Bld W' base x vs Ls :=
  ⟨h.own.ext hx, h.len, fun i u bs a b => ⟨(h.el i u bs a b).1.ext hx, (h.el i u bs a b).2⟩⟩
theorem Bld.rdr {W : World} {base : Nat} {x : Value} {vs : List Value} {Ls : List (List UInt8)} (h : Bld W base x vs Ls) : RdR W x Ls :=
  ⟨vs, h.own.rd, h.len, fun i u bs a b => (h.el i u bs a b).1.rd⟩
theorem Bld.snoc {w0 W b : World} {base : Nat} {x x' nv : Value} {vs : List Value} {Ls : List (List UInt8)} {bs : List UInt8} {o : Obj} (h0 : Bld w0 base x vs Ls) (hw : Ext w0 W) (hbase : base ≤ w0.heap.size) (hn : Own W w0.heap.size 5 nv (vbs bs))
    (hg : (W.alloc o).grownBy b x.ownBlock) (hv : x'.ownBlock = x.ownBlock ∨ x'.ownBlock = some (W.alloc o).heap.size) (ho : Own b base 22 x' (vs ++ [nv])) : Bld b base x' (vs ++ [nv]) (Ls ++ [bs]) := by
  have h := h0.ext hw
  have hxn : Apart x nv := fun k' h1 h2 => by
    have a1 := (h0.own.lt k' h1).2
    have a2 := (hn.lt k' h2).1
    omega
  refine ⟨ho, by simp [h.len], fun i u cs hi hj => ?_⟩
  rcases Nat.lt_or_ge i vs.length with hl | hl
  · rw [List.getElem?_append_left hl] at hi
    rw [List.getElem?_append_left (by rw [← h.len]; exact hl)] at hj
    obtain ⟨r1, r2⟩ := h.el i u cs hi hj
    exact app_apart r1 hg hv r2
  · have e : i = vs.length := by
      rcases Nat.eq_zero_or_pos (i - vs.length) with h0 | h0
      · omega
      · rw [List.getElem?_append_right hl, List.getElem?_eq_none (by simp; omega)] at hi; cases hi
    subst e
    rw [List.getElem?_append_right (Nat.le_refl _), Nat.sub_self] at hi
    rw [h.len, List.getElem?_append_right (Nat.le_refl _), Nat.sub_self] at hj
    simp at hi hj
    subst hi hj
    exact app_apart (hn.mono hbase) hg hv hxn
end Go.Proofs.Ytjgpdimhgcacgaa
