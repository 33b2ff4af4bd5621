/- package dice: New, Seek, At, Commit, Opens: their contracts. -/
import Derived.Test.YtjgpdimhgcacgaaDc1
import Derived.Test.YtjgpdimhgcacgaaDc2
namespace Go.Proofs.Ytjgpdimhgcacgaa
open Go.RowKit
set_option linter.unusedVariables false

/-- a die at block g: its seed, its label, its position -/
def DiceAt (w : World) (R : Nat → Prop) (g : Nat) (seed : List UInt8) (label : ByteArray) (p : Int) : Prop :=
  ∃ v, Blk w g 78 [v, .string label, .int .i64 p] ∧ Rd w v (vbs seed) ∧ Far v R g

theorem DiceAt.ext {w w' : World} {R : Nat → Prop} {g : Nat} {seed : List UInt8} {label : ByteArray} {p : Int} (h : DiceAt w R g seed label p) (hx : Ext w w') : DiceAt w' R g seed label p := by
  obtain ⟨v, h1, h2, h3⟩ := h
  exact ⟨v, h1.ext hx, h2.ext hx, h3⟩
theorem DiceAt.chg {w w' : World} {R : Nat → Prop} {g g' : Nat} {seed : List UInt8} {label : ByteArray} {p : Int} (h : DiceAt w R g seed label p) (hx : Chg g' w w') (hne : g ≠ g') (hs : ∀ k, R k → k ≠ g') : DiceAt w' R g seed label p := by
  obtain ⟨v, h1, h2, h3⟩ := h
  exact ⟨v, hx.blk h1 hne, h2.chg hx (fun e => hs _ (h3 _ e).2 rfl), h3⟩
theorem DiceAt.mono {w : World} {R R' : Nat → Prop} {g : Nat} {seed : List UInt8} {label : ByteArray} {p : Int} (h : DiceAt w R g seed label p) (hR : ∀ k, R k → R' k) : DiceAt w R' g seed label p := by
  obtain ⟨v, h1, h2, h3⟩ := h
  exact ⟨v, h1, h2, fun k hk => ⟨(h3 k hk).1, hR k (h3 k hk).2⟩⟩
theorem DiceAt.lt {w : World} {R : Nat → Prop} {g : Nat} {seed : List UInt8} {label : ByteArray} {p : Int} (h : DiceAt w R g seed label p) : g < w.heap.size := by
  obtain ⟨v, h1, h2, h3⟩ := h
  exact h1.lt

set_option maxHeartbeats 1000000 in
theorem new_any (v : Value) (seed : List UInt8) (label : ByteArray) (w : World) (hr : Rd w v (vbs seed)) (hl : seed.length ≤ 1000000) :
    Calls Try.prog 20 #[v, .string label] w fun e w' => ∃ g, e = .returned (.pointer (some ⟨g, 0, none⟩)) ∧ w.heap.size ≤ g ∧ g < w'.heap.size ∧ DiceAt w' (fun k => w.heap.size ≤ k ∧ k < g) g seed label 0 ∧ Ext w w' := by
  go_enter Try.func20, Try.ntmps20
  go_wp2_with fail
  refine (clone_any v seed _ hr (by omega)).mono ?_
  rintro e w1 ⟨v1, rfl, ho1, hx1⟩
  have hlt := ho1.lt
  have hrd := ho1.rd
  obtain ⟨A1, c1, rfl, -⟩ := ho1.rd
  go_wp2
  go_ret
  exact ⟨_, rfl, hx1.size, by simp, ⟨_, Blk.new w1 _ _, hrd.ext ((Ext.refl _).alloc _), fun k hk => ⟨by have := (hlt k hk).2; omega, hlt k hk⟩⟩, hx1.alloc _⟩

set_option maxHeartbeats 1000000 in
theorem seek_any (R : Nat → Prop) (g : Nat) (seed : List UInt8) (label : ByteArray) (p q : Int) (w : World) (h : DiceAt w R g seed label p) :
    Calls Try.prog 21 #[.pointer (some ⟨g, 0, none⟩), .int .i64 q] w fun e w' => e = .returned (.tuple #[]) ∧ DiceAt w' R g seed label q ∧ Chg g w w' := by
  obtain ⟨v, hb, hr, hne⟩ := h
  have c2 := hb.cell 2
  have f2 := hb.frozen 2
  simp only [List.getElem?_cons_succ, List.getElem?_cons_zero] at c2
  go_enter Try.func21, Try.ntmps21
  go_wp2
  go_end0
  exact ⟨rfl, ⟨v, hb.set 2 _, hr.chg (Chg.set g 2 w _) hne.ne, hne⟩, Chg.set g 2 w _⟩

set_option maxHeartbeats 1000000 in
theorem at_any (R : Nat → Prop) (g : Nat) (seed : List UInt8) (label : ByteArray) (p : Int) (w : World) (h : DiceAt w R g seed label p) :
    Calls Try.prog 23 #[.pointer (some ⟨g, 0, none⟩)] w fun e w' => e = .returned (.int .i64 p) ∧ w = w' := by
  obtain ⟨v, hb, hr, hne⟩ := h
  have c2 := hb.cell 2
  simp only [List.getElem?_cons_succ, List.getElem?_cons_zero] at c2
  go_enter Try.func23, Try.ntmps23
  go_wp2
  go_ret
  exact ⟨rfl, rfl⟩

/-- a commitment -/
def commitD (seed : List UInt8) : Int := bytesI [115, 101, 101, 100] seed
theorem commitD_range (seed : List UInt8) : 0 ≤ commitD seed ∧ commitD seed ≤ 18446744073709551615 := sumI_range _ _
set_option maxHeartbeats 1000000 in
theorem commit_any (v : Value) (seed : List UInt8) (w : World) (hr : Rd w v (vbs seed)) (hl : seed.length ≤ 1000000) :
    Calls Try.prog 24 #[v] w fun e w' => e = .returned (.int .u64 (commitD seed)) ∧ Ext w w' := by
  go_enter Try.func24, Try.ntmps24
  go_wp2_with fail
  refine (bytes_any _ v seed _ (by decide) hr hl).mono ?_
  rintro e w1 ⟨rfl, hx1⟩
  go_wp2
  go_ret
  exact ⟨rfl, hx1⟩
set_option maxHeartbeats 1000000 in
theorem opens_any (c : Int) (v : Value) (seed : List UInt8) (w : World) (hr : Rd w v (vbs seed)) (hl : seed.length ≤ 1000000) :
    Calls Try.prog 28 #[.int .u64 c, v] w fun e w' => e = .returned (.bool (commitD seed == c)) ∧ Ext w w' := by
  go_enter Try.func28, Try.ntmps28
  go_wp2_with fail
  refine (commit_any v seed _ hr hl).mono ?_
  rintro e w1 ⟨rfl, hx1⟩
  go_wp2
  go_ret
  exact ⟨rfl, hx1⟩
set_option maxHeartbeats 1000000 in
theorem rcommit_any (v : Value) (seed : List UInt8) (w : World) (hr : Rd w v (vbs seed)) (hl : seed.length ≤ 1000000) :
    Calls Try.prog 27 #[v] w fun e w' => e = .returned (.int .u64 (commitD seed)) ∧ Ext w w' := by
  go_enter Try.func27, Try.ntmps27
  go_wp2_with fail
  refine (rbytes_any _ v seed _ (by decide) hr hl).mono ?_
  rintro e w1 ⟨rfl, hx1⟩
  go_wp2
  go_ret
  exact ⟨rfl, hx1⟩

end Go.Proofs.Ytjgpdimhgcacgaa
