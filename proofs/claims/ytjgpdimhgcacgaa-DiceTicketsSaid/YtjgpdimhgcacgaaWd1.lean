/- package wire: the Reader: its contracts. -/
import Derived.Test.YtjgpdimhgcacgaaWr
import Derived.Test.YtjgpdimhgcacgaaWc2
namespace Go.Proofs.Ytjgpdimhgcacgaa
open Go.RowKit
set_option linter.unusedVariables false

/-- a Reader at block g: the bytes (in a block of B), the error -/
def RRaw (w : World) (B : Nat → Prop) (g : Nat) (bs : List UInt8) (e : Int) : Prop :=
  ∃ v, Blk w g 91 [v, .int .i64 e] ∧ Rd w v (vbs bs) ∧ Far v B g
def RIs : RS → List UInt8 → Int → Prop
  | .error x, _, e => x = e ∧ e ≠ 0
  | .ok l, bs, e => l = bs ∧ e = 0
def RAt (w : World) (B : Nat → Prop) (g : Nat) (s : RS) : Prop := ∃ bs e, RRaw w B g bs e ∧ RIs s bs e

theorem RRaw.lt {w : World} {B : Nat → Prop} {g : Nat} {bs : List UInt8} {e : Int} (h : RRaw w B g bs e) : g < w.heap.size := h.choose_spec.1.lt
theorem RAt.lt {w : World} {B : Nat → Prop} {g : Nat} {s : RS} (h : RAt w B g s) : g < w.heap.size := by obtain ⟨_, _, h, _⟩ := h; exact h.lt
theorem RRaw.ext {w w' : World} {B : Nat → Prop} {g : Nat} {bs : List UInt8} {e : Int} (h : RRaw w B g bs e) (hx : Ext w w') : RRaw w' B g bs e := by
  obtain ⟨v, h1, h2, h3⟩ := h
  exact ⟨v, h1.ext hx, h2.ext hx, h3⟩
theorem RAt.ext {w w' : World} {B : Nat → Prop} {g : Nat} {s : RS} (h : RAt w B g s) (hx : Ext w w') : RAt w' B g s := by
  obtain ⟨bs, e, h, hs⟩ := h
  exact ⟨bs, e, h.ext hx, hs⟩

set_option maxHeartbeats 1000000 in
theorem rfail_any (B : Nat → Prop) (g : Nat) (bs : List UInt8) (e x : Int) (w : World) (h : RRaw w B g bs e) :
    Calls Try.prog 73 #[.pointer (some ⟨g, 0, none⟩), .int .i64 x] w fun e' w' => e' = .returned (.tuple #[]) ∧ RRaw w' B g bs (if e = 0 then x else e) ∧ Chg g w w' := by
  obtain ⟨v, hb, hr, hne⟩ := h
  have c1 := hb.cell 1
  have f1 := hb.frozen 1
  simp only [List.getElem?_cons_succ, List.getElem?_cons_zero] at c1
  by_cases he : e = 0
  · rw [if_pos he]
    have he' : (e == 0) = true := by simpa using he
    go_enter Try.func73, Try.ntmps73
    go_wp2
    go_end0
    exact ⟨rfl, ⟨v, hb.set 1 _, hr.chg (Chg.set g 1 w _) hne.ne, hne⟩, Chg.set g 1 w _⟩
  · rw [if_neg he]
    have he' : (e == 0) = false := by simpa using he
    go_enter Try.func73, Try.ntmps73
    go_wp2
    go_end0
    exact ⟨rfl, ⟨v, hb, hr, hne⟩, Chg.refl g w⟩

theorem Rd.tail {w : World} {bb off c : Nat} {x : Value} {xs : List Value} (h : Rd w (.slice (some ⟨bb, off, none⟩) (xs.length + 1) c) (x :: xs)) : Rd w (.slice (some ⟨bb, off + 1, none⟩) xs.length (c - 1)) xs := by
  obtain ⟨A, c', hv, h1, h2, h3⟩ := h
  injection hv with e1 e2 e3
  subst e3
  simp at h1
  refine ⟨_, _, rfl, by omega, by simp only [maxLen] at *; omega, .inr ⟨bb, off + 1, rfl, fun j u hu => ?_⟩⟩
  rcases h3 with h3 | ⟨b', o', hA, hc⟩
  · cases h3
  · rw [← e1] at hA
    injection hA with hA
    injection hA with ha hb
    subst ha hb
    have := hc (j + 1) u (by simpa using hu)
    rwa [show off + 1 + j = off + (j + 1) by omega]

set_option maxHeartbeats 1000000 in
theorem rnext_any (B : Nat → Prop) (g : Nat) (s : RS) (w : World) (h : RAt w B g s) :
    Calls Try.prog 64 #[.pointer (some ⟨g, 0, none⟩)] w fun e' w' => e' = .returned (.int .u8 (nextR s).1.toNat) ∧ RAt w' B g (nextR s).2 ∧ Chg g w w' := by
  obtain ⟨bs, e, ⟨v, hb, hr, hne⟩, hs⟩ := h
  have c0 := hb.cell 0
  have f0 := hb.frozen 0
  have c1 := hb.cell 1
  have f1 := hb.frozen 1
  simp only [List.getElem?_cons_succ, List.getElem?_cons_zero] at c0 c1
  have hraw : RRaw w B g bs e := ⟨v, hb, hr, hne⟩
  have hat := hr
  obtain ⟨A, c, rfl, hc1, hc2, -⟩ := id hr
  obtain ⟨-, -, -, hcc⟩ := hat.at
  simp only [vbs_len] at *
  by_cases he : e = 0
  · have he' : (e == 0) = true := by simpa using he
    have he2 : (e != 0) = false := by simpa using he
    rcases bs with _ | ⟨b, r⟩
    · go_enter Try.func64, Try.ntmps64
      go_wp2_with fail
      refine (rfail_any B g [] e 3 _ hraw).mono ?_
      rintro e1 w1 ⟨rfl, ⟨v1, hb1, hr1, hne1⟩, hx1⟩
      have c1' := hb1.cell 1
      simp only [List.getElem?_cons_succ, List.getElem?_cons_zero] at c1'
      rw [if_pos he] at c1' hb1
      go_wp2
      go_ret
      cases s with
      | error x => exact absurd he hs.2
      | ok l =>
        obtain ⟨rfl, -⟩ := hs
        exact ⟨rfl, ⟨[], 3, ⟨v1, hb1, hr1, hne1⟩, rfl, by decide⟩, hx1⟩
    · obtain ⟨bb, off, rfl, hc3⟩ := hcc (by simp)
      have hck := hc3 w (Ext.refl _) 0 (.int .u8 b.toNat) (by simp [vbs])
      rw [Nat.add_zero] at hck
      have hlen : ((r.length : Int) + 1 == 0) = false := by simp; omega
      have hcap : 1 ≤ c := by simp at hc1; omega
      clear hcc hat
      simp only [List.length_cons] at *
      have hs2 : s = .ok (b :: r) := by
        cases s with
        | error x => exact absurd he hs.2
        | ok l => rw [hs.1]
      subst hs2
      clear hs hraw hc3
      rw [he] at hb
      by_cases hc1' : c = 1
      · have hr0 : r = [] := List.eq_nil_of_length_eq_zero (by omega)
        have hrl : Rd w (.slice (some ⟨bb, off, none⟩) r.length 0) (vbs r) := by rw [hr0]; exact ⟨_, _, rfl, by simp [vbs], by simp [maxLen], .inl rfl⟩
        clear hr hr0
        have hne2 : Far (Value.slice (some ⟨bb, off, none⟩) r.length 0) B g := hne
        go_enter Try.func64, Try.ntmps64
        go_wp2
        go_ret
        exact ⟨rfl, ⟨r, 0, ⟨_, hb.set 0 _, hrl.chg (Chg.set g 0 w _) hne2.ne, hne2⟩, rfl, rfl⟩, Chg.set g 0 w _⟩
      · have hrl : Rd w (.slice (some ⟨bb, off + 1, none⟩) r.length (c - 1)) (vbs r) := by
          have := Rd.tail (xs := vbs r) (x := .int .u8 b.toNat) (w := w) (bb := bb) (off := off) (c := c) (by rw [vbs_len]; exact hr)
          rwa [vbs_len] at this
        clear hr
        have hne2 : Far (Value.slice (some ⟨bb, off + 1, none⟩) r.length (c - 1)) B g := hne
        go_enter Try.func64, Try.ntmps64
        go_wp2
        go_ret
        exact ⟨rfl, ⟨r, 0, ⟨_, hb.set 0 _, hrl.chg (Chg.set g 0 w _) hne2.ne, hne2⟩, rfl, rfl⟩, Chg.set g 0 w _⟩
  · have he' : (e == 0) = false := by simpa using he
    have he2 : (e != 0) = true := by simpa using he
    have hs2 : s = .error e := by
      cases s with
      | error x => rw [hs.1]
      | ok l => exact absurd hs.2 he
    subst hs2
    clear hs hcc hat hr hb hne
    by_cases hl : (bs.length : Int) = 0
    · go_enter Try.func64, Try.ntmps64
      go_wp2_with fail
      refine (rfail_any B g bs e 3 _ hraw).mono ?_
      rintro e1 w1 ⟨rfl, hraw1, hx1⟩
      rw [if_neg he] at hraw1
      obtain ⟨v1, hb1, hr1, hne1⟩ := hraw1
      have c1' := hb1.cell 1
      simp only [List.getElem?_cons_succ, List.getElem?_cons_zero] at c1'
      go_wp2
      go_ret
      exact ⟨rfl, ⟨bs, e, ⟨v1, hb1, hr1, hne1⟩, rfl, he⟩, hx1⟩
    · go_enter Try.func64, Try.ntmps64
      go_wp2
      go_ret
      exact ⟨rfl, ⟨bs, e, hraw, rfl, he⟩, Chg.refl g w⟩

end Go.Proofs.Ytjgpdimhgcacgaa
