/- package dice's reference: Roll; Verify of both. -/
import Derived.Test.YtjgpdimhgcacgaaDl
namespace Go.Proofs.Ytjgpdimhgcacgaa
open Go.RowKit
set_option linter.unusedVariables false

/-- a die of the reference at block g -/
def RDAt (w : World) (R : Nat → Prop) (g : Nat) (seed : List UInt8) (label : ByteArray) (p : Int) : Prop :=
  ∃ v, Blk w g 54 [v, .string label, .int .i64 p] ∧ Rd w v (vbs seed) ∧ Far v R g
theorem RDAt.ext {w w' : World} {R : Nat → Prop} {g : Nat} {seed : List UInt8} {label : ByteArray} {p : Int} (h : RDAt w R g seed label p) (hx : Ext w w') : RDAt w' R g seed label p := by
  obtain ⟨v, h1, h2, h3⟩ := h
  exact ⟨v, h1.ext hx, h2.ext hx, h3⟩
theorem RDAt.chg {w w' : World} {R : Nat → Prop} {g g' : Nat} {seed : List UInt8} {label : ByteArray} {p : Int} (h : RDAt w R g seed label p) (hx : Chg g' w w') (hne : g ≠ g') (hs : ∀ k, R k → k ≠ g') : RDAt w' R g seed label p := by
  obtain ⟨v, h1, h2, h3⟩ := h
  exact ⟨v, hx.blk h1 hne, h2.chg hx (fun e => hs _ (h3 _ e).2 rfl), h3⟩
theorem RDAt.lt {w : World} {R : Nat → Prop} {g : Nat} {seed : List UInt8} {label : ByteArray} {p : Int} (h : RDAt w R g seed label p) : g < w.heap.size := by
  obtain ⟨v, h1, h2, h3⟩ := h
  exact h1.lt

set_option maxRecDepth 100000 in
set_option maxHeartbeats 2000000 in
theorem rroll_any (R : Nat → Prop) (g : Nat) (seed : List UInt8) (label : ByteArray) (p n : Int) (w : World) (h : RDAt w R g seed label p) (hp : inI64 p) (hn : inI64 n) (hl : seed.length ≤ 1000000) (hs : label.size ≤ 1000000) :
    Calls Try.prog 32 #[.pointer (some ⟨g, 0, none⟩), .int .i64 n] w fun e w' =>
      e = .returned (.tuple #[.int .i64 (rollD seed label.data.toList n p).1, .int .i64 (rollD seed label.data.toList n p).2.1]) ∧ RDAt w' R g seed label (rollD seed label.data.toList n p).2.2 ∧ Chg g w w' := by
  by_cases h1 : n < 1
  · have hr : rollD seed label.data.toList n p = (0, 1, p) := by unfold rollD; rw [if_pos h1]
    rw [hr]
    go_enter Try.func32, Try.ntmps32
    go_wp2
    go_ret2
    exact ⟨rfl, h, Chg.refl g w⟩
  · have hr := Lib.hid (rollD_yes seed label.data.toList n p (by omega))
    go_enter Try.func32, Try.ntmps32
    go_wp2_with fail
    go_loopw [6] (fun i wr => ∃ k : Nat, i = .int .i64 k ∧ k ≤ 128 ∧ RDAt wr R g seed label (posD p k) ∧ Chg g w wr ∧ Hid (∀ j, j < k → accD (wordD seed label.data.toList (posD p j)) n = false)) (fun i _ => 128 - (intOf i).toNat)
    case atStart => exact ⟨0, rfl, by omega, h, Chg.refl g w, Lib.hid (fun j hj => by omega)⟩
    case round =>
      obtain ⟨k, rfl, hk, hd, hc, ha⟩ := hrel
      by_cases hlt : (k : Int) < 128
      · obtain ⟨v, hb, hrd, hf⟩ := hd
        have hpr := posD_range p hp k
        have d0 : ∀ x : ExtW wr, x.w.cell? ⟨g, 0, none⟩ = some v := fun x => (hb.ext x.ext).cell 0
        have d1 : ∀ x : ExtW wr, x.w.cell? ⟨g, 1, none⟩ = some (.string label) := fun x => (hb.ext x.ext).cell 1
        have d2 : ∀ x : ExtW wr, x.w.cell? ⟨g, 2, none⟩ = some (.int .i64 (posD p k)) := fun x => (hb.ext x.ext).cell 2
        obtain ⟨q, hq⟩ : ∃ q, q = posD p k := ⟨_, rfl⟩
        rw [← hq] at d2 hb
        have hq1 : posD p (k + 1) = wrap64 (q + 1) := by rw [hq]; rfl
        have HQ := Lib.hid hq
        have HQ1 := Lib.hid hq1
        clear hq hq1
        go_wp2_with fail
        refine wp_region_ext wr (Ext.refl _) (by kernel_rfl) (by kernel_rfl) ?_
        repeat (go_big_quiet_step ((go_at_call 13; exact calls_ext (rword_any v seed label _ _ (hrd.ext (ExtW.ext _)) hl hs))))
        refine wpQuiet_nil ?_
        intro _ hw'
        obtain ⟨x1, rfl⟩ := hw'
        have hx1 := x1.ext
        generalize x1.w = w1 at *
        have hb1 := hb.ext hx1
        have hrd1 := hrd.ext hx1
        clear d0 d1 d2 hb hrd
        have c2 := hb1.cell 2
        have f2 := hb1.frozen 2
        simp only [List.getElem?_cons_succ, List.getElem?_cons_zero] at c2
        have hwr := wordD_range seed label.data.toList q
        obtain ⟨x, hxq⟩ : ∃ x, x = wordD seed label.data.toList q := ⟨_, rfl⟩
        rw [← hxq] at hwr ⊢
        have HX := Lib.hid hxq
        clear hxq
        go_wp2_with fail
        refine (rreduce_any x n _ hwr hn).mono ?_
        rintro e w2 ⟨rfl, rfl⟩
        have hb2 := hb1.set 2 (.int .i64 (wrap64 (q + 1)))
        have hrd2 := hrd1.chg (Chg.set g 2 w1 (.int .i64 (wrap64 (q + 1)))) hf.ne
        have hc2 := (hc.trans (Chg.of_ext hx1)).trans (Chg.set g 2 w1 (.int .i64 (wrap64 (q + 1))))
        cases hacc : accD x n
        · go_wp2_with fail
          go_roundw
          case rel =>
            refine ⟨k + 1, by go_num, by omega, ⟨v, by rw [HQ1.out]; exact hb2, hrd2, hf⟩, hc2, Lib.hid (fun j hj => ?_)⟩
            rcases Nat.lt_or_ge j k with h | h
            · exact ha.out j h
            · have : j = k := by omega
              subst this
              rw [← HQ.out, ← HX.out, hacc]
          case measure => simp [intOf]; omega
        · have hroll := rollF_hit seed label.data.toList n p k 128 (by omega) ha.out (by rw [← HQ.out, ← HX.out, hacc])
          have HR := Lib.hid (hr.out.trans hroll)
          have hrv : redV x n = x % n := by rw [redV, hacc]; rfl
          have HV := Lib.hid hrv
          clear hroll hrv hr
          go_wp2_with fail
          go_ret2
          rw [HR.out, HQ1.out, ← HQ.out, ← HX.out]
          exact ⟨rfl, ⟨v, hb2, hrd2, hf⟩, hc2⟩
      · have hk' : k = 128 := by omega
        have hroll := rollF_miss seed label.data.toList n p 128 (fun j hj => ha.out j (by omega))
        have HR := Lib.hid (hr.out.trans hroll)
        rw [hk'] at hd
        clear hroll hr
        go_wp2
        go_ret2
        rw [HR.out]
        exact ⟨rfl, hd, hc⟩
/-- what Verify says -/
def verifyD (c : Int) (seed label : List UInt8) (p n r : Int) : Bool := (commitD seed == c) && ((rollD seed label n p).2.1 == 0 && (rollD seed label n p).1 == r)

set_option maxHeartbeats 1000000 in
theorem verify_any (c : Int) (v : Value) (seed : List UInt8) (label : ByteArray) (p n r : Int) (w : World) (hr : Rd w v (vbs seed)) (hp : inI64 p) (hn : inI64 n) (hl : seed.length ≤ 1000000) (hs : label.size ≤ 1000000) :
    Calls Try.prog 25 #[.int .u64 c, v, .string label, .int .i64 p, .int .i64 n, .int .i64 r] w fun e w' => e = .returned (.bool (verifyD c seed label.data.toList p n r)) ∧ Ext w w' := by
  go_enter Try.func25, Try.ntmps25
  go_wp2_with fail
  refine (new_any v seed _ _ hr hl).mono ?_
  rintro e w1 ⟨g, rfl, hg1, hg2, hD, hx1⟩
  go_wp2_with fail
  refine (seek_any _ g seed _ 0 p _ hD).mono ?_
  rintro e w2 ⟨rfl, hD, hc2⟩
  have hx2 := hc2.ext hx1 hg1
  go_wp2_with fail
  refine (roll_any _ g seed _ p n _ hD hp hn hl hs).mono ?_
  rintro e w3 ⟨rfl, hD, hc3⟩
  have hx3 := hc3.ext hx2 hg1
  go_wp2_with fail
  refine (opens_any c v seed _ (hr.ext hx3) hl).mono ?_
  rintro e w4 ⟨rfl, hx4⟩
  have HV : Hid (verifyD c seed label.data.toList p n r = ((commitD seed == c) && ((rollD seed label.data.toList n p).2.1 == 0 && (rollD seed label.data.toList n p).1 == r))) := Lib.hid rfl
  generalize (rollD seed label.data.toList n p).2.1 = er at *
  generalize (rollD seed label.data.toList n p).1 = vr at *
  cases hcc : (commitD seed == c)
  · rw [hcc] at HV
    go_wp2
    go_ret
    rw [HV.out]
    exact ⟨rfl, hx3.trans hx4⟩
  · rw [hcc] at HV
    cases he : (er == 0)
    · rw [he] at HV
      go_wp2
      go_ret
      rw [HV.out]
      exact ⟨rfl, hx3.trans hx4⟩
    · rw [he] at HV
      go_wp2
      go_ret
      rw [HV.out]
      exact ⟨rfl, hx3.trans hx4⟩

set_option maxHeartbeats 1000000 in
theorem rverify_any (c : Int) (v : Value) (seed : List UInt8) (label : ByteArray) (p n r : Int) (w : World) (hr : Rd w v (vbs seed)) (hlt : ∀ k, v.ownBlock = some k → k < w.heap.size) (hp : inI64 p) (hn : inI64 n) (hl : seed.length ≤ 1000000) (hs : label.size ≤ 1000000) :
    Calls Try.prog 26 #[.int .u64 c, v, .string label, .int .i64 p, .int .i64 n, .int .i64 r] w fun e w' => e = .returned (.bool (verifyD c seed label.data.toList p n r)) ∧ Ext w w' := by
  obtain ⟨A, cc, rfl, -⟩ := id hr
  go_enter Try.func26, Try.ntmps26
  go_wp2_with fail
  refine (rroll_any (fun k => k < w.heap.size) w.heap.size seed label p n _ ⟨_, Blk.new w _ _, hr.ext ((Ext.refl _).alloc _), fun k hk => ⟨by have := hlt k hk; omega, hlt k hk⟩⟩ hp hn hl hs).mono ?_
  rintro e w3 ⟨rfl, hD, hc3⟩
  have hx3 : Ext w w3 := hc3.ext ((Ext.refl w).alloc _) (Nat.le_refl _)
  go_wp2_with fail
  refine (rcommit_any _ seed _ (hr.ext hx3) hl).mono ?_
  rintro e w4 ⟨rfl, hx4⟩
  have HV : Hid (verifyD c seed label.data.toList p n r = ((commitD seed == c) && ((rollD seed label.data.toList n p).2.1 == 0 && (rollD seed label.data.toList n p).1 == r))) := Lib.hid rfl
  generalize (rollD seed label.data.toList n p).2.1 = er at *
  generalize (rollD seed label.data.toList n p).1 = vr at *
  cases hcc : (commitD seed == c)
  · rw [hcc] at HV
    go_wp2
    go_ret
    rw [HV.out]
    exact ⟨rfl, hx3.trans hx4⟩
  · rw [hcc] at HV
    cases he : (er == 0)
    · rw [he] at HV
      go_wp2
      go_ret
      rw [HV.out]
      exact ⟨rfl, hx3.trans hx4⟩
    · rw [he] at HV
      go_wp2
      go_ret
      rw [HV.out]
      exact ⟨rfl, hx3.trans hx4⟩
end Go.Proofs.Ytjgpdimhgcacgaa
