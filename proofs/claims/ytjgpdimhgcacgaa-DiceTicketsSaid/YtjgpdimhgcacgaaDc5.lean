/- package dice: Roll: its contract. -/
import Derived.Test.YtjgpdimhgcacgaaDc4
namespace Go.Proofs.Ytjgpdimhgcacgaa
open Go.RowKit Go.Shelf
set_option linter.unusedVariables false
attribute [local go_sem] Oper.semAt_some

theorem rollF_skip (seed label : List UInt8) (n p : Int) : ∀ (k m : Nat), k ≤ m → (∀ j, j < k → accD (wordD seed label (posD p j)) n = false) → rollF seed label n m p = rollF seed label n (m - k) (posD p k)
  | 0, m, _, _ => rfl
  | k + 1, m, hk, h => by
    rw [rollF_skip seed label n p k m (by omega) (fun j hj => h j (by omega))]
    obtain ⟨q, hq⟩ : ∃ q, m - k = q + 1 := ⟨m - k - 1, by omega⟩
    rw [hq, show m - (k + 1) = q by omega, rollF, h k (by omega)]
    rfl
theorem rollF_hit (seed label : List UInt8) (n p : Int) (k m : Nat) (hk : k < m) (h : ∀ j, j < k → accD (wordD seed label (posD p j)) n = false) (ha : accD (wordD seed label (posD p k)) n = true) :
    rollF seed label n m p = (redV (wordD seed label (posD p k)) n, 0, posD p (k + 1)) := by
  rw [rollF_skip seed label n p k m (by omega) h]
  obtain ⟨q, hq⟩ : ∃ q, m - k = q + 1 := ⟨m - k - 1, by omega⟩
  rw [hq, rollF, ha, redV, ha]
  rfl
theorem rollF_miss (seed label : List UInt8) (n p : Int) (m : Nat) (h : ∀ j, j < m → accD (wordD seed label (posD p j)) n = false) : rollF seed label n m p = (0, 4, posD p m) := by
  rw [rollF_skip seed label n p m m (Nat.le_refl _) h, Nat.sub_self]
  rfl

theorem boxed_ext {A B : World} {b : Nat} {t : TypeId} {v : Value} (h : Boxed A b t v) (hx : Ext A B) : Boxed B b t v := (hx.block h.lt).trans h
theorem boxed_far {A : World} {b : Nat} {t : TypeId} {v : Value} (h : Boxed A b t v) {p : Addr} (hp : b ≠ p.block) (u : Value) : Boxed (A.setCell p u) b t v := (Below.heap_setCell A p u b hp).trans h
theorem others_ext {A B : World} (hx : Ext A B) : KeepsOthers A B := ⟨hx.size, fun k o hk _ => (hx.block (Array.getElem?_eq_some_iff.1 hk).1).trans hk⟩

theorem own_blk {β : Type} (g : Nat) (t : TypeId) (f : β → List Value) : Go.Own (fun (k : β) W => Blk W g t (f k)) := by
  rintro k W W' row h1 hg hr
  refine (hg.block g h1.lt ?_).trans h1
  intro e
  obtain ⟨o, ho, hc⟩ := hr g e.symm
  rw [show W.heap[g]? = _ from h1] at ho
  cases ho
  cases hc

/-- a store into a new block is no change of what w holds but g -/
theorem chg_new {w W : World} {g : Nat} (hc : Chg g w W) {p : Addr} (hp : w.heap.size ≤ p.block) (u : Value) : Chg g w (W.setCell p u) :=
  ⟨hc.os, hc.tape, hc.output, by simpa [World.setCell] using hc.size, fun i hi hne => (Below.heap_setCell W p u i (by omega)).trans (World.grownBy.block hc i hi hne)⟩

theorem ownFrom_chg {β : Type} (g B : Nat) (w : World) (hB : w.heap.size ≤ B) : OwnFrom B (fun (_ : β) W => Chg g w W) := by
  rintro k W W' row hs hg hr
  refine ⟨hg.os.trans hs.os, hg.tape.trans hs.tape, hg.output.trans hs.output, Nat.le_trans hs.size hg.size, fun i hi hne => ?_⟩
  refine (hg.block i (Nat.lt_of_lt_of_le hi hs.size) ?_).trans (World.grownBy.block hs i hi hne)
  intro e
  have := (hr i e.symm).1
  omega

set_option maxHeartbeats 1000000 in
theorem dwords_any (g : Nat) (w : World) :
    Calls Try.prog 54 #[.pointer (some ⟨g, 0, none⟩)] w fun e w' => e = .returned (.func (.func 72) #[] #[.pointer (some ⟨w.heap.size, 0, none⟩)]) ∧ w' = w.alloc (.cells #[.pointer (some ⟨g, 0, none⟩)] 36) := by
  go_enter Try.func54, Try.ntmps54
  go_wp2
  go_ret
  exact ⟨rfl, rfl⟩

set_option maxRecDepth 100000 in
set_option maxHeartbeats 2000000 in
theorem roll_no (g : Nat) (n : Int) (w : World) (hn : n < 1) :
    Calls Try.prog 22 #[.pointer (some ⟨g, 0, none⟩), .int .i64 n] w fun e w' => e = .returned (.tuple #[.int .i64 0, .int .i64 1]) ∧ Ext w w' := by
  go_enter Try.func22, Try.ntmps22
  go_wp2
  exact bodyPost_ret (v := .tuple #[.int .i64 0, .int .i64 1]) (by simp [results, Try.f22, go_sem]) rfl ⟨rfl, (((Ext.refl w).alloc _).alloc _).alloc _⟩

theorem roll_end {R : Nat → Prop} {g D : Nat} {seed : List UInt8} {label : ByteArray} {x y q : Int} {rr : Int × Int × Int} {v : Value} {w W : World}
    (c1 : Boxed W (w.heap.size + 1) 3 (.int .i64 x)) (c2 : Boxed W (w.heap.size + 1 + 1) 39 (.int .i64 y)) (hd : Blk W g 78 [v, .string label, .int .i64 q]) (hc : Chg g w W)
    (hK : W.heap[D]? = some (.deferred (some []))) (hD : w.heap.size ≤ D) (hr : Rd w v (vbs seed)) (hne : Far v R g) (he : rr = (x, y, q)) {tmps : Array Value}
    (h4 : tmps[4]? = some (.pointer (some ⟨w.heap.size + 1, 0, none⟩)) := by rfl) (h5 : tmps[5]? = some (.pointer (some ⟨w.heap.size + 1 + 1, 0, none⟩)) := by rfl) :
    ∃ u, (results Try.f22 tmps).run Try.prog (W.putObj D (.deferred none)) = .ok u (W.putObj D (.deferred none)) ∧
      (Ending.returned u = .returned (.tuple #[.int .i64 rr.1, .int .i64 rr.2.1]) ∧ DiceAt (W.putObj D (.deferred none)) R g seed label rr.2.2 ∧ Chg g w (W.putObj D (.deferred none))) := by
  subst he
  have hgb := grownBy_putObj' W D (.deferred none)
  have q1 := cell_kept c1.cell hgb (fun r e => by cases e; exact ⟨_, hK, rfl⟩)
  have q2 := cell_kept c2.cell hgb (fun r e => by cases e; exact ⟨_, hK, rfl⟩)
  have hcg : Chg g w (W.putObj D (.deferred none)) := ⟨hgb.os.trans hc.os, hgb.tape.trans hc.tape, hgb.output.trans hc.output, Nat.le_trans hc.size hgb.size, fun i hi hne => (hgb.block i (Nat.lt_of_lt_of_le hi hc.size) (fun e => by cases e; omega)).trans (World.grownBy.block hc i hi hne)⟩
  refine ⟨.tuple #[.int .i64 x, .int .i64 y], ?_, rfl, ⟨v, ?_, hr.chg hcg hne.ne, hne⟩, hcg⟩
  · simp [results, Try.f22, go_sem, h4, h5, q1, q2]
  · exact (own_blk g 78 (fun _ : Unit => [v, .string label, .int .i64 q])) () W _ (some D) hd hgb (fun r e => by cases e; exact ⟨_, hK, rfl⟩)

set_option maxRecDepth 100000 in
set_option maxHeartbeats 2000000 in
theorem roll_yes (R : Nat → Prop) (g : Nat) (seed : List UInt8) (label : ByteArray) (p n : Int) (w : World) (h : DiceAt w R g seed label p) (hp : inI64 p) (hn : inI64 n) (h1 : 1 ≤ n) (hl : seed.length ≤ 1000000) (hs : label.size ≤ 1000000) :
    Calls Try.prog 22 #[.pointer (some ⟨g, 0, none⟩), .int .i64 n] w fun e w' =>
      e = .returned (.tuple #[.int .i64 (rollF seed label.data.toList n 128 p).1, .int .i64 (rollF seed label.data.toList n 128 p).2.1]) ∧ DiceAt w' R g seed label (rollF seed label.data.toList n 128 p).2.2 ∧ Chg g w w' := by
  have hgl := h.lt
  have hd0 := h
  obtain ⟨v, hb, hr, hne⟩ := h
  have hnn : ¬ n < 1 := by omega
  refine (callsIn_wide (n := 4)).1 ?_
  refine callsIn_of_wp_marks Try.func22 rfl trivial ?_ rfl
  simp only [Try.ntmps22, List.size_toArray, List.length_cons, List.length_nil, Nat.reduceAdd, Nat.reduceSub, Array.replicate_succ, Array.replicate_zero, List.push_toArray, List.append_toArray, List.nil_append, List.cons_append]
  gi_wp2_with (refine ⟨trivial, ?_⟩; gi_at_call 54; refine (callsIn_wide.2 (dwords_any g _)).mono ?_; rintro e w' ⟨rfl, rfl⟩)
  have b0 := Boxed.new w 3 (.int .i64 n)
  have b1 := Boxed.new (w.alloc (.cells #[.int .i64 n] 3)) 3 (.int .i64 0)
  have b2 := Boxed.new ((w.alloc (.cells #[.int .i64 n] 3)).alloc (.cells #[.int .i64 0] 3)) 39 (.int .i64 0)
  have b3 := Boxed.new (((w.alloc (.cells #[.int .i64 n] 3)).alloc (.cells #[.int .i64 0] 3)).alloc (.cells #[.int .i64 0] 39)) 36 (.pointer (some ⟨g, 0, none⟩))
  simp only [World.size_alloc] at b1 b2 b3
  have hx0 : Ext w ((((w.alloc (.cells #[.int .i64 n] 3)).alloc (.cells #[.int .i64 0] 3)).alloc (.cells #[.int .i64 0] 39)).alloc (.cells #[.pointer (some ⟨g, 0, none⟩)] 36)) := ((((Ext.refl w).alloc _).alloc _).alloc _).alloc _
  have b0' := ((b0.alloc (.cells #[.int .i64 0] 3)).alloc (.cells #[.int .i64 0] 39)).alloc (.cells #[.pointer (some ⟨g, 0, none⟩)] 36)
  have b1' := (b1.alloc (.cells #[.int .i64 0] 39)).alloc (.cells #[.pointer (some ⟨g, 0, none⟩)] 36)
  have b2' := b2.alloc (.cells #[.pointer (some ⟨g, 0, none⟩)] 36)
  refine wpIn_rangeFunc_D rfl (by omega) (gf := 72) (lb := #[.pointer (some ⟨w.heap.size + 1 + 1 + 1, 0, none⟩)]) rfl trivial (enters_of Try.func72 (by kernel_rfl) rfl)
    (dwords1_seq R 3 (by omega) (w.heap.size + 1 + 1 + 1) g seed label p hl hs) (fun _ => rfl)
    (fun k W => (((Boxed W w.heap.size 3 (.int .i64 n) ∧ Boxed W (w.heap.size + 1) 3 (.int .i64 0)) ∧ (Boxed W (w.heap.size + 1 + 1) 39 (.int .i64 0) ∧ Boxed W (w.heap.size + 1 + 1 + 1) 36 (.pointer (some ⟨g, 0, none⟩)))) ∧ Blk W g 78 [v, .string label, .int .i64 (posD p k)]) ∧ (Chg g w W ∧ ∀ j, j < k → accD (wordD seed label.data.toList (posD p j)) n = false))
    (fun k W => (((Boxed W w.heap.size 3 (.int .i64 n) ∧ Boxed W (w.heap.size + 1) 3 (.int .i64 0)) ∧ (Boxed W (w.heap.size + 1 + 1) 39 (.int .i64 0) ∧ Boxed W (w.heap.size + 1 + 1 + 1) 36 (.pointer (some ⟨g, 0, none⟩)))) ∧ Blk W g 78 [v, .string label, .int .i64 (posD p (k + 1))]) ∧ (Chg g w W ∧ ∀ j, j < k → accD (wordD seed label.data.toList (posD p j)) n = false))
    (fun _ k W => ((Boxed W (w.heap.size + 1) 3 (.int .i64 (redV (wordD seed label.data.toList (posD p k)) n)) ∧ Boxed W (w.heap.size + 1 + 1) 39 (.int .i64 0)) ∧ Blk W g 78 [v, .string label, .int .i64 (posD p (k + 1))]) ∧ (Chg g w W ∧ ((∀ j, j < k → accD (wordD seed label.data.toList (posD p j)) n = false) ∧ accD (wordD seed label.data.toList (posD p k)) n = true)))
    (OwnFrom.and (OwnFrom.and (OwnFrom.and (OwnFrom.and (Own.from (boxed_own _ _ _) _) (Own.from (boxed_own _ _ _) _)) (OwnFrom.and (Own.from (boxed_own _ _ _) _) (Own.from (boxed_own _ _ _) _))) (Own.from (own_blk g _ _) _)) (OwnFrom.and (ownFrom_chg g _ w (by simp; omega)) (ownFrom_pure _ _)))
    (OwnFrom.and (OwnFrom.and (OwnFrom.and (OwnFrom.and (Own.from (boxed_own _ _ _) _) (Own.from (boxed_own _ _ _) _)) (OwnFrom.and (Own.from (boxed_own _ _ _) _) (Own.from (boxed_own _ _ _) _))) (Own.from (own_blk g _ _) _)) (OwnFrom.and (ownFrom_chg g _ w (by simp; omega)) (ownFrom_pure _ _)))
    (fun _ => OwnFrom.and (OwnFrom.and (OwnFrom.and (Own.from (boxed_own _ _ _) _) (Own.from (boxed_own _ _ _) _)) (Own.from (own_blk g _ _) _)) (OwnFrom.and (ownFrom_chg g _ w (by simp; omega)) (ownFrom_pure _ _)))
    ?reads ?step ?start
    (fun k => { tmps := #[.pointer (some ⟨g, 0, none⟩), .int .i64 n, undef, .pointer (some ⟨w.heap.size, 0, none⟩), .pointer (some ⟨w.heap.size + 1, 0, none⟩), .pointer (some ⟨w.heap.size + 1 + 1, 0, none⟩), .int .u64 (wordD seed label.data.toList (posD p k)), undef, undef, .int .i64 n, .bool false, .pointer (some ⟨g, 0, none⟩), .func (.func 72) #[] #[.pointer (some ⟨w.heap.size + 1 + 1 + 1, 0, none⟩)], .int .u64 (wordD seed label.data.toList (posD p k)), undef, undef, undef, undef, undef, undef, undef, undef], defers := [] }) ?assign ?body ?done ?stop
  case reads => exact fun k A h => ⟨h.1.1.2.2.cell, v, h.1.2, hr.chg h.2.1 hne.ne, hne⟩
  case start => exact ⟨⟨⟨⟨b0', b1'⟩, b2', b3⟩, hb.ext hx0⟩, Chg.of_ext hx0, fun j hj => by omega⟩
  case step =>
    rintro k A B ⟨⟨⟨⟨c0, c1⟩, c2, c3⟩, hd⟩, hc, ha⟩ ⟨A2, hx, rfl⟩
    refine ⟨⟨⟨⟨⟨boxed_far (boxed_ext c0 hx) (by simp; omega) _, boxed_far (boxed_ext c1 hx) (by simp; omega) _⟩, boxed_far (boxed_ext c2 hx) (by simp; omega) _, boxed_far (boxed_ext c3 hx) (by simp; omega) _⟩, (hd.ext hx).set 2 _⟩, (hc.trans (Chg.of_ext hx)).trans (Chg.set g 2 _ _), ha⟩, ?_⟩
    exact (others_ext hx).trans (KeepsOthers.setCell _ _ _)
  case assign =>
    intro l k W K hK
    gi_wp2
    exact hK
  case body =>
    rintro l k W ⟨⟨⟨⟨c0, c1⟩, c2, c3⟩, hd⟩, hc, ha⟩ hlt
    have e0 := c0.cell
    have e1 := c1.cell
    have e2 := c2.cell
    have f1 := c1.frozen
    have f2 := c2.frozen
    have hwr := wordD_range seed label.data.toList (posD p k)
    by_cases hac : accD (wordD seed label.data.toList (posD p k)) n = true
    · gi_wp2_with (refine ⟨trivial, ?_⟩; gi_at_call 16; refine (CallsIn.inRound l (callsIn_wide.2 (reduce_any _ _ _ hwr hn))).mono ?_; rintro e w' ⟨rfl, rfl⟩)
      refine ⟨(KeepsOthers.setCell _ _ _).trans (KeepsOthers.setCell _ _ _), ⟨⟨boxed_far (c1.set _) (by simp) _, (boxed_far c2 (by simp) _).set _⟩, (hd.far (by simp; omega) _).far (by simp; omega) _⟩, chg_new (chg_new hc (by simp) _) (by simp; omega) _, ha, hac⟩
    · have hac' : accD (wordD seed label.data.toList (posD p k)) n = false := by simpa using hac
      clear hac
      gi_wp2_with (refine ⟨trivial, ?_⟩; gi_at_call 16; refine (CallsIn.inRound l (callsIn_wide.2 (reduce_any _ _ _ hwr hn))).mono ?_; rintro e w' ⟨rfl, rfl⟩)
      refine ⟨KeepsOthers.refl _, ⟨⟨⟨c0, c1⟩, c2, c3⟩, hd⟩, hc, fun j hj => ?_⟩
      rcases Nat.lt_or_ge j k with h | h
      · exact ha j h
      · rw [show j = k by omega]; exact hac'
  case done =>
    rintro D W hD ⟨⟨⟨⟨c0, c1⟩, c2, c3⟩, hd⟩, hc, ha⟩ hK
    have e0 := c0.cell
    have e1 := c1.cell
    have e2 := c2.cell
    have f1 := c1.frozen
    have f2 := c2.frozen
    gi_wp2
    have hr1 := boxed_far (c1.set (.int .i64 0)) (p := ⟨w.heap.size + 1 + 1, 0, none⟩) (by simp) (.int .i64 4)
    have hr2 := (boxed_far c2 (p := ⟨w.heap.size + 1, 0, none⟩) (by simp) (.int .i64 0)).set (.int .i64 4)
    have hdd := (hd.far (p := ⟨w.heap.size + 1, 0, none⟩) (by simp; omega) (.int .i64 0)).far (p := ⟨w.heap.size + 1 + 1, 0, none⟩) (by simp; omega) (.int .i64 4)
    have hcc := chg_new (chg_new hc (p := ⟨w.heap.size + 1, 0, none⟩) (by simp) (.int .i64 0)) (p := ⟨w.heap.size + 1 + 1, 0, none⟩) (by simp; omega) (.int .i64 4)
    have hK' := ((KeepsOthers.setCell W ⟨w.heap.size + 1, 0, none⟩ (.int .i64 0)).trans (KeepsOthers.setCell _ ⟨w.heap.size + 1 + 1, 0, none⟩ (.int .i64 4))).same D _ hK rfl
    refine ⟨by simp, .inl ⟨_, _, rfl, run_takeDeferred hK', ?_⟩⟩
    exact roll_end hr1 hr2 hdd hcc hK' (by simp at hD; omega) hr hne (by rw [rollF_miss _ _ _ _ _ ha])
  case stop =>
    rintro D k W hD hlt ⟨⟨⟨c1, c2⟩, hd⟩, hc, ha, hac⟩ hK
    have e1 := c1.cell
    have e2 := c2.cell
    gi_wp2
    refine ⟨by simp, .inl ⟨_, _, rfl, run_takeDeferred hK, ?_⟩⟩
    exact roll_end c1 c2 hd hc hK (by simp at hD; omega) hr hne (by rw [rollF_hit _ _ _ _ k 128 hlt ha hac])


theorem rollD_yes (seed label : List UInt8) (n p : Int) (h : 1 ≤ n) : rollD seed label n p = rollF seed label n 128 p := by unfold rollD; rw [if_neg (by omega)]

/-- Roll, for every number of results -/
theorem roll_any (R : Nat → Prop) (g : Nat) (seed : List UInt8) (label : ByteArray) (p n : Int) (w : World) (h : DiceAt w R g seed label p) (hp : inI64 p) (hn : inI64 n) (hl : seed.length ≤ 1000000) (hs : label.size ≤ 1000000) :
    Calls Try.prog 22 #[.pointer (some ⟨g, 0, none⟩), .int .i64 n] w fun e w' =>
      e = .returned (.tuple #[.int .i64 (rollD seed label.data.toList n p).1, .int .i64 (rollD seed label.data.toList n p).2.1]) ∧ DiceAt w' R g seed label (rollD seed label.data.toList n p).2.2 ∧ Chg g w w' := by
  rcases Int.lt_or_le n 1 with h1 | h1
  · have e : rollD seed label.data.toList n p = (0, 1, p) := by unfold rollD; rw [if_pos h1]
    rw [e]
    exact (roll_no g n w h1).mono fun e w' ⟨he, hx⟩ => ⟨he, h.ext hx, Chg.of_ext hx⟩
  · rw [rollD_yes _ _ _ _ h1]
    exact roll_yes R g seed label p n w h hp hn h1 hl hs

end Go.Proofs.Ytjgpdimhgcacgaa
