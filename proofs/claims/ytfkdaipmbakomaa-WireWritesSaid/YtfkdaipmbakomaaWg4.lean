/- package wire: the laws' read; the reference's Read. -/
import Derived.Test.YtfkdaipmbakomaaWg3
import Derived.Test.YtfkdaipmbakomaaWf3
namespace Go.Proofs.Ytfkdaipmbakomaa
open Go.RowKit
set_option linter.unusedVariables false

theorem conv_bytesT {P : Program} (w : World) (src dst e : TypeId) (s : ByteArray) (hs : P.underlying src = some .string) (hd : P.underlying dst = some (.slice e)) (he : P.underlying e = some (.int .u8)) (hl : s.size ≤ maxLen) :
    ∃ v w', (convert src dst (.string s)).run P w = .ok v w' ∧ Rd w' v (vbs s.data.toList) ∧ Ext w w' ∧ Ty w' e v := by
  obtain ⟨v, w', h1, h2, h3⟩ := conv_bytes w src dst e s hs hd he hl
  refine ⟨v, w', h1, h2, h3, ?_⟩
  rw [run_bytes_of_string w src dst e s hs hd he] at h1
  injection h1 with h4 h5
  subst h4 h5
  intro k hk
  simp only [Value.ownBlock, Option.some.injEq] at hk
  subst hk
  exact ⟨_, _, heap_alloc_new w.drew _⟩

/-- what read leaves -/
def ReadV (x : WV) (w' : World) (e : Ending) : Prop := ∃ vb vl, e = .returned (aggV x vb vl) ∧ Rd w' vb (vbs x.b) ∧ Ty w' 5 vb ∧ Rd w' vl (vis x.l) ∧ Ty w' 3 vl
def ReadQ (x : WV) (w' : World) (e : Ending) : Prop := ∃ vb vl, e = .returned (aggV x vb vl) ∧ Rd w' vb (vbs x.b) ∧ Rd w' vl (vis x.l)

/-- two blocks alone may have turned -/
def Only (A : Nat) (w w' : World) : Prop := ∀ k, k ≠ A → k ≠ A + 1 → w'.heap[k]? = w.heap[k]?
theorem Only.refl (A : Nat) (w : World) : Only A w w := fun _ _ _ => rfl
theorem Only.set {A : Nat} {w w' : World} {p : Addr} (h : Only A w w') (hp : p.block = A ∨ p.block = A + 1) (u : Value) : Only A w (w'.setCell p u) := fun k h1 h2 =>
  (Below.heap_setCell w' p u k (by rintro rfl; rcases hp with e | e; exact h1 e; exact h2 e)).trans (h k h1 h2)
theorem KeepUI.only {A : Nat} {w w' : World} {cs ds : List Value} (h : Only A w w') (b0 : Blk w A 47 cs) (b1 : Blk w (A + 1) 47 ds) : KeepUI w w' := fun k cur e fr he hk => by
  refine h k ?_ ?_
  · rintro rfl
    unfold Blk at b0
    rw [hk] at b0
    injection b0 with b0
    injection b0 with _ b0 _
    subst b0
    rcases he with he | he <;> exact absurd he (by decide)
  · rintro rfl
    unfold Blk at b1
    rw [hk] at b1
    injection b1 with b1
    injection b1 with _ b1 _
    subst b1
    rcases he with he | he <;> exact absurd he (by decide)
theorem read_fin {x : WV} {w w1 W : World} {B : Nat → Prop} {g : Nat} {s : RS} {vb vl : Value} {cs ds : List Value} (b0 : Blk w1 w.heap.size 47 cs) (b1 : Blk w1 (w.heap.size + 1) 47 ds)
    (ho : Only w.heap.size w1 W) (hb : Below w.heap.size w1 W) (h1 : Rd w1 vb (vbs x.b)) (h2 : Ty w1 5 vb) (h3 : Rd w1 vl (vis x.l)) (h4 : Ty w1 3 vl)
    (hr : RAt w1 B g s) (hB : ∀ k, B k → k < w.heap.size) (hgl : g < w.heap.size) (hc : Chg g w w1) : ReadV x W (.returned (aggV x vb vl)) ∧ RAt W B g s ∧ Chg g w W := by
  refine ⟨?_, hr.below hb hB hgl, hc.below hb⟩
  have : VFld w1 x [.int .i64 x.k, .int .u64 x.u, .int .i64 x.n, vb, vl] := ⟨vb, vl, rfl, h1, h2, h3, h4⟩
  obtain ⟨vb', vl', he, q1, q2, q3, q4⟩ := this.keep (KeepUI.only ho b0 b1)
  simp only [List.cons.injEq] at he
  obtain ⟨-, -, -, rfl, rfl, -⟩ := he
  exact ⟨_, _, rfl, q1, q2, q3, q4⟩
theorem qread_fin {x : WV} {w w1 W : World} {B : Nat → Prop} {g : Nat} {s : RS} {vb vl : Value} {cs ds : List Value} (b0 : Blk w1 w.heap.size 47 cs) (b1 : Blk w1 (w.heap.size + 1) 47 ds)
    (ho : Only w.heap.size w1 W) (hb : Below w.heap.size w1 W) (h1 : Rd w1 vb (vbs x.b)) (h2 : ∀ k, vb.ownBlock = some k → B k) (h3 : Rd w1 vl (vis x.l)) (h4 : Ty w1 3 vl)
    (hr : QAt w1 B g s) (hB : ∀ k, B k → k < w.heap.size) (hgl : g < w.heap.size) (hc : Chg g w w1) : ReadQ x W (.returned (aggV x vb vl)) ∧ QAt W B g s ∧ Chg g w W := by
  refine ⟨⟨_, _, rfl, h1.of_block fun k hk => hb.block k (hB k (h2 k hk)), ?_⟩, hr.below hb hB hgl, hc.below hb⟩
  have hk := KeepUI.only ho b0 b1
  refine h3.of_block fun k e => ?_
  obtain ⟨cur, fr, hc⟩ := h4 k e
  exact hk k cur _ fr (.inr rfl) hc

theorem uintR_bound (s : RS) (N : Nat) (h : ∀ bs, s = .ok bs → bs.length ≤ N) : ∀ bs, (uintR s).2 = .ok bs → bs.length ≤ N := by
  intro bs hb
  cases s with
  | error e => simp [uintR] at hb
  | ok l => have := uintL_left l 0 0 bs hb; have := h l rfl; omega
theorem bytesR_out : ∀ (n : Nat) (out : List UInt8) (s : RS) (N : Nat), (∀ bs, s = .ok bs → out.length + bs.length ≤ N) → (bytesR n out s).1.length ≤ N
  | n, out, .error e, N, h => by rw [bytesR_err]; simp
  | 0, out, .ok bs, N, h => by have := h bs rfl; simp [bytesR]; omega
  | n + 1, out, .ok [], N, h => by show (bytesR n _ (.error 3)).1.length ≤ N; rw [bytesR_err]; simp
  | n + 1, out, .ok (c :: r), N, h => by
    simp only [bytesR, nextR]
    exact bytesR_out n _ (.ok r) N (fun bs hb => by cases hb; have := h (c :: r) rfl; simp at this ⊢; omega)
theorem rawR_len (s : RS) (hl : ∀ bs, (lenR s).2 = .ok bs → bs.length ≤ 1000000000) : (rawR s).1.length ≤ 1000000000 :=
  bytesR_out _ [] _ _ (fun bs hb => by simpa using hl bs hb)

set_option maxHeartbeats 4000000 in
theorem lread0_any (B : Nat → Prop) (g : Nat) (s : RS) (w : World) (h : RAt w B g s) (hB : ∀ k, B k → k < w.heap.size) (hl : ∀ bs, (lenR s).2 = .ok bs → bs.length ≤ 1000000000) :
    Calls Try.prog 23 #[.pointer (some ⟨g, 0, none⟩), .int .i64 0] w fun e w' => ReadV (readV 0 s).1 w' e ∧ RAt w' B g (readV 0 s).2 ∧ Chg g w w' := by
  have hgl := h.lt
  go_enter Try.func23, Try.ntmps23
  go_wp2_with fail
  have hx0 : ∀ o1 o2, Ext w ((w.alloc o1).alloc o2) := fun o1 o2 => ((Ext.refl w).alloc _).alloc _
  have hs0 : ∀ o1 o2, ((w.alloc o1).alloc o2).heap.size = w.heap.size + 2 := fun o1 o2 => by simp
  have b0 : Blk ((w.alloc (.cells #[.int .i64 0, .int .u64 0, .int .i64 0, .slice none 0 0, .slice none 0 0] 47)).alloc (.cells #[.int .i64 0, .int .u64 0, .int .i64 0, .slice none 0 0, .slice none 0 0] 47)) w.heap.size 47 [.int .i64 0, .int .u64 0, .int .i64 0, .slice none 0 0, .slice none 0 0] := (Blk.new w _ _).ext ((Ext.refl _).alloc _)
  have b1 : Blk ((w.alloc (.cells #[.int .i64 0, .int .u64 0, .int .i64 0, .slice none 0 0, .slice none 0 0] 47)).alloc (.cells #[.int .i64 0, .int .u64 0, .int .i64 0, .slice none 0 0, .slice none 0 0] 47)) (w.heap.size + 1) 47 [.int .i64 0, .int .u64 0, .int .i64 0, .slice none 0 0, .slice none 0 0] := by
    have := Blk.new (w.alloc (.cells #[.int .i64 0, .int .u64 0, .int .i64 0, .slice none 0 0, .slice none 0 0] 47)) 47 [.int .i64 0, .int .u64 0, .int .i64 0, .slice none 0 0, .slice none 0 0]
    simpa using this
  refine (ruint_any B g s _ (h.ext (hx0 _ _))).mono ?_
  rintro e w1 ⟨rfl, h1, hx1⟩
  have b0 := hx1.blk b0 (by omega)
  have b1 := hx1.blk b1 (by omega)
  have hcw : Chg g w w1 := (Chg.of_ext (hx0 _ _)).trans hx1
  clear hx0 hx1 hs0 h
  have c00 := b0.cell 0
  have c01 := b0.cell 1
  have c02 := b0.cell 2
  have c03 := b0.cell 3
  have c04 := b0.cell 4
  have c10 := b1.cell 0
  have c11 := b1.cell 1
  have c12 := b1.cell 2
  have c13 := b1.cell 3
  have c14 := b1.cell 4
  have f00 := b0.frozen 0
  have f01 := b0.frozen 1
  have f02 := b0.frozen 2
  have f03 := b0.frozen 3
  have f04 := b0.frozen 4
  have f1 := b1.frozen 1
  simp only [List.getElem?_cons_succ, List.getElem?_cons_zero] at c00 c01 c02 c03 c04 c10 c11 c12 c13 c14
  go_wp2_with fail
  refine bodyPost_ret (v := (aggV (readV 0 s).1 (.slice none 0 0) (.slice none 0 0))) (by simp [results, Try.results23, go_sem, c00, c01, c02, c03, c04]; exact ⟨rfl, rfl, rfl⟩) rfl (read_fin b0 b1 ?_ ?_ (Rd.nil _) (Ty.nil _ _ _ _) (Rd.nil _) (Ty.nil _ _ _ _) h1 hB hgl hcw)
  · refine Only.set ?_ (by exact .inl rfl) _; refine Only.set ?_ (by exact .inl rfl) _; refine Only.set ?_ (by exact .inl rfl) _; refine Only.set ?_ (by exact .inl rfl) _; refine Only.set ?_ (by exact .inl rfl) _; refine Only.set ?_ (by exact .inr rfl) _; exact Only.refl _ _
  · refine Below.setCell ?_ (by exact Nat.le_refl _) _; refine Below.setCell ?_ (by exact Nat.le_refl _) _; refine Below.setCell ?_ (by exact Nat.le_refl _) _; refine Below.setCell ?_ (by exact Nat.le_refl _) _; refine Below.setCell ?_ (by exact Nat.le_refl _) _; refine Below.setCell ?_ (by exact Nat.le_succ _) _; exact Below.refl _ _

set_option maxHeartbeats 4000000 in
theorem lread1_any (B : Nat → Prop) (g : Nat) (s : RS) (w : World) (h : RAt w B g s) (hB : ∀ k, B k → k < w.heap.size) (hl : ∀ bs, (lenR s).2 = .ok bs → bs.length ≤ 1000000000) :
    Calls Try.prog 23 #[.pointer (some ⟨g, 0, none⟩), .int .i64 1] w fun e w' => ReadV (readV 1 s).1 w' e ∧ RAt w' B g (readV 1 s).2 ∧ Chg g w w' := by
  have hgl := h.lt
  go_enter Try.func23, Try.ntmps23
  go_wp2_with fail
  have hx0 : ∀ o1 o2, Ext w ((w.alloc o1).alloc o2) := fun o1 o2 => ((Ext.refl w).alloc _).alloc _
  have hs0 : ∀ o1 o2, ((w.alloc o1).alloc o2).heap.size = w.heap.size + 2 := fun o1 o2 => by simp
  have b0 : Blk ((w.alloc (.cells #[.int .i64 0, .int .u64 0, .int .i64 0, .slice none 0 0, .slice none 0 0] 47)).alloc (.cells #[.int .i64 1, .int .u64 0, .int .i64 0, .slice none 0 0, .slice none 0 0] 47)) w.heap.size 47 [.int .i64 0, .int .u64 0, .int .i64 0, .slice none 0 0, .slice none 0 0] := (Blk.new w _ _).ext ((Ext.refl _).alloc _)
  have b1 : Blk ((w.alloc (.cells #[.int .i64 0, .int .u64 0, .int .i64 0, .slice none 0 0, .slice none 0 0] 47)).alloc (.cells #[.int .i64 1, .int .u64 0, .int .i64 0, .slice none 0 0, .slice none 0 0] 47)) (w.heap.size + 1) 47 [.int .i64 1, .int .u64 0, .int .i64 0, .slice none 0 0, .slice none 0 0] := by
    have := Blk.new (w.alloc (.cells #[.int .i64 0, .int .u64 0, .int .i64 0, .slice none 0 0, .slice none 0 0] 47)) 47 [.int .i64 1, .int .u64 0, .int .i64 0, .slice none 0 0, .slice none 0 0]
    simpa using this
  refine (rint_any B g s _ (h.ext (hx0 _ _))).mono ?_
  rintro e w1 ⟨rfl, h1, hx1⟩
  have b0 := hx1.blk b0 (by omega)
  have b1 := hx1.blk b1 (by omega)
  have hcw : Chg g w w1 := (Chg.of_ext (hx0 _ _)).trans hx1
  clear hx0 hx1 hs0 h
  have c00 := b0.cell 0
  have c01 := b0.cell 1
  have c02 := b0.cell 2
  have c03 := b0.cell 3
  have c04 := b0.cell 4
  have c10 := b1.cell 0
  have c11 := b1.cell 1
  have c12 := b1.cell 2
  have c13 := b1.cell 3
  have c14 := b1.cell 4
  have f00 := b0.frozen 0
  have f01 := b0.frozen 1
  have f02 := b0.frozen 2
  have f03 := b0.frozen 3
  have f04 := b0.frozen 4
  have f1 := b1.frozen 2
  simp only [List.getElem?_cons_succ, List.getElem?_cons_zero] at c00 c01 c02 c03 c04 c10 c11 c12 c13 c14
  go_wp2_with fail
  refine bodyPost_ret (v := (aggV (readV 1 s).1 (.slice none 0 0) (.slice none 0 0))) (by simp [results, Try.results23, go_sem, c00, c01, c02, c03, c04]; exact ⟨rfl, rfl, rfl⟩) rfl (read_fin b0 b1 ?_ ?_ (Rd.nil _) (Ty.nil _ _ _ _) (Rd.nil _) (Ty.nil _ _ _ _) h1 hB hgl hcw)
  · refine Only.set ?_ (by exact .inl rfl) _; refine Only.set ?_ (by exact .inl rfl) _; refine Only.set ?_ (by exact .inl rfl) _; refine Only.set ?_ (by exact .inl rfl) _; refine Only.set ?_ (by exact .inl rfl) _; refine Only.set ?_ (by exact .inr rfl) _; exact Only.refl _ _
  · refine Below.setCell ?_ (by exact Nat.le_refl _) _; refine Below.setCell ?_ (by exact Nat.le_refl _) _; refine Below.setCell ?_ (by exact Nat.le_refl _) _; refine Below.setCell ?_ (by exact Nat.le_refl _) _; refine Below.setCell ?_ (by exact Nat.le_refl _) _; refine Below.setCell ?_ (by exact Nat.le_succ _) _; exact Below.refl _ _

set_option maxHeartbeats 4000000 in
theorem lread2_any (B : Nat → Prop) (g : Nat) (s : RS) (w : World) (h : RAt w B g s) (hB : ∀ k, B k → k < w.heap.size) (hl : ∀ bs, (lenR s).2 = .ok bs → bs.length ≤ 1000000000) :
    Calls Try.prog 23 #[.pointer (some ⟨g, 0, none⟩), .int .i64 2] w fun e w' => ReadV (readV 2 s).1 w' e ∧ RAt w' B g (readV 2 s).2 ∧ Chg g w w' := by
  have hgl := h.lt
  go_enter Try.func23, Try.ntmps23
  go_wp2_with fail
  have hx0 : ∀ o1 o2, Ext w ((w.alloc o1).alloc o2) := fun o1 o2 => ((Ext.refl w).alloc _).alloc _
  have hs0 : ∀ o1 o2, ((w.alloc o1).alloc o2).heap.size = w.heap.size + 2 := fun o1 o2 => by simp
  have b0 : Blk ((w.alloc (.cells #[.int .i64 0, .int .u64 0, .int .i64 0, .slice none 0 0, .slice none 0 0] 47)).alloc (.cells #[.int .i64 2, .int .u64 0, .int .i64 0, .slice none 0 0, .slice none 0 0] 47)) w.heap.size 47 [.int .i64 0, .int .u64 0, .int .i64 0, .slice none 0 0, .slice none 0 0] := (Blk.new w _ _).ext ((Ext.refl _).alloc _)
  have b1 : Blk ((w.alloc (.cells #[.int .i64 0, .int .u64 0, .int .i64 0, .slice none 0 0, .slice none 0 0] 47)).alloc (.cells #[.int .i64 2, .int .u64 0, .int .i64 0, .slice none 0 0, .slice none 0 0] 47)) (w.heap.size + 1) 47 [.int .i64 2, .int .u64 0, .int .i64 0, .slice none 0 0, .slice none 0 0] := by
    have := Blk.new (w.alloc (.cells #[.int .i64 0, .int .u64 0, .int .i64 0, .slice none 0 0, .slice none 0 0] 47)) 47 [.int .i64 2, .int .u64 0, .int .i64 0, .slice none 0 0, .slice none 0 0]
    simpa using this
  refine (rbool_any B g s _ (h.ext (hx0 _ _))).mono ?_
  rintro e w1 ⟨rfl, h1, hx1⟩
  have b0 := hx1.blk b0 (by omega)
  have b1 := hx1.blk b1 (by omega)
  have hcw : Chg g w w1 := (Chg.of_ext (hx0 _ _)).trans hx1
  clear hx0 hx1 hs0 h
  have c00 := b0.cell 0
  have c01 := b0.cell 1
  have c02 := b0.cell 2
  have c03 := b0.cell 3
  have c04 := b0.cell 4
  have c10 := b1.cell 0
  have c11 := b1.cell 1
  have c12 := b1.cell 2
  have c13 := b1.cell 3
  have c14 := b1.cell 4
  have f00 := b0.frozen 0
  have f01 := b0.frozen 1
  have f02 := b0.frozen 2
  have f03 := b0.frozen 3
  have f04 := b0.frozen 4
  have f1 := b1.frozen 2
  simp only [List.getElem?_cons_succ, List.getElem?_cons_zero] at c00 c01 c02 c03 c04 c10 c11 c12 c13 c14
  have hcase : (boolR s).1 = false ∨ (boolR s).1 = true := by cases (boolR s).1 <;> simp
  rcases hcase with hb | hb
  · have HN : Hid ((readV 2 s).1.n = 0) := Lib.hid (by show (vT (boolR s).1).n = _; rw [hb]; rfl)
    rw [hb]
    clear hb
    go_wp2_with fail
    refine bodyPost_ret (v := (aggV (readV 2 s).1 (.slice none 0 0) (.slice none 0 0))) (by simp [results, Try.results23, go_sem, c00, c01, c02, c03, c04]; exact ⟨rfl, rfl, HN.out.symm⟩) rfl (read_fin b0 b1 ?_ ?_ (Rd.nil _) (Ty.nil _ _ _ _) (Rd.nil _) (Ty.nil _ _ _ _) h1 hB hgl hcw)
    · refine Only.set ?_ (by exact .inl rfl) _; refine Only.set ?_ (by exact .inl rfl) _; refine Only.set ?_ (by exact .inl rfl) _; refine Only.set ?_ (by exact .inl rfl) _; refine Only.set ?_ (by exact .inl rfl) _; exact Only.refl _ _
    · refine Below.setCell ?_ (by exact Nat.le_refl _) _; refine Below.setCell ?_ (by exact Nat.le_refl _) _; refine Below.setCell ?_ (by exact Nat.le_refl _) _; refine Below.setCell ?_ (by exact Nat.le_refl _) _; refine Below.setCell ?_ (by exact Nat.le_refl _) _; exact Below.refl _ _
  · have HN : Hid ((readV 2 s).1.n = 1) := Lib.hid (by show (vT (boolR s).1).n = _; rw [hb]; rfl)
    rw [hb]
    clear hb
    go_wp2_with fail
    refine bodyPost_ret (v := (aggV (readV 2 s).1 (.slice none 0 0) (.slice none 0 0))) (by simp [results, Try.results23, go_sem, c00, c01, c02, c03, c04]; exact ⟨rfl, rfl, HN.out.symm⟩) rfl (read_fin b0 b1 ?_ ?_ (Rd.nil _) (Ty.nil _ _ _ _) (Rd.nil _) (Ty.nil _ _ _ _) h1 hB hgl hcw)
    · refine Only.set ?_ (by exact .inl rfl) _; refine Only.set ?_ (by exact .inl rfl) _; refine Only.set ?_ (by exact .inl rfl) _; refine Only.set ?_ (by exact .inl rfl) _; refine Only.set ?_ (by exact .inl rfl) _; refine Only.set ?_ (by exact .inr rfl) _; exact Only.refl _ _
    · refine Below.setCell ?_ (by exact Nat.le_refl _) _; refine Below.setCell ?_ (by exact Nat.le_refl _) _; refine Below.setCell ?_ (by exact Nat.le_refl _) _; refine Below.setCell ?_ (by exact Nat.le_refl _) _; refine Below.setCell ?_ (by exact Nat.le_refl _) _; refine Below.setCell ?_ (by exact Nat.le_succ _) _; exact Below.refl _ _

set_option maxHeartbeats 4000000 in
theorem lread3_any (B : Nat → Prop) (g : Nat) (s : RS) (w : World) (h : RAt w B g s) (hB : ∀ k, B k → k < w.heap.size) (hl : ∀ bs, (lenR s).2 = .ok bs → bs.length ≤ 1000000000) :
    Calls Try.prog 23 #[.pointer (some ⟨g, 0, none⟩), .int .i64 3] w fun e w' => ReadV (readV 3 s).1 w' e ∧ RAt w' B g (readV 3 s).2 ∧ Chg g w w' := by
  have hgl := h.lt
  go_enter Try.func23, Try.ntmps23
  go_wp2_with fail
  have hx0 : ∀ o1 o2, Ext w ((w.alloc o1).alloc o2) := fun o1 o2 => ((Ext.refl w).alloc _).alloc _
  have hs0 : ∀ o1 o2, ((w.alloc o1).alloc o2).heap.size = w.heap.size + 2 := fun o1 o2 => by simp
  have b0 : Blk ((w.alloc (.cells #[.int .i64 0, .int .u64 0, .int .i64 0, .slice none 0 0, .slice none 0 0] 47)).alloc (.cells #[.int .i64 3, .int .u64 0, .int .i64 0, .slice none 0 0, .slice none 0 0] 47)) w.heap.size 47 [.int .i64 0, .int .u64 0, .int .i64 0, .slice none 0 0, .slice none 0 0] := (Blk.new w _ _).ext ((Ext.refl _).alloc _)
  have b1 : Blk ((w.alloc (.cells #[.int .i64 0, .int .u64 0, .int .i64 0, .slice none 0 0, .slice none 0 0] 47)).alloc (.cells #[.int .i64 3, .int .u64 0, .int .i64 0, .slice none 0 0, .slice none 0 0] 47)) (w.heap.size + 1) 47 [.int .i64 3, .int .u64 0, .int .i64 0, .slice none 0 0, .slice none 0 0] := by
    have := Blk.new (w.alloc (.cells #[.int .i64 0, .int .u64 0, .int .i64 0, .slice none 0 0, .slice none 0 0] 47)) 47 [.int .i64 3, .int .u64 0, .int .i64 0, .slice none 0 0, .slice none 0 0]
    simpa using this
  refine (rtext_any B g s _ (h.ext (hx0 _ _)) (fun k hk => by rw [hs0]; have := hB k hk; omega) hl).mono ?_
  rintro e w1 ⟨rfl, h1, hx1⟩
  have b0 := hx1.blk b0 (by omega)
  have b1 := hx1.blk b1 (by omega)
  have hcw : Chg g w w1 := (Chg.of_ext (hx0 _ _)).trans hx1
  obtain ⟨v, w2, hcv, hrv, hxv, htv⟩ := conv_bytesT (P := Try.prog) w1 9 24 5 ⟨(rawR s).1.toArray⟩ Try.underlying9 Try.underlying24 Try.underlying5 (by
    have h2 : (rawR s).1.length ≤ 1000000000 := rawR_len s hl
    simp only [maxLen]; show (rawR s).1.toArray.size ≤ _; simp; omega)
  have b0 := b0.ext hxv
  have b1 := b1.ext hxv
  have h1 := h1.ext hxv
  have hcw := hcw.trans (Chg.of_ext hxv)
  clear hxv
  clear hx0 hx1 hs0 h
  have c00 := b0.cell 0
  have c01 := b0.cell 1
  have c02 := b0.cell 2
  have c03 := b0.cell 3
  have c04 := b0.cell 4
  have c10 := b1.cell 0
  have c11 := b1.cell 1
  have c12 := b1.cell 2
  have c13 := b1.cell 3
  have c14 := b1.cell 4
  have f00 := b0.frozen 0
  have f01 := b0.frozen 1
  have f02 := b0.frozen 2
  have f03 := b0.frozen 3
  have f04 := b0.frozen 4
  have f1 := b1.frozen 3
  simp only [List.getElem?_cons_succ, List.getElem?_cons_zero] at c00 c01 c02 c03 c04 c10 c11 c12 c13 c14
  obtain ⟨Av, mv, cv, hve⟩ : ∃ A m c, v = .slice A m c := by obtain ⟨A, c, hv, -⟩ := hrv; exact ⟨_, _, _, hv⟩
  subst hve
  go_wp2_with fail
  refine bodyPost_ret (v := (aggV (readV 3 s).1 (.slice Av mv cv) (.slice none 0 0))) (by simp [results, Try.results23, go_sem, c00, c01, c02, c03, c04]; exact ⟨rfl, rfl, rfl⟩) rfl (read_fin b0 b1 ?_ ?_ hrv htv (Rd.nil _) (Ty.nil _ _ _ _) h1 hB hgl hcw)
  · refine Only.set ?_ (by exact .inl rfl) _; refine Only.set ?_ (by exact .inl rfl) _; refine Only.set ?_ (by exact .inl rfl) _; refine Only.set ?_ (by exact .inl rfl) _; refine Only.set ?_ (by exact .inl rfl) _; refine Only.set ?_ (by exact .inr rfl) _; exact Only.refl _ _
  · refine Below.setCell ?_ (by exact Nat.le_refl _) _; refine Below.setCell ?_ (by exact Nat.le_refl _) _; refine Below.setCell ?_ (by exact Nat.le_refl _) _; refine Below.setCell ?_ (by exact Nat.le_refl _) _; refine Below.setCell ?_ (by exact Nat.le_refl _) _; refine Below.setCell ?_ (by exact Nat.le_succ _) _; exact Below.refl _ _

set_option maxHeartbeats 4000000 in
theorem lread4_any (B : Nat → Prop) (g : Nat) (s : RS) (w : World) (h : RAt w B g s) (hB : ∀ k, B k → k < w.heap.size) (hl : ∀ bs, (lenR s).2 = .ok bs → bs.length ≤ 1000000000) :
    Calls Try.prog 23 #[.pointer (some ⟨g, 0, none⟩), .int .i64 4] w fun e w' => ReadV (readV 4 s).1 w' e ∧ RAt w' B g (readV 4 s).2 ∧ Chg g w w' := by
  have hgl := h.lt
  go_enter Try.func23, Try.ntmps23
  go_wp2_with fail
  have hx0 : ∀ o1 o2, Ext w ((w.alloc o1).alloc o2) := fun o1 o2 => ((Ext.refl w).alloc _).alloc _
  have hs0 : ∀ o1 o2, ((w.alloc o1).alloc o2).heap.size = w.heap.size + 2 := fun o1 o2 => by simp
  have b0 : Blk ((w.alloc (.cells #[.int .i64 0, .int .u64 0, .int .i64 0, .slice none 0 0, .slice none 0 0] 47)).alloc (.cells #[.int .i64 4, .int .u64 0, .int .i64 0, .slice none 0 0, .slice none 0 0] 47)) w.heap.size 47 [.int .i64 0, .int .u64 0, .int .i64 0, .slice none 0 0, .slice none 0 0] := (Blk.new w _ _).ext ((Ext.refl _).alloc _)
  have b1 : Blk ((w.alloc (.cells #[.int .i64 0, .int .u64 0, .int .i64 0, .slice none 0 0, .slice none 0 0] 47)).alloc (.cells #[.int .i64 4, .int .u64 0, .int .i64 0, .slice none 0 0, .slice none 0 0] 47)) (w.heap.size + 1) 47 [.int .i64 4, .int .u64 0, .int .i64 0, .slice none 0 0, .slice none 0 0] := by
    have := Blk.new (w.alloc (.cells #[.int .i64 0, .int .u64 0, .int .i64 0, .slice none 0 0, .slice none 0 0] 47)) 47 [.int .i64 4, .int .u64 0, .int .i64 0, .slice none 0 0, .slice none 0 0]
    simpa using this
  refine (rraw_any B g s _ (h.ext (hx0 _ _)) (fun k hk => by rw [hs0]; have := hB k hk; omega) hl).mono ?_
  rintro e w1 ⟨v, rfl, hov, h1, hx1⟩
  have b0 := hx1.blk b0 (by omega)
  have b1 := hx1.blk b1 (by omega)
  have hcw : Chg g w w1 := (Chg.of_ext (hx0 _ _)).trans hx1
  have hrv := hov.rd
  have htv := hov.ty
  clear hx0 hx1 hs0 h
  have c00 := b0.cell 0
  have c01 := b0.cell 1
  have c02 := b0.cell 2
  have c03 := b0.cell 3
  have c04 := b0.cell 4
  have c10 := b1.cell 0
  have c11 := b1.cell 1
  have c12 := b1.cell 2
  have c13 := b1.cell 3
  have c14 := b1.cell 4
  have f00 := b0.frozen 0
  have f01 := b0.frozen 1
  have f02 := b0.frozen 2
  have f03 := b0.frozen 3
  have f04 := b0.frozen 4
  have f1 := b1.frozen 3
  simp only [List.getElem?_cons_succ, List.getElem?_cons_zero] at c00 c01 c02 c03 c04 c10 c11 c12 c13 c14
  obtain ⟨Av, mv, cv, hve⟩ : ∃ A m c, v = .slice A m c := by obtain ⟨A, c, hv, -⟩ := hrv; exact ⟨_, _, _, hv⟩
  subst hve
  go_wp2_with fail
  refine bodyPost_ret (v := (aggV (readV 4 s).1 (.slice Av mv cv) (.slice none 0 0))) (by simp [results, Try.results23, go_sem, c00, c01, c02, c03, c04]; exact ⟨rfl, rfl, rfl⟩) rfl (read_fin b0 b1 ?_ ?_ hrv htv (Rd.nil _) (Ty.nil _ _ _ _) h1 hB hgl hcw)
  · refine Only.set ?_ (by exact .inl rfl) _; refine Only.set ?_ (by exact .inl rfl) _; refine Only.set ?_ (by exact .inl rfl) _; refine Only.set ?_ (by exact .inl rfl) _; refine Only.set ?_ (by exact .inl rfl) _; refine Only.set ?_ (by exact .inr rfl) _; exact Only.refl _ _
  · refine Below.setCell ?_ (by exact Nat.le_refl _) _; refine Below.setCell ?_ (by exact Nat.le_refl _) _; refine Below.setCell ?_ (by exact Nat.le_refl _) _; refine Below.setCell ?_ (by exact Nat.le_refl _) _; refine Below.setCell ?_ (by exact Nat.le_refl _) _; refine Below.setCell ?_ (by exact Nat.le_succ _) _; exact Below.refl _ _

set_option maxHeartbeats 4000000 in
theorem lread5_any (B : Nat → Prop) (g : Nat) (s : RS) (w : World) (h : RAt w B g s) (hB : ∀ k, B k → k < w.heap.size) (hl : ∀ bs, (lenR s).2 = .ok bs → bs.length ≤ 1000000000) :
    Calls Try.prog 23 #[.pointer (some ⟨g, 0, none⟩), .int .i64 5] w fun e w' => ReadV (readV 5 s).1 w' e ∧ RAt w' B g (readV 5 s).2 ∧ Chg g w w' := by
  have hgl := h.lt
  go_enter Try.func23, Try.ntmps23
  go_wp2_with fail
  have hx0 : ∀ o1 o2, Ext w ((w.alloc o1).alloc o2) := fun o1 o2 => ((Ext.refl w).alloc _).alloc _
  have hs0 : ∀ o1 o2, ((w.alloc o1).alloc o2).heap.size = w.heap.size + 2 := fun o1 o2 => by simp
  have b0 : Blk ((w.alloc (.cells #[.int .i64 0, .int .u64 0, .int .i64 0, .slice none 0 0, .slice none 0 0] 47)).alloc (.cells #[.int .i64 5, .int .u64 0, .int .i64 0, .slice none 0 0, .slice none 0 0] 47)) w.heap.size 47 [.int .i64 0, .int .u64 0, .int .i64 0, .slice none 0 0, .slice none 0 0] := (Blk.new w _ _).ext ((Ext.refl _).alloc _)
  have b1 : Blk ((w.alloc (.cells #[.int .i64 0, .int .u64 0, .int .i64 0, .slice none 0 0, .slice none 0 0] 47)).alloc (.cells #[.int .i64 5, .int .u64 0, .int .i64 0, .slice none 0 0, .slice none 0 0] 47)) (w.heap.size + 1) 47 [.int .i64 5, .int .u64 0, .int .i64 0, .slice none 0 0, .slice none 0 0] := by
    have := Blk.new (w.alloc (.cells #[.int .i64 0, .int .u64 0, .int .i64 0, .slice none 0 0, .slice none 0 0] 47)) 47 [.int .i64 5, .int .u64 0, .int .i64 0, .slice none 0 0, .slice none 0 0]
    simpa using this
  refine (rints_any B g s _ (h.ext (hx0 _ _)) (fun k hk => by rw [hs0]; have := hB k hk; omega) hl).mono ?_
  rintro e w1 ⟨v, rfl, hov, h1, hx1⟩
  have b0 := hx1.blk b0 (by omega)
  have b1 := hx1.blk b1 (by omega)
  have hcw : Chg g w w1 := (Chg.of_ext (hx0 _ _)).trans hx1
  have hrv := hov.rd
  have htv := hov.ty
  clear hx0 hx1 hs0 h
  have c00 := b0.cell 0
  have c01 := b0.cell 1
  have c02 := b0.cell 2
  have c03 := b0.cell 3
  have c04 := b0.cell 4
  have c10 := b1.cell 0
  have c11 := b1.cell 1
  have c12 := b1.cell 2
  have c13 := b1.cell 3
  have c14 := b1.cell 4
  have f00 := b0.frozen 0
  have f01 := b0.frozen 1
  have f02 := b0.frozen 2
  have f03 := b0.frozen 3
  have f04 := b0.frozen 4
  have f1 := b1.frozen 4
  simp only [List.getElem?_cons_succ, List.getElem?_cons_zero] at c00 c01 c02 c03 c04 c10 c11 c12 c13 c14
  obtain ⟨Av, mv, cv, hve⟩ : ∃ A m c, v = .slice A m c := by obtain ⟨A, c, hv, -⟩ := hrv; exact ⟨_, _, _, hv⟩
  subst hve
  go_wp2_with fail
  refine bodyPost_ret (v := (aggV (readV 5 s).1 (.slice none 0 0) (.slice Av mv cv))) (by simp [results, Try.results23, go_sem, c00, c01, c02, c03, c04]; exact ⟨rfl, rfl, rfl⟩) rfl (read_fin b0 b1 ?_ ?_ (Rd.nil _) (Ty.nil _ _ _ _) hrv htv h1 hB hgl hcw)
  · refine Only.set ?_ (by exact .inl rfl) _; refine Only.set ?_ (by exact .inl rfl) _; refine Only.set ?_ (by exact .inl rfl) _; refine Only.set ?_ (by exact .inl rfl) _; refine Only.set ?_ (by exact .inl rfl) _; refine Only.set ?_ (by exact .inr rfl) _; exact Only.refl _ _
  · refine Below.setCell ?_ (by exact Nat.le_refl _) _; refine Below.setCell ?_ (by exact Nat.le_refl _) _; refine Below.setCell ?_ (by exact Nat.le_refl _) _; refine Below.setCell ?_ (by exact Nat.le_refl _) _; refine Below.setCell ?_ (by exact Nat.le_refl _) _; refine Below.setCell ?_ (by exact Nat.le_succ _) _; exact Below.refl _ _

set_option maxHeartbeats 4000000 in
theorem qread0_any (B : Nat → Prop) (g : Nat) (s : RS) (w : World) (h : QAt w B g s) (hB : ∀ k, B k → k < w.heap.size) (hl : ∀ bs, (uintR s).2 = .ok bs → bs.length ≤ 1000000000) :
    Calls Try.prog 24 #[.pointer (some ⟨g, 0, none⟩), .int .i64 0] w fun e w' => ReadQ (readV 0 s).1 w' e ∧ QAt w' B g (readV 0 s).2 ∧ Chg g w w' := by
  have hgl := h.lt
  go_enter Try.func24, Try.ntmps24
  go_wp2_with fail
  have hx0 : ∀ o1 o2, Ext w ((w.alloc o1).alloc o2) := fun o1 o2 => ((Ext.refl w).alloc _).alloc _
  have hs0 : ∀ o1 o2, ((w.alloc o1).alloc o2).heap.size = w.heap.size + 2 := fun o1 o2 => by simp
  have b0 : Blk ((w.alloc (.cells #[.int .i64 0, .int .u64 0, .int .i64 0, .slice none 0 0, .slice none 0 0] 47)).alloc (.cells #[.int .i64 0, .int .u64 0, .int .i64 0, .slice none 0 0, .slice none 0 0] 47)) w.heap.size 47 [.int .i64 0, .int .u64 0, .int .i64 0, .slice none 0 0, .slice none 0 0] := (Blk.new w _ _).ext ((Ext.refl _).alloc _)
  have b1 : Blk ((w.alloc (.cells #[.int .i64 0, .int .u64 0, .int .i64 0, .slice none 0 0, .slice none 0 0] 47)).alloc (.cells #[.int .i64 0, .int .u64 0, .int .i64 0, .slice none 0 0, .slice none 0 0] 47)) (w.heap.size + 1) 47 [.int .i64 0, .int .u64 0, .int .i64 0, .slice none 0 0, .slice none 0 0] := by
    have := Blk.new (w.alloc (.cells #[.int .i64 0, .int .u64 0, .int .i64 0, .slice none 0 0, .slice none 0 0] 47)) 47 [.int .i64 0, .int .u64 0, .int .i64 0, .slice none 0 0, .slice none 0 0]
    simpa using this
  refine (quint_any B g s _ (h.ext (hx0 _ _))).mono ?_
  rintro e w1 ⟨rfl, h1, hx1⟩
  have b0 := hx1.blk b0 (by omega)
  have b1 := hx1.blk b1 (by omega)
  have hcw : Chg g w w1 := (Chg.of_ext (hx0 _ _)).trans hx1
  clear hx0 hx1 hs0 h
  have c00 := b0.cell 0
  have c01 := b0.cell 1
  have c02 := b0.cell 2
  have c03 := b0.cell 3
  have c04 := b0.cell 4
  have c10 := b1.cell 0
  have c11 := b1.cell 1
  have c12 := b1.cell 2
  have c13 := b1.cell 3
  have c14 := b1.cell 4
  have f00 := b0.frozen 0
  have f01 := b0.frozen 1
  have f02 := b0.frozen 2
  have f03 := b0.frozen 3
  have f04 := b0.frozen 4
  have f1 := b1.frozen 1
  simp only [List.getElem?_cons_succ, List.getElem?_cons_zero] at c00 c01 c02 c03 c04 c10 c11 c12 c13 c14
  go_wp2_with fail
  refine bodyPost_ret (v := (aggV (readV 0 s).1 (.slice none 0 0) (.slice none 0 0))) (by simp [results, Try.results24, go_sem, c00, c01, c02, c03, c04]; exact ⟨rfl, rfl, rfl⟩) rfl (qread_fin b0 b1 ?_ ?_ (Rd.nil _) (fun k hk => by simp [Value.ownBlock] at hk) (Rd.nil _) (Ty.nil _ _ _ _) h1 hB hgl hcw)
  · refine Only.set ?_ (by exact .inl rfl) _; refine Only.set ?_ (by exact .inl rfl) _; refine Only.set ?_ (by exact .inl rfl) _; refine Only.set ?_ (by exact .inl rfl) _; refine Only.set ?_ (by exact .inl rfl) _; refine Only.set ?_ (by exact .inr rfl) _; exact Only.refl _ _
  · refine Below.setCell ?_ (by exact Nat.le_refl _) _; refine Below.setCell ?_ (by exact Nat.le_refl _) _; refine Below.setCell ?_ (by exact Nat.le_refl _) _; refine Below.setCell ?_ (by exact Nat.le_refl _) _; refine Below.setCell ?_ (by exact Nat.le_refl _) _; refine Below.setCell ?_ (by exact Nat.le_succ _) _; exact Below.refl _ _

set_option maxHeartbeats 4000000 in
theorem qread1_any (B : Nat → Prop) (g : Nat) (s : RS) (w : World) (h : QAt w B g s) (hB : ∀ k, B k → k < w.heap.size) (hl : ∀ bs, (uintR s).2 = .ok bs → bs.length ≤ 1000000000) :
    Calls Try.prog 24 #[.pointer (some ⟨g, 0, none⟩), .int .i64 1] w fun e w' => ReadQ (readV 1 s).1 w' e ∧ QAt w' B g (readV 1 s).2 ∧ Chg g w w' := by
  have hgl := h.lt
  go_enter Try.func24, Try.ntmps24
  go_wp2_with fail
  have hx0 : ∀ o1 o2, Ext w ((w.alloc o1).alloc o2) := fun o1 o2 => ((Ext.refl w).alloc _).alloc _
  have hs0 : ∀ o1 o2, ((w.alloc o1).alloc o2).heap.size = w.heap.size + 2 := fun o1 o2 => by simp
  have b0 : Blk ((w.alloc (.cells #[.int .i64 0, .int .u64 0, .int .i64 0, .slice none 0 0, .slice none 0 0] 47)).alloc (.cells #[.int .i64 1, .int .u64 0, .int .i64 0, .slice none 0 0, .slice none 0 0] 47)) w.heap.size 47 [.int .i64 0, .int .u64 0, .int .i64 0, .slice none 0 0, .slice none 0 0] := (Blk.new w _ _).ext ((Ext.refl _).alloc _)
  have b1 : Blk ((w.alloc (.cells #[.int .i64 0, .int .u64 0, .int .i64 0, .slice none 0 0, .slice none 0 0] 47)).alloc (.cells #[.int .i64 1, .int .u64 0, .int .i64 0, .slice none 0 0, .slice none 0 0] 47)) (w.heap.size + 1) 47 [.int .i64 1, .int .u64 0, .int .i64 0, .slice none 0 0, .slice none 0 0] := by
    have := Blk.new (w.alloc (.cells #[.int .i64 0, .int .u64 0, .int .i64 0, .slice none 0 0, .slice none 0 0] 47)) 47 [.int .i64 1, .int .u64 0, .int .i64 0, .slice none 0 0, .slice none 0 0]
    simpa using this
  refine (qint_any B g s _ (h.ext (hx0 _ _))).mono ?_
  rintro e w1 ⟨rfl, h1, hx1⟩
  have b0 := hx1.blk b0 (by omega)
  have b1 := hx1.blk b1 (by omega)
  have hcw : Chg g w w1 := (Chg.of_ext (hx0 _ _)).trans hx1
  clear hx0 hx1 hs0 h
  have c00 := b0.cell 0
  have c01 := b0.cell 1
  have c02 := b0.cell 2
  have c03 := b0.cell 3
  have c04 := b0.cell 4
  have c10 := b1.cell 0
  have c11 := b1.cell 1
  have c12 := b1.cell 2
  have c13 := b1.cell 3
  have c14 := b1.cell 4
  have f00 := b0.frozen 0
  have f01 := b0.frozen 1
  have f02 := b0.frozen 2
  have f03 := b0.frozen 3
  have f04 := b0.frozen 4
  have f1 := b1.frozen 2
  simp only [List.getElem?_cons_succ, List.getElem?_cons_zero] at c00 c01 c02 c03 c04 c10 c11 c12 c13 c14
  go_wp2_with fail
  refine bodyPost_ret (v := (aggV (readV 1 s).1 (.slice none 0 0) (.slice none 0 0))) (by simp [results, Try.results24, go_sem, c00, c01, c02, c03, c04]; exact ⟨rfl, rfl, rfl⟩) rfl (qread_fin b0 b1 ?_ ?_ (Rd.nil _) (fun k hk => by simp [Value.ownBlock] at hk) (Rd.nil _) (Ty.nil _ _ _ _) h1 hB hgl hcw)
  · refine Only.set ?_ (by exact .inl rfl) _; refine Only.set ?_ (by exact .inl rfl) _; refine Only.set ?_ (by exact .inl rfl) _; refine Only.set ?_ (by exact .inl rfl) _; refine Only.set ?_ (by exact .inl rfl) _; refine Only.set ?_ (by exact .inr rfl) _; exact Only.refl _ _
  · refine Below.setCell ?_ (by exact Nat.le_refl _) _; refine Below.setCell ?_ (by exact Nat.le_refl _) _; refine Below.setCell ?_ (by exact Nat.le_refl _) _; refine Below.setCell ?_ (by exact Nat.le_refl _) _; refine Below.setCell ?_ (by exact Nat.le_refl _) _; refine Below.setCell ?_ (by exact Nat.le_succ _) _; exact Below.refl _ _

set_option maxHeartbeats 4000000 in
theorem qread2_any (B : Nat → Prop) (g : Nat) (s : RS) (w : World) (h : QAt w B g s) (hB : ∀ k, B k → k < w.heap.size) (hl : ∀ bs, (uintR s).2 = .ok bs → bs.length ≤ 1000000000) :
    Calls Try.prog 24 #[.pointer (some ⟨g, 0, none⟩), .int .i64 2] w fun e w' => ReadQ (readV 2 s).1 w' e ∧ QAt w' B g (readV 2 s).2 ∧ Chg g w w' := by
  have hgl := h.lt
  go_enter Try.func24, Try.ntmps24
  go_wp2_with fail
  have hx0 : ∀ o1 o2, Ext w ((w.alloc o1).alloc o2) := fun o1 o2 => ((Ext.refl w).alloc _).alloc _
  have hs0 : ∀ o1 o2, ((w.alloc o1).alloc o2).heap.size = w.heap.size + 2 := fun o1 o2 => by simp
  have b0 : Blk ((w.alloc (.cells #[.int .i64 0, .int .u64 0, .int .i64 0, .slice none 0 0, .slice none 0 0] 47)).alloc (.cells #[.int .i64 2, .int .u64 0, .int .i64 0, .slice none 0 0, .slice none 0 0] 47)) w.heap.size 47 [.int .i64 0, .int .u64 0, .int .i64 0, .slice none 0 0, .slice none 0 0] := (Blk.new w _ _).ext ((Ext.refl _).alloc _)
  have b1 : Blk ((w.alloc (.cells #[.int .i64 0, .int .u64 0, .int .i64 0, .slice none 0 0, .slice none 0 0] 47)).alloc (.cells #[.int .i64 2, .int .u64 0, .int .i64 0, .slice none 0 0, .slice none 0 0] 47)) (w.heap.size + 1) 47 [.int .i64 2, .int .u64 0, .int .i64 0, .slice none 0 0, .slice none 0 0] := by
    have := Blk.new (w.alloc (.cells #[.int .i64 0, .int .u64 0, .int .i64 0, .slice none 0 0, .slice none 0 0] 47)) 47 [.int .i64 2, .int .u64 0, .int .i64 0, .slice none 0 0, .slice none 0 0]
    simpa using this
  refine (qbool_any B g s _ (h.ext (hx0 _ _))).mono ?_
  rintro e w1 ⟨rfl, h1, hx1⟩
  have b0 := hx1.blk b0 (by omega)
  have b1 := hx1.blk b1 (by omega)
  have hcw : Chg g w w1 := (Chg.of_ext (hx0 _ _)).trans hx1
  clear hx0 hx1 hs0 h
  have c00 := b0.cell 0
  have c01 := b0.cell 1
  have c02 := b0.cell 2
  have c03 := b0.cell 3
  have c04 := b0.cell 4
  have c10 := b1.cell 0
  have c11 := b1.cell 1
  have c12 := b1.cell 2
  have c13 := b1.cell 3
  have c14 := b1.cell 4
  have f00 := b0.frozen 0
  have f01 := b0.frozen 1
  have f02 := b0.frozen 2
  have f03 := b0.frozen 3
  have f04 := b0.frozen 4
  have f1 := b1.frozen 2
  simp only [List.getElem?_cons_succ, List.getElem?_cons_zero] at c00 c01 c02 c03 c04 c10 c11 c12 c13 c14
  have hcase : (boolR s).1 = false ∨ (boolR s).1 = true := by cases (boolR s).1 <;> simp
  rcases hcase with hb | hb
  · have HN : Hid ((readV 2 s).1.n = 0) := Lib.hid (by show (vT (boolR s).1).n = _; rw [hb]; rfl)
    rw [hb]
    clear hb
    go_wp2_with fail
    refine bodyPost_ret (v := (aggV (readV 2 s).1 (.slice none 0 0) (.slice none 0 0))) (by simp [results, Try.results24, go_sem, c00, c01, c02, c03, c04]; exact ⟨rfl, rfl, HN.out.symm⟩) rfl (qread_fin b0 b1 ?_ ?_ (Rd.nil _) (fun k hk => by simp [Value.ownBlock] at hk) (Rd.nil _) (Ty.nil _ _ _ _) h1 hB hgl hcw)
    · refine Only.set ?_ (by exact .inl rfl) _; refine Only.set ?_ (by exact .inl rfl) _; refine Only.set ?_ (by exact .inl rfl) _; refine Only.set ?_ (by exact .inl rfl) _; refine Only.set ?_ (by exact .inl rfl) _; exact Only.refl _ _
    · refine Below.setCell ?_ (by exact Nat.le_refl _) _; refine Below.setCell ?_ (by exact Nat.le_refl _) _; refine Below.setCell ?_ (by exact Nat.le_refl _) _; refine Below.setCell ?_ (by exact Nat.le_refl _) _; refine Below.setCell ?_ (by exact Nat.le_refl _) _; exact Below.refl _ _
  · have HN : Hid ((readV 2 s).1.n = 1) := Lib.hid (by show (vT (boolR s).1).n = _; rw [hb]; rfl)
    rw [hb]
    clear hb
    go_wp2_with fail
    refine bodyPost_ret (v := (aggV (readV 2 s).1 (.slice none 0 0) (.slice none 0 0))) (by simp [results, Try.results24, go_sem, c00, c01, c02, c03, c04]; exact ⟨rfl, rfl, HN.out.symm⟩) rfl (qread_fin b0 b1 ?_ ?_ (Rd.nil _) (fun k hk => by simp [Value.ownBlock] at hk) (Rd.nil _) (Ty.nil _ _ _ _) h1 hB hgl hcw)
    · refine Only.set ?_ (by exact .inl rfl) _; refine Only.set ?_ (by exact .inl rfl) _; refine Only.set ?_ (by exact .inl rfl) _; refine Only.set ?_ (by exact .inl rfl) _; refine Only.set ?_ (by exact .inl rfl) _; refine Only.set ?_ (by exact .inr rfl) _; exact Only.refl _ _
    · refine Below.setCell ?_ (by exact Nat.le_refl _) _; refine Below.setCell ?_ (by exact Nat.le_refl _) _; refine Below.setCell ?_ (by exact Nat.le_refl _) _; refine Below.setCell ?_ (by exact Nat.le_refl _) _; refine Below.setCell ?_ (by exact Nat.le_refl _) _; refine Below.setCell ?_ (by exact Nat.le_succ _) _; exact Below.refl _ _

set_option maxHeartbeats 4000000 in
theorem qread3_any (B : Nat → Prop) (g : Nat) (s : RS) (w : World) (h : QAt w B g s) (hB : ∀ k, B k → k < w.heap.size) (hl : ∀ bs, (uintR s).2 = .ok bs → bs.length ≤ 1000000000) :
    Calls Try.prog 24 #[.pointer (some ⟨g, 0, none⟩), .int .i64 3] w fun e w' => ReadQ (readV 3 s).1 w' e ∧ QAt w' B g (readV 3 s).2 ∧ Chg g w w' := by
  have hgl := h.lt
  go_enter Try.func24, Try.ntmps24
  go_wp2_with fail
  have hx0 : ∀ o1 o2, Ext w ((w.alloc o1).alloc o2) := fun o1 o2 => ((Ext.refl w).alloc _).alloc _
  have hs0 : ∀ o1 o2, ((w.alloc o1).alloc o2).heap.size = w.heap.size + 2 := fun o1 o2 => by simp
  have b0 : Blk ((w.alloc (.cells #[.int .i64 0, .int .u64 0, .int .i64 0, .slice none 0 0, .slice none 0 0] 47)).alloc (.cells #[.int .i64 3, .int .u64 0, .int .i64 0, .slice none 0 0, .slice none 0 0] 47)) w.heap.size 47 [.int .i64 0, .int .u64 0, .int .i64 0, .slice none 0 0, .slice none 0 0] := (Blk.new w _ _).ext ((Ext.refl _).alloc _)
  have b1 : Blk ((w.alloc (.cells #[.int .i64 0, .int .u64 0, .int .i64 0, .slice none 0 0, .slice none 0 0] 47)).alloc (.cells #[.int .i64 3, .int .u64 0, .int .i64 0, .slice none 0 0, .slice none 0 0] 47)) (w.heap.size + 1) 47 [.int .i64 3, .int .u64 0, .int .i64 0, .slice none 0 0, .slice none 0 0] := by
    have := Blk.new (w.alloc (.cells #[.int .i64 0, .int .u64 0, .int .i64 0, .slice none 0 0, .slice none 0 0] 47)) 47 [.int .i64 3, .int .u64 0, .int .i64 0, .slice none 0 0, .slice none 0 0]
    simpa using this
  refine (qraw_any B g s _ (h.ext (hx0 _ _)) hl).mono ?_
  rintro e w1 ⟨v, rfl, hrv, hvB, h1, hx1⟩
  have b0 := hx1.blk b0 (by omega)
  have b1 := hx1.blk b1 (by omega)
  have hcw : Chg g w w1 := (Chg.of_ext (hx0 _ _)).trans hx1
  clear hx0 hx1 hs0 h
  have c00 := b0.cell 0
  have c01 := b0.cell 1
  have c02 := b0.cell 2
  have c03 := b0.cell 3
  have c04 := b0.cell 4
  have c10 := b1.cell 0
  have c11 := b1.cell 1
  have c12 := b1.cell 2
  have c13 := b1.cell 3
  have c14 := b1.cell 4
  have f00 := b0.frozen 0
  have f01 := b0.frozen 1
  have f02 := b0.frozen 2
  have f03 := b0.frozen 3
  have f04 := b0.frozen 4
  have f1 := b1.frozen 3
  simp only [List.getElem?_cons_succ, List.getElem?_cons_zero] at c00 c01 c02 c03 c04 c10 c11 c12 c13 c14
  obtain ⟨Av, mv, cv, hve⟩ : ∃ A m c, v = .slice A m c := by obtain ⟨A, c, hv, -⟩ := hrv; exact ⟨_, _, _, hv⟩
  subst hve
  go_wp2_with fail
  refine bodyPost_ret (v := (aggV (readV 3 s).1 (.slice Av mv cv) (.slice none 0 0))) (by simp [results, Try.results24, go_sem, c00, c01, c02, c03, c04]; exact ⟨rfl, rfl, rfl⟩) rfl (qread_fin b0 b1 ?_ ?_ hrv hvB (Rd.nil _) (Ty.nil _ _ _ _) h1 hB hgl hcw)
  · refine Only.set ?_ (by exact .inl rfl) _; refine Only.set ?_ (by exact .inl rfl) _; refine Only.set ?_ (by exact .inl rfl) _; refine Only.set ?_ (by exact .inl rfl) _; refine Only.set ?_ (by exact .inl rfl) _; refine Only.set ?_ (by exact .inr rfl) _; exact Only.refl _ _
  · refine Below.setCell ?_ (by exact Nat.le_refl _) _; refine Below.setCell ?_ (by exact Nat.le_refl _) _; refine Below.setCell ?_ (by exact Nat.le_refl _) _; refine Below.setCell ?_ (by exact Nat.le_refl _) _; refine Below.setCell ?_ (by exact Nat.le_refl _) _; refine Below.setCell ?_ (by exact Nat.le_succ _) _; exact Below.refl _ _

set_option maxHeartbeats 4000000 in
theorem qread4_any (B : Nat → Prop) (g : Nat) (s : RS) (w : World) (h : QAt w B g s) (hB : ∀ k, B k → k < w.heap.size) (hl : ∀ bs, (uintR s).2 = .ok bs → bs.length ≤ 1000000000) :
    Calls Try.prog 24 #[.pointer (some ⟨g, 0, none⟩), .int .i64 4] w fun e w' => ReadQ (readV 4 s).1 w' e ∧ QAt w' B g (readV 4 s).2 ∧ Chg g w w' := by
  have hgl := h.lt
  go_enter Try.func24, Try.ntmps24
  go_wp2_with fail
  have hx0 : ∀ o1 o2, Ext w ((w.alloc o1).alloc o2) := fun o1 o2 => ((Ext.refl w).alloc _).alloc _
  have hs0 : ∀ o1 o2, ((w.alloc o1).alloc o2).heap.size = w.heap.size + 2 := fun o1 o2 => by simp
  have b0 : Blk ((w.alloc (.cells #[.int .i64 0, .int .u64 0, .int .i64 0, .slice none 0 0, .slice none 0 0] 47)).alloc (.cells #[.int .i64 4, .int .u64 0, .int .i64 0, .slice none 0 0, .slice none 0 0] 47)) w.heap.size 47 [.int .i64 0, .int .u64 0, .int .i64 0, .slice none 0 0, .slice none 0 0] := (Blk.new w _ _).ext ((Ext.refl _).alloc _)
  have b1 : Blk ((w.alloc (.cells #[.int .i64 0, .int .u64 0, .int .i64 0, .slice none 0 0, .slice none 0 0] 47)).alloc (.cells #[.int .i64 4, .int .u64 0, .int .i64 0, .slice none 0 0, .slice none 0 0] 47)) (w.heap.size + 1) 47 [.int .i64 4, .int .u64 0, .int .i64 0, .slice none 0 0, .slice none 0 0] := by
    have := Blk.new (w.alloc (.cells #[.int .i64 0, .int .u64 0, .int .i64 0, .slice none 0 0, .slice none 0 0] 47)) 47 [.int .i64 4, .int .u64 0, .int .i64 0, .slice none 0 0, .slice none 0 0]
    simpa using this
  refine (qraw_any B g s _ (h.ext (hx0 _ _)) hl).mono ?_
  rintro e w1 ⟨v, rfl, hrv, hvB, h1, hx1⟩
  have b0 := hx1.blk b0 (by omega)
  have b1 := hx1.blk b1 (by omega)
  have hcw : Chg g w w1 := (Chg.of_ext (hx0 _ _)).trans hx1
  clear hx0 hx1 hs0 h
  have c00 := b0.cell 0
  have c01 := b0.cell 1
  have c02 := b0.cell 2
  have c03 := b0.cell 3
  have c04 := b0.cell 4
  have c10 := b1.cell 0
  have c11 := b1.cell 1
  have c12 := b1.cell 2
  have c13 := b1.cell 3
  have c14 := b1.cell 4
  have f00 := b0.frozen 0
  have f01 := b0.frozen 1
  have f02 := b0.frozen 2
  have f03 := b0.frozen 3
  have f04 := b0.frozen 4
  have f1 := b1.frozen 3
  simp only [List.getElem?_cons_succ, List.getElem?_cons_zero] at c00 c01 c02 c03 c04 c10 c11 c12 c13 c14
  obtain ⟨Av, mv, cv, hve⟩ : ∃ A m c, v = .slice A m c := by obtain ⟨A, c, hv, -⟩ := hrv; exact ⟨_, _, _, hv⟩
  subst hve
  go_wp2_with fail
  refine bodyPost_ret (v := (aggV (readV 4 s).1 (.slice Av mv cv) (.slice none 0 0))) (by simp [results, Try.results24, go_sem, c00, c01, c02, c03, c04]; exact ⟨rfl, rfl, rfl⟩) rfl (qread_fin b0 b1 ?_ ?_ hrv hvB (Rd.nil _) (Ty.nil _ _ _ _) h1 hB hgl hcw)
  · refine Only.set ?_ (by exact .inl rfl) _; refine Only.set ?_ (by exact .inl rfl) _; refine Only.set ?_ (by exact .inl rfl) _; refine Only.set ?_ (by exact .inl rfl) _; refine Only.set ?_ (by exact .inl rfl) _; refine Only.set ?_ (by exact .inr rfl) _; exact Only.refl _ _
  · refine Below.setCell ?_ (by exact Nat.le_refl _) _; refine Below.setCell ?_ (by exact Nat.le_refl _) _; refine Below.setCell ?_ (by exact Nat.le_refl _) _; refine Below.setCell ?_ (by exact Nat.le_refl _) _; refine Below.setCell ?_ (by exact Nat.le_refl _) _; refine Below.setCell ?_ (by exact Nat.le_succ _) _; exact Below.refl _ _

set_option maxHeartbeats 4000000 in
theorem qread5_any (B : Nat → Prop) (g : Nat) (s : RS) (w : World) (h : QAt w B g s) (hB : ∀ k, B k → k < w.heap.size) (hl : ∀ bs, (uintR s).2 = .ok bs → bs.length ≤ 1000000000) :
    Calls Try.prog 24 #[.pointer (some ⟨g, 0, none⟩), .int .i64 5] w fun e w' => ReadQ (readV 5 s).1 w' e ∧ QAt w' B g (readV 5 s).2 ∧ Chg g w w' := by
  have hgl := h.lt
  go_enter Try.func24, Try.ntmps24
  go_wp2_with fail
  have hx0 : ∀ o1 o2, Ext w ((w.alloc o1).alloc o2) := fun o1 o2 => ((Ext.refl w).alloc _).alloc _
  have hs0 : ∀ o1 o2, ((w.alloc o1).alloc o2).heap.size = w.heap.size + 2 := fun o1 o2 => by simp
  have b0 : Blk ((w.alloc (.cells #[.int .i64 0, .int .u64 0, .int .i64 0, .slice none 0 0, .slice none 0 0] 47)).alloc (.cells #[.int .i64 5, .int .u64 0, .int .i64 0, .slice none 0 0, .slice none 0 0] 47)) w.heap.size 47 [.int .i64 0, .int .u64 0, .int .i64 0, .slice none 0 0, .slice none 0 0] := (Blk.new w _ _).ext ((Ext.refl _).alloc _)
  have b1 : Blk ((w.alloc (.cells #[.int .i64 0, .int .u64 0, .int .i64 0, .slice none 0 0, .slice none 0 0] 47)).alloc (.cells #[.int .i64 5, .int .u64 0, .int .i64 0, .slice none 0 0, .slice none 0 0] 47)) (w.heap.size + 1) 47 [.int .i64 5, .int .u64 0, .int .i64 0, .slice none 0 0, .slice none 0 0] := by
    have := Blk.new (w.alloc (.cells #[.int .i64 0, .int .u64 0, .int .i64 0, .slice none 0 0, .slice none 0 0] 47)) 47 [.int .i64 5, .int .u64 0, .int .i64 0, .slice none 0 0, .slice none 0 0]
    simpa using this
  refine (qints_any B g s _ (h.ext (hx0 _ _)) (fun k hk => by rw [hs0]; have := hB k hk; omega) hl).mono ?_
  rintro e w1 ⟨v, rfl, hov, h1, hx1⟩
  have b0 := hx1.blk b0 (by omega)
  have b1 := hx1.blk b1 (by omega)
  have hcw : Chg g w w1 := (Chg.of_ext (hx0 _ _)).trans hx1
  have hrv := hov.rd
  have htv := hov.ty
  clear hx0 hx1 hs0 h
  have c00 := b0.cell 0
  have c01 := b0.cell 1
  have c02 := b0.cell 2
  have c03 := b0.cell 3
  have c04 := b0.cell 4
  have c10 := b1.cell 0
  have c11 := b1.cell 1
  have c12 := b1.cell 2
  have c13 := b1.cell 3
  have c14 := b1.cell 4
  have f00 := b0.frozen 0
  have f01 := b0.frozen 1
  have f02 := b0.frozen 2
  have f03 := b0.frozen 3
  have f04 := b0.frozen 4
  have f1 := b1.frozen 4
  simp only [List.getElem?_cons_succ, List.getElem?_cons_zero] at c00 c01 c02 c03 c04 c10 c11 c12 c13 c14
  obtain ⟨Av, mv, cv, hve⟩ : ∃ A m c, v = .slice A m c := by obtain ⟨A, c, hv, -⟩ := hrv; exact ⟨_, _, _, hv⟩
  subst hve
  go_wp2_with fail
  refine bodyPost_ret (v := (aggV (readV 5 s).1 (.slice none 0 0) (.slice Av mv cv))) (by simp [results, Try.results24, go_sem, c00, c01, c02, c03, c04]; exact ⟨rfl, rfl, rfl⟩) rfl (qread_fin b0 b1 ?_ ?_ (Rd.nil _) (fun k hk => by simp [Value.ownBlock] at hk) hrv htv h1 hB hgl hcw)
  · refine Only.set ?_ (by exact .inl rfl) _; refine Only.set ?_ (by exact .inl rfl) _; refine Only.set ?_ (by exact .inl rfl) _; refine Only.set ?_ (by exact .inl rfl) _; refine Only.set ?_ (by exact .inl rfl) _; refine Only.set ?_ (by exact .inr rfl) _; exact Only.refl _ _
  · refine Below.setCell ?_ (by exact Nat.le_refl _) _; refine Below.setCell ?_ (by exact Nat.le_refl _) _; refine Below.setCell ?_ (by exact Nat.le_refl _) _; refine Below.setCell ?_ (by exact Nat.le_refl _) _; refine Below.setCell ?_ (by exact Nat.le_refl _) _; refine Below.setCell ?_ (by exact Nat.le_succ _) _; exact Below.refl _ _

theorem lread_any (B : Nat → Prop) (g : Nat) (s : RS) (k : Nat) (hk : k ≤ 5) (w : World) (h : RAt w B g s) (hB : ∀ k, B k → k < w.heap.size) (hl : ∀ bs, s = .ok bs → bs.length ≤ 1000000000) :
    Calls Try.prog 23 #[.pointer (some ⟨g, 0, none⟩), .int .i64 k] w fun e w' => ReadV (readV k s).1 w' e ∧ RAt w' B g (readV k s).2 ∧ Chg g w w' := by
  have hl' := lenR_bound s _ hl
  have hc : k = 0 ∨ k = 1 ∨ k = 2 ∨ k = 3 ∨ k = 4 ∨ k = 5 := by omega
  rcases hc with rfl | rfl | rfl | rfl | rfl | rfl
  · exact lread0_any B g s w h hB hl'
  · exact lread1_any B g s w h hB hl'
  · exact lread2_any B g s w h hB hl'
  · exact lread3_any B g s w h hB hl'
  · exact lread4_any B g s w h hB hl'
  · exact lread5_any B g s w h hB hl'

theorem qread_any (B : Nat → Prop) (g : Nat) (s : RS) (k : Nat) (hk : k ≤ 5) (w : World) (h : QAt w B g s) (hB : ∀ k, B k → k < w.heap.size) (hl : ∀ bs, s = .ok bs → bs.length ≤ 1000000000) :
    Calls Try.prog 24 #[.pointer (some ⟨g, 0, none⟩), .int .i64 k] w fun e w' => ReadQ (readV k s).1 w' e ∧ QAt w' B g (readV k s).2 ∧ Chg g w w' := by
  have hl' := uintR_bound s _ hl
  have hc : k = 0 ∨ k = 1 ∨ k = 2 ∨ k = 3 ∨ k = 4 ∨ k = 5 := by omega
  rcases hc with rfl | rfl | rfl | rfl | rfl | rfl
  · exact qread0_any B g s w h hB hl'
  · exact qread1_any B g s w h hB hl'
  · exact qread2_any B g s w h hB hl'
  · exact qread3_any B g s w h hB hl'
  · exact qread4_any B g s w h hB hl'
  · exact qread5_any B g s w h hB hl'

end Go.Proofs.Ytfkdaipmbakomaa
