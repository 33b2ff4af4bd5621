/- package wire: the laws' values in memory: a slice of structs of five cells, of which two are slices. -/
import Derived.Test.YtfkdaipmbakomaaWv
import Derived.Test.YtfkdaipmbakomaaWd4
import Derived.Test.YtfkdaipmbakomaaMo
namespace Go.Proofs.Ytfkdaipmbakomaa
open Go.RowKit
set_option linter.unusedVariables false

theorem info_val : (Try.prog.info? 47).map (fun i => (i.zero, i.size, i.bytes)) = some (some (.agg #[.int .i64 0, .int .u64 0, .int .i64 0, .slice none 0 0, .slice none 0 0]), 5, 72) := by kernel_rfl

/-- the block of v holds elements of type e -/
def Ty (w : World) (e : TypeId) (v : Value) : Prop := ∀ k, v.ownBlock = some k → ∃ cur fr, w.heap[k]? = some (.cells cur e fr)
theorem Ty.nil (w : World) (e : TypeId) (n c : Nat) : Ty w e (.slice none n c) := fun k hk => by simp [Value.ownBlock] at hk
theorem Ty.ext {w w' : World} {e : TypeId} {v : Value} (h : Ty w e v) (hx : Ext w w') : Ty w' e v := fun k hk => by
  obtain ⟨cur, fr, hc⟩ := h k hk
  exact ⟨cur, fr, (hx.block (Array.getElem?_eq_some_iff.1 hc).1).trans hc⟩
theorem Own.ty {w : World} {base : Nat} {e : TypeId} {v : Value} {xs : List Value} (h : Own w base e v xs) : Ty w e v := fun k hk => by
  rcases h.2 with ⟨rfl, _⟩ | ⟨g, cap, cur, rfl, _, hg, _⟩
  · simp [Value.ownBlock] at hk
  · simp only [Value.ownBlock, Option.some.injEq] at hk
    subst hk
    exact ⟨cur, _, hg⟩
theorem Rd.of_block {w w' : World} {v : Value} {xs : List Value} (h : Rd w v xs) (hk : ∀ k, v.ownBlock = some k → w'.heap[k]? = w.heap[k]?) : Rd w' v xs := by
  obtain ⟨A, c, rfl, h1, h2, h3⟩ := h
  refine ⟨A, c, rfl, h1, h2, ?_⟩
  rcases h3 with h3 | ⟨b, off, rfl, hc⟩
  · exact .inl h3
  · exact .inr ⟨b, off, rfl, fun j u hu => (World.cell?_of_block (hk b rfl)).trans (hc j u hu)⟩

/-- the five cells of a value -/
def VFld (w : World) (x : WV) (cs : List Value) : Prop :=
  ∃ vb vl, cs = [.int .i64 x.k, .int .u64 x.u, .int .i64 x.n, vb, vl] ∧ Rd w vb (vbs x.b) ∧ Ty w 5 vb ∧ Rd w vl (vis x.l) ∧ Ty w 3 vl
/-- blocks of bytes and of numbers are as they were -/
def KeepUI (w w' : World) : Prop := ∀ (k : Nat) (cur : Array Value) (e : TypeId) (fr : Nat × Nat), (e = 5 ∨ e = 3) → w.heap[k]? = some (Obj.cells cur e fr) → w'.heap[k]? = w.heap[k]?
theorem KeepUI.of_ext {w w' : World} (h : Ext w w') : KeepUI w w' := fun k cur e fr _ hk => h.block (Array.getElem?_eq_some_iff.1 hk).1
theorem KeepUI.trans {a b c : World} (h : KeepUI a b) (k : KeepUI b c) : KeepUI a c := fun i cur e fr he hi => by
  have := h i cur e fr he hi
  exact (k i cur e fr he (this.trans hi)).trans this
theorem KeepUI.grown {w w' : World} {row : Option Nat} (h : w.grownBy w' row) (hr : ∀ k, row = some k → ∃ cur e fr, e ≠ 5 ∧ e ≠ 3 ∧ w.heap[k]? = some (.cells cur e fr)) : KeepUI w w' := fun k cur e fr he hk => by
  refine World.grownBy.block h k (Array.getElem?_eq_some_iff.1 hk).1 (fun hc => ?_)
  obtain ⟨cur', e', fr', h1, h2, h3⟩ := hr k hc.symm
  rw [hk] at h3
  injection h3 with h3
  injection h3 with _ h4 _
  subst h4
  rcases he with rfl | rfl
  · exact h1 rfl
  · exact h2 rfl
theorem KeepUI.set {w : World} {g : Nat} {t : TypeId} {cs : List Value} (hb : Blk w g t cs) (h1 : t ≠ 5) (h2 : t ≠ 3) (i : Nat) (u : Value) : KeepUI w (w.setCell ⟨g, i, none⟩ u) :=
  KeepUI.grown (Chg.set g i w u) fun k hk => by cases hk; exact ⟨_, _, _, h1, h2, hb⟩
theorem KeepUI.chg {w w' : World} {g : Nat} {t : TypeId} {cs : List Value} (hc : Chg g w w') (hb : Blk w g t cs) (h1 : t ≠ 5) (h2 : t ≠ 3) : KeepUI w w' :=
  KeepUI.grown hc fun k hk => by cases hk; exact ⟨_, _, _, h1, h2, hb⟩
theorem VFld.keep {w w' : World} {x : WV} {cs : List Value} (h : VFld w x cs) (hk : KeepUI w w') : VFld w' x cs := by
  obtain ⟨vb, vl, rfl, h1, h2, h3, h4⟩ := h
  refine ⟨vb, vl, rfl, h1.of_block fun k e => ?_, fun k e => ?_, h3.of_block fun k e => ?_, fun k e => ?_⟩
  · obtain ⟨cur, fr, hc⟩ := h2 k e; exact hk k cur _ fr (.inl rfl) hc
  · obtain ⟨cur, fr, hc⟩ := h2 k e; exact ⟨cur, fr, (hk k cur _ fr (.inl rfl) hc).trans hc⟩
  · obtain ⟨cur, fr, hc⟩ := h4 k e; exact hk k cur _ fr (.inr rfl) hc
  · obtain ⟨cur, fr, hc⟩ := h4 k e; exact ⟨cur, fr, (hk k cur _ fr (.inr rfl) hc).trans hc⟩
theorem VFld.len {w : World} {x : WV} {cs : List Value} (h : VFld w x cs) : cs.length = 5 := by obtain ⟨vb, vl, rfl, -⟩ := h; rfl
theorem VFld.one {w : World} {x : WV} {cs : List Value} (h : VFld w x cs) : ∀ u ∈ cs, u.oneCell' = true := by
  obtain ⟨vb, vl, rfl, h1, -, h2, -⟩ := h
  obtain ⟨A, c, rfl, -⟩ := h1
  obtain ⟨A', c', rfl, -⟩ := h2
  intro u hu
  simp only [List.mem_cons, List.not_mem_nil, or_false] at hu
  rcases hu with rfl | rfl | rfl | rfl | rfl <;> rfl

/-- rows of five -/
theorem flat5 : ∀ (css : List (List Value)), (∀ cs ∈ css, cs.length = 5) → ∀ (i : Nat) (cs : List Value) (j : Nat) (u : Value), css[i]? = some cs → cs[j]? = some u → css.flatten[i * 5 + j]? = some u
  | [], _, i, cs, j, u, h, _ => by simp at h
  | c :: r, hl, 0, cs, j, u, h, hu => by
    simp at h
    subst h
    have hj : j < c.length := by
      rcases Nat.lt_or_ge j c.length with h | h
      · exact h
      · rw [List.getElem?_eq_none h] at hu; cases hu
    rw [List.flatten_cons, Nat.zero_mul, Nat.zero_add, List.getElem?_append_left hj]; exact hu
  | c :: r, hl, i + 1, cs, j, u, h, hu => by
    have h5 := hl c (by simp)
    have := flat5 r (fun x hx => hl x (by simp [hx])) i cs j u (by simpa using h) hu
    rw [List.flatten_cons, List.getElem?_append_right (by omega), h5, show (i + 1) * 5 + j - 5 = i * 5 + j by omega]
    exact this
theorem flat5_len : ∀ (css : List (List Value)), (∀ cs ∈ css, cs.length = 5) → css.flatten.length = css.length * 5
  | [], _ => rfl
  | c :: r, hl => by
    have := flat5_len r (fun x hx => hl x (by simp [hx]))
    have h5 := hl c (by simp)
    simp [this, h5]; omega

/-- values and their cells, one by one -/
def VFlds (w : World) (xs : List WV) (css : List (List Value)) : Prop := css.length = xs.length ∧ ∀ (i : Nat) (x : WV) (cs : List Value), xs[i]? = some x → css[i]? = some cs → VFld w x cs
theorem VFlds.keep {w w' : World} {xs : List WV} {css : List (List Value)} (h : VFlds w xs css) (hk : KeepUI w w') : VFlds w' xs css :=
  ⟨h.1, fun i x cs hx hc => (h.2 i x cs hx hc).keep hk⟩
theorem VFlds.nil (w : World) : VFlds w [] [] := ⟨rfl, fun i x cs hx => by simp at hx⟩
theorem VFlds.one {w : World} {x : WV} {cs : List Value} (h : VFld w x cs) : VFlds w [x] [cs] := ⟨rfl, fun i x' cs' hx hc => by
  rcases i with _ | i
  · simp at hx hc; subst hx hc; exact h
  · simp at hx⟩
theorem VFlds.app {w : World} {xs ys : List WV} {css dss : List (List Value)} (h : VFlds w xs css) (k : VFlds w ys dss) : VFlds w (xs ++ ys) (css ++ dss) := by
  refine ⟨by simp [h.1, k.1], fun i x cs hx hc => ?_⟩
  by_cases hi : i < xs.length
  · rw [List.getElem?_append_left hi] at hx
    rw [List.getElem?_append_left (by rw [h.1]; exact hi)] at hc
    exact h.2 i x cs hx hc
  · rw [List.getElem?_append_right (by omega)] at hx
    rw [List.getElem?_append_right (by rw [h.1]; omega), h.1] at hc
    exact k.2 _ x cs hx hc
theorem VFlds.len5 {w : World} {xs : List WV} {css : List (List Value)} (h : VFlds w xs css) : ∀ cs ∈ css, cs.length = 5 := fun cs hc => by
  obtain ⟨i, hi, rfl⟩ := List.getElem_of_mem hc
  have hi' : i < xs.length := by rw [← h.1]; exact hi
  exact (h.2 i xs[i] css[i] (List.getElem?_eq_getElem hi') (List.getElem?_eq_getElem hi)).len
theorem VFlds.ones {w : World} {xs : List WV} {css : List (List Value)} (h : VFlds w xs css) : ∀ u ∈ css.flatten, u.oneCell' = true := fun u hu => by
  obtain ⟨cs, hc, hu⟩ := List.mem_flatten.1 hu
  obtain ⟨i, hi, rfl⟩ := List.getElem_of_mem hc
  have hi' : i < xs.length := by rw [← h.1]; exact hi
  exact (h.2 i xs[i] css[i] (List.getElem?_eq_getElem hi') (List.getElem?_eq_getElem hi)).one u hu

/-- a slice of values of the call's own -/
def OwnV (w : World) (base : Nat) (v : Value) (xs : List WV) : Prop := ∃ css, VFlds w xs css ∧ w.ownsRow base 47 5 v xs.length css.flatten
theorem OwnV.nil (w : World) (base : Nat) : OwnV w base (.slice none 0 0) [] := ⟨[], VFlds.nil w, World.ownsRow_nil _ _ _ _⟩
theorem OwnV.blk {w : World} {base : Nat} {v : Value} {xs : List WV} (h : OwnV w base v xs) : ∀ k, v.ownBlock = some k → base ≤ k ∧ ∃ cur, w.heap[k]? = some (.cells cur 47 (0, 0)) := fun k hk => by
  obtain ⟨css, h1, h2⟩ := h
  rcases h2.2 with ⟨rfl, _⟩ | ⟨g, cap, cur, rfl, hb, hg, _⟩
  · simp [Value.ownBlock] at hk
  · simp only [Value.ownBlock, Option.some.injEq] at hk
    subst hk
    exact ⟨hb, cur, hg⟩
theorem OwnV.lt {w : World} {base : Nat} {v : Value} {xs : List WV} (h : OwnV w base v xs) : ∀ k, v.ownBlock = some k → base ≤ k ∧ k < w.heap.size := fun k hk => by
  obtain ⟨h1, cur, h2⟩ := h.blk k hk
  exact ⟨h1, (Array.getElem?_eq_some_iff.1 h2).1⟩
theorem OwnV.keep {w w' : World} {base : Nat} {v : Value} {xs : List WV} (h : OwnV w base v xs) (hk : KeepUI w w') (hb : ∀ k, v.ownBlock = some k → w'.heap[k]? = w.heap[k]?) : OwnV w' base v xs := by
  obtain ⟨css, h1, h2⟩ := h
  refine ⟨css, h1.keep hk, h2.1, ?_⟩
  rcases h2.2 with h | ⟨g, cap, cur, rfl, h3, h4, h5⟩
  · exact .inl h
  · exact .inr ⟨g, cap, cur, rfl, h3, (hb g rfl).trans h4, h5⟩
theorem OwnV.ext {w w' : World} {base : Nat} {v : Value} {xs : List WV} (h : OwnV w base v xs) (hx : Ext w w') : OwnV w' base v xs :=
  h.keep (KeepUI.of_ext hx) fun k hk => hx.block (h.lt k hk).2
theorem OwnV.mono {w : World} {base base' : Nat} {v : Value} {xs : List WV} (h : OwnV w base v xs) (hb : base' ≤ base) : OwnV w base' v xs := by
  obtain ⟨css, h1, h2⟩ := h
  refine ⟨css, h1, h2.1, ?_⟩
  rcases h2.2 with h | ⟨g, cap, cur, rfl, h3, h4, h5⟩
  · exact .inl h
  · exact .inr ⟨g, cap, cur, rfl, by omega, h4, h5⟩

/-- a slice of values that reads -/
def RdV (w : World) (v : Value) (xs : List WV) : Prop :=
  ∃ A c, v = .slice A xs.length c ∧ xs.length ≤ c ∧ c ≤ maxLen ∧
    (xs = [] ∨ ∃ b off, A = some ⟨b, off, none⟩ ∧ ∀ (i : Nat) (x : WV), xs[i]? = some x → ∃ cs, VFld w x cs ∧ ∀ (j : Nat) (u : Value), cs[j]? = some u → w.cell? ⟨b, off + i * 5 + j, none⟩ = some u)
theorem RdV.ext {w w' : World} {v : Value} {xs : List WV} (h : RdV w v xs) (hx : Ext w w') : RdV w' v xs := by
  obtain ⟨A, c, rfl, h1, h2, h3⟩ := h
  refine ⟨A, c, rfl, h1, h2, ?_⟩
  rcases h3 with h3 | ⟨b, off, rfl, hc⟩
  · exact .inl h3
  · refine .inr ⟨b, off, rfl, fun i x hi => ?_⟩
    obtain ⟨cs, h4, h5⟩ := hc i x hi
    exact ⟨cs, h4.keep (KeepUI.of_ext hx), fun j u hu => hx.cell (h5 j u hu)⟩
theorem OwnV.rd {w : World} {base : Nat} {v : Value} {xs : List WV} (h : OwnV w base v xs) : RdV w v xs := by
  obtain ⟨css, h1, h2⟩ := h
  have h0 := h2
  rcases h2.2 with ⟨rfl, hn⟩ | ⟨g, cap, cur, rfl, hb, hg, hn, hm, hs, ht⟩
  · have : xs = [] := List.eq_nil_of_length_eq_zero hn
    subst this
    exact ⟨none, 0, rfl, Nat.le_refl _, by simp [maxLen], .inl rfl⟩
  · refine ⟨_, cap, rfl, hn, hm, .inr ⟨g, 0, rfl, fun i x hi => ?_⟩⟩
    have hil : i < xs.length := by
      rcases Nat.lt_or_ge i xs.length with h | h
      · exact h
      · rw [List.getElem?_eq_none h] at hi; cases hi
    have hic : i < css.length := by rw [h1.1]; exact hil
    refine ⟨css[i], h1.2 i x _ hi (List.getElem?_eq_getElem hic), fun j u hu => ?_⟩
    have := World.ownsRow.cells h0 (g := g) rfl (i * 5 + j) u (flat5 css h1.len5 i css[i] j u (List.getElem?_eq_getElem hic) hu)
    rw [addr_add] at this
    rwa [show 0 + i * 5 + j = 0 + (i * 5 + j) by omega]
theorem RdV.take {w : World} {A : Option Addr} {n c : Nat} {xs : List WV} (h : RdV w (.slice A n c) xs) (k : Nat) (hk : k ≤ n) : RdV w (.slice A k c) (xs.take k) := by
  obtain ⟨A', c', hv, h1, h2, h3⟩ := h
  injection hv with e1 e2 e3
  subst e1 e2 e3
  have hl : (xs.take k).length = k := by simp; omega
  refine ⟨A, c, by rw [hl], by rw [hl]; omega, h2, ?_⟩
  rcases h3 with rfl | ⟨b, off, rfl, hc⟩
  · exact .inl (by simp)
  · refine .inr ⟨b, off, rfl, fun i x hi => hc i x ?_⟩
    rw [List.getElem?_take] at hi
    split at hi
    · exact hi
    · cases hi
/-- for the walk: the form, and the cells of one value -/
theorem RdV.form {w : World} {v : Value} {xs : List WV} (h : RdV w v xs) : ∃ A c, v = .slice A xs.length c ∧ xs.length ≤ c ∧ c ≤ maxLen ∧ (0 < xs.length → ∃ b off, A = some ⟨b, off, none⟩) := by
  obtain ⟨A, c, rfl, h1, h2, h3⟩ := h
  refine ⟨A, c, rfl, h1, h2, fun h0 => ?_⟩
  rcases h3 with rfl | ⟨b, off, rfl, -⟩
  · simp at h0
  · exact ⟨b, off, rfl⟩
theorem RdV.cellsAt {w : World} {b off n c : Nat} {xs : List WV} (h : RdV w (.slice (some ⟨b, off, none⟩) n c) xs) (i : Nat) (hi : i < xs.length) :
    ∃ vb vl, w.cell? ⟨b, off + i * 5, none⟩ = some (.int .i64 xs[i].k) ∧ w.cell? ⟨b, off + i * 5 + 1, none⟩ = some (.int .u64 xs[i].u) ∧ w.cell? ⟨b, off + i * 5 + 2, none⟩ = some (.int .i64 xs[i].n) ∧
      w.cell? ⟨b, off + i * 5 + 3, none⟩ = some vb ∧ w.cell? ⟨b, off + i * 5 + 4, none⟩ = some vl ∧ Rd w vb (vbs xs[i].b) ∧ Ty w 5 vb ∧ Rd w vl (vis xs[i].l) ∧ Ty w 3 vl := by
  obtain ⟨A', c', hv, h1, h2, h3⟩ := h
  injection hv with e1 e2 e3
  rcases h3 with rfl | ⟨b', off', rfl, hc⟩
  · simp at hi
  · injection e1 with e1
    injection e1 with e1 e4
    subst e1 e4
    obtain ⟨cs, ⟨vb, vl, rfl, a1, a2, a3, a4⟩, hcs⟩ := hc i xs[i] (List.getElem?_eq_getElem hi)
    exact ⟨vb, vl, hcs 0 _ rfl, hcs 1 _ rfl, hcs 2 _ rfl, hcs 3 _ rfl, hcs 4 _ rfl, a1, a2, a3, a4⟩

/-- append of values to a slice of the call's own -/
theorem wpList_appV (w : World) {ops : Array Oper} {rest : List Oper} {o : Oper} {a : Act} {Q : Exit → Act → World → Prop} (hgd : o.guard = none) (s x : Operand)
    (ho : o.op = .call { callee := .builtin .append, args := #[s, x], argTypes := #[35, 35] })
    (base : Nat) (v : Value) (xs : List WV) (hs : a.eval s = v) (hown : OwnV w base v xs)
    (ad : Addr) (m c : Nat) (news : List WV) (ncs : List (List Value)) (hx : a.eval x = .slice (some ad) m c) (hm : news.length = m) (hf : VFlds w news ncs)
    (hnews : ∀ j u, ncs.flatten[j]? = some u → w.cell? (ad.add j) = some u) (hlen : xs.length + m ≤ 1000000) (hbase : base ≤ w.heap.size)
    (h : ∀ v' w', OwnV w' base v' (xs ++ news) → w.grownBy w' v.ownBlock → KeepUI w w' → wpList Try.prog ops Q rest (a.put o.dst v') w') : wpList Try.prog ops Q (o :: rest) a w := by
  obtain ⟨i0, hi, hz0, hz1, hz2⟩ := info_parts info_val
  have hb := hown.blk
  obtain ⟨css, h1, h2⟩ := hown
  refine wpList_append_own_at w hgd s x _ ho base 47 i0 _ 5 72 Try.underlying35 hi hz0 hz1 hz2 rfl (by omega) v xs.length css.flatten hs h2 ad m c ncs.flatten hx ?_ hnews hf.ones ?_ ?_ hbase ?_
  · rw [flat5_len ncs hf.len5, hf.1, hm]
  · simp only [maxLen]; omega
  · omega
  · intro v' w' h3 hg _ _
    have hk : KeepUI w w' := KeepUI.grown hg fun k hk => by
      obtain ⟨_, cur, hc⟩ := hb k hk
      exact ⟨cur, _, _, by decide, by decide, hc⟩
    refine h v' w' ⟨css ++ ncs, (h1.keep hk).app (hf.keep hk), ?_⟩ hg hk
    rw [List.length_append, hm, List.flatten_append]
    exact h3
end Go.Proofs.Ytfkdaipmbakomaa
