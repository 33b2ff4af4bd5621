/- hash.Bytes: its contract. -/
import Derived.Test.YtjgpdimhgcacgaaHc3
import Derived.Maps.AppendAt
namespace Go.Proofs.Ytjgpdimhgcacgaa
open Go.RowKit Go.Shelf
set_option linter.unusedVariables false
attribute [local go_sem] Oper.semAt_some

set_option maxRecDepth 100000 in
set_option maxHeartbeats 2000000 in
theorem bytes_any (s : ByteArray) (v : Value) (bs : List UInt8) (w : World) (hs : s.size ≤ 2147483648) (hr : Rd w v (vbs bs)) (hl : bs.length ≤ 1000000) :
    Calls Try.prog 49 #[.string s, v] w fun e w' => e = .returned (.int .u64 (bytesI s.data.toList bs)) ∧ Ext w w' := by
  have hr0 := hr
  obtain ⟨A, c, rfl, _⟩ := hr
  obtain ⟨_, a1, a2, a3⟩ := hr0.at
  simp only [vbs_len, maxLen] at *
  obtain ⟨i0, hi, hz0, hz1, hz2⟩ := info_parts info_int
  refine (callsIn_wide (n := 4)).1 ?_
  refine callsIn_of_wp_marks Try.func49 rfl trivial ?_ rfl
  simp only [Try.ntmps49, List.size_toArray, List.length_cons, List.length_nil, Nat.reduceAdd, Nat.reduceSub, Array.replicate_succ, Array.replicate_zero, List.push_toArray, List.append_toArray, List.nil_append, List.cons_append]
  gi_wp2_with (refine ⟨trivial, ?_⟩; gi_at_call 67; refine (wbyt_in Fence.wide 3 trivial rfl _ _ _ _).mono ?_; rintro e w' ⟨rfl, rfl⟩)
  have bO := Boxed.new w 29 (.slice none 0 0)
  have bN := Boxed.new (w.alloc (.cells #[.slice none 0 0] 29)) 22 (.slice A bs.length c)
  rw [World.size_alloc] at bN
  have hE0 : Ext w ((w.alloc (.cells #[.slice none 0 0] 29)).alloc (.cells #[.slice A bs.length c] 22)) := ((Ext.refl w).alloc _).alloc _
  have hcl : 0 < bs.length → ∃ b off, A = some ⟨b, off, none⟩ ∧ b < w.heap.size ∧ ∀ (j : Nat) (u : Value), (vbs bs)[j]? = some u → ((w.alloc (.cells #[.slice none 0 0] 29)).alloc (.cells #[.slice A bs.length c] 22)).cell? ⟨b, off + j, none⟩ = some u := by
    intro hp
    obtain ⟨b, off, rfl, hcx⟩ := a3 hp
    exact ⟨b, off, rfl, World.block_lt_of_cell? w _ (hcx w (Ext.refl w) 0 _ (List.getElem?_eq_getElem (by rw [vbs_len]; exact hp))), hcx _ hE0⟩
  refine wpIn_rangeFunc_ownG rfl (by omega) (gf := 74) (lb := #[.pointer (some ⟨w.heap.size + 1, 0, none⟩)]) rfl trivial (enters_of Try.func74 (by kernel_rfl) rfl)
    (wbyt_stops Fence.wide 3 trivial rfl (by omega) (w.heap.size + 1) w.heap.size bs A c (by omega) _ (by simp) (by simp; omega) hcl bN.cell) Kept.trans (fun W l o o' hl h _ _ => Kept.put (by rintro k (rfl | hk) <;> simp <;> omega) W l o o' hl h) (Below.refl _ _) (fun _ => rfl)
    (fun pre W => (∃ v, Boxed W w.heap.size 29 v ∧ W.ownsRow w.heap.size 3 1 v pre.length (vis (pre.map wrap64)) ∧ True) ∧ (Boxed W (w.heap.size + 1) 22 (.slice A bs.length c) ∧ Below w.heap.size w W))
    (fun _ _ _ => False)
    (OwnFrom.and (Own.from (holdsRow_own w.heap.size w.heap.size 29 3 1 (fun pre : List Int => pre.length) (fun pre => vis (pre.map wrap64)) (fun pre v => True)) _) (OwnFrom.and (Own.from (boxed_own _ _ _) _) (ownFrom_below (Nat.le_refl _) (by simp; omega))))
    (fun _ _ _ _ _ hs _ _ => hs)
    ⟨⟨_, bO.alloc _, World.ownsRow_nil _ _ _ _, trivial⟩, bN, hE0⟩
    (fun x => { tmps := #[.string s, .slice A bs.length c, undef, undef, .int .u64 0, .pointer (some ⟨w.heap.size, 0, none⟩), .int .u64 x, .slice A bs.length c, .func (.func 74) #[] #[.pointer (some ⟨w.heap.size + 1, 0, none⟩)], .int .u64 x, undef, undef, undef, undef, undef, undef, undef, undef, undef, undef, undef, undef], defers := [] }) ?assign ?body ?done ?stop
  case assign =>
    intro l x W K hK
    gi_wp2
    exact hK
  case body =>
    rintro l pre x W ⟨⟨v, hv, hrow, _⟩, hbn, hB⟩ hlt
    have hc := hv.cell
    have hpl : nWords bs ≤ bs.length + 7 := by simp only [nWords]; omega
    gi_wp2_with (gi_at_builtin; refine wpListIn_append_own _ rfl _ _ 29 rfl w.heap.size 3 i0 (.int .i64 0) 1 8 Try.underlying29 hi hz0 hz1 hz2 rfl (by decide) _ _ _ rfl (hrow.alloc _) ⟨W.heap.size, 0, none⟩ 1 1 [.int .i64 (wrap64 x)] rfl rfl (cell_one_new _ _ _) (by simp [Value.oneCell']) (by simp only [maxLen]; omega) (by omega) (by have := hB.size; simp; omega) ?_; intro v' w1 hown' hgrow _; obtain ⟨g', cap', rfl⟩ := ownsRow_succ hown'; obtain ⟨hv1, hv2, hr2, hk2, hb2⟩ := hv.appended (by decide) hrow hB.size (Nat.le_refl _) hown' hgrow; have hc1 := hv1.cell; have hf1 := hv1.frozen)
    have hbn1 : Boxed w1 (w.heap.size + 1) 22 (.slice A bs.length c) := (hbn.alloc _).kept hgrow (hbn.not_row (by decide) hrow)
    have hbn2 := hbn1.kept (grownBy_setCell' w1 w.heap.size (.slice (some ⟨g', 0, none⟩) (pre.length + 1) cap')) (by simp)
    refine ⟨hk2.from _, ?_, ⟨_, hv2, by simpa [vis] using hr2, trivial⟩, hbn2, hB.trans hb2⟩
    rintro k (rfl | hk)
    · exact hbn2.trans hbn.symm
    · exact hb2.block k hk
  case done =>
    rintro D ys W hD rfl ⟨⟨v, hv, hrow, _⟩, hbn, hB⟩ hK
    have hc := hv.cell
    have hnw : nWords bs ≤ bs.length + 7 := by simp only [nWords]; omega
    have hwl : (wordsOf bs).length ≤ 1000007 := by rw [wordsOf, wordsUpto_len]; omega
    gi_wp2_with (gi_at_builtin; refine wpListIn_append_own _ rfl _ _ 29 rfl w.heap.size 3 i0 (.int .i64 0) 1 8 Try.underlying29 hi hz0 hz1 hz2 rfl (by decide) _ _ _ rfl (hrow.alloc _) ⟨W.heap.size, 0, none⟩ 1 1 [.int .i64 bs.length] rfl rfl (cell_one_new _ _ _) (by simp [Value.oneCell']) (by simp only [maxLen]; omega) (by omega) (by have := hB.size; simp; omega) ?_; intro v' w1 hown' hgrow _; gi_wp2_with fail)
    have hDne : some D ≠ v.ownBlock := by
      intro e
      rcases hrow.2 with ⟨rfl, _⟩ | ⟨g, cap, cur, rfl, _, hgb, _⟩
      · simp [Value.ownBlock] at e
      · simp only [Value.ownBlock, Option.some.injEq] at e
        subst e
        rw [hgb] at hK
        cases hK
    have hDl : D < W.heap.size := (Array.getElem?_eq_some_iff.1 hK).1
    have hK1 : w1.heap[D]? = some (Obj.deferred (some [])) := (hgrow.block D (by simp; omega) hDne).trans ((Below.heap_alloc W _ D hDl).trans hK)
    have hB1 : Below w.heap.size w w1 := (hB.alloc hB.size _).grown hgrow (by have := hB.size; simp; omega) (fun k e => (hrow.lt k e).1)
    have hrd : Rd w1 v' (vis ((wordsOf bs).map wrap64 ++ [(bs.length : Int)])) := by
      have : Own w1 w.heap.size 3 v' (vis ((wordsOf bs).map wrap64 ++ [(bs.length : Int)])) := by
        unfold Own
        simpa [vis] using hown'
      exact this.rd
    refine ⟨trivial, ?_⟩
    refine (callsIn_wide.2 (sum_any s v' _ w1 hs hrd (by simp; omega))).mono ?_
    rintro e w2 ⟨rfl, hx2⟩
    gi_wp2
    have hK2 : w2.heap[D]? = some (Obj.deferred (some [])) := (hx2.block (Array.getElem?_eq_some_iff.1 hK1).1).trans hK1
    refine ⟨by simp, .inl ⟨_, _, rfl, run_takeDeferred hK2, ?_⟩⟩
    exact ⟨_, results_tmp rfl _ _ _, by simp [bytesI], (hB1.trans (hx2.to.mono hB1.size)).trans (belowK_b (w := w) (Nat.le_refl _) w2 D _ _ (by simp at hD; omega) hK2 rfl rfl)⟩
  case stop =>
    rintro D c pre W _ _ h _
    exact h.elim
end Go.Proofs.Ytjgpdimhgcacgaa
