/- hash.Sum: its contract. -/
import Derived.Test.YtjgpdimhgcacgaaHc2
import Derived.RangeFuncBox
namespace Go.Proofs.Ytjgpdimhgcacgaa
open Go.RowKit Go.Shelf
set_option linter.unusedVariables false
attribute [local go_sem] Oper.semAt_some

set_option maxRecDepth 100000 in
set_option maxHeartbeats 2000000 in
theorem sum_any (s : ByteArray) (v : Value) (zs : List Int) (w : World) (hs : s.size ≤ 2147483648) (hr : Rd w v (vis zs)) (hl : zs.length ≤ 2147483648) :
    Calls Try.prog 52 #[.string s, v] w fun e w' => e = .returned (.int .u64 (sumI s.data.toList zs)) ∧ Ext w w' := by
  have hr0 := hr
  obtain ⟨A, c, rfl, _⟩ := hr
  obtain ⟨_, a1, a2, a3⟩ := hr0.at
  simp only [vis_len, maxLen] at *
  refine (callsIn_wide (n := 4)).1 ?_
  refine callsIn_of_wp_marks Try.func52 rfl trivial ?_ rfl
  simp only [Try.ntmps52, List.size_toArray, List.length_cons, List.length_nil, Nat.reduceAdd, Nat.reduceSub, Array.replicate_succ, Array.replicate_zero, List.push_toArray, List.append_toArray, List.nil_append, List.cons_append]
  gi_wp2_with (refine ⟨trivial, ?_⟩; gi_at_call 70; refine (wstr_in Fence.wide 3 trivial rfl _ _).mono ?_; rintro e w' ⟨rfl, rfl⟩)
  have hs0 := Boxed.new w 23 (.int .u64 0)
  have hb := Boxed.new (w.alloc (.cells #[.int .u64 0] 23)) 9 (.string s)
  rw [World.size_alloc] at hb
  have hB0 : Below w.heap.size w ((w.alloc (.cells #[.int .u64 0] 23)).alloc (.cells #[.string s] 9)) := ((Below.refl _ w).alloc (Nat.le_refl _) _).alloc (by simp) _
  refine wpIn_rangeFunc_ownF rfl (by omega) (gf := 75) (lb := #[.pointer (some ⟨w.heap.size + 1, 0, none⟩)]) rfl trivial (enters_of Try.func75 (by kernel_rfl) rfl)
    (wstr1_stops Fence.wide 3 trivial rfl (by omega) (w.heap.size + 1) s hs _ (by simp) hb.cell) Kept.trans (fun W l o o' hl h _ _ => Kept.put (by rintro k rfl; simp) W l o o' hl h) (Below.refl _ _) (fun _ => rfl)
    (fun pre W => Boxed W w.heap.size 23 (.int .u64 (pre.foldl mixI 0)) ∧ Below w.heap.size w W)
    (fun _ _ _ => False)
    (OwnFrom.and (Own.from (boxed_own _ _ _) _) (ownFrom_below (Nat.le_refl _) (by simp; omega)))
    (fun _ _ _ _ _ hs _ _ => hs)
    ⟨hs0.alloc _, hB0⟩
    (fun x => { tmps := #[.string s, .slice A zs.length c, undef, undef, .int .u64 0, .pointer (some ⟨w.heap.size, 0, none⟩), .int .u64 x, undef, undef, .string s, .func (.func 75) #[] #[.pointer (some ⟨w.heap.size + 1, 0, none⟩)], .int .u64 x, undef, undef, undef, undef, undef, undef, undef, undef, undef, undef, undef, undef, undef, undef, undef, undef, undef, undef, undef, undef, undef, undef, undef, undef, undef], defers := [] }) ?assign ?body ?done ?stop
  case assign =>
    intro l x W K hK
    gi_wp2
    exact hK
  case body =>
    rintro l pre x W ⟨hbx, hB⟩ _
    have hc := hbx.cell
    have hf := hbx.frozen
    gi_wp2_with (refine ⟨trivial, ?_⟩; gi_at_call 71; refine (CallsIn.inRound l (callsIn_wide.2 (mix_any _ _ _))).mono ?_; rintro e w' ⟨rfl, rfl⟩)
    exact ⟨KeepsOthers.setCell _ _ _, Kept.setCell (by simp) _, by rw [List.foldl_append]; exact hbx.set _, hB.setCell (p := ⟨w.heap.size, 0, none⟩) (Nat.le_refl _) _⟩
  case done =>
    rintro D ys W hD rfl ⟨hbx, hB⟩ hK
    have hc := hbx.cell
    have hf := hbx.frozen
    gi_wp2_with (refine ⟨trivial, ?_⟩; gi_at_call 71; refine (callsIn_wide.2 (mix_any _ _ _)).mono ?_; rintro e w' ⟨rfl, rfl⟩)
    obtain ⟨acc, hacc⟩ : ∃ acc, acc = mixI (mixI (List.foldl mixI 0 (wordsOf s.data.toList)) s.size) zs.length := ⟨_, rfl⟩
    rw [← hacc]
    have HA := Lib.hid hacc
    clear hacc
    have hb2 : Boxed (W.setCell ⟨w.heap.size, 0, none⟩ (.int .u64 acc)) w.heap.size 23 (.int .u64 acc) := hbx.set _
    have hB2 : Below w.heap.size w (W.setCell ⟨w.heap.size, 0, none⟩ (.int .u64 acc)) := hB.setCell (p := ⟨w.heap.size, 0, none⟩) (Nat.le_refl _) _
    have hDD : w.heap.size < D := by simp at hD; omega
    have hK2 : (W.setCell ⟨w.heap.size, 0, none⟩ (.int .u64 acc)).heap[D]? = some (Obj.deferred (some [])) := (Below.heap_setCell _ _ _ _ (by simp; omega)).trans hK
    clear hb hs0 hB0 hc hf hbx hB hK
    generalize W.setCell ⟨w.heap.size, 0, none⟩ (.int .u64 acc) = W2 at *
    gi_loopw [26] (fun i wr => ∃ k : Nat, k ≤ zs.length ∧ i = .int .i64 k ∧ Boxed wr w.heap.size 23 (.int .u64 ((zs.take k).foldl (fun s n => mixI s (IntKind.u64.wrap n)) acc)) ∧ Below w.heap.size w wr ∧ wr.heap[D]? = some (Obj.deferred (some []))) (fun i _ => zs.length - (intOf i).toNat)
    case atStart => exact ⟨0, by omega, rfl, by simpa using hb2, hB2, hK2⟩
    case round =>
      obtain ⟨k, hk, rfl, hbx, hB, hK⟩ := hrel
      have hc := hbx.cell
      have hf := hbx.frozen
      by_cases hlt : k < zs.length
      · obtain ⟨b, off, rfl, hcx⟩ := a3 (by omega)
        have c1 : wr.cell? ⟨b, off + k, none⟩ = some (.int .i64 zs[k]) := hcx wr hB k _ (by simp [vis, hlt])
        clear hcx a3
        gi_wp2_with (refine ⟨trivial, ?_⟩; gi_at_call 71; refine (callsIn_wide.2 (mix_any _ _ _)).mono ?_; rintro e w' ⟨rfl, rfl⟩)
        go_roundw
        case rel => exact ⟨k + 1, by omega, by go_num, by rw [List.take_succ_eq_append_getElem hlt, List.foldl_append]; exact hbx.set _, hB.setCell (p := ⟨w.heap.size, 0, none⟩) (Nat.le_refl _) _, (Below.heap_setCell _ _ _ _ (by simp; omega)).trans hK⟩
        case measure => simp [intOf]; omega
      · have hke : zs.length ≤ k := by omega
        rw [List.take_of_length_le hke] at hc hbx
        gi_wp2_with (refine ⟨trivial, ?_⟩; gi_at_call 71; refine (callsIn_wide.2 (mix_any _ _ _)).mono ?_; rintro e w' ⟨rfl, rfl⟩)
        refine ⟨by simp, .inl ⟨_, _, rfl, run_takeDeferred hK, ?_⟩⟩
        exact ⟨_, results_tmp rfl _ _ _, by rw [HA.out]; simp only [sumI, Array.length_toList]; rfl, hB.trans (belowK_b (w := w) (Nat.le_refl _) wr D _ _ (by omega) hK rfl rfl)⟩
  case stop =>
    rintro D c pre W _ _ h _
    exact h.elim
end Go.Proofs.Ytjgpdimhgcacgaa
