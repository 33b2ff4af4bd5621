/- the reference Bytes, and Pair of both: their contracts. -/
import Derived.Test.YtjgpdimhgcacgaaHc6
import Derived.Test.YtjgpdimhgcacgaaEx
namespace Go.Proofs.Ytjgpdimhgcacgaa
open Go.RowKit
set_option linter.unusedVariables false

set_option maxRecDepth 100000 in
set_option maxHeartbeats 1000000 in
theorem rbytes_any (s : ByteArray) (v : Value) (bs : List UInt8) (w : World) (hs : s.size ≤ 1000000) (hr : Rd w v (vbs bs)) (hl : bs.length ≤ 1000000) :
    Calls Try.prog 51 #[.string s, v] w fun e w' => e = .returned (.int .u64 (bytesI s.data.toList bs)) ∧ Ext w w' := by
  have hr0 := hr
  obtain ⟨A, c, rfl, _⟩ := hr
  obtain ⟨_, a1, a2, a3⟩ := hr0.at
  simp only [vbs_len, maxLen] at *
  obtain ⟨i0, hi, hz0, hz1, hz2⟩ := info_parts info_int
  go_enter Try.func51, Try.ntmps51
  go_wp2_with (go_at_call 68; refine (words_any _ bs _ hr0 hl).mono ?_; rintro e w2 ⟨v2, rfl, ho2, hx2⟩)
  have hr2 := ho2.rd
  obtain ⟨A2, c2, rfl, _⟩ := ho2.rd
  obtain ⟨_, d1, d2, d3⟩ := hr2.at
  have hnw : (wordsOf bs).length ≤ 1000007 := by rw [wordsOf, wordsUpto_len]; simp only [nWords]; omega
  simp only [vus_len, maxLen] at *
  go_loopw [7, 6] (fun i l wr => ∃ k : Nat, k ≤ (wordsOf bs).length ∧ i = .int .i64 k ∧ Own wr w2.heap.size 3 l (vis (((wordsOf bs).take k).map wrap64)) ∧ Ext w2 wr) (fun i _ _ => (wordsOf bs).length - (intOf i).toNat)
  case atStart => exact ⟨0, by omega, rfl, Own.nil _ _ _, Ext.refl _⟩
  case round =>
    obtain ⟨k, hk, rfl, ho, hx⟩ := hrel
    have hb0 := hx.size
    have hlen : (vis (((wordsOf bs).take k).map wrap64)).length = k := by simp [vis]; omega
    have HLEN := Lib.hid hlen
    clear hlen
    by_cases hlt : k < (wordsOf bs).length
    · obtain ⟨b, off, rfl, hcx⟩ := d3 (by omega)
      have c1 : wr.cell? ⟨b, off + k, none⟩ = some (.int .u64 (wordsOf bs)[k]) := hcx wr hx k _ (by simp [vus, hlt])
      clear hcx d3 a3
      go_wp2_with (at_builtin; refine wpList_app _ rfl (.tmp 16) (.tmp 22) _ rfl w2.heap.size 3 i0 _ 8 Try.underlying29 hi hz0 hz1 hz2 rfl (by omega) _ _ rfl (ho.ext ((Ext.refl _).alloc _)) (some ⟨wr.heap.size, 0, none⟩) 1 1 [.int .i64 (wrap64 (wordsOf bs)[k])] rfl (Src.one _ _ _) ?_ ?_ ?_ ?_; (simp [Value.oneCell']); (rw [HLEN.out]; omega); (simp; omega); intro v1 w1 ho1 hg1 _)
      go_roundw
      case rel => exact ⟨k + 1, by omega, by go_num, by rw [List.take_succ_eq_append_getElem hlt, List.map_append, vis_app]; exact ho1, hx.app (Ext.refl _) ho hg1⟩
      case measure => simp [intOf]; omega
    · have hke : (wordsOf bs).length ≤ k := by omega
      have hrr := ho
      rw [List.take_of_length_le hke] at ho
      go_wp2_with (at_builtin; refine wpList_app _ rfl (.tmp 25) (.tmp 28) _ rfl w2.heap.size 3 i0 _ 8 Try.underlying29 hi hz0 hz1 hz2 rfl (by omega) _ _ rfl (ho.ext ((Ext.refl _).alloc _)) (some ⟨wr.heap.size, 0, none⟩) 1 1 [.int .i64 bs.length] rfl (Src.one _ _ _) ?_ ?_ ?_ ?_; (simp [Value.oneCell']); (simp [vis]; omega); (simp; omega); intro v1 w1 ho1 hg1 _; go_wp2_with fail)
      have hx1 : Ext w w1 := hx2.trans (hx.app (Ext.refl _) ho hg1)
      have hrd : Rd w1 v1 (vis ((wordsOf bs).map wrap64 ++ [(bs.length : Int)])) := by rw [vis_app]; exact ho1.rd
      refine (rsum_any s v1 _ w1 hs hrd (by simp; omega)).mono ?_
      rintro e w3 ⟨rfl, hx3⟩
      go_wp2
      go_ret
      exact ⟨rfl, hx1.trans hx3⟩


set_option maxHeartbeats 1000000 in
theorem pair_any (a b : Int) (w : World) :
    Calls Try.prog 55 #[.int .u64 a, .int .u64 b] w fun e w' => e = .returned (.int .u64 (pairI a b)) ∧ Ext w w' := by
  have hr := Rd.lit w [.int .i64 (wrap64 a), .int .i64 (wrap64 b)] 3 (by simp)
  go_enter Try.func55, Try.ntmps55
  go_wp2_with (go_at_call 52; refine (sum_any _ _ [wrap64 a, wrap64 b] _ (by decide) hr (by simp)).mono ?_; rintro e w2 ⟨rfl, hx⟩)
  go_ret
  exact ⟨rfl, ((Ext.refl w).alloc _).trans hx⟩
set_option maxHeartbeats 1000000 in
theorem rpair_any (a b : Int) (w : World) :
    Calls Try.prog 56 #[.int .u64 a, .int .u64 b] w fun e w' => e = .returned (.int .u64 (pairI a b)) ∧ Ext w w' := by
  have hr := Rd.lit w [.int .i64 (wrap64 a), .int .i64 (wrap64 b)] 3 (by simp)
  go_enter Try.func56, Try.ntmps56
  go_wp2_with (go_at_call 50; refine (rsum_any _ _ [wrap64 a, wrap64 b] _ (by decide) hr (by simp)).mono ?_; rintro e w2 ⟨rfl, hx⟩)
  go_ret
  exact ⟨rfl, ((Ext.refl w).alloc _).trans hx⟩
end Go.Proofs.Ytjgpdimhgcacgaa
