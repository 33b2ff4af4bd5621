/- HashGroups: the walk of the law. -/
import Derived.Test.YtmeomkkbgppfkaaHc8
import Derived.Test.YtmeomkkbgppfkaaHq
import Derived.Test.YtmeomkkbgppfkaaEx
namespace Go.Proofs.Ytmeomkkbgppfkaa
open Go.RowKit
set_option linter.unusedVariables false

set_option maxHeartbeats 1000000 in
theorem HashGroups_law (w : World) (s0 : ByteArray) (hs0 : s0.size ≤ maxLen) (v1 : Value) (b1 : List UInt8) (h1 : Rd w v1 (vbs b1)) :
    Calls Try.prog 8 #[.string s0, v1] w fun e w' => e = .returned (.bool true) ∧ Ext w w' := by
  obtain ⟨i0, hi, hz0, hz1, hz2⟩ := info_parts info_int
  obtain ⟨j0, hj, jz0, jz1, jz2⟩ := info_parts info_u8
  go_enter Try.func8, Try.ntmps8
  go_wp2_with fail
  refine (short_any s0 20 _ hs0 (by omega)).mono ?_
  rintro e w1 ⟨s, rfl, hs, rfl⟩
  have hsl : s.size ≤ 20 := by
    have : s.data.toList.length ≤ 20 := by rw [hs]; exact List.length_take_le _ _
    simpa using this
  have HS := Lib.hid hs
  clear hs
  go_wp2_with fail
  refine (few_any v1 b1 60 _ h1 (by omega)).mono ?_
  rintro e w1 ⟨v, rfl, ho, hx1⟩
  obtain ⟨c, hc⟩ : ∃ c, c = b1.take 60 := ⟨_, rfl⟩
  rw [← hc] at ho
  have hcl : c.length ≤ 60 := by rw [hc]; exact List.length_take_le _ _
  have hr := ho.rd
  clear hc ho h1
  go_wp2_with fail
  refine (words_any v c _ hr (by omega)).mono ?_
  rintro e w2 ⟨v2, rfl, ho2, hx2⟩
  have hr2 := ho2.rd
  have hrc := hr.ext hx2
  clear hr
  obtain ⟨A2, c2, rfl, _⟩ := ho2.rd
  obtain ⟨_, d1, d2, d3⟩ := hr2.at
  have hnw : (wordsOf c).length ≤ 70 := by rw [wordsOf, wordsUpto_len]; simp only [nWords]; omega
  have hrc0 := hrc
  obtain ⟨Ac, cc, rfl, _⟩ := hrc
  simp only [vus_len, vbs_len, maxLen] at *
  go_wp2_with fail
  go_loopw [9, 8] (fun i l wr => ∃ k : Nat, k ≤ (wordsOf c).length ∧ i = .int .i64 k ∧ Own wr w2.heap.size 3 l (vis (((wordsOf c).take k).map wrap64)) ∧ Ext w2 wr) (fun i _ _ => (wordsOf c).length - (intOf i).toNat)
  case atStart => exact ⟨0, by omega, rfl, Own.nil _ _ _, Ext.refl _⟩
  case round =>
    obtain ⟨k, hk, rfl, ho, hx⟩ := hrel
    have hb0 := hx.size
    have hlen : (vis (((wordsOf c).take k).map wrap64)).length = k := by simp [vis]; omega
    have HLEN := Lib.hid hlen
    clear hlen
    by_cases hlt : k < (wordsOf c).length
    · obtain ⟨b, off, rfl, hcx⟩ := d3 (by omega)
      have c1 : wr.cell? ⟨b, off + k, none⟩ = some (.int .u64 (wordsOf c)[k]) := hcx wr hx k _ (by simp [vus, hlt])
      clear hcx d3
      go_wp2_with (at_builtin; refine wpList_app _ rfl (.tmp 23) (.tmp 29) _ rfl w2.heap.size 3 i0 _ 8 Try.underlying22 hi hz0 hz1 hz2 rfl (by omega) _ _ rfl (ho.ext ((Ext.refl _).alloc _)) (some ⟨wr.heap.size, 0, none⟩) 1 1 [.int .i64 (wrap64 (wordsOf c)[k])] rfl (Src.one _ _ _) ?_ ?_ ?_ ?_; (simp [Value.oneCell']); (rw [HLEN.out]; omega); (simp; omega); intro v1 w1 ho1 hg1 _)
      go_roundw
      case rel => exact ⟨k + 1, by omega, by go_num, by rw [List.take_succ_eq_append_getElem hlt, List.map_append, vis_app]; exact ho1, hx.app (Ext.refl _) ho hg1⟩
      case measure => simp [intOf]; omega
    · have hke : (wordsOf c).length ≤ k := by omega
      rw [List.take_of_length_le hke] at ho
      have hcwr := hrc0.ext hx
      have hb9 : (bytesI s.data.toList c != bytesI s.data.toList c) = false := by simp
      go_wp2_with fail
      refine (bytes_any s _ c _ (by omega) hcwr (by omega)).mono ?_
      rintro e w3 ⟨rfl, hx3⟩
      have ho3 := ho.ext hx3
      have hb3 := (hx.trans hx3).size
      go_wp2_with (at_builtin; refine wpList_app _ rfl (.tmp 35) (.tmp 38) _ rfl w2.heap.size 3 i0 _ 8 Try.underlying22 hi hz0 hz1 hz2 rfl (by omega) _ _ rfl (ho3.ext ((Ext.refl _).alloc _)) (some ⟨w3.heap.size, 0, none⟩) 1 1 [.int .i64 c.length] rfl (Src.one _ _ _) ?_ ?_ ?_ ?_; (simp [Value.oneCell']); (simp [vis]; omega); (simp; omega); intro v4 w4 ho4 hg4 _; go_wp2_with fail)
      have hx4 : Ext w2 w4 := (hx.trans hx3).app (Ext.refl _) ho3 hg4
      have hrd4 : Rd w4 v4 (vis ((wordsOf c).map wrap64 ++ [(c.length : Int)])) := by rw [vis_app]; exact ho4.rd
      refine (sum_any s v4 _ w4 (by omega) hrd4 (by simp; omega)).mono ?_
      rintro e w5 ⟨he5, hx5⟩
      have he5' : e = .returned (.int .u64 (bytesI s.data.toList c)) := he5
      clear he5
      subst he5'
      have hx25 := hx4.trans hx5
      have hc5 := hrc0.ext hx25
      go_wp2_with fail
      refine (few_any _ c 60 _ hc5 (by omega)).mono ?_
      rintro e w6 ⟨v6, rfl, ho6, hx6⟩
      rw [List.take_of_length_le hcl] at ho6
      have hb6 := hx6.size
      have ho6' := ho6.ext ((Ext.refl w6).alloc (.cells #[.int .u8 0] 5))
      by_cases h8 : c.length % 8 = 0
      · have h8' : ((c.length : Int) % 8 == 0) = true := by simp; omega
        clear h8
        go_wp2_with (at_builtin; refine wpList_app _ rfl (.tmp 43) (.tmp 44) _ rfl w5.heap.size 5 j0 _ 1 Try.underlying30 hj jz0 jz1 jz2 rfl (by omega) _ _ rfl ho6' (some ⟨w6.heap.size, 0, none⟩) 1 1 [.int .u8 0] rfl (Src.one _ _ _) ?_ ?_ ?_ ?_; (simp [Value.oneCell']); (rw [vbs_len]; omega); (simp; omega); intro v7 w7 ho7 hg7 _; go_wp2_with fail)
        have hx7 : Ext w5 w7 := hx6.app (Ext.refl _) ho6 hg7
        have hrd7 : Rd w7 v7 (vbs (c ++ [0])) := by rw [vbs_app]; exact ho7.rd
        refine (lives01_any _).mono ?_
        rintro e w8 ⟨rfl, hx8⟩
        go_wp2
        go_ret
        exact ⟨rfl, hx1.trans hx2 |>.trans hx25 |>.trans hx7 |>.trans hx8⟩
      · have h8' : ((c.length : Int) % 8 == 0) = false := by simp; omega
        have hlong := bytesI_longer s.data.toList c h8 (by omega)
        have hlong' : (bytesI s.data.toList (c ++ [0]) != bytesI s.data.toList c) = true := by simpa using hlong
        clear h8 hlong
        go_wp2_with (at_builtin; refine wpList_app _ rfl (.tmp 43) (.tmp 44) _ rfl w5.heap.size 5 j0 _ 1 Try.underlying30 hj jz0 jz1 jz2 rfl (by omega) _ _ rfl ho6' (some ⟨w6.heap.size, 0, none⟩) 1 1 [.int .u8 0] rfl (Src.one _ _ _) ?_ ?_ ?_ ?_; (simp [Value.oneCell']); (rw [vbs_len]; omega); (simp; omega); intro v7 w7 ho7 hg7 _; go_wp2_with fail)
        have hx7 : Ext w5 w7 := hx6.app (Ext.refl _) ho6 hg7
        have hrd7 : Rd w7 v7 (vbs (c ++ [0])) := by rw [vbs_app]; exact ho7.rd
        refine (bytes_any s _ (c ++ [0]) _ (by omega) hrd7 (by simp; omega)).mono ?_
        rintro e w8 ⟨rfl, hx8⟩
        go_wp2_with fail
        refine (bytes_any s _ c _ (by omega) (hc5.ext (hx7.trans hx8)) (by omega)).mono ?_
        rintro e w9 ⟨rfl, hx9⟩
        go_wp2_with fail
        refine (lives01_any _).mono ?_
        rintro e w10 ⟨rfl, hx10⟩
        go_wp2
        go_ret
        exact ⟨rfl, hx1.trans hx2 |>.trans hx25 |>.trans hx7 |>.trans hx8 |>.trans hx9 |>.trans hx10⟩

end Go.Proofs.Ytmeomkkbgppfkaa
