/- the reference of package wire: what writes: Uint, Zigzag, Int, Bool, Raw, Ints. -/
import Derived.Test.YtfkdaipmbakomaaWp
import Derived.Test.YtfkdaipmbakomaaHc1
import Derived.Test.YtfkdaipmbakomaaMo
import Derived.Test.YtfkdaipmbakomaaDc2
namespace Go.Proofs.Ytfkdaipmbakomaa
open Go.RowKit
set_option linter.unusedVariables false

theorem ubyte_hi (k : Int) (h0 : 0 ≤ k) : 128 + k % 128 = ((UInt8.ofNat (128 + k.toNat % 128)).toNat : Int) := by
  rw [u8_ofNat _ (by omega)]; omega
theorem ubyte_lo (k : Int) (h0 : 0 ≤ k) (h : k < 256) : k = ((UInt8.ofNat k.toNat).toNat : Int) := by
  rw [u8_ofNat _ (by omega)]; omega
/-- a small literal is a slice of the call's own -/
theorem Own.lit (w : World) (cs : List Value) (t : TypeId) (hl : cs.length ≤ 1000000) (h0 : 0 < cs.length) : Own (w.alloc (.cells cs.toArray t)) w.heap.size t (.slice (some ⟨w.heap.size, 0, none⟩) cs.length cs.length) cs := by
  refine ⟨by simp, .inr ⟨w.heap.size, cs.length, cs.toArray, rfl, Nat.le_refl _, ?_, Nat.le_refl _, by simp only [maxLen]; omega, ?_, ?_⟩⟩
  · exact heap_alloc_new w _
  · simp
  · simp

set_option maxHeartbeats 1000000 in
theorem r2uint_any (n : Int) (w : World) (hn : 0 ≤ n ∧ n ≤ 18446744073709551615) :
    Calls Try.prog 44 #[.int .u64 n] w fun e w' => ∃ v, e = .returned v ∧ Own w' w.heap.size 5 v (vbs (uvar n)) ∧ Ext w w' := by
  have hul := uvar_len10 n hn.2
  obtain ⟨i0, hi, hz0, hz1, hz2⟩ := info_parts info_u8
  go_enter Try.func44, Try.ntmps44
  go_wp2_with fail
  go_loopw [0, 3] (fun i o wr => ∃ k : Int, 0 ≤ k ∧ k ≤ 18446744073709551615 ∧ i = .int .u64 k ∧ Ext w wr ∧ ∃ done, Own wr w.heap.size 5 o (vbs done) ∧ Hid (done ++ uvar k = uvar n)) (fun i _ _ => (intOf i).toNat)
  case atStart => exact ⟨n, hn.1, hn.2, rfl, Ext.refl _, [], Own.nil _ _ _, Lib.hid rfl⟩
  case round =>
    obtain ⟨k, hk0, hk1, rfl, hxr, done, ho, hd⟩ := hrel
    have hdl := congrArg List.length hd.out
    have hkl := uvar_pos k
    simp only [List.length_append] at hdl
    have hsz := hxr.size
    by_cases h128 : 127 < k
    · rw [uvar_hi k (by omega)] at hd
      have HBY := Lib.hid (ubyte_hi k hk0)
      go_wp2_with (at_builtin; refine wpList_app _ rfl (.tmp 6) (.tmp 11) _ rfl w.heap.size 5 i0 _ 1 Try.underlying24 hi hz0 hz1 hz2 rfl (by omega) _ _ rfl (ho.ext ((Ext.refl _).alloc _)) (some ⟨wr.heap.size, 0, none⟩) 1 1 [.int .u8 (128 + k % 128)] rfl (Src.one _ _ _) ?_ ?_ ?_ ?_; (simp [Value.oneCell']); (simp [vbs_len]; omega); (simp; omega); intro v1 w1 ho1 hg1 _; rw [HBY.out] at ho1)
      go_roundw
      case rel => exact ⟨k / 128, by omega, by omega, rfl, Ext.app hxr (Ext.refl w) ho hg1, done ++ [UInt8.ofNat (128 + k.toNat % 128)], by rw [vbs_app]; exact ho1, Lib.hid (by rw [← hd.out, List.append_assoc]; rfl)⟩
      case measure => simp [intOf]; omega
    · rw [uvar_lo k (by omega)] at hd
      have HBY := Lib.hid (ubyte_lo k hk0 (by omega))
      go_wp2_with (at_builtin; refine wpList_app _ rfl (.tmp 15) (.tmp 18) _ rfl w.heap.size 5 i0 _ 1 Try.underlying24 hi hz0 hz1 hz2 rfl (by omega) _ _ rfl (ho.ext ((Ext.refl _).alloc _)) (some ⟨wr.heap.size, 0, none⟩) 1 1 [.int .u8 k] rfl (Src.one _ _ _) ?_ ?_ ?_ ?_; (simp [Value.oneCell']); (simp [vbs_len]; omega); (simp; omega); intro v1 w1 ho1 hg1 _; rw [HBY.out] at ho1)
      go_ret
      refine ⟨v1, rfl, ?_, Ext.app hxr (Ext.refl w) ho hg1⟩
      rw [← hd.out, vbs_app]; exact ho1

set_option maxHeartbeats 1000000 in
theorem r2zigzag_any (n : Int) (w : World) (hn : inI64 n) :
    Calls Try.prog 62 #[.int .i64 n] w fun e w' => e = .returned (.int .u64 (zig n)) ∧ w = w' := by
  obtain ⟨hn1, hn2⟩ := hn
  by_cases h : n < 0
  · go_enter Try.func62, Try.ntmps62
    go_wp2
    go_ret
    exact ⟨ret_int (by rw [zig, if_neg (by omega)]; omega), rfl⟩
  · go_enter Try.func62, Try.ntmps62
    go_wp2
    go_ret
    exact ⟨ret_int (by rw [zig, if_pos (by omega)]), rfl⟩

set_option maxHeartbeats 1000000 in
theorem r2int_any (n : Int) (w : World) (hn : inI64 n) :
    Calls Try.prog 45 #[.int .i64 n] w fun e w' => ∃ v, e = .returned v ∧ Own w' w.heap.size 5 v (vbs (uvar (zig n))) ∧ Ext w w' := by
  go_enter Try.func45, Try.ntmps45
  go_wp2_with fail
  refine (r2zigzag_any n _ hn).mono ?_
  rintro e w1 ⟨rfl, rfl⟩
  go_wp2_with fail
  refine (r2uint_any (zig n) _ (zig_range n hn)).mono ?_
  rintro e w1 ⟨v, rfl, ho, hx⟩
  go_wp2
  go_ret
  exact ⟨v, rfl, ho, hx⟩

theorem r2bool_any (t : Bool) (w : World) :
    Calls Try.prog 46 #[.bool t] w fun e w' => ∃ v, e = .returned v ∧ Own w' w.heap.size 5 v (vbs (boolW t)) ∧ Ext w w' := by
  cases t
  · go_enter Try.func46, Try.ntmps46
    go_wp2
    go_ret
    exact ⟨_, rfl, Own.lit w (vbs [0]) 5 (by simp [vbs]) (by simp [vbs]), (Ext.refl w).alloc _⟩
  · go_enter Try.func46, Try.ntmps46
    go_wp2
    go_ret
    exact ⟨_, rfl, Own.lit w (vbs [1]) 5 (by simp [vbs]) (by simp [vbs]), (Ext.refl w).alloc _⟩

set_option maxHeartbeats 1000000 in
theorem r2raw_any (v : Value) (bs : List UInt8) (w : World) (hr : Rd w v (vbs bs)) (hl : bs.length ≤ 1000000000) :
    Calls Try.prog 47 #[v] w fun e w' => ∃ v', e = .returned v' ∧ Own w' w.heap.size 5 v' (vbs (rawW bs)) ∧ Ext w w' := by
  obtain ⟨i0, hi, hz0, hz1, hz2⟩ := info_parts info_u8
  have hul := uvar_len10 bs.length (by omega)
  have hr0 := hr
  obtain ⟨A, c, rfl, _⟩ := hr
  simp only [vbs_len] at *
  go_enter Try.func47, Try.ntmps47
  go_wp2_with fail
  refine (r2uint_any bs.length _ ⟨by omega, by omega⟩).mono ?_
  rintro e w1 ⟨v1, rfl, ho, hx⟩
  have hs := Src.rd (hr0.ext hx)
  have hsz := hx.size
  go_wp2_with (at_builtin; refine wpList_app _ rfl (.tmp 6) (.tmp 7) _ rfl w.heap.size 5 i0 _ 1 Try.underlying24 hi hz0 hz1 hz2 rfl (by omega) _ _ rfl ho A bs.length c (vbs bs) rfl hs ?_ ?_ ?_ ?_; exact vbs_one bs; (simp [vbs_len]; omega); exact hsz; intro v2 w2 ho2 hg2 _)
  go_ret
  refine ⟨v2, rfl, ?_, hx.grown hg2 (fun k e => (ho.lt k e).1)⟩
  rw [rawW, vbs_app]; exact ho2

set_option maxHeartbeats 2000000 in
theorem r2ints_any (v : Value) (xs : List Int) (w : World) (hr : Rd w v (vis xs)) (hx : ∀ n ∈ xs, inI64 n) (hl : xs.length ≤ 10000000) :
    Calls Try.prog 48 #[v] w fun e w' => ∃ v', e = .returned v' ∧ Own w' w.heap.size 5 v' (vbs (intsW xs)) ∧ Ext w w' := by
  obtain ⟨i0, hi, hz0, hz1, hz2⟩ := info_parts info_u8
  have hul := uvar_len10 xs.length (by omega)
  have hr0 := hr
  obtain ⟨A, c, rfl, _⟩ := hr
  obtain ⟨_, a1, a2, a3⟩ := hr0.at
  simp only [vis_len, maxLen] at *
  go_enter Try.func48, Try.ntmps48
  go_wp2_with fail
  refine (r2uint_any xs.length _ ⟨by omega, by omega⟩).mono ?_
  rintro e w1 ⟨v1, rfl, ho, hx1⟩
  go_wp2
  go_loopw [4, 3] (fun i o wr => ∃ k : Nat, k ≤ xs.length ∧ i = .int .i64 k ∧ Own wr w.heap.size 5 o (vbs (uvar xs.length ++ itemsW (xs.take k))) ∧ Ext w wr) (fun i _ _ => xs.length - (intOf i).toNat)
  case atStart => exact ⟨0, by omega, rfl, by simpa [itemsW] using ho, hx1⟩
  case round =>
    obtain ⟨k, hk, rfl, ho, hxr⟩ := hrel
    have hsz := hxr.size
    by_cases hlt : k < xs.length
    · obtain ⟨b, off, rfl, hcx⟩ := a3 (by omega)
      have c1 := hcx wr hxr k (.int .i64 xs[k]) (by simp [vis, hlt])
      have hin := hx xs[k] (by simp)
      have hl2 := itemsW_len (xs.take k) (fun n hn => hx n (List.mem_of_mem_take hn))
      have hl3 : (xs.take k).length ≤ k := List.length_take_le _ _
      have hl4 := uvar_len10 _ (zig_range _ hin).2
      have HT : Hid (itemsW (xs.take k) ++ uvar (zig xs[k]) = itemsW (xs.take (k + 1))) := Lib.hid (by
        rw [List.take_succ_eq_append_getElem hlt, itemsW_app, itemsW_one])
      generalize xs[k] = x at *
      clear hcx a3 hx
      go_wp2_with fail
      refine (r2int_any x _ hin).mono ?_
      rintro e w2 ⟨v2, rfl, ho2, hx2⟩
      have hr2 := ho2.rd
      obtain ⟨A2, c2, rfl, _⟩ := ho2.rd
      have hs := Src.rd hr2
      have hsz2 := hx2.size
      simp only [vbs_len] at *
      go_wp2_with (at_builtin; refine wpList_app _ rfl (.tmp 15) (.tmp 20) _ rfl w.heap.size 5 i0 _ 1 Try.underlying24 hi hz0 hz1 hz2 rfl (by omega) _ _ rfl (ho.ext hx2) A2 _ c2 (vbs (uvar (zig x))) rfl hs ?_ ?_ ?_ ?_; exact vbs_one _; (simp [vbs_len]; omega); omega; intro v3 w3 ho3 hg3 _)
      go_roundw
      case rel =>
        refine ⟨k + 1, by omega, by go_num, ?_, (hxr.trans hx2).grown hg3 (fun k e => (ho.lt k e).1)⟩
        rw [← HT.out, ← List.append_assoc, vbs_app]; exact ho3
      case measure => simp [intOf]; omega
    · have hke : xs.take k = xs := List.take_of_length_le (by omega)
      rw [hke] at ho
      clear a3
      go_wp2
      go_ret
      exact ⟨_, rfl, ho, hxr⟩
end Go.Proofs.Ytfkdaipmbakomaa
