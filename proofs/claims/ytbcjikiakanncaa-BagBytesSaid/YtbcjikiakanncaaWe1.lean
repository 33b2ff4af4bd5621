/- the reference of package wire: what writes: Uint, Zigzag, Int, Bool, Raw, Ints. -/
import Derived.Test.YtbcjikiakanncaaWp
import Derived.Test.YtbcjikiakanncaaHc1
import Derived.Test.YtbcjikiakanncaaMo
import Derived.Test.YtbcjikiakanncaaDc2
namespace Go.Proofs.Ytbcjikiakanncaa
open Go.RowKit
set_option linter.unusedVariables false

theorem ubyte_hi (k : Int) (h0 : 0 ≤ k) : 128 + k % 128 = ((UInt8.ofNat (128 + k.toNat % 128)).toNat : Int) := by
  rw [u8_ofNat _ (by omega)]; omega
theorem ubyte_lo (k : Int) (h0 : 0 ≤ k) (h : k < 256) : k = ((UInt8.ofNat k.toNat).toNat : Int) := by
  rw [u8_ofNat _ (by omega)]; omega
/-- a small literal is a slice of the call's own -/
theorem Own.lit (w : World) (cs : List Value) (t : TypeId) (hl : cs.length ≤ 1000000) (h0 : 0 < cs.length) : Own (w.alloc (.cells cs.toArray t)) w.heap.size t (.slice (some ⟨w.heap.size, 0, none⟩) cs.length cs.length) cs := by
  refine ⟨by simp, .inr ⟨w.heap.size, cs.length, cs.toArray, rfl, Nat.le_refl _, ?_, Nat.le_refl _, by simp only [maxLen]; omega, ?_, ?_⟩⟩
  · exact heap_alloc_new w _
  · simp
  · simp

set_option maxHeartbeats 1000000 in
theorem r2uint_any (n : Int) (w : World) (hn : 0 ≤ n ∧ n ≤ 18446744073709551615) :
    Calls Try.prog 86 #[.int .u64 n] w fun e w' => ∃ v, e = .returned v ∧ Own w' w.heap.size 5 v (vbs (uvar n)) ∧ Ext w w' := by
  have hul := uvar_len10 n hn.2
  obtain ⟨i0, hi, hz0, hz1, hz2⟩ := info_parts info_u8
  go_enter Try.func86, Try.ntmps86
  go_wp2_with fail
  go_loopw [0, 3] (fun i o wr => ∃ k : Int, 0 ≤ k ∧ k ≤ 18446744073709551615 ∧ i = .int .u64 k ∧ Ext w wr ∧ ∃ done, Own wr w.heap.size 5 o (vbs done) ∧ Hid (done ++ uvar k = uvar n)) (fun i _ _ => (intOf i).toNat)
  case atStart => exact ⟨n, hn.1, hn.2, rfl, Ext.refl _, [], Own.nil _ _ _, Lib.hid rfl⟩
  case round =>
    obtain ⟨k, hk0, hk1, rfl, hxr, done, ho, hd⟩ := hrel
    have hdl := congrArg List.length hd.out
    have hkl := uvar_pos k
    simp only [List.length_append] at hdl
    have hsz := hxr.size
    by_cases h128 : 127 < k
    · rw [uvar_hi k (by omega)] at hd
      have HBY := Lib.hid (ubyte_hi k hk0)
      go_wp2_with (at_builtin; refine wpList_app _ rfl (.tmp 6) (.tmp 11) _ rfl w.heap.size 5 i0 _ 1 Try.underlying34 hi hz0 hz1 hz2 rfl (by omega) _ _ rfl (ho.ext ((Ext.refl _).alloc _)) (some ⟨wr.heap.size, 0, none⟩) 1 1 [.int .u8 (128 + k % 128)] rfl (Src.one _ _ _) ?_ ?_ ?_ ?_; (simp [Value.oneCell']); (simp [vbs_len]; omega); (simp; omega); intro v1 w1 ho1 hg1 _; rw [HBY.out] at ho1)
      go_roundw
      case rel => exact ⟨k / 128, by omega, by omega, rfl, Ext.app hxr (Ext.refl w) ho hg1, done ++ [UInt8.ofNat (128 + k.toNat % 128)], by rw [vbs_app]; exact ho1, Lib.hid (by rw [← hd.out, List.append_assoc]; rfl)⟩
      case measure => simp [intOf]; omega
    · rw [uvar_lo k (by omega)] at hd
      have HBY := Lib.hid (ubyte_lo k hk0 (by omega))
      go_wp2_with (at_builtin; refine wpList_app _ rfl (.tmp 15) (.tmp 18) _ rfl w.heap.size 5 i0 _ 1 Try.underlying34 hi hz0 hz1 hz2 rfl (by omega) _ _ rfl (ho.ext ((Ext.refl _).alloc _)) (some ⟨wr.heap.size, 0, none⟩) 1 1 [.int .u8 k] rfl (Src.one _ _ _) ?_ ?_ ?_ ?_; (simp [Value.oneCell']); (simp [vbs_len]; omega); (simp; omega); intro v1 w1 ho1 hg1 _; rw [HBY.out] at ho1)
      go_ret
      refine ⟨v1, rfl, ?_, Ext.app hxr (Ext.refl w) ho hg1⟩
      rw [← hd.out, vbs_app]; exact ho1

set_option maxHeartbeats 1000000 in
theorem r2zigzag_any (n : Int) (w : World) (hn : inI64 n) :
    Calls Try.prog 87 #[.int .i64 n] w fun e w' => e = .returned (.int .u64 (zig n)) ∧ w = w' := by
  obtain ⟨hn1, hn2⟩ := hn
  by_cases h : n < 0
  · go_enter Try.func87, Try.ntmps87
    go_wp2
    go_ret
    exact ⟨ret_int (by rw [zig, if_neg (by omega)]; omega), rfl⟩
  · go_enter Try.func87, Try.ntmps87
    go_wp2
    go_ret
    exact ⟨ret_int (by rw [zig, if_pos (by omega)]), rfl⟩

set_option maxHeartbeats 1000000 in
theorem r2int_any (n : Int) (w : World) (hn : inI64 n) :
    Calls Try.prog 72 #[.int .i64 n] w fun e w' => ∃ v, e = .returned v ∧ Own w' w.heap.size 5 v (vbs (uvar (zig n))) ∧ Ext w w' := by
  go_enter Try.func72, Try.ntmps72
  go_wp2_with fail
  refine (r2zigzag_any n _ hn).mono ?_
  rintro e w1 ⟨rfl, rfl⟩
  go_wp2_with fail
  refine (r2uint_any (zig n) _ (zig_range n hn)).mono ?_
  rintro e w1 ⟨v, rfl, ho, hx⟩
  go_wp2
  go_ret
  exact ⟨v, rfl, ho, hx⟩



end Go.Proofs.Ytbcjikiakanncaa
