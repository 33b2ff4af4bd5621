/- package dice and its reference: Word and Reduce: their contracts. -/
import Derived.Test.YtjgpdimhgcacgaaHc7
import Derived.Test.YtjgpdimhgcacgaaDp
namespace Go.Proofs.Ytjgpdimhgcacgaa
open Go.RowKit
set_option linter.unusedVariables false

set_option maxHeartbeats 1000000 in
theorem dword_any (v : Value) (seed : List UInt8) (label : ByteArray) (p : Int) (w : World) (hr : Rd w v (vbs seed)) (hl : seed.length ≤ 1000000) (hs : label.size ≤ 1000000) :
    Calls Try.prog 14 #[v, .string label, .int .i64 p] w fun e w' => e = .returned (.int .u64 (wordD seed label.data.toList p)) ∧ Ext w w' := by
  go_enter Try.func14, Try.ntmps14
  go_wp2_with fail
  refine (bytes_any label v seed _ (by omega) hr hl).mono ?_
  rintro e w1 ⟨rfl, hx1⟩
  go_wp2_with fail
  refine (sum_any _ _ [wrap64 (bytesI label.data.toList seed), p] _ (by decide) (Rd.lit w1 [.int .i64 (wrap64 (bytesI label.data.toList seed)), .int .i64 p] 3 (by simp)) (by simp)).mono ?_
  rintro e w2 ⟨rfl, hx2⟩
  go_wp2
  go_ret
  exact ⟨rfl, hx1.alloc _ |>.trans hx2⟩

set_option maxHeartbeats 1000000 in
theorem rword_any (v : Value) (seed : List UInt8) (label : ByteArray) (p : Int) (w : World) (hr : Rd w v (vbs seed)) (hl : seed.length ≤ 1000000) (hs : label.size ≤ 1000000) :
    Calls Try.prog 13 #[v, .string label, .int .i64 p] w fun e w' => e = .returned (.int .u64 (wordD seed label.data.toList p)) ∧ Ext w w' := by
  go_enter Try.func13, Try.ntmps13
  go_wp2_with fail
  refine (rbytes_any label v seed _ (by omega) hr hl).mono ?_
  rintro e w1 ⟨rfl, hx1⟩
  go_wp2_with fail
  refine (rsum_any _ _ [wrap64 (bytesI label.data.toList seed), p] _ (by decide) (Rd.lit w1 [.int .i64 (wrap64 (bytesI label.data.toList seed)), .int .i64 p] 3 (by simp)) (by simp)).mono ?_
  rintro e w2 ⟨rfl, hx2⟩
  go_wp2
  go_ret
  exact ⟨rfl, hx1.alloc _ |>.trans hx2⟩

theorem acc_no (w n : Int) (h : n < 1) : accD w n = false := by unfold accD; simp; omega
theorem acc_yes (w n : Int) (h : 1 ≤ n) : accD w n = decide (w ≤ 18446744073709551615 - overD n) := by unfold accD; simp [h]

set_option maxHeartbeats 1000000 in
theorem reduce_any (x n : Int) (w : World) (hx : 0 ≤ x ∧ x ≤ 18446744073709551615) (hn : inI64 n) :
    Calls Try.prog 16 #[.int .u64 x, .int .i64 n] w fun e w' => e = .returned (.tuple #[.int .i64 (redV x n), .bool (accD x n)]) ∧ w = w' := by
  obtain ⟨hx1, hx2⟩ := hx
  obtain ⟨hn1, hn2⟩ := hn
  by_cases h : n < 1
  · go_enter Try.func16, Try.ntmps16
    go_wp2
    go_ret2
    exact ⟨by rw [redV, acc_no x n h]; rfl, rfl⟩
  · have hr := over_range n (by omega)
    have h1 : 1 ≤ n := by omega
    have hm0 := Int.emod_nonneg x (show n ≠ 0 by omega)
    have hm1 := Int.emod_lt_of_pos x (show 0 < n by omega)
    have hmm0 := Int.emod_nonneg 18446744073709551615 (show n ≠ 0 by omega)
    have hmm1 := Int.emod_lt_of_pos 18446744073709551615 (show 0 < n by omega)
    have ho0 : 0 ≤ 18446744073709551616 % n := hr.1
    have ho1 : 18446744073709551616 % n < n := hr.2
    clear hr
    by_cases hc : 18446744073709551615 - 18446744073709551616 % n < x
    · have ha : accD x n = false := by rw [acc_yes x n h1]; exact decide_eq_false (by unfold overD; omega)
      have HA := Lib.hid ha
      clear ha
      go_enter Try.func16, Try.ntmps16
      go_wp2
      go_ret2
      exact ⟨by rw [redV, HA.out]; rfl, rfl⟩
    · have ha : accD x n = true := by rw [acc_yes x n h1]; exact decide_eq_true (by unfold overD; omega)
      have HA := Lib.hid ha
      clear ha
      go_enter Try.func16, Try.ntmps16
      go_wp2
      go_ret2
      exact ⟨by rw [redV, HA.out]; rfl, rfl⟩

set_option maxHeartbeats 1000000 in
theorem rreduce_any (x n : Int) (w : World) (hx : 0 ≤ x ∧ x ≤ 18446744073709551615) (hn : inI64 n) :
    Calls Try.prog 17 #[.int .u64 x, .int .i64 n] w fun e w' => e = .returned (.tuple #[.int .i64 (redV x n), .bool (accD x n)]) ∧ w = w' := by
  obtain ⟨hx1, hx2⟩ := hx
  obtain ⟨hn1, hn2⟩ := hn
  by_cases h : n < 1
  · go_enter Try.func17, Try.ntmps17
    go_wp2
    go_ret2
    exact ⟨by rw [redV, acc_no x n h]; rfl, rfl⟩
  · have h1 : 1 ≤ n := by omega
    have hm0 := Int.emod_nonneg x (show n ≠ 0 by omega)
    have hm1 := Int.emod_lt_of_pos x (show 0 < n by omega)
    have hi := acc_iff x n h1 hx1 hx2
    have HI := Lib.hid hi
    clear hi
    by_cases hc : 18446744073709551615 - x < n - 1 - x % n
    · have ha : accD x n = false := by rw [acc_yes x n h1]; simp; exact HI.out.1 hc
      have HA := Lib.hid ha
      clear ha
      go_enter Try.func17, Try.ntmps17
      go_wp2
      go_ret2
      exact ⟨by rw [redV, HA.out]; rfl, rfl⟩
    · have ha : accD x n = true := by rw [acc_yes x n h1]; simp; have := mt HI.out.2 hc; omega
      have HA := Lib.hid ha
      clear ha
      go_enter Try.func17, Try.ntmps17
      go_wp2
      go_ret2
      exact ⟨by rw [redV, HA.out]; rfl, rfl⟩

end Go.Proofs.Ytjgpdimhgcacgaa
