/- DiceWords: the walk of the law. -/
import Derived.Test.YtjgpdimhgcacgaaDc6
import Derived.Test.YtjgpdimhgcacgaaDs
namespace Go.Proofs.Ytjgpdimhgcacgaa
open Go.RowKit
set_option linter.unusedVariables false

set_option maxHeartbeats 1000000 in
theorem DiceWords_law (w : World) (v0 : Value) (b0 : List UInt8) (h0 : Rd w v0 (vbs b0)) (s1 : ByteArray) (hs1 : s1.size ≤ maxLen) (p : Int) (hp : inI64 p) (u : Int) (hu : 0 ≤ u ∧ u ≤ 18446744073709551615) (n : Int) (hn : inI64 n) :
    Calls Try.prog 3 #[v0, .string s1, .int .i64 p, .int .u64 u, .int .i64 n] w fun e w' => e = .returned (.bool true) ∧ Ext w w' := by
  obtain ⟨hu1, hu2⟩ := hu
  have hzl : (b0.take 40).length ≤ 40 := List.length_take_le _ _
  go_enter Try.func3, Try.ntmps3
  go_wp2_with fail
  refine (few_any v0 b0 40 _ h0 (by omega)).mono ?_
  rintro e w1 ⟨v, rfl, ho, hx1⟩
  have hr := ho.rd
  clear ho h0
  obtain ⟨sd, hsd⟩ : ∃ sd, sd = b0.take 40 := ⟨_, rfl⟩
  rw [← hsd] at hzl hr
  clear hsd
  go_wp2_with fail
  refine (short_any s1 20 _ hs1 (by omega)).mono ?_
  rintro e w2 ⟨s, rfl, hs, rfl⟩
  have hsl : s.size ≤ 20 := by
    have : s.data.toList.length ≤ 20 := by rw [hs]; exact List.length_take_le _ _
    simpa using this
  have HS := Lib.hid hs
  clear hs
  go_wp2_with fail
  refine (rword_any v sd s p _ hr (by omega) (by omega)).mono ?_
  rintro e w3 ⟨rfl, hx3⟩
  go_wp2_with fail
  refine (dword_any v sd s p _ (hr.ext hx3) (by omega) (by omega)).mono ?_
  rintro e w4 ⟨rfl, hx4⟩
  have hwr := wordD_range sd s.data.toList p
  generalize wordD sd s.data.toList p = x at *
  obtain ⟨hx5, hx6⟩ := hwr
  have hne : (x != x) = false := by simp
  have hm1 := Int.emod_nonneg u (show (64 : Int) ≠ 0 by omega)
  have hm2 := Int.emod_lt_of_pos u (show (0 : Int) < 64 by omega)
  have hm3 := Int.emod_nonneg u (show (100 : Int) ≠ 0 by omega)
  have hm4 := Int.emod_lt_of_pos u (show (0 : Int) < 100 by omega)
  go_wp2_with fail
  refine (sides_any n _ hn).mono ?_
  rintro e w5 ⟨rfl, rfl⟩
  have hsr := sides_range n
  generalize sidesD n = m at *
  obtain ⟨hsr1, hsr2⟩ := hsr
  have hw1 : 0 ≤ 18446744073709551615 - u % 64 ∧ 18446744073709551615 - u % 64 ≤ 18446744073709551615 := ⟨by omega, by omega⟩
  have hw2 : 0 ≤ u % 100 ∧ u % 100 ≤ 18446744073709551615 := ⟨by omega, by omega⟩
  go_wp2_with fail
  generalize 18446744073709551615 - u % 64 = y at *
  generalize u % 100 = z at *
  clear hm1 hm2 hm3 hm4
  obtain ⟨hy1, hy2⟩ := hw1
  obtain ⟨hz1, hz2⟩ := hw2
  have b1 := (Blk.new w4 23 [.int .u64 u, .int .u64 x, .int .u64 y, .int .u64 z]).ext ((Ext.refl _).alloc (.cells #[.int .i64 n, .int .i64 m] 3))
  have b2 := Blk.new (w4.alloc (.cells #[.int .u64 u, .int .u64 x, .int .u64 y, .int .u64 z] 23)) 3 [.int .i64 n, .int .i64 m]
  rw [show (w4.alloc (.cells #[.int .u64 u, .int .u64 x, .int .u64 y, .int .u64 z] 23)).heap.size = w4.heap.size + 1 by simp] at b2
  have hx5' := ((hx1.trans (hx3.trans hx4)).alloc (.cells #[.int .u64 u, .int .u64 x, .int .u64 y, .int .u64 z] 23)).alloc (.cells #[.int .i64 n, .int .i64 m] 3)
  clear hx1 hx3 hx4 hr
  generalize hg : w4.heap.size = g at *
  generalize hw5 : World.alloc _ _ = w5 at *
  clear hg
  go_loopw [16] (fun i wr => ∃ k : Nat, k ≤ 8 ∧ i = .int .i64 k ∧ Ext w5 wr) (fun i _ => 8 - (intOf i).toNat)
  case atStart => exact ⟨0, by omega, rfl, Ext.refl _⟩
  case round =>
    obtain ⟨k, hk8, rfl, hxr⟩ := hrel
    by_cases hk : (k : Int) < 8
    · obtain ⟨a, ha1, ha2, hca2⟩ : ∃ a : Int, 0 ≤ a ∧ a ≤ 18446744073709551615 ∧ ∀ wq, Ext w5 wq → ∀ x : ExtW wq, x.w.cell? ⟨g, k % 4, none⟩ = some (.int .u64 a) := by
        have h4 : k % 4 = 0 ∨ k % 4 = 1 ∨ k % 4 = 2 ∨ k % 4 = 3 := by omega
        rcases h4 with h | h | h | h <;> rw [h]
        · exact ⟨u, hu1, hu2, fun wq hxr x => (b1.ext (hxr.trans x.ext)).cell 0⟩
        · exact ⟨x, ‹_›, hx6, fun wq hxr x => (b1.ext (hxr.trans x.ext)).cell 1⟩
        · exact ⟨y, hy1, hy2, fun wq hxr x => (b1.ext (hxr.trans x.ext)).cell 2⟩
        · exact ⟨z, hz1, hz2, fun wq hxr x => (b1.ext (hxr.trans x.ext)).cell 3⟩
      obtain ⟨c, hc, hcc2⟩ : ∃ c : Int, inI64 c ∧ ∀ wq, Ext w5 wq → ∀ x : ExtW wq, x.w.cell? ⟨g + 1, k / 4, none⟩ = some (.int .i64 c) := by
        have h4 : k / 4 = 0 ∨ k / 4 = 1 := by omega
        rcases h4 with h | h <;> rw [h]
        · exact ⟨n, hn, fun wq hxr x => (b2.ext (hxr.trans x.ext)).cell 0⟩
        · exact ⟨m, ⟨by omega, hsr2⟩, fun wq hxr x => (b2.ext (hxr.trans x.ext)).cell 1⟩
      have hca : ∀ x : ExtW wr, x.w.cell? ⟨g, k % 4, none⟩ = some (.int .u64 a) := hca2 wr hxr
      have hcc : ∀ x : ExtW wr, x.w.cell? ⟨g + 1, k / 4, none⟩ = some (.int .i64 c) := hcc2 wr hxr
      go_wp2_with fail
      refine wp_region_ext wr (Ext.refl _) (by kernel_rfl) (by kernel_rfl) ?_
      repeat (go_big_quiet_step ((go_at_call 16; exact calls_ext_same (reduce_any a c _ ⟨ha1, ha2⟩ hc))))
      refine wpQuiet_nil ?_
      intro _ hw'
      obtain ⟨x1, rfl⟩ := hw'
      have hx6' := hxr.trans x1.ext
      clear hca hcc hxr
      generalize x1.w = wr2 at *
      have hca : ∀ x : ExtW wr2, x.w.cell? ⟨g, k % 4, none⟩ = some (.int .u64 a) := hca2 wr2 hx6'
      have hcc : ∀ x : ExtW wr2, x.w.cell? ⟨g + 1, k / 4, none⟩ = some (.int .i64 c) := hcc2 wr2 hx6'
      clear hca2 hcc2
      go_wp2_with fail
      refine wp_region_ext wr2 (Ext.refl _) (by kernel_rfl) (by kernel_rfl) ?_
      repeat (go_big_quiet_step ((go_at_call 17; exact calls_ext_same (rreduce_any a c _ ⟨ha1, ha2⟩ hc))))
      refine wpQuiet_nil ?_
      intro _ hw'
      obtain ⟨x1, rfl⟩ := hw'
      have hx7 := hx6'.trans x1.ext
      clear hca hcc hx6'
      generalize x1.w = wr3 at *
      have hq : (redV a c != redV a c) = false := by simp
      have hq2 : (accD a c != accD a c) = false := by simp
      generalize redV a c = q at *
      generalize accD a c = q2 at *
      go_wp2_with fail
      go_roundw
      case rel => exact ⟨k + 1, by omega, by go_num, hx7⟩
      case measure => simp [intOf]; omega
    · clear b1 b2
      have hx6 := hx5'.trans hxr
      go_wp2_with fail
      refine (lives04_any _).mono ?_
      rintro e w3 ⟨rfl, hx7⟩
      go_wp2
      go_ret
      exact ⟨rfl, hx6.trans hx7⟩

end Go.Proofs.Ytjgpdimhgcacgaa
