/- WireSizes: the walk of the law. -/
import Derived.Test.YtfkdaipmbakomaaWl
namespace Go.Proofs.Ytfkdaipmbakomaa
open Go.RowKit
set_option linter.unusedVariables false

set_option maxHeartbeats 1000000 in
theorem bound63_any (n : Int) (w : World) (hn : inI64 n) :
    Calls Try.prog 13 #[.int .i64 n, .int .i64 63] w fun e w' => e = .returned (.int .i64 (around n 127 - 63)) ∧ w = w' := by
  go_enter Try.func13, Try.ntmps13
  go_wp2_with fail
  refine (around_any n 127 _ hn (by omega) (by omega)).mono ?_
  rintro e w1 ⟨rfl, rfl⟩
  have := around_range n 127 (by omega)
  obtain ⟨a, ha⟩ : ∃ a, a = around n 127 := ⟨_, rfl⟩
  rw [← ha] at this ⊢
  obtain ⟨h1, h2⟩ := this
  have HA := Lib.hid ha
  clear ha
  go_wp2
  go_ret
  rw [← HA.out]
  exact ⟨rfl, rfl⟩

set_option maxHeartbeats 1000000 in
theorem WireSizes_law (w : World) (u : Int) (hu : 0 ≤ u ∧ u ≤ 18446744073709551615) (n : Int) (hn : inI64 n) (sh : Int) (hs : inI64 sh) :
    Calls Try.prog 3 #[.int .u64 u, .int .i64 n, .int .i64 sh] w fun e w' => e = .returned (.bool true) ∧ Ext w w' := by
  obtain ⟨hu1, hu2⟩ := hu
  go_enter Try.func3, Try.ntmps3
  go_wp2_with fail
  refine (around_any sh 64 _ hs (by omega) (by omega)).mono ?_
  rintro e w1 ⟨rfl, rfl⟩
  have hsr := around_range sh 64 (by omega)
  generalize around sh 64 = t at *
  obtain ⟨ht1, ht2⟩ := hsr
  have hp : (1 : Int) ≤ 2 ^ t.toNat := by
    have : (0 : Int) < 2 ^ t.toNat := Int.pow_pos (by omega)
    omega
  have hq1 : 0 ≤ u / 2 ^ t.toNat := Int.ediv_nonneg hu1 (by omega)
  have hq2 : u / 2 ^ t.toNat ≤ 18446744073709551615 := by
    have : u / 2 ^ t.toNat ≤ u := Int.ediv_le_self _ hu1
    omega
  obtain ⟨k, hk⟩ : ∃ k, u / 2 ^ t.toNat = k := ⟨_, rfl⟩
  rw [hk] at hq1 hq2
  clear hp
  go_wp2_with fail
  clear hk
  go_loop [9, 8] (fun q c => ∃ (r : Int) (j : Nat), q = .int .u64 r ∧ c = .int .i64 j ∧ 0 ≤ r ∧ r ≤ 18446744073709551615 ∧ Hid (j + (if r = 0 then 0 else (uvar r).length) = (uvar k).length)) (fun q _ => (intOf q).toNat)
  case atStart =>
    refine ⟨k / 128, 1, rfl, rfl, by omega, by omega, Lib.hid ?_⟩
    by_cases h : k < 128
    · rw [uvar_lo k h, if_pos (by omega)]; rfl
    · rw [uvar_hi k (by omega), if_neg (by omega)]; simp; omega
  case round =>
    obtain ⟨r, j, rfl, rfl, hr1, hr2, hd⟩ := hrel
    have hj : j ≤ 10 := by have := hd.out; have := uvar_len10 k hq2; omega
    by_cases hr : 0 < r
    · go_wp2
      go_round
      case rel =>
        refine ⟨r / 128, j + 1, rfl, by go_num, by omega, by omega, Lib.hid ?_⟩
        rw [← hd.out, if_neg (show ¬ r = 0 by omega)]
        by_cases h : r < 128
        · rw [uvar_lo r h, if_pos (by omega)]; rfl
        · rw [uvar_hi r (by omega), if_neg (by omega)]; simp; omega
      case measure => simp [intOf]; omega
    · have hr0 : r = 0 := by omega
      subst hr0
      have HJ : Hid (j = (uvar k).length) := Lib.hid (by have := hd.out; simpa using this)
      clear hd hr1 hr2
      go_wp2_with fail
      refine (wuint_any w.heap.size w.heap.size [] k _ ⟨hq1, hq2⟩ (WAt.new w) (by simp)).mono ?_
      rintro e w1 ⟨rfl, h1, hx1⟩
      rw [List.nil_append] at h1
      have hx1' : Ext w w1 := Below.trans ((Ext.refl w).alloc _) hx1
      clear hx1
      go_wp2_with fail
      refine (bound63_any n _ hn).mono ?_
      rintro e w2 ⟨rfl, rfl⟩
      have hmr := around_range n 127 (by omega)
      obtain ⟨m, hm⟩ : ∃ m, m = around n 127 - 63 := ⟨_, rfl⟩
      rw [← hm]
      have hm1 : -63 ≤ m := by omega
      have hm2 : m ≤ 63 := by omega
      clear hm hmr
      have z1 : ∀ m : Int, -63 ≤ m → m ≤ 63 → (uvar (zig m)).length = 1 := fun m h1 h2 => by
        rw [uvar_lo _ (by unfold zig; split <;> omega)]; rfl
      have Z1 := Lib.hid (z1 m hm1 hm2)
      have Z2 := Lib.hid (z1 (-m) (by omega) (by omega))
      clear z1
      go_wp2_with fail
      refine (wint_any w1.heap.size w1.heap.size [] m _ ⟨by omega, by omega⟩ (WAt.new w1) (by simp)).mono ?_
      rintro e w2 ⟨rfl, h2, hx2⟩
      rw [List.nil_append] at h2
      have hx2' : Ext w1 w2 := Below.trans ((Ext.refl w1).alloc _) hx2
      clear hx2
      go_wp2_with fail
      refine (wint_any w1.heap.size w1.heap.size _ (-m) _ ⟨by omega, by omega⟩ h2 (by rw [Z1.out]; omega)).mono ?_
      rintro e w3 ⟨rfl, h3, hx3⟩
      have hx3' : Ext w1 w3 := Below.trans hx2' hx3
      clear hx3 hx2' h2
      go_wp2_with fail
      refine (wbool_any w1.heap.size w1.heap.size _ _ _ h3 (by rw [List.length_append, Z1.out, Z2.out]; omega)).mono ?_
      rintro e w4 ⟨rfl, h4, hx4⟩
      have hx4' : Ext w1 w4 := Below.trans hx3' hx4
      clear hx4 hx3' h3
      have hb1 : (boolW (decide (0 < m))).length = 1 := by cases decide (0 < m) <;> rfl
      obtain ⟨xs, hxs⟩ : ∃ xs, xs = uvar (zig m) ++ uvar (zig (-m)) ++ boolW (decide (0 < m)) := ⟨_, rfl⟩
      have hxl : xs.length = 3 := by rw [hxs, List.length_append, List.length_append, Z1.out, Z2.out, hb1]
      rw [← hxs] at h4
      clear hb1 hxs
      have h1' := h1.ext hx4'
      have hul := uvar_len10 k hq2
      obtain ⟨us, hus⟩ : ∃ us, us = uvar k := ⟨_, rfl⟩
      rw [← hus] at h1' HJ hul
      clear h1 hus
      go_wp2_with fail
      refine (wdone_any _ _ _ _ h1' (by omega)).mono ?_
      rintro e w5 ⟨b, rfl, h5, hx5⟩
      obtain ⟨A5, m5, c5, hb5⟩ : ∃ A m c, b = .slice A m c ∧ m = us.length := by
        obtain ⟨A, c, h, -⟩ := h5.rd
        exact ⟨A, _, c, h, by rw [vbs_len]⟩
      obtain ⟨rfl, hm5⟩ := hb5
      have hm5' : m5 = j := by rw [hm5, HJ.out]
      have hmj : ((m5 : Int) == (j : Int)) = true := by simp; omega
      have h4' := h4.ext hx5
      clear hm5 hm5'
      go_wp2_with fail
      refine (wdone_any _ _ _ _ h4' (by omega)).mono ?_
      rintro e w6 ⟨b6, rfl, h6, hx6⟩
      obtain ⟨A6, m6, c6, hb6⟩ : ∃ A m c, b6 = .slice A m c ∧ m = xs.length := by
        obtain ⟨A, c, h, -⟩ := h6.rd
        exact ⟨A, _, c, h, by rw [vbs_len]⟩
      obtain ⟨rfl, hm6⟩ := hb6
      have hm6' : ((m6 : Int) == 3) = true := by simp; omega
      go_wp2_with fail
      refine (lives02_any _).mono ?_
      rintro e w7 ⟨rfl, hx7⟩
      go_wp2
      go_ret
      exact ⟨rfl, (hx1'.trans hx4').trans (hx5.trans (hx6.trans hx7))⟩

end Go.Proofs.Ytfkdaipmbakomaa
