/- DiceFair: the walk of the law. -/
import Derived.Test.YtjgpdimhgcacgaaDc6
namespace Go.Proofs.Ytjgpdimhgcacgaa
open Go.RowKit
set_option linter.unusedVariables false

theorem fair (u k : Int) (hu : 0 ≤ u ∧ u ≤ 18446744073709551615) (hk : 1 ≤ k) (ha : accD u k = true) (i : Int) (hi : 0 ≤ i ∧ i < k) :
    u - u % k + i ≤ 18446744073709551615 ∧ accD (u - u % k + i) k = true ∧ redV (u - u % k + i) k = i := by
  have r1 := Int.emod_nonneg u (show k ≠ 0 by omega)
  have r2 := Int.emod_lt_of_pos u (show 0 < k by omega)
  have hm : (u - u % k + i) % k = i := by
    rw [show u - u % k + i = i + k * (u / k) by have := Int.mul_ediv_add_emod u k; omega, Int.add_mul_emod_self_left]
    exact Int.emod_eq_of_lt hi.1 hi.2
  have h1 : ¬ (18446744073709551615 - overD k < u) := by
    rw [acc_yes u k hk] at ha; have := of_decide_eq_true ha; omega
  have h2 := mt (acc_iff u k hk hu.1 hu.2).1 h1
  have hle : u - u % k + i ≤ 18446744073709551615 := by omega
  have hge : 0 ≤ u - u % k + i := by
    have : u % k ≤ u := by
      have := Int.emod_add_mul_ediv u k
      have hq : 0 ≤ k * (u / k) := Int.mul_nonneg (by omega) (Int.ediv_nonneg hu.1 (by omega))
      omega
    omega
  have ha2 : accD (u - u % k + i) k = true := by
    rw [acc_yes _ k hk]
    refine decide_eq_true ?_
    have h3 : ¬ (18446744073709551615 - (u - u % k + i) < k - 1 - (u - u % k + i) % k) := by rw [hm]; omega
    have := mt (acc_iff (u - u % k + i) k hk hge hle).2 h3
    omega
  exact ⟨hle, ha2, by rw [redV, ha2, if_pos rfl, hm]⟩

theorem unfair (u k : Int) (hu : 0 ≤ u ∧ u ≤ 18446744073709551615) (hk : 1 ≤ k) (ha : accD u k = false) : 18446744073709551615 - u < k - 1 := by
  have r1 := Int.emod_nonneg u (show k ≠ 0 by omega)
  rw [acc_yes u k hk] at ha
  have := of_decide_eq_false ha
  have := (acc_iff u k hk hu.1 hu.2).2 (by omega)
  omega

set_option maxHeartbeats 1000000 in
theorem DiceFair_law (w : World) (u0 : Int) (hu0 : 0 ≤ u0 ∧ u0 ≤ 18446744073709551615) (n : Int) (hn : inI64 n) (high : Bool) :
    Calls Try.prog 4 #[.int .u64 u0, .int .i64 n, .bool high] w fun e w' => e = .returned (.bool true) ∧ Ext w w' := by
  have hk := around_range n 600 (by omega)
  obtain ⟨hu1, hu2⟩ := hu0
  go_enter Try.func4, Try.ntmps4
  go_wp2_with fail
  refine (around_any n 600 _ hn (by omega) (by omega)).mono ?_
  rintro e w1 ⟨rfl, rfl⟩
  have hm0 := Int.emod_nonneg u0 (show (700 : Int) ≠ 0 by omega)
  have hm1 := Int.emod_lt_of_pos u0 (show (0 : Int) < 700 by omega)
  cases high
  · go_wp2_with fail
    obtain ⟨k, hkd⟩ : ∃ k, k = 1 + around n 600 := ⟨_, rfl⟩
    rw [← hkd]
    have hk1 : 1 ≤ k := by omega
    have hk2 : k ≤ 600 := by omega
    clear hkd hk
    obtain ⟨u, hud⟩ : ∃ u, u = u0 := ⟨_, rfl⟩
    try rw [← hud]
    have h0 : 0 ≤ u := by omega
    have h1 : u ≤ 18446744073709551615 := by omega
    clear hud
    have hr1 := Int.emod_nonneg u (show k ≠ 0 by omega)
    have hr2 := Int.emod_lt_of_pos u (show 0 < k by omega)
    refine (reduce_any u k _ ⟨h0, h1⟩ (by unfold inI64; omega)).mono ?_
    rintro e w2 ⟨rfl, rfl⟩
    by_cases ha : accD u k = true
    · have hfair := fair u k ⟨h0, h1⟩ hk1 ha
      have hrv : redV u k = u % k := by rw [redV, if_pos ha]
      have hru : u % k ≤ u := by have := (hfair 0 (by omega)).1; have h3 := Int.emod_add_mul_ediv u k; have hq : 0 ≤ k * (u / k) := Int.mul_nonneg (by omega) (Int.ediv_nonneg h0 (by omega)); omega
      rw [ha, hrv]
      clear ha hrv
      have HF := Lib.hid hfair
      clear hfair
      go_wp2
      go_loop [11, 12, 13] (fun i _ _ => ∃ j : Nat, (j : Int) ≤ k ∧ i = .int .i64 j) (fun i _ _ => (k - intOf i).toNat)
      case atStart => exact ⟨0, by omega, rfl⟩
      case round =>
        obtain ⟨j, hj, rfl⟩ := hrel
        by_cases hlt : (j : Int) < k
        · obtain ⟨q1, q2, q3⟩ := HF.out j ⟨by omega, hlt⟩
          have Q2 := Lib.hid q2
          have Q3 := Lib.hid q3
          clear q2 q3
          go_wp2_with fail
          refine (reduce_any (u - u % k + j) k _ ⟨by omega, q1⟩ (by unfold inI64; omega)).mono ?_
          rintro e w2 ⟨he, rfl⟩
          rw [Q2.out, Q3.out] at he
          subst he
          go_wp2
          go_round
          case rel => exact ⟨j + 1, by omega, by go_num⟩
          case measure => simp [intOf]; omega
        · go_wp2_with fail
          refine (lives04_any _).mono ?_
          rintro e w3 ⟨rfl, hx3⟩
          go_wp2
          go_ret
          exact ⟨rfl, hx3⟩
    · have ha' : accD u k = false := by simpa using ha
      have hun := unfair u k ⟨h0, h1⟩ hk1 ha'
      rw [ha']
      clear ha ha'
      have hd : decide (18446744073709551615 - u < k - 1) = true := by simpa using hun
      go_wp2_with fail
      refine (lives04_any _).mono ?_
      rintro e w3 ⟨rfl, hx3⟩
      go_wp2
      go_ret
      exact ⟨rfl, hx3⟩
  · go_wp2_with fail
    obtain ⟨k, hkd⟩ : ∃ k, k = 1 + around n 600 := ⟨_, rfl⟩
    rw [← hkd]
    have hk1 : 1 ≤ k := by omega
    have hk2 : k ≤ 600 := by omega
    clear hkd hk
    obtain ⟨u, hud⟩ : ∃ u, u = 18446744073709551615 - u0 % 700 := ⟨_, rfl⟩
    try rw [← hud]
    have h0 : 0 ≤ u := by omega
    have h1 : u ≤ 18446744073709551615 := by omega
    clear hud
    have hr1 := Int.emod_nonneg u (show k ≠ 0 by omega)
    have hr2 := Int.emod_lt_of_pos u (show 0 < k by omega)
    refine (reduce_any u k _ ⟨h0, h1⟩ (by unfold inI64; omega)).mono ?_
    rintro e w2 ⟨rfl, rfl⟩
    by_cases ha : accD u k = true
    · have hfair := fair u k ⟨h0, h1⟩ hk1 ha
      have hrv : redV u k = u % k := by rw [redV, if_pos ha]
      have hru : u % k ≤ u := by have := (hfair 0 (by omega)).1; have h3 := Int.emod_add_mul_ediv u k; have hq : 0 ≤ k * (u / k) := Int.mul_nonneg (by omega) (Int.ediv_nonneg h0 (by omega)); omega
      rw [ha, hrv]
      clear ha hrv
      have HF := Lib.hid hfair
      clear hfair
      go_wp2
      go_loop [11, 12, 13] (fun i _ _ => ∃ j : Nat, (j : Int) ≤ k ∧ i = .int .i64 j) (fun i _ _ => (k - intOf i).toNat)
      case atStart => exact ⟨0, by omega, rfl⟩
      case round =>
        obtain ⟨j, hj, rfl⟩ := hrel
        by_cases hlt : (j : Int) < k
        · obtain ⟨q1, q2, q3⟩ := HF.out j ⟨by omega, hlt⟩
          have Q2 := Lib.hid q2
          have Q3 := Lib.hid q3
          clear q2 q3
          go_wp2_with fail
          refine (reduce_any (u - u % k + j) k _ ⟨by omega, q1⟩ (by unfold inI64; omega)).mono ?_
          rintro e w2 ⟨he, rfl⟩
          rw [Q2.out, Q3.out] at he
          subst he
          go_wp2
          go_round
          case rel => exact ⟨j + 1, by omega, by go_num⟩
          case measure => simp [intOf]; omega
        · go_wp2_with fail
          refine (lives04_any _).mono ?_
          rintro e w3 ⟨rfl, hx3⟩
          go_wp2
          go_ret
          exact ⟨rfl, hx3⟩
    · have ha' : accD u k = false := by simpa using ha
      have hun := unfair u k ⟨h0, h1⟩ hk1 ha'
      rw [ha']
      clear ha ha'
      have hd : decide (18446744073709551615 - u < k - 1) = true := by simpa using hun
      go_wp2_with fail
      refine (lives04_any _).mono ?_
      rintro e w3 ⟨rfl, hx3⟩
      go_wp2
      go_ret
      exact ⟨rfl, hx3⟩

end Go.Proofs.Ytjgpdimhgcacgaa
