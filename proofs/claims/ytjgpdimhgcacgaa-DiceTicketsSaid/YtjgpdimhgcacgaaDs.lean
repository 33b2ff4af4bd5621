/- The reference Sides: its contract. -/
import Derived.Test.YtjgpdimhgcacgaaDc1
namespace Go.Proofs.Ytjgpdimhgcacgaa
open Go.RowKit
set_option linter.unusedVariables false

def sidesD (n : Int) : Int :=
  let k := around n 400
  if k < 100 then k + 1 else
  let p := (2 : Int) ^ (k % 61 + 1).toNat
  if k < 300 then p + k / 61 % 3 - 1 else p / 2 * 3 - k % 2

theorem pow2_le : ∀ (j : Nat), j ≤ 61 → (2 : Int) ^ j ≤ 2305843009213693952 := by
  intro j h
  have h2 : (2 : Nat) ^ j ≤ 2 ^ 61 := Nat.pow_le_pow_right (by omega) h
  have h3 : ((2 ^ j : Nat) : Int) ≤ ((2 ^ 61 : Nat) : Int) := Int.ofNat_le.2 h2
  simpa using h3
theorem pow2_pos (j : Nat) : 1 ≤ (2 : Int) ^ j := by
  have : 1 ≤ (2 : Nat) ^ j := Nat.one_le_two_pow
  have h3 : ((1 : Nat) : Int) ≤ ((2 ^ j : Nat) : Int) := Int.ofNat_le.2 this
  simpa using h3
theorem pow2_two (j : Nat) : 2 ≤ (2 : Int) ^ (j + 1) := by
  have := pow2_pos j
  rw [Int.pow_succ]; omega

theorem sides_range (n : Int) : 1 ≤ sidesD n ∧ sidesD n ≤ 9223372036854775807 := by
  have hk := around_range n 400 (by omega)
  unfold sidesD
  dsimp only
  generalize around n 400 = k at *
  obtain ⟨j, hj⟩ : ∃ j : Nat, (k % 61 + 1).toNat = j + 1 := ⟨(k % 61).toNat, by omega⟩
  rw [hj]
  have h1 := pow2_two j
  have h2 := pow2_le (j + 1) (by omega)
  generalize (2 : Int) ^ (j + 1) = p at *
  split
  · omega
  · split <;> omega

set_option maxHeartbeats 1000000 in
theorem sides_any (n : Int) (w : World) (hn : inI64 n) : Calls Try.prog 15 #[.int .i64 n] w fun e w' => e = .returned (.int .i64 (sidesD n)) ∧ w = w' := by
  have hk := around_range n 400 (by omega)
  obtain ⟨k, hkd⟩ : ∃ k, k = around n 400 := ⟨_, rfl⟩
  have hks : sidesD n = if k < 100 then k + 1 else if k < 300 then (2 : Int) ^ (k % 61 + 1).toNat + k / 61 % 3 - 1 else (2 : Int) ^ (k % 61 + 1).toNat / 2 * 3 - k % 2 := by rw [hkd]; rfl
  have HK := Lib.hid hks
  rw [← hkd] at hk
  have HD := Lib.hid hkd
  clear hks hkd
  obtain ⟨hk0, hk1⟩ := hk
  by_cases hc : k < 100
  · go_enter Try.func15, Try.ntmps15
    go_wp2_with fail
    refine (around_any n 400 _ hn (by omega) (by omega)).mono ?_
    rintro e w1 ⟨he, rfl⟩
    rw [← HD.out] at he
    subst he
    go_wp2
    go_ret
    exact ⟨ret_int (by rw [HK.out, if_pos hc]), rfl⟩
  · go_enter Try.func15, Try.ntmps15
    go_wp2_with fail
    refine (around_any n 400 _ hn (by omega) (by omega)).mono ?_
    rintro e w1 ⟨he, rfl⟩
    rw [← HD.out] at he
    subst he
    go_wp2
    go_loop [5, 4] (fun i p => ∃ j : Nat, (j : Int) ≤ k % 61 + 1 ∧ i = .int .i64 j ∧ p = .int .i64 ((2 : Int) ^ j)) (fun i _ => (62 - intOf i).toNat)
    case atStart => exact ⟨0, by omega, rfl, rfl⟩
    case round =>
      obtain ⟨j, hj, rfl, rfl⟩ := hrel
      have hp1 := pow2_pos j
      by_cases hlt : (j : Int) < k % 61 + 1
      · have hp2 := pow2_le j (by omega)
        have hp3 := pow2_le (j + 1) (by omega)
        rw [Int.pow_succ] at hp3
        go_wp2
        go_round
        case rel => exact ⟨j + 1, by omega, by go_num, by rw [Int.pow_succ, Int.mul_comm]⟩
        case measure => simp [intOf]; omega
      · have hje : (k % 61 + 1).toNat = j := by omega
        have hp2 := pow2_le j (by omega)
        have HE := Lib.hid hje
        clear hje
        by_cases hc3 : k < 300
        · go_wp2
          go_ret
          exact ⟨ret_int (by rw [HK.out, if_neg (by omega), if_pos hc3, HE.out]), rfl⟩
        · go_wp2
          go_ret
          exact ⟨ret_int (by rw [HK.out, if_neg (by omega), if_neg (by omega), HE.out]), rfl⟩

end Go.Proofs.Ytjgpdimhgcacgaa
