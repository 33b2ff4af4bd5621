/- package bag: small contracts: what is an amount, a bag; the reference's; comparisons of lists. -/
import Derived.Test.YtenencblpoeneaaBp
import Derived.Test.YtenencblpoeneaaHc1
import Derived.Test.YtenencblpoeneaaMo
import Derived.Test.YtenencblpoeneaaWc2
namespace Go.Proofs.Ytenencblpoeneaa
open Go.RowKit
set_option linter.unusedVariables false

theorem emod_of_tmod (n m : Int) (hm : 0 < m) : n % m = if n.tmod m < 0 then n.tmod m + m else n.tmod m := by
  have h1 := Int.tmod_add_mul_tdiv n m
  have h2 : n.tmod m < m := Int.tmod_lt_of_pos n hm
  have h3 : -m < n.tmod m := by
    have := Int.tmod_lt_of_pos (-n) hm
    rw [Int.neg_tmod] at this; omega
  split
  · rename_i h
    have e : n = n.tmod m + m + m * (n.tdiv m - 1) := by rw [Int.mul_sub, Int.mul_one]; omega
    conv => lhs; rw [e]
    rw [Int.add_mul_emod_self_left, Int.emod_eq_of_lt (by omega) (by omega)]
  · rename_i h
    conv => lhs; rw [← h1]
    rw [Int.add_mul_emod_self_left, Int.emod_eq_of_lt (by omega) (by omega)]

theorem around3_any (n most : Int) (w : World) (hn : inI64 n) (h1 : 1 ≤ most) (h2 : most ≤ 4611686018427387904) :
    Calls Try.prog 12 #[.int .i64 n, .int .i64 most] w fun e w' => e = .returned (.int .i64 (n % most)) ∧ w = w' := by
  obtain ⟨hn1, hn2⟩ := hn
  have he := emod_of_tmod n most (by omega)
  have b2 : n.tmod most < most := Int.tmod_lt_of_pos n (by omega)
  have b3 : -most < n.tmod most := by
    have := Int.tmod_lt_of_pos (-n) (show 0 < most by omega)
    rw [Int.neg_tmod] at this; omega
  have HE := Lib.hid he
  clear he
  by_cases h0 : 0 ≤ n
  · have hp := Int.emod_nonneg n (show most ≠ 0 by omega)
    have hq : ¬ (n % most < 0) := by omega
    clear b2 b3
    go_enter Try.func12, Try.ntmps12
    go_wp2
    go_ret
    exact ⟨rfl, rfl⟩
  · by_cases ht : n.tmod most < 0
    · go_enter Try.func12, Try.ntmps12
      go_wp2
      go_ret
      exact ⟨ret_int (by rw [HE.out, if_pos ht]), rfl⟩
    · go_enter Try.func12, Try.ntmps12
      go_wp2
      go_ret
      exact ⟨ret_int (by rw [HE.out, if_neg (by omega)]), rfl⟩

theorem same3_any (v1 v2 : Value) (xs ys : List Int) (w : World) (h1 : Rd w v1 (vis xs)) (h2 : Rd w v2 (vis ys)) :
    Calls Try.prog 20 #[v1, v2] w fun e w' => e = .returned (.bool (decide (xs = ys))) ∧ Ext w w' := by
  have hh1 := h1
  have hh2 := h2
  obtain ⟨A, c, rfl, _⟩ := h1
  obtain ⟨B, d, rfl, _⟩ := h2
  obtain ⟨_, a1, a2, a3⟩ := hh1.at
  obtain ⟨_, b1, b2, b3⟩ := hh2.at
  clear hh1 hh2
  simp only [vis_len, maxLen] at *
  by_cases hl : xs.length = ys.length
  · have hl' : ((xs.length : Int) != ys.length) = false := by simp [hl]
    have hle1 : xs.length ≤ ys.length := by omega
    have hle2 : ys.length ≤ xs.length := by omega
    clear hl
    go_enter Try.func20, Try.ntmps20
    go_wp2
    go_loopw [5] (fun i wr => ∃ k : Nat, k ≤ xs.length ∧ i = .int .i64 k ∧ Hid (xs.take k = ys.take k) ∧ Ext w wr) (fun i _ => xs.length - (intOf i).toNat)
    case atStart => exact ⟨0, Nat.zero_le _, rfl, by simp [Hid], Ext.refl _⟩
    case round =>
      obtain ⟨k, hk, rfl, hp, hx⟩ := hrel
      by_cases hlt : k < xs.length
      · obtain ⟨b, off, rfl, hcx⟩ := a3 (by omega)
        obtain ⟨b', off', rfl, hcy⟩ := b3 (by omega)
        have hkx : k < xs.length := hlt
        have hky : k < ys.length := by omega
        have c1 : wr.cell? ⟨b, off + k, none⟩ = some (.int .i64 xs[k]) := hcx wr hx k _ (by simp [vis, hkx])
        have c2 : wr.cell? ⟨b', off' + k, none⟩ = some (.int .i64 ys[k]) := hcy wr hx k _ (by simp [vis, hky])
        clear hcx hcy a3 b3
        by_cases he : xs[k] = ys[k]
        · have he' : (xs[k] != ys[k]) = false := by simp [he]
          have HE := Lib.hid he
          clear he
          go_wp2
          go_quiet (fail)
          go_wp2
          go_roundw
          case rel => exact ⟨k + 1, by omega, by go_num, same_step _ _ _ hkx hky hp.out HE.out, by first | exact hx.drew | exact hx.drewN _⟩
          case measure => simp [intOf]; omega
        · have he' : (xs[k] != ys[k]) = true := by simp [he]
          have hne : xs ≠ ys := fun e => he (by simp [e])
          go_wp2
          go_quiet (fail)
          go_wp2
          go_ret
          exact ⟨by simp [hne], by first | exact hx.drew | exact hx.drewN _⟩
      · go_wp2
        go_ret
        exact ⟨by have := same_end xs ys k (by omega) (by omega) hp.out; simp [this], hx⟩
  · have hl' : ((xs.length : Int) != ys.length) = true := by simp; omega
    have hne : xs ≠ ys := fun e => hl (by simp [e])
    go_enter Try.func20, Try.ntmps20
    go_wp2
    go_ret
    exact ⟨by simp [hne], Ext.refl _⟩


end Go.Proofs.Ytenencblpoeneaa
