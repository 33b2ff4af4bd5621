/- package bag: small contracts: what is an amount, a bag; the reference's; comparisons of lists. -/
import Derived.Test.YtbcjikiakanncaaBp
import Derived.Test.YtbcjikiakanncaaHc1
import Derived.Test.YtbcjikiakanncaaMo
import Derived.Test.YtbcjikiakanncaaWc2
namespace Go.Proofs.Ytbcjikiakanncaa
open Go.RowKit
set_option linter.unusedVariables false

theorem emod_of_tmod (n m : Int) (hm : 0 < m) : n % m = if n.tmod m < 0 then n.tmod m + m else n.tmod m := by
  have h1 := Int.tmod_add_mul_tdiv n m
  have h2 : n.tmod m < m := Int.tmod_lt_of_pos n hm
  have h3 : -m < n.tmod m := by
    have := Int.tmod_lt_of_pos (-n) hm
    rw [Int.neg_tmod] at this; omega
  split
  · rename_i h
    have e : n = n.tmod m + m + m * (n.tdiv m - 1) := by rw [Int.mul_sub, Int.mul_one]; omega
    conv => lhs; rw [e]
    rw [Int.add_mul_emod_self_left, Int.emod_eq_of_lt (by omega) (by omega)]
  · rename_i h
    conv => lhs; rw [← h1]
    rw [Int.add_mul_emod_self_left, Int.emod_eq_of_lt (by omega) (by omega)]

theorem around3_any (n most : Int) (w : World) (hn : inI64 n) (h1 : 1 ≤ most) (h2 : most ≤ 4611686018427387904) :
    Calls Try.prog 12 #[.int .i64 n, .int .i64 most] w fun e w' => e = .returned (.int .i64 (n % most)) ∧ w = w' := by
  obtain ⟨hn1, hn2⟩ := hn
  have he := emod_of_tmod n most (by omega)
  have b2 : n.tmod most < most := Int.tmod_lt_of_pos n (by omega)
  have b3 : -most < n.tmod most := by
    have := Int.tmod_lt_of_pos (-n) (show 0 < most by omega)
    rw [Int.neg_tmod] at this; omega
  have HE := Lib.hid he
  clear he
  by_cases h0 : 0 ≤ n
  · have hp := Int.emod_nonneg n (show most ≠ 0 by omega)
    have hq : ¬ (n % most < 0) := by omega
    clear b2 b3
    go_enter Try.func12, Try.ntmps12
    go_wp2
    go_ret
    exact ⟨rfl, rfl⟩
  · by_cases ht : n.tmod most < 0
    · go_enter Try.func12, Try.ntmps12
      go_wp2
      go_ret
      exact ⟨ret_int (by rw [HE.out, if_pos ht]), rfl⟩
    · go_enter Try.func12, Try.ntmps12
      go_wp2
      go_ret
      exact ⟨ret_int (by rw [HE.out, if_neg (by omega)]), rfl⟩

theorem same3_any (v1 v2 : Value) (xs ys : List Int) (w : World) (h1 : Rd w v1 (vis xs)) (h2 : Rd w v2 (vis ys)) :
    Calls Try.prog 21 #[v1, v2] w fun e w' => e = .returned (.bool (decide (xs = ys))) ∧ Ext w w' := by
  have hh1 := h1
  have hh2 := h2
  obtain ⟨A, c, rfl, _⟩ := h1
  obtain ⟨B, d, rfl, _⟩ := h2
  obtain ⟨_, a1, a2, a3⟩ := hh1.at
  obtain ⟨_, b1, b2, b3⟩ := hh2.at
  clear hh1 hh2
  simp only [vis_len, maxLen] at *
  by_cases hl : xs.length = ys.length
  · have hl' : ((xs.length : Int) != ys.length) = false := by simp [hl]
    have hle1 : xs.length ≤ ys.length := by omega
    have hle2 : ys.length ≤ xs.length := by omega
    clear hl
    go_enter Try.func21, Try.ntmps21
    go_wp2
    go_loopw [5] (fun i wr => ∃ k : Nat, k ≤ xs.length ∧ i = .int .i64 k ∧ Hid (xs.take k = ys.take k) ∧ Ext w wr) (fun i _ => xs.length - (intOf i).toNat)
    case atStart => exact ⟨0, Nat.zero_le _, rfl, by simp [Hid], Ext.refl _⟩
    case round =>
      obtain ⟨k, hk, rfl, hp, hx⟩ := hrel
      by_cases hlt : k < xs.length
      · obtain ⟨b, off, rfl, hcx⟩ := a3 (by omega)
        obtain ⟨b', off', rfl, hcy⟩ := b3 (by omega)
        have hkx : k < xs.length := hlt
        have hky : k < ys.length := by omega
        have c1 : wr.cell? ⟨b, off + k, none⟩ = some (.int .i64 xs[k]) := hcx wr hx k _ (by simp [vis, hkx])
        have c2 : wr.cell? ⟨b', off' + k, none⟩ = some (.int .i64 ys[k]) := hcy wr hx k _ (by simp [vis, hky])
        clear hcx hcy a3 b3
        by_cases he : xs[k] = ys[k]
        · have he' : (xs[k] != ys[k]) = false := by simp [he]
          have HE := Lib.hid he
          clear he
          go_wp2
          go_quiet (fail)
          go_wp2
          go_roundw
          case rel => exact ⟨k + 1, by omega, by go_num, same_step _ _ _ hkx hky hp.out HE.out, by first | exact hx.drew | exact hx.drewN _⟩
          case measure => simp [intOf]; omega
        · have he' : (xs[k] != ys[k]) = true := by simp [he]
          have hne : xs ≠ ys := fun e => he (by simp [e])
          go_wp2
          go_quiet (fail)
          go_wp2
          go_ret
          exact ⟨by simp [hne], by first | exact hx.drew | exact hx.drewN _⟩
      · go_wp2
        go_ret
        exact ⟨by have := same_end xs ys k (by omega) (by omega) hp.out; simp [this], hx⟩
  · have hl' : ((xs.length : Int) != ys.length) = true := by simp; omega
    have hne : xs ≠ ys := fun e => hl (by simp [e])
    go_enter Try.func21, Try.ntmps21
    go_wp2
    go_ret
    exact ⟨by simp [hne], Ext.refl _⟩

theorem amount_any (n : Int) (w : World) : Calls Try.prog 78 #[.int .i64 n] w fun e w' => e = .returned (.bool (amtB n)) ∧ w = w' := by
  have hcase : (0 ≤ n ∧ n ≤ 1099511627776) ∨ n < 0 ∨ (0 ≤ n ∧ 1099511627776 < n) := by omega
  rcases hcase with h | h | h
  · rw [(amtB_iff n).2 h]
    obtain ⟨h1, h2⟩ := h
    go_enter Try.func78, Try.ntmps78
    go_wp2
    go_ret
    exact ⟨rfl, rfl⟩
  · rw [(amtB_not n).2 (.inl h)]
    go_enter Try.func78, Try.ntmps78
    go_wp2
    go_ret
    exact ⟨rfl, rfl⟩
  · rw [(amtB_not n).2 (.inr h.2)]
    obtain ⟨h1, h2⟩ := h
    have h3 : ¬ n ≤ 1099511627776 := by omega
    go_enter Try.func78, Try.ntmps78
    go_wp2
    go_ret
    exact ⟨rfl, rfl⟩

theorem isB_step {l : List Int} {k : Nat} (hk : k < l.length) (h : ∀ n ∈ l.take k, amtB n = true) (ha : amtB l[k] = true) : ∀ n ∈ l.take (k + 1), amtB n = true := by
  rw [List.take_succ_eq_append_getElem hk]
  intro n hn
  rcases List.mem_append.1 hn with hn | hn
  · exact h n hn
  · simp only [List.mem_singleton] at hn; subst hn; exact ha
theorem isB_bad {l : List Int} {k : Nat} (hk : k < l.length) (ha : amtB l[k] = false) : isB l = false := by
  rw [← Bool.not_eq_true]
  intro h
  have := (amtB_iff l[k]).2 (isB_get h k hk)
  rw [ha] at this; cases this
theorem isB_end {l : List Int} (h : ∀ n ∈ l, amtB n = true) : isB l = decide (l.length ≤ 64) := by
  unfold isB
  rw [List.all_eq_true.2 h]; simp

set_option maxHeartbeats 1000000 in
theorem is_any (v : Value) (l : List Int) (w : World) (h : Rd w v (vis l)) :
    Calls Try.prog 57 #[v] w fun e w' => e = .returned (.bool (isB l)) ∧ w = w' := by
  have hh := h
  obtain ⟨A, c, rfl, _⟩ := h
  obtain ⟨_, a1, a2, a3⟩ := hh.at
  clear hh
  simp only [vis_len, maxLen] at *
  go_enter Try.func57, Try.ntmps57
  go_wp2
  go_loop [7] (fun i => ∃ k : Nat, k ≤ l.length ∧ i = .int .i64 k ∧ Hid (∀ n ∈ l.take k, amtB n = true)) (fun i => l.length - (intOf i).toNat)
  case atStart => exact ⟨0, Nat.zero_le _, rfl, Lib.hid (by simp)⟩
  case round =>
    obtain ⟨k, hk, rfl, hp⟩ := hrel
    by_cases hlt : k < l.length
    · obtain ⟨b, off, rfl, hcx⟩ := a3 (by omega)
      have c1 : w.cell? ⟨b, off + k, none⟩ = some (.int .i64 l[k]) := hcx w (Ext.refl _) k _ (by simp [vis, hlt])
      clear hcx a3
      go_wp2_with fail
      refine (amount_any l[k] _).mono ?_
      rintro e w1 ⟨rfl, rfl⟩
      have hcase : amtB l[k] = true ∨ amtB l[k] = false := by cases amtB l[k] <;> simp
      rcases hcase with ha | ha
      · have HN := Lib.hid (isB_step hlt hp.out ha)
        rw [ha]
        clear ha
        go_wp2
        go_round
        case rel => exact ⟨k + 1, by omega, by go_num, HN⟩
        case measure => simp [intOf]; omega
      · have HN := Lib.hid (isB_bad hlt ha)
        rw [ha]
        clear ha
        go_wp2
        go_ret
        exact ⟨by rw [HN.out]; rfl, rfl⟩
    · have HN : Hid (isB l = decide (l.length ≤ 64)) := Lib.hid (isB_end (by have := hp.out; rwa [List.take_of_length_le (by omega)] at this))
      clear a3
      go_wp2
      go_ret
      exact ⟨ret_bool (by rw [HN.out]; exact decide_eq_decide.2 (by omega)), rfl⟩

set_option maxHeartbeats 1000000 in
theorem isR_any (v : Value) (l : List Int) (w : World) (h : Rd w v (vis l)) :
    Calls Try.prog 37 #[v] w fun e w' => e = .returned (.bool (isB l)) ∧ w = w' := by
  have hh := h
  obtain ⟨A, c, rfl, _⟩ := h
  obtain ⟨_, a1, a2, a3⟩ := hh.at
  clear hh
  simp only [vis_len, maxLen] at *
  go_enter Try.func37, Try.ntmps37
  go_wp2
  go_loop [3] (fun i => ∃ k : Nat, k ≤ l.length ∧ i = .int .i64 k ∧ Hid (∀ n ∈ l.take k, amtB n = true)) (fun i => l.length - (intOf i).toNat)
  case atStart => exact ⟨0, Nat.zero_le _, rfl, Lib.hid (by simp)⟩
  case round =>
    obtain ⟨k, hk, rfl, hp⟩ := hrel
    by_cases hlt : k < l.length
    · obtain ⟨b, off, rfl, hcx⟩ := a3 (by omega)
      have c1 : w.cell? ⟨b, off + k, none⟩ = some (.int .i64 l[k]) := hcx w (Ext.refl _) k _ (by simp [vis, hlt])
      clear hcx a3
      have hcase : (0 ≤ l[k] ∧ l[k] ≤ 1099511627776) ∨ l[k] < 0 ∨ (0 ≤ l[k] ∧ 1099511627776 < l[k]) := by omega
      rcases hcase with ha | ha | ha
      · have HN := Lib.hid (isB_step hlt hp.out ((amtB_iff _).2 ha))
        obtain ⟨ha1, ha2⟩ := ha
        generalize l[k] = x at *
        go_wp2
        go_round
        case rel => exact ⟨k + 1, by omega, by go_num, HN⟩
        case measure => simp [intOf]; omega
      · have HN := Lib.hid (isB_bad hlt ((amtB_not _).2 (.inl ha)))
        generalize l[k] = x at *
        go_wp2
        go_ret
        exact ⟨by rw [HN.out]; rfl, rfl⟩
      · have HN := Lib.hid (isB_bad hlt ((amtB_not _).2 (.inr ha.2)))
        obtain ⟨ha1, ha2⟩ := ha
        generalize l[k] = x at *
        go_wp2
        go_ret
        exact ⟨by rw [HN.out]; rfl, rfl⟩
    · have HN : Hid (isB l = decide (l.length ≤ 64)) := Lib.hid (isB_end (by have := hp.out; rwa [List.take_of_length_le (by omega)] at this))
      clear a3
      go_wp2
      go_ret
      exact ⟨ret_bool (by rw [HN.out]; exact decide_eq_decide.2 (by omega)), rfl⟩
end Go.Proofs.Ytbcjikiakanncaa
