/- What Shuffle, Pick and Hit return: the plain side; Has of the reference. -/
import Derived.Test.YtjgpdimhgcacgaaDw5
namespace Go.Proofs.Ytjgpdimhgcacgaa
open Go.RowKit
set_option linter.unusedVariables false

theorem mem_swapL (l : List Int) (i j : Nat) (hi : i < l.length) (hj : j < l.length) (x : Int) (hx : x ∈ l) : x ∈ swapL l i j := by
  obtain ⟨k, hk, rfl⟩ := List.getElem_of_mem hx
  unfold swapL
  by_cases hki : k = i
  · subst hki
    refine List.mem_iff_getElem.2 ⟨j, by simpa using hj, ?_⟩
    simp [hk]
  · by_cases hkj : k = j
    · subst hkj
      by_cases hij : i = k
      · exact absurd hij.symm hki
      · refine List.mem_iff_getElem.2 ⟨i, by simpa using hi, ?_⟩
        simp [hk, Ne.symm hij]
    · refine List.mem_iff_getElem.2 ⟨k, by simpa using hk, ?_⟩
      simp [Ne.symm hki, Ne.symm hkj]
theorem shufF_spec (seed label : List UInt8) : ∀ (i : Nat) (l : List Int) (p : Int), i < l.length ∨ i = 0 →
    ((shufF seed label i l p).2.1 = 4 ∧ (shufF seed label i l p).1 = []) ∨ ((shufF seed label i l p).2.1 = 0 ∧ (shufF seed label i l p).1.length = l.length ∧ ∀ x, x ∈ l → x ∈ (shufF seed label i l p).1)
  | 0, l, p, _ => .inr ⟨rfl, rfl, fun x h => h⟩
  | i + 1, l, p, h => by
    have he := rollD_err seed label (i + 2 : Nat) p (by omega)
    have hv := rollD_val seed label (i + 2 : Nat) p (by omega)
    rw [shufF]
    split
    · have h1 : i + 1 < l.length := by omega
      have h2 : (rollD seed label (i + 2 : Nat) p).1.toNat < l.length := by omega
      have ih := shufF_spec seed label i (swapL l (i + 1) (rollD seed label (i + 2 : Nat) p).1.toNat) (rollD seed label (i + 2 : Nat) p).2.2 (.inl (by rw [swapL_len]; omega))
      rcases ih with ih | ⟨q1, q2, q3⟩
      · exact .inl ih
      · exact .inr ⟨q1, by rw [q2, swapL_len], fun x hx => q3 x (mem_swapL l _ _ h1 h2 x hx)⟩
    · rename_i hne
      rcases he with he | he
      · exact absurd he hne
      · exact .inl ⟨he, rfl⟩
theorem shuffle_spec (seed label : List UInt8) (n : Nat) (p : Int) (hn : n ≤ 4096) :
    ((shuffleD seed label n p).2.1 = 4 ∧ (shuffleD seed label n p).1 = []) ∨ ((shuffleD seed label n p).2.1 = 0 ∧ (shuffleD seed label n p).1.length = n ∧ ∀ i : Nat, i < n → (i : Int) ∈ (shuffleD seed label n p).1) := by
  unfold shuffleD
  rw [if_neg (by omega), Int.toNat_natCast]
  have := shufF_spec seed label (n - 1) (rangeI n) p (by rw [rangeI_len]; omega)
  rcases this with h | ⟨h1, h2, h3⟩
  · exact .inl h
  · refine .inr ⟨h1, by rw [h2, rangeI_len], fun i hi => h3 _ ?_⟩
    exact List.mem_map.2 ⟨i, List.mem_range.2 hi, rfl⟩

theorem idxF_ok (r : Int) : ∀ (ws : List Int) (b k : Int), 0 ≤ b → b ≤ r → r < sumF b ws → ∃ (j : Nat) (x : Int), idxF r b ws k = k + j ∧ ws[j]? = some x ∧ 0 < x
  | [], b, k, h0, h1, h2 => by simp only [sumF] at h2; omega
  | x :: t, b, k, h0, h1, h2 => by
    rw [sumF] at h2
    split at h2
    · omega
    · rw [idxF]
      split
      · exact ⟨0, x, by simp, by simp, by omega⟩
      · obtain ⟨j, y, e1, e2, e3⟩ := idxF_ok r t (b + x) (k + 1) (by omega) (by omega) h2
        exact ⟨j + 1, y, by rw [e1]; omega, by simpa using e2, e3⟩
theorem pick_spec (seed label : List UInt8) (ws : List Int) (p : Int) :
    (sumF 0 ws = 0 ∧ (pickD seed label ws p).2.1 = 1) ∨ (sumF 0 ws ≠ 0 ∧ (pickD seed label ws p).2.1 = 4) ∨
    (sumF 0 ws ≠ 0 ∧ (pickD seed label ws p).2.1 = 0 ∧ ∃ (j : Nat) (x : Int), (pickD seed label ws p).1 = j ∧ ws[j]? = some x ∧ 0 < x) := by
  unfold pickD
  have hr := sumF_range ws 0 (by omega) (by omega)
  split
  · rename_i h; exact .inl ⟨h, rfl⟩
  · rename_i h
    have he := rollD_err seed label (sumF 0 ws) p (by omega)
    have hv := rollD_val seed label (sumF 0 ws) p (by omega)
    split
    · obtain ⟨j, x, e1, e2, e3⟩ := idxF_ok (rollD seed label (sumF 0 ws) p).1 ws 0 0 (by omega) hv.1 hv.2
      exact .inr (.inr ⟨h, rfl, j, x, by show idxF _ _ _ _ = _; rw [e1]; omega, e2, e3⟩)
    · rename_i hne
      rcases he with he | he
      · exact absurd he hne
      · exact .inr (.inl ⟨h, he⟩)
theorem sumF_small : ∀ (l : List Int) (acc : Int), (∀ x ∈ l, 0 ≤ x ∧ x ≤ 4) → 0 ≤ acc → acc + 4 * l.length ≤ 1000 → sumF acc l = acc + l.sum
  | [], acc, _, _, _ => by simp [sumF]
  | x :: t, acc, h, h0, h1 => by
    have hx := h x (by simp)
    simp only [List.length_cons] at h1
    rw [sumF, if_neg (by omega), sumF_small t (acc + x) (fun y hy => h y (by simp [hy])) (by omega) (by omega)]
    simp; omega

set_option maxHeartbeats 1000000 in
theorem has_any (v : Value) (l : List Int) (n : Int) (w : World) (hr : Rd w v (vis l)) (hm : n ∈ l) :
    Calls Try.prog 41 #[v, .int .i64 n] w fun e w' => e = .returned (.bool true) ∧ w = w' := by
  obtain ⟨A, c, rfl, h1, h2, -⟩ := id hr
  obtain ⟨-, -, -, hc⟩ := hr.at
  rw [vis_len] at h1 hc
  simp only [maxLen] at h2
  obtain ⟨N, hN⟩ : ∃ N, l.length = N := ⟨_, rfl⟩
  have hcell : Hid (∀ j, j < N → ∃ b off, A = some ⟨b, off, none⟩ ∧ w.cell? ⟨b, off + j, none⟩ = some (.int .i64 (l.getD j 0))) := Lib.hid (fun j hj => by
    obtain ⟨b, off, hh, hc⟩ := hc (by omega)
    have hjl : j < l.length := by omega
    exact ⟨b, off, hh, hc w (Ext.refl _) j _ (by simp [vis, hjl])⟩)
  have hl : (vis l).length = N := by rw [vis_len, hN]
  rw [hl]
  have HM : Hid (∃ j, j < N ∧ l.getD j 0 = n) := Lib.hid (by
    obtain ⟨j, hj, rfl⟩ := List.getElem_of_mem hm
    exact ⟨j, by omega, by simp [hj]⟩)
  rw [hN] at h1
  clear hN hl hc hr hm
  go_enter Try.func41, Try.ntmps41
  go_wp2_with fail
  go_loop [5] (fun i => ∃ k : Nat, i = .int .i64 k ∧ k ≤ N ∧ Hid (∀ j, j < k → l.getD j 0 ≠ n)) (fun i => N - (intOf i).toNat)
  case atStart => exact ⟨0, rfl, by omega, Lib.hid (fun j hj => by omega)⟩
  case round =>
    obtain ⟨k, rfl, hk, hno⟩ := hrel
    have hlt : (k : Int) < N := by
      obtain ⟨j, hj, he⟩ := HM.out
      rcases Nat.lt_or_ge j k with h | h
      · exact absurd he (hno.out j h)
      · omega
    obtain ⟨b, off, hAe, hck⟩ := hcell.out k (by omega)
    subst hAe
    by_cases he : l.getD k 0 = n
    · rw [he] at hck
      go_wp2
      go_ret
      exact ⟨rfl, rfl⟩
    · have HE := Lib.hid he
      have hne : (l.getD k 0 == n) = false := by simpa using he
      generalize hx : l.getD k 0 = x at *
      have HX := Lib.hid hx
      clear hx he
      go_wp2
      go_round
      case rel =>
        refine ⟨k + 1, by go_num, by omega, Lib.hid (fun j hj => ?_)⟩
        rcases Nat.lt_or_ge j k with h | h
        · exact hno.out j h
        · rw [show j = k by omega, HX.out]; exact HE.out
      case measure => simp [intOf]; omega
end Go.Proofs.Ytjgpdimhgcacgaa
