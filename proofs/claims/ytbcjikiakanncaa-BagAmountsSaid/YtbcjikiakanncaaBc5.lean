/- package bag: Most of both, the reference's Times; the laws' bags. -/
import Derived.Test.YtbcjikiakanncaaBc4
namespace Go.Proofs.Ytbcjikiakanncaa
open Go.RowKit
set_option linter.unusedVariables false

theorem map_take_snoc (f : Int → Int) (l : List Int) (k : Nat) (h : k < l.length) : (l.map f).take k ++ [f l[k]] = (l.map f).take (k + 1) := by
  rw [List.take_succ_eq_append_getElem (by simpa using h)]; simp
theorem zip_take_fold (a b : List Int) (k : Nat) (ha : k < a.length) (hb : k < b.length) (z : Int) : ((a.zip b).take (k + 1)).foldl mostStep z = mostStep (((a.zip b).take k).foldl mostStep z) (a[k], b[k]) := by
  have hz : k < (a.zip b).length := by simp; omega
  rw [List.take_succ_eq_append_getElem hz, List.foldl_append]; simp
theorem most_take_range (a b : List Int) (k : Nat) (ha : isB a = true) : 0 ≤ ((a.zip b).take k).foldl mostStep 1048576 ∧ ((a.zip b).take k).foldl mostStep 1048576 ≤ 1048576 :=
  most_fold_range _ _ (by omega) (fun p hp => by
    have := List.mem_of_mem_take hp
    obtain ⟨x, y⟩ := p
    have := (List.of_mem_zip this).1
    exact (((isB_iff a).1 ha).1 x this).1)

set_option maxRecDepth 100000 in
set_option maxHeartbeats 2000000 in
theorem timesR_any (v1 : Value) (b : List Int) (k : Int) (w : World) (h1 : Rd w v1 (vis b)) (hk : inI64 k) :
    Calls Try.prog 26 #[v1, .int .i64 k] w fun e w' => ∃ v, e = .returned (.tuple #[v, .int .i64 (timesB b k).2]) ∧ Own w' w.heap.size 3 v (vis (timesB b k).1) ∧ Ext w w' := by
  have HA : Hid (timesB b k = if timesOk b k then (if isB (b.map (· * k)) then (b.map (· * k), 0) else ([], 4)) else ([], 1)) := Lib.hid rfl
  have HT : Hid (timesOk b k = (isB b && (decide (0 ≤ k) && decide (k ≤ 1048576)))) := Lib.hid rfl
  obtain ⟨i0, hi, hz0, hz1, hz2⟩ := info_parts info_int
  have hh1 := h1
  obtain ⟨B, d, rfl, _⟩ := h1
  obtain ⟨_, b1, b2, b3⟩ := hh1.at
  simp only [vis_len, maxLen] at *
  go_enter Try.func26, Try.ntmps26
  go_wp2_with fail
  refine (isR_any _ b _ hh1).mono ?_
  rintro e w1 ⟨rfl, rfl⟩
  rcases hc : isB b with _ | _
  · have HC : Hid (timesOk b k = false) := Lib.hid (by rw [HT.out, hc]; rfl)
    clear hc
    go_wp2
    go_ret2
    rw [HA.out, HC.out]
    exact ⟨_, rfl, Own.of_nil, Ext.refl _⟩
  · by_cases hk0 : k < 0
    · have HC : Hid (timesOk b k = false) := Lib.hid (by rw [HT.out, hc, decide_eq_false (by omega : ¬ 0 ≤ k)]; rfl)
      clear hc
      go_wp2
      go_ret2
      rw [HA.out, HC.out]
      exact ⟨_, rfl, Own.of_nil, Ext.refl _⟩
    · by_cases hk1 : 1048576 < k
      · have HC : Hid (timesOk b k = false) := Lib.hid (by rw [HT.out, hc, decide_eq_false (by omega : ¬ k ≤ 1048576)]; simp)
        clear hc
        go_wp2
        go_ret2
        rw [HA.out, HC.out]
        exact ⟨_, rfl, Own.of_nil, Ext.refl _⟩
      · have hok : timesOk b k = true := (timesOk_iff b k).2 ⟨hc, by omega, by omega⟩
        have HC := Lib.hid hok
        have HI := Lib.hid (isB_map_mul b k hok)
        have hb := hc
        have hlb := isB_len hb
        have HB := Lib.hid hb
        clear hc hok hb hh1
        obtain ⟨N, hN⟩ : ∃ N, b.length = N := ⟨_, rfl⟩
        rw [hN] at b1 b3 hlb ⊢
        have HN := Lib.hid hN
        clear hN
        go_wp2_with fail
        go_loopw [8, 7] (fun i o wr => ∃ j : Nat, j ≤ N ∧ i = .int .i64 j ∧ Own wr w.heap.size 3 o (vis ((b.map (· * k)).take j)) ∧ Ext w wr ∧ Hid (∀ i (h1 : i < b.length), i < j → b[i] * k ≤ 1099511627776)) (fun i _ _ => N - (intOf i).toNat)
        case atStart => exact ⟨0, by omega, rfl, Own.of_nil, Ext.refl _, Lib.hid (fun i _ h => by omega)⟩
        case round =>
          obtain ⟨j, hj, rfl, ho, hxr, hP⟩ := hrel
          by_cases hlt : j < N
          · have hkb : j < b.length := by rw [HN.out]; exact hlt
            obtain ⟨bb, ob, rfl, hcb⟩ := b3 (by omega)
            have cb := hcb wr hxr j (.int .i64 b[j]) (by simp [vis, hkb])
            obtain ⟨hy0, hy1⟩ := isB_get HB.out j hkb
            obtain ⟨hm0, hm1⟩ := mul_k_bound hy0 hy1 (show 0 ≤ k by omega) (show k ≤ 1048576 by omega)
            have hZ := Lib.hid (map_take_snoc (· * k) b j hkb)
            have hbad : Hid (1099511627776 < b[j] * k → isB (b.map (· * k)) = false) := Lib.hid (fun h => by
              rw [← Bool.not_eq_true, HI.out]
              intro hall
              have := hall j hkb
              omega)
            have hstep : Hid (¬ (1099511627776 < b[j] * k) → ∀ i (h1 : i < b.length), i < j + 1 → b[i] * k ≤ 1099511627776) := Lib.hid (fun h i h1 hi => by
              by_cases hik : i = j
              · subst hik; omega
              · exact hP.out i h1 (by omega))
            generalize b[j] = y at *
            have hw : IntKind.i64.wrap (y * k) = y * k := by rw [IntKind.wrap_i64]; omega
            have hsz := hxr.size
            have hbl : (vis ((b.map (· * k)).take j)).length ≤ 64 := by rw [vis_len]; simp; omega
            clear hcb b3 hkb hP
            by_cases hb : 1099511627776 < y * k
            · have HF := Lib.hid (hbad.out hb)
              go_wp2
              go_ret2
              rw [HA.out, HC.out, if_pos rfl, HF.out]
              exact ⟨_, rfl, Own.of_nil, hxr⟩
            · have HS := Lib.hid (hstep.out hb)
              go_wp2_with (at_builtin; refine wpList_app _ rfl (.tmp 34) (.tmp 41) _ rfl w.heap.size 3 i0 _ 8 Try.underlying22 hi hz0 hz1 hz2 rfl (by omega) _ _ rfl (ho.ext ((Ext.refl _).alloc _)) (some ⟨wr.heap.size, 0, none⟩) 1 1 [.int .i64 (y * k)] rfl (Src.one _ _ _) ?_ ?_ ?_ ?_; (simp [Value.oneCell']); omega; (simp; omega); intro v1 w1 ho1 hg1 _)
              have hon : Own w1 w.heap.size 3 v1 (vis ((b.map (· * k)).take (j + 1))) := by rw [← hZ.out, vis_app]; exact ho1
              have hxn := Ext.app hxr (Ext.refl w) ho hg1
              clear hw cb ho1
              go_roundw
              case rel => exact ⟨j + 1, by omega, by go_num, hon, hxn, HS⟩
              case measure => simp [intOf]; omega
          · have hke : j = N := by omega
            have HT : Hid (isB (b.map (· * k)) = true) := Lib.hid (HI.out.2 (fun i h1 => hP.out i h1 (by rw [HN.out] at h1; omega)))
            rw [List.take_of_length_le (by simp; rw [HN.out]; omega)] at ho
            clear b3
            go_wp2
            go_ret2
            rw [HA.out, HC.out, if_pos rfl, HT.out]
            exact ⟨_, rfl, ho, hxr⟩

set_option maxHeartbeats 2000000 in
theorem most_any (v1 v2 : Value) (a b : List Int) (w : World) (h1 : Rd w v1 (vis a)) (h2 : Rd w v2 (vis b)) :
    Calls Try.prog 27 #[v1, v2] w fun e w' => e = .returned (.int .i64 (mostB a b)) ∧ w = w' := by
  have HA : Hid (mostB a b = if fitB a b then (a.zip b).foldl mostStep 1048576 else 0) := Lib.hid rfl
  have hh1 := h1
  have hh2 := h2
  obtain ⟨A, c, rfl, _⟩ := h1
  obtain ⟨B, d, rfl, _⟩ := h2
  obtain ⟨_, a1, a2, a3⟩ := hh1.at
  obtain ⟨_, b1, b2, b3⟩ := hh2.at
  simp only [vis_len, maxLen] at *
  go_enter Try.func27, Try.ntmps27
  go_wp2_with fail
  refine (fit_any _ _ a b _ hh1 hh2).mono ?_
  rintro e w1 ⟨rfl, rfl⟩
  rcases hc : fitB a b with _ | _
  · have HC := Lib.hid hc
    clear hc
    go_wp2
    go_ret
    exact ⟨by rw [HA.out, HC.out]; rfl, rfl⟩
  · have HC := Lib.hid hc
    obtain ⟨ha, hb, hl⟩ := (fitB_iff a b).1 hc
    clear hc
    obtain ⟨N, hN⟩ : ∃ N, a.length = N := ⟨_, rfl⟩
    have hNb : b.length = N := by omega
    rw [hN] at a1 a3 ⊢
    rw [hNb] at b1 b3 ⊢
    have HN := Lib.hid hN
    have HNb := Lib.hid hNb
    have HAB := Lib.hid (And.intro ha hb)
    clear hN hNb hl ha hb hh1 hh2
    go_wp2_with fail
    go_loop [14, 5] (fun i m => ∃ k : Nat, k ≤ N ∧ i = .int .i64 k ∧ m = .int .i64 (((a.zip b).take k).foldl mostStep 1048576)) (fun i _ => N - (intOf i).toNat)
    case atStart => exact ⟨0, by omega, rfl, by simp⟩
    case round =>
      obtain ⟨k, hk, rfl, rfl⟩ := hrel
      by_cases hlt : k < N
      · have hka : k < a.length := by rw [HN.out]; exact hlt
        have hkb : k < b.length := by rw [HNb.out]; exact hlt
        obtain ⟨ba, oa, rfl, hca⟩ := a3 (by omega)
        obtain ⟨bb, ob, rfl, hcb⟩ := b3 (by omega)
        have ca := hca w (Ext.refl _) k (.int .i64 a[k]) (by simp [vis, hka])
        have cb := hcb w (Ext.refl _) k (.int .i64 b[k]) (by simp [vis, hkb])
        obtain ⟨hx0, hx1⟩ := isB_get HAB.out.1 k hka
        obtain ⟨hy0, hy1⟩ := isB_get HAB.out.2 k hkb
        have HZ := Lib.hid (zip_take_fold a b k hka hkb 1048576)
        obtain ⟨hm0, hm1⟩ := most_take_range a b k HAB.out.1
        generalize a[k] = x at *
        generalize b[k] = y at *
        obtain ⟨M, hM⟩ : ∃ M, List.foldl mostStep 1048576 (List.take k (a.zip b)) = M := ⟨_, rfl⟩
        rw [hM] at HZ hm0 hm1 ⊢
        clear hca hcb a3 b3 hka hkb hM
        by_cases hy : 0 < y
        · have HM : Hid (mostStep M (x, y) = min M (x / y)) := Lib.hid (by unfold mostStep; rw [if_pos hy])
          have hd0 : 0 ≤ x / y := Int.ediv_nonneg hx0 hy0
          have hd1 := Int.ediv_le_self y hx0
          go_wp2
          all_goals
            go_round
            case rel => exact ⟨k + 1, by omega, by go_num, by rw [HZ.out, HM.out]; congr 1; omega⟩
            case measure => simp [intOf]; omega
        · have HM : Hid (mostStep M (x, y) = M) := Lib.hid (by unfold mostStep; rw [if_neg hy])
          go_wp2
          go_round
          case rel => exact ⟨k + 1, by omega, by go_num, by rw [HZ.out, HM.out]⟩
          case measure => simp [intOf]; omega
      · have hke : k = N := by omega
        rw [List.take_of_length_le (by simp; rw [HN.out, HNb.out]; omega)]
        clear a3 b3
        go_wp2
        go_ret
        exact ⟨by rw [HA.out, HC.out]; rfl, rfl⟩
end Go.Proofs.Ytbcjikiakanncaa
