/- the reference of package share: Sum, Weights: contracts. -/
import Derived.Test.YtbcjikiakanncaaBc1
import Derived.Test.YtbcjikiakanncaaSp1
namespace Go.Proofs.Ytbcjikiakanncaa
open Go.RowKit
set_option linter.unusedVariables false

theorem totS_take_succ' (ws : List Int) (k : Nat) (hk : k < ws.length) : totS (ws.take (k + 1)) = totS (ws.take k) + ws[k] := by
  rw [List.take_succ_eq_append_getElem hk, totS_snoc]
theorem sum3_any (v : Value) (l : List Int) (w : World) (h : Rd w v (vis l)) (hl : ∀ x ∈ l, 0 ≤ x ∧ x ≤ 1099511627776) (hn : l.length ≤ 100) :
    Calls Try.prog 49 #[v] w fun e w' => e = .returned (.int .i64 (totS l)) ∧ w = w' := by
  have hh := h
  obtain ⟨A, cp, rfl, _⟩ := h
  obtain ⟨_, a1, a2, a3⟩ := hh.at
  clear hh
  simp only [vis_len, maxLen] at *
  go_enter Try.func49, Try.ntmps49
  go_wp2_with fail
  go_loop [3, 4] (fun x3 x4 => ∃ k : Nat, k ≤ l.length ∧ x4 = .int .i64 k ∧ x3 = .int .i64 (totS (l.take k))) (fun _ x4 => l.length - (intOf x4).toNat)
  case atStart => exact ⟨0, by omega, rfl, rfl⟩
  case round =>
    obtain ⟨k, hk, rfl, rfl⟩ := hrel
    have s0 : 0 ≤ totS (l.take k) := totS_nonneg (fun x hx => (hl x (List.mem_of_mem_take hx)).1)
    have s1 : totS (l.take k) ≤ k * 1099511627776 := by
      have := totS_le (l := l.take k) (m := 1099511627776) (fun x hx => (hl x (List.mem_of_mem_take hx)).2)
      rw [List.length_take, Nat.min_eq_left hk] at this
      exact this
    by_cases hlt : k < l.length
    · obtain ⟨b, off, rfl, hcx⟩ := a3 (by omega)
      have c1 := hcx w (Ext.refl w) k (.int .i64 l[k]) (by simp [vis, hlt])
      have hts := Lib.hid (totS_take_succ' l k hlt)
      have hy := hl l[k] (by simp)
      obtain ⟨y0, y1⟩ := hy
      generalize l[k] = y at *
      generalize totS (l.take k) = s at *
      clear hcx a3 hl
      go_wp2_with fail
      go_round
      case rel => exact ⟨k + 1, by omega, by go_num, by rw [hts.out]⟩
      case measure => simp [intOf]; omega
    · rw [List.take_of_length_le (by omega)]
      clear hl a3
      go_wp2
      go_ret
      exact ⟨rfl, rfl⟩

/-- weights as the laws make them -/
structure WOk (ws : List Int) : Prop where
  amt : ∀ x ∈ ws, 0 ≤ x ∧ x ≤ 1099511627776
  pos : 0 < totS ws
  len : ws.length ≤ 7
theorem WOk.i64 {ws : List Int} (h : WOk ws) : ∀ x ∈ ws, inI64 x := fun x hx => by
  have := h.amt x hx
  unfold inI64; omega
theorem mem_snoc_amt {l : List Int} {x : Int} (h : ∀ n ∈ l, 0 ≤ n ∧ n ≤ 1099511627776) (hx : 0 ≤ x ∧ x ≤ 1099511627776) : ∀ n ∈ l ++ [x], 0 ≤ n ∧ n ≤ 1099511627776 := fun n hn => by
  rcases List.mem_append.1 hn with hn | hn
  · exact h n hn
  · simp only [List.mem_singleton] at hn; subst hn; exact hx

set_option maxRecDepth 100000 in
set_option maxHeartbeats 4000000 in
theorem weights_any (v : Value) (zs : List Int) (w : World) (h : Rd w v (vis zs)) (hz : ∀ z ∈ zs, inI64 z) :
    Calls Try.prog 14 #[v] w fun e w' => ∃ v' ws, e = .returned v' ∧ Own w' w.heap.size 3 v' (vis ws) ∧ WOk ws ∧ Ext w w' := by
  obtain ⟨i0, hi, hz0, hz1, hz2⟩ := info_parts info_int
  have hh := h
  obtain ⟨A, c, rfl, _⟩ := h
  obtain ⟨_, a1, a2, a3⟩ := hh.at
  clear hh
  simp only [vis_len, maxLen] at *
  go_enter Try.func14, Try.ntmps14
  go_wp2_with fail
  go_loopw [3, 4] (fun x3 x4 wr => ∃ k : Nat, ∃ os : List Int, k ≤ zs.length ∧ k ≤ 6 ∧ x4 = .int .i64 k ∧ os.length ≤ k ∧ Own wr w.heap.size 3 x3 (vis os) ∧ Ext w wr ∧ Hid (∀ x ∈ os, 0 ≤ x ∧ x ≤ 1099511627776)) (fun _ x4 _ => zs.length - (intOf x4).toNat)
  case atStart => exact ⟨0, [], by omega, by omega, rfl, by simp, Own.nil _ _ _, Ext.refl _, Lib.hid (by simp)⟩
  case round =>
    obtain ⟨k, os, hk, hk6, rfl, hol, ho, hxr, hP⟩ := hrel
    have hsz := hxr.size
    by_cases hin : k < zs.length ∧ k < 6
    · obtain ⟨h1, h2⟩ := hin
      obtain ⟨b, off, rfl, hcx⟩ := a3 (by omega)
      have c1 := hcx wr hxr k (.int .i64 zs[k]) (by simp [vis, h1])
      have hzi := hz zs[k] (by simp)
      have hr0 := Int.emod_nonneg zs[k] (show (1099511627777 : Int) ≠ 0 by omega)
      have hr1 := Int.emod_lt_of_pos zs[k] (show (0 : Int) < 1099511627777 by omega)
      have hd1 : decide (k < zs.length) = true := decide_eq_true h1
      have hd2 : decide ((k : Int) < 6) = true := decide_eq_true (by omega)
      generalize zs[k] = z at *
      clear hcx a3 hz
      go_wp2_with fail
      refine (around3_any z 1099511627777 _ hzi (by omega) (by omega)).mono ?_
      rintro e w1 ⟨rfl, rfl⟩
      generalize z % 1099511627777 = q at *
      by_cases hq : q % 3 = 0
      · have hq' : (q % 3 == 0) = true := by simp [hq]
        have HPN := Lib.hid (mem_snoc_amt (x := q / 3 % 5) hP.out (by omega))
        clear hq
        go_wp2_with (at_builtin; refine wpList_app _ rfl (.tmp 27) (.tmp 29) _ rfl w.heap.size 3 i0 _ 8 Try.underlying22 hi hz0 hz1 hz2 rfl (by omega) _ _ rfl (ho.ext ((Ext.refl _).alloc _)) (some ⟨wr.heap.size, 0, none⟩) 1 1 [.int .i64 (q / 3 % 5)] rfl (Src.one _ _ _) ?_ ?_ ?_ ?_; (simp [Value.oneCell']); (rw [vis_len]; omega); (simp; omega); intro v1 w1 ho1 hg1 _)
        have hon : Own w1 w.heap.size 3 v1 (vis (os ++ [q / 3 % 5])) := by rw [vis_app]; exact ho1
        have hxn := Ext.app hxr (Ext.refl w) ho hg1
        clear ho1
        go_roundw
        case rel => exact ⟨k + 1, os ++ [q / 3 % 5], by omega, by omega, by go_num, by simp; omega, hon, hxn, HPN⟩
        case measure => simp [intOf]; omega
      · have hq' : (q % 3 == 0) = false := by simp [hq]
        have HPN := Lib.hid (mem_snoc_amt (x := q) hP.out (by omega))
        clear hq
        go_wp2_with (at_builtin; refine wpList_app _ rfl (.tmp 27) (.tmp 29) _ rfl w.heap.size 3 i0 _ 8 Try.underlying22 hi hz0 hz1 hz2 rfl (by omega) _ _ rfl (ho.ext ((Ext.refl _).alloc _)) (some ⟨wr.heap.size, 0, none⟩) 1 1 [.int .i64 q] rfl (Src.one _ _ _) ?_ ?_ ?_ ?_; (simp [Value.oneCell']); (rw [vis_len]; omega); (simp; omega); intro v1 w1 ho1 hg1 _)
        have hon : Own w1 w.heap.size 3 v1 (vis (os ++ [q])) := by rw [vis_app]; exact ho1
        have hxn := Ext.app hxr (Ext.refl w) ho hg1
        clear ho1
        go_roundw
        case rel => exact ⟨k + 1, os ++ [q], by omega, by omega, by go_num, by simp; omega, hon, hxn, HPN⟩
        case measure => simp [intOf]; omega
    · have ho6 : os.length ≤ 6 := by omega
      have HOUT : Hid (∀ (Q : Prop), (k < zs.length → ¬ (k : Int) < 6 → Q) → (¬ k < zs.length → Q) → Q) := Lib.hid (fun Q h1 h2 => by
        by_cases h : k < zs.length
        · exact h1 h (by omega)
        · exact h2 h)
      clear a3 hz hk
      by_cases h1 : k < zs.length
      all_goals
        first
          | (have h6 : decide ((k : Int) < 6) = false := decide_eq_false (by omega)
             have h7 : decide (k < zs.length) = true := decide_eq_true h1)
          | (have h7 : decide (k < zs.length) = false := decide_eq_false h1)
        go_wp2_with fail
        refine (sum3_any _ os _ ho.rd hP.out (by omega)).mono ?_
        rintro e w1 ⟨rfl, rfl⟩
        by_cases hs : totS os = 0
        · have hs' : (totS os == 0) = true := by simp [hs]
          have HW : Hid (WOk (os ++ [1])) := Lib.hid ⟨mem_snoc_amt hP.out (by omega), by rw [totS_snoc]; omega, by simp; omega⟩
          clear hs
          go_wp2_with (at_builtin; refine wpList_app _ rfl (.tmp 34) (.tmp 35) _ rfl w.heap.size 3 i0 _ 8 Try.underlying22 hi hz0 hz1 hz2 rfl (by omega) _ _ rfl (ho.ext ((Ext.refl _).alloc _)) (some ⟨wr.heap.size, 0, none⟩) 1 1 [.int .i64 1] rfl (Src.one _ _ _) ?_ ?_ ?_ ?_; (simp [Value.oneCell']); (rw [vis_len]; omega); (simp; omega); intro v1 w1 ho1 hg1 _)
          have hon : Own w1 w.heap.size 3 v1 (vis (os ++ [1])) := by rw [vis_app]; exact ho1
          have hxn := Ext.app hxr (Ext.refl w) ho hg1
          clear ho1
          go_ret
          exact ⟨_, _, rfl, hon, HW.out, hxn⟩
        · have hs' : (totS os == 0) = false := by simp [hs]
          have HW : Hid (WOk os) := Lib.hid ⟨hP.out, by have := totS_nonneg (fun x hx => (hP.out x hx).1); omega, by omega⟩
          clear hs
          go_wp2_with fail
          go_ret
          exact ⟨_, _, rfl, ho, HW.out, hxr⟩
end Go.Proofs.Ytbcjikiakanncaa
