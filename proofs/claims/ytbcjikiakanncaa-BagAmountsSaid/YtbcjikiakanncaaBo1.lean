/- package bag: the reference's Proper and Sorted: contracts. -/
import Derived.Test.YtbcjikiakanncaaBa4
import Derived.Test.YtbcjikiakanncaaBz
namespace Go.Proofs.Ytbcjikiakanncaa
open Go.RowKit
set_option linter.unusedVariables false

set_option maxRecDepth 100000 in
set_option maxHeartbeats 2000000 in
theorem properR_any (n : Int) (v : Value) (l : List Amt) (w : World) (hn : inI64 n) (h : RdA w v l) (hl : AmtsOk l) :
    Calls Try.prog 68 #[.int .i64 n, v] w fun e w' => e = .returned (.bool (properB n l)) ∧ Ext w w' := by
  obtain ⟨A, c, rfl, a1, a2, a3⟩ := h.form
  obtain ⟨hn1, hn2⟩ := hn
  simp only [maxLen] at a2
  go_enter Try.func68, Try.ntmps68
  go_wp2
  go_loopw [5] (fun i wr => ∃ k : Nat, k ≤ l.length ∧ i = .int .i64 k ∧ Hid (∀ p ∈ l.take k, okA n p = true) ∧ Ext w wr) (fun i _ => l.length - (intOf i).toNat)
  case atStart => exact ⟨0, Nat.zero_le _, rfl, Lib.hid (by simp), Ext.refl _⟩
  case round =>
    obtain ⟨k, hk, rfl, hp, hxr⟩ := hrel
    by_cases hlt : k < l.length
    · obtain ⟨b, off, rfl, hcx⟩ := a3 (by omega)
      obtain ⟨c1, c2⟩ := hcx wr hxr k hlt
      obtain ⟨⟨hi1, hi2⟩, ⟨hj1, hj2⟩⟩ := hl l[k] (by simp)
      have hstep := Lib.hid (fun h => okA_step hlt hp.out h)
      have hbad := Lib.hid (fun h => proper_bad (n := n) hlt (okA_not h))
      have HI := Lib.hid (okA_iff n l[k])
      generalize l[k].1 = x at *
      generalize l[k].2 = y at *
      have k0 : (0 : Int) ≤ k := by omega
      clear hcx a3 hl
      have hcase : (x < 0) ∨ (0 ≤ x ∧ n ≤ x) ∨ (0 ≤ x ∧ x < n ∧ y < 1) ∨ (0 ≤ x ∧ x < n ∧ 1 ≤ y ∧ 1099511627776 < y) ∨ (0 ≤ x ∧ x < n ∧ 1 ≤ y ∧ y ≤ 1099511627776) := by omega
      rcases hcase with h1 | ⟨h1, h2⟩ | ⟨h1, h2, h3⟩ | ⟨h1, h2, h3, h4⟩ | ⟨h1, h2, h3, h4⟩
      · have HB := Lib.hid (hbad.out (by omega))
        go_wp2
        go_ret
        exact ⟨by rw [HB.out]; rfl, hxr⟩
      · have HB := Lib.hid (hbad.out (by omega))
        go_wp2
        go_ret
        exact ⟨by rw [HB.out]; rfl, hxr⟩
      · have HB := Lib.hid (hbad.out (by omega))
        go_wp2
        go_ret
        exact ⟨by rw [HB.out]; rfl, hxr⟩
      · have HB := Lib.hid (hbad.out (by omega))
        go_wp2
        go_ret
        exact ⟨by rw [HB.out]; rfl, hxr⟩
      · have HS := Lib.hid (hstep.out (HI.out.2 ⟨h1, h2, h3, h4⟩))
        go_wp2
        go_roundw
        case rel => exact ⟨k + 1, by omega, by go_num, HS, hxr⟩
        case measure => simp [intOf]; omega
    · have HN : Hid (properB n l = (decide (0 ≤ n) && decide (n ≤ 64))) := Lib.hid (proper_end (by have := hp.out; rwa [List.take_of_length_le (by omega)] at this))
      clear a3 hl
      by_cases h0 : 0 ≤ n
      · go_wp2
        go_ret
        exact ⟨ret_bool (by rw [HN.out, decide_eq_true h0]; simp), hxr⟩
      · go_wp2
        go_ret
        exact ⟨ret_bool (by rw [HN.out, decide_eq_false (by omega : ¬ 0 ≤ n)]; simp), hxr⟩

theorem sorted_take1 (l : List Amt) : sortedB (l.take 1) = true := by
  match l with
  | [] => rfl
  | [_] => rfl
  | _ :: _ :: _ => rfl
theorem sorted_take {l : List Amt} {k m : Nat} (hm : m = k + 1) (h : m < l.length) : sortedB (l.take (m + 1)) = (sortedB (l.take m) && decide ((l[k]'(by omega)).1 < l[m].1)) := by
  subst hm
  rw [Bool.eq_iff_iff, Bool.and_eq_true, decide_eq_true_eq, sorted_iff, sorted_iff]
  simp only [List.length_take, List.getElem_take]
  constructor
  · intro hh
    exact ⟨fun i hi => hh i (by omega), hh k (by omega)⟩
  · rintro ⟨h1, h2⟩ i hi
    by_cases he : i = k
    · subst he; exact h2
    · exact h1 i (by omega)

set_option maxRecDepth 100000 in
set_option maxHeartbeats 2000000 in
theorem sortedR_any (n : Int) (v : Value) (l : List Amt) (w : World) (hn : inI64 n) (h : RdA w v l) (hl : AmtsOk l) :
    Calls Try.prog 33 #[.int .i64 n, v] w fun e w' => e = .returned (.bool (validB n l)) ∧ Ext w w' := by
  have hh := h
  obtain ⟨A, c, rfl, a1, a2, a3⟩ := h.form
  simp only [maxLen] at a2
  go_enter Try.func33, Try.ntmps33
  go_wp2_with fail
  refine (properR_any n _ l _ hn hh hl).mono ?_
  rintro e w1 ⟨rfl, hx1⟩
  have HV : Hid (validB n l = (properB n l && sortedB l)) := Lib.hid (by rw [validB, Bool.and_comm])
  generalize properB n l = pb at *
  have HZ : Hid (pb = (pb && sortedB (l.take 1))) := Lib.hid (by rw [sorted_take1]; simp)
  clear hh hl
  go_wp2_with fail
  go_loopw [6, 5] (fun i t wr => ∃ k m : Nat, ∃ b : Bool, Hid (m = k + 1) ∧ (k = 0 ∨ m ≤ l.length) ∧ i = .int .i64 m ∧ t = .bool b ∧ Hid (b = (pb && sortedB (l.take m))) ∧ Ext w wr) (fun i _ _ => l.length - (intOf i).toNat)
  case atStart => exact ⟨0, 1, pb, Lib.hid rfl, .inl rfl, rfl, rfl, HZ, hx1⟩
  case round =>
    obtain ⟨k, m, b, hm, hk, rfl, rfl, hp, hxr⟩ := hrel
    by_cases hlt : m < l.length
    · have hk2 : k < l.length := by have := hm.out; omega
      obtain ⟨bb, off, rfl, hcx⟩ := a3 (by omega)
      obtain ⟨c1, c2⟩ := hcx wr hxr m hlt
      obtain ⟨d1, d2⟩ := hcx wr hxr k (by omega)
      have hw : IntKind.i64.wrap ((m : Int) - 1) = (k : Int) := by have := hm.out; rw [IntKind.wrap_i64] <;> omega
      have hst := Lib.hid (sorted_take (l := l) hm.out hlt)
      generalize l[m].1 = x at *
      generalize l[k].1 = y at *
      have m0 : (0 : Int) ≤ m := by omega
      have k0 : (0 : Int) ≤ k := by omega
      have hlt2 : (m : Int) < (l.length : Int) := by omega
      have hk3 : (k : Int) < (l.length : Int) := by omega
      clear hcx a3 c2 d2 hk
      cases b with
      | false =>
        have HN : Hid (false = (pb && sortedB (l.take (m + 1)))) := Lib.hid (by rw [hst.out, ← Bool.and_assoc, ← hp.out]; rfl)
        clear hst hp
        go_wp2
        go_quiet (fail)
        go_wp2
        go_roundw
        case rel => exact ⟨k + 1, m + 1, false, Lib.hid (by have := hm.out; omega), .inr (by omega), by go_num, rfl, HN, by first | exact hxr.drew | exact hxr.drewN _⟩
        case measure => simp [intOf]; omega
      | true =>
        have HN : Hid (decide (y < x) = (pb && sortedB (l.take (m + 1)))) := Lib.hid (by rw [hst.out, ← Bool.and_assoc, ← hp.out]; rfl)
        clear hst hp
        go_wp2
        go_quiet (fail)
        go_wp2
        go_roundw
        case rel => exact ⟨k + 1, m + 1, decide (y < x), Lib.hid (by have := hm.out; omega), .inr (by omega), by go_num, rfl, HN, by first | exact hxr.drew | exact hxr.drewN _⟩
        case measure => simp [intOf]; omega
    · have hge : ¬ ((m : Int) < l.length) := by omega
      have HS : Hid (b = validB n l) := Lib.hid (by rw [HV.out, hp.out, List.take_of_length_le (by omega)])
      clear a3
      go_wp2
      go_ret
      exact ⟨by rw [HS.out]; rfl, hxr⟩
end Go.Proofs.Ytbcjikiakanncaa
