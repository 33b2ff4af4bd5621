/- package bag: Valid; the reference's Amounts and Same: contracts; Of leads back. -/
import Derived.Test.YtbcjikiakanncaaBa3
namespace Go.Proofs.Ytbcjikiakanncaa
open Go.RowKit
set_option linter.unusedVariables false

theorem amtsFrom_range : ∀ (l : List Int) (i : Nat), (∀ n ∈ l, 0 ≤ n ∧ n ≤ 1099511627776) → ∀ p ∈ amtsFrom i l, (i : Int) ≤ p.1 ∧ p.1 < ((i + l.length : Nat) : Int) ∧ 1 ≤ p.2 ∧ p.2 ≤ 1099511627776
  | [], i, _, p, hp => by simp [amtsFrom] at hp
  | n :: r, i, h, p, hp => by
    have hr := amtsFrom_range r (i + 1) (fun m hm => h m (by simp [hm]))
    have hn := h n (by simp)
    simp only [amtsFrom] at hp
    simp only [List.length_cons]
    split at hp
    · rcases List.mem_cons.1 hp with rfl | hp
      · refine ⟨?_, ?_, ?_, ?_⟩ <;> simp only <;> omega
      · have := hr p hp
        omega
    · have := hr p hp
      omega
theorem ofGo_amts : ∀ (r pre : List Int), (∀ n ∈ r, 0 ≤ n ∧ n ≤ 1099511627776) → ofGo (pre ++ List.replicate r.length 0) (amtsFrom pre.length r) = some (pre ++ r)
  | [], pre, _ => by simp [amtsFrom, ofGo]
  | n :: r, pre, h => by
    have hn := h n (by simp)
    have ih := ofGo_amts r (pre ++ [n]) (fun m hm => h m (by simp [hm]))
    simp only [List.length_append, List.length_cons, List.length_nil, List.append_assoc, List.cons_append, List.nil_append] at ih
    simp only [amtsFrom, List.length_cons, List.replicate_succ]
    split
    · rename_i h0
      rw [ofGo]
      have e1 : (pre ++ 0 :: List.replicate r.length 0).getD ((pre.length : Int)).toNat 0 = 0 := by simp [List.getD]
      rw [e1, if_neg (by omega), Int.zero_add]
      have e2 : (pre ++ 0 :: List.replicate r.length 0).set ((pre.length : Int)).toNat n = pre ++ n :: List.replicate r.length 0 := by simp
      rw [e2]
      exact ih
    · have hz : n = 0 := by omega
      subst hz
      exact ih
theorem sorted_cons {p : Amt} {l : List Amt} (h : ∀ q ∈ l, p.1 < q.1) (hl : sortedB l = true) : sortedB (p :: l) = true := by
  cases l with
  | nil => rfl
  | cons q r => rw [sortedB, hl, decide_eq_true (h q (by simp))]; rfl
theorem sorted_amts : ∀ (l : List Int) (i : Nat), (∀ n ∈ l, 0 ≤ n ∧ n ≤ 1099511627776) → sortedB (amtsFrom i l) = true
  | [], i, _ => rfl
  | n :: r, i, h => by
    have hr := sorted_amts r (i + 1) (fun m hm => h m (by simp [hm]))
    simp only [amtsFrom]
    split
    · refine sorted_cons (fun q hq => ?_) hr
      have := amtsFrom_range r (i + 1) (fun m hm => h m (by simp [hm])) q hq
      simp only; omega
    · exact hr
theorem proper_amts {b : List Int} (h : isB b = true) : properB b.length (amtsB b) = true := by
  obtain ⟨h1, h2⟩ := (isB_iff b).1 h
  unfold amtsB
  rw [if_pos h, properB_iff]
  refine ⟨fun p hp => ?_, by omega, by omega⟩
  have := amtsFrom_range b 0 h1 p hp
  omega
theorem of_amts {b : List Int} (h : isB b = true) : ofB b.length (amtsB b) = (b, 0) := by
  unfold ofB
  rw [proper_amts h, if_pos rfl]
  unfold amtsB
  rw [if_pos h]
  have := ofGo_amts b [] ((isB_iff b).1 h).1
  simp only [List.nil_append, List.length_nil] at this
  rw [Int.toNat_natCast, this]
theorem valid_amts {b : List Int} (h : isB b = true) : validB b.length (amtsB b) = true := by
  unfold validB
  rw [proper_amts h, Bool.and_true]
  unfold amtsB
  rw [if_pos h]
  exact sorted_amts b 0 ((isB_iff b).1 h).1

theorem sorted_iff : ∀ (l : List Amt), sortedB l = true ↔ ∀ i (h : i + 1 < l.length), (l[i]'(by omega)).1 < l[i + 1].1
  | [] => by simp [sortedB]
  | [p] => by simp [sortedB]
  | p :: q :: r => by
    rw [sortedB, Bool.and_eq_true, decide_eq_true_eq, sorted_iff (q :: r)]
    constructor
    · rintro ⟨h1, h2⟩ i hi
      cases i with
      | zero => exact h1
      | succ j => exact h2 j (by simpa using hi)
    · intro h
      exact ⟨h 0 (by simp), fun i hi => h (i + 1) (by simpa using hi)⟩
theorem sorted_bad {l : List Amt} {k : Nat} (h : k + 1 < l.length) (hb : ¬ (l[k]'(by omega)).1 < l[k + 1].1) : sortedB l = false := by
  rw [← Bool.not_eq_true, sorted_iff]
  exact fun hh => hb (hh k h)

set_option maxRecDepth 100000 in
set_option maxHeartbeats 2000000 in
theorem valid_any (n : Int) (v : Value) (l : List Amt) (w : World) (hn : inI64 n) (h : RdA w v l) (hl : AmtsOk l) :
    Calls Try.prog 32 #[.int .i64 n, v] w fun e w' => e = .returned (.bool (validB n l)) ∧ Ext w w' := by
  have hh := h
  have HV : Hid (validB n l = (sortedB l && properB n l)) := Lib.hid rfl
  obtain ⟨A, c, rfl, a1, a2, a3⟩ := h.form
  simp only [maxLen] at a2
  go_enter Try.func32, Try.ntmps32
  go_wp2
  go_loopw [5] (fun i wr => ∃ k m : Nat, Hid (m = k + 1) ∧ (k = 0 ∨ m ≤ l.length) ∧ i = .int .i64 m ∧ Hid (∀ i (h : i + 1 < l.length), i < k → (l[i]'(by omega)).1 < l[i + 1].1) ∧ Ext w wr) (fun i _ => l.length - (intOf i).toNat)
  case atStart => exact ⟨0, 1, Lib.hid rfl, .inl rfl, rfl, Lib.hid (fun _ _ h => absurd h (by omega)), Ext.refl _⟩
  case round =>
    obtain ⟨k, m, hm, hk, rfl, hp, hxr⟩ := hrel
    by_cases hlt : m < l.length
    · have hlt2 : k + 1 < l.length := by have := hm.out; omega
      have hk2 : k < l.length := by omega
      obtain ⟨b, off, rfl, hcx⟩ := a3 (by omega)
      obtain ⟨c1, c2⟩ := hcx wr hxr m hlt
      obtain ⟨d1, d2⟩ := hcx wr hxr k (by omega)
      have hw : IntKind.i64.wrap ((m : Int) - 1) = (k : Int) := by have := hm.out; rw [IntKind.wrap_i64] <;> omega
      have hbad : Hid (¬ l[k].1 < l[m].1 → sortedB l = false) := Lib.hid (fun h => by have := hm.out; subst this; exact sorted_bad hlt2 h)
      have hstep : Hid (l[k].1 < l[m].1 → ∀ i (h : i + 1 < l.length), i < k + 1 → (l[i]'(by omega)).1 < l[i + 1].1) := Lib.hid (fun h i hi hik => by
        have := hm.out; subst this
        by_cases he : i = k
        · subst he; exact h
        · exact hp.out i hi (by omega))
      generalize l[m].1 = x at *
      generalize l[k].1 = y at *
      have m0 : (0 : Int) ≤ m := by omega
      have k0 : (0 : Int) ≤ k := by omega
      clear hcx a3 c2 d2 hk hlt2
      by_cases hxy : y < x
      · have hst := Lib.hid (hstep.out hxy)
        have hle : ¬ (x ≤ y) := by omega
        clear hbad hstep
        go_wp2
        go_quiet (fail)
        go_wp2
        go_roundw
        case rel => exact ⟨k + 1, m + 1, Lib.hid (by have := hm.out; omega), .inr (by omega), by go_num, hst, by first | exact hxr.drew | exact hxr.drewN _⟩
        case measure => simp [intOf]; omega
      · have hle : x ≤ y := by omega
        have HB := Lib.hid (hbad.out hxy)
        clear hbad hstep
        go_wp2
        go_quiet (fail)
        go_wp2
        go_ret
        exact ⟨by rw [HV.out, HB.out]; rfl, by first | exact hxr.drew | exact hxr.drewN _⟩
    · have HS : Hid (sortedB l = true) := Lib.hid ((sorted_iff l).2 (fun i hi => by
        have := hm.out
        exact hp.out i hi (by rcases hk with hk | hk <;> omega)))
      have hge : ¬ ((m : Int) < l.length) := by omega
      clear a3
      go_wp2_with fail
      refine (proper_any n _ l _ hn (hh.ext hxr) hl).mono ?_
      rintro e w2 ⟨rfl, hx2⟩
      go_wp2
      go_ret
      exact ⟨ret_bool (by rw [HV.out, HS.out]; simp), hxr.trans hx2⟩

set_option maxRecDepth 100000 in
set_option maxHeartbeats 2000000 in
theorem sameA_any (v1 v2 : Value) (xs ys : List Amt) (w : World) (h1 : RdA w v1 xs) (h2 : RdA w v2 ys) :
    Calls Try.prog 35 #[v1, v2] w fun e w' => e = .returned (.bool (decide (xs = ys))) ∧ Ext w w' := by
  obtain ⟨A, c, rfl, a1, a2, a3⟩ := h1.form
  obtain ⟨B, d, rfl, b1, b2, b3⟩ := h2.form
  simp only [maxLen] at a2 b2
  by_cases hl : xs.length = ys.length
  · go_enter Try.func35, Try.ntmps35
    have hn : (xs.length : Int) = (ys.length : Int) := by omega
    go_wp2
    go_loopw [5] (fun i wr => ∃ k : Nat, k ≤ xs.length ∧ i = .int .i64 k ∧ Hid (xs.take k = ys.take k) ∧ Ext w wr) (fun i _ => xs.length - (intOf i).toNat)
    case atStart => exact ⟨0, Nat.zero_le _, rfl, Lib.hid rfl, Ext.refl _⟩
    case round =>
      obtain ⟨k, hk, rfl, hp, hxr⟩ := hrel
      by_cases hlt : k < xs.length
      · have hlt2 : k < ys.length := by omega
        obtain ⟨ab, off, rfl, hcx⟩ := a3 (by omega)
        obtain ⟨bb, off2, rfl, hcy⟩ := b3 (by omega)
        obtain ⟨c1, c2⟩ := hcx wr hxr k hlt
        obtain ⟨d1, d2⟩ := hcy wr hxr k hlt2
        have k0 : (0 : Int) ≤ k := by omega
        clear hcx hcy a3 b3
        have hne : (xs.length != ys.length) = false := by simp [hl]
        have hst : Hid (xs[k].1 = ys[k].1 → xs[k].2 = ys[k].2 → xs.take (k + 1) = ys.take (k + 1)) := Lib.hid (fun e1 e2 => by
          rw [List.take_succ_eq_append_getElem hlt, List.take_succ_eq_append_getElem hlt2, hp.out, Prod.ext e1 e2])
        have hdiff : Hid (xs = ys → xs[k].1 = ys[k].1 ∧ xs[k].2 = ys[k].2) := Lib.hid (fun e => by subst e; exact ⟨rfl, rfl⟩)
        generalize xs[k].1 = x1 at *
        generalize xs[k].2 = x2 at *
        generalize ys[k].1 = y1 at *
        generalize ys[k].2 = y2 at *
        clear hl hn hne
        by_cases he : x1 = y1
        · have HE : (x1 == y1) = true := by simp [he]
          by_cases he2 : x2 = y2
          · have HE2 : (x2 == y2) = true := by simp [he2]
            have HS := Lib.hid (hst.out he he2)
            clear he he2 hst hdiff
            go_wp2
            go_quiet (fail)
            go_wp2
            go_roundw
            case rel => exact ⟨k + 1, by omega, by go_num, HS, by first | exact hxr.drew | exact hxr.drewN _⟩
            case measure => simp [intOf]; omega
          · have HE2 : (x2 == y2) = false := by simp [he2]
            have HN : Hid (decide (xs = ys) = false) := Lib.hid (decide_eq_false (fun e => he2 (hdiff.out e).2))
            clear he he2 hst hdiff
            go_wp2
            go_quiet (fail)
            go_wp2
            go_ret
            exact ⟨by rw [HN.out]; rfl, by first | exact hxr.drew | exact hxr.drewN _⟩
        · have HE : (x1 == y1) = false := by simp [he]
          have HN : Hid (decide (xs = ys) = false) := Lib.hid (decide_eq_false (fun e => he (hdiff.out e).1))
          clear he hst hdiff
          go_wp2
          go_quiet (fail)
          go_wp2
          go_ret
          exact ⟨by rw [HN.out]; rfl, by first | exact hxr.drew | exact hxr.drewN _⟩
      · have HN : Hid (decide (xs = ys) = true) := Lib.hid (decide_eq_true (by
          have := hp.out
          rwa [List.take_of_length_le (by omega), List.take_of_length_le (by omega)] at this))
        clear hn a3 b3
        go_wp2
        go_ret
        exact ⟨by rw [HN.out]; rfl, hxr⟩
  · have hl' : ((xs.length : Int) != ys.length) = true := by simp; omega
    have HN : Hid (decide (xs = ys) = false) := Lib.hid (decide_eq_false (fun e => hl (by rw [e])))
    clear hl a3 b3
    go_enter Try.func35, Try.ntmps35
    go_wp2
    go_ret
    exact ⟨by rw [HN.out]; rfl, Ext.refl _⟩

set_option maxRecDepth 100000 in
set_option maxHeartbeats 2000000 in
theorem amountsR_any (v : Value) (b : List Int) (w : World) (h : Rd w v (vis b)) :
    Calls Try.prog 36 #[v] w fun e w' => ∃ v', e = .returned v' ∧ OwnA w' w.heap.size v' (amtsB b) ∧ Ext w w' := by
  have HA : Hid (amtsB b = if isB b then amtsFrom 0 b else []) := Lib.hid rfl
  have hh := h
  obtain ⟨A, c, rfl, _⟩ := h
  obtain ⟨_, a1, a2, a3⟩ := hh.at
  simp only [vis_len, maxLen] at *
  go_enter Try.func36, Try.ntmps36
  go_wp2_with fail
  refine (isR_any _ b _ hh).mono ?_
  rintro e w1 ⟨rfl, rfl⟩
  rcases hc : isB b with _ | _
  · have HC := Lib.hid hc
    clear hc a3
    go_wp2_with fail
    go_loopw [5, 3] (fun i o wr => i = .int .i64 0 ∧ o = .slice none 0 0 ∧ Ext w wr) (fun i _ _ => 0)
    case atStart => exact ⟨rfl, rfl, Ext.refl _⟩
    case round =>
      obtain ⟨rfl, rfl, hxr⟩ := hrel
      by_cases h0 : 0 < b.length
      · go_wp2
        go_ret
        rw [HA.out, HC.out]
        exact ⟨_, rfl, OwnA.nil _ _, hxr⟩
      · go_wp2
        go_ret
        rw [HA.out, HC.out]
        exact ⟨_, rfl, OwnA.nil _ _, hxr⟩
  · have HC := Lib.hid hc
    have hlen := isB_len hc
    clear hc hh
    go_wp2_with fail
    go_loopw [5, 3] (fun i o wr => ∃ k : Nat, k ≤ b.length ∧ i = .int .i64 k ∧ OwnA wr w.heap.size o (amtsFrom 0 (b.take k)) ∧ Ext w wr) (fun i _ _ => b.length - (intOf i).toNat)
    case atStart => exact ⟨0, by omega, rfl, OwnA.nil _ _, Ext.refl _⟩
    case round =>
      obtain ⟨k, hk, rfl, ho, hxr⟩ := hrel
      have hsz := hxr.size
      by_cases hlt : k < b.length
      · obtain ⟨bb, off, rfl, hcx⟩ := a3 (by omega)
        have c1 := hcx wr hxr k (.int .i64 b[k]) (by simp [vis, hlt])
        have hst := Lib.hid (amts_step hlt)
        have hal : (amtsFrom 0 (b.take k)).length ≤ 64 := by
          have := amtsFrom_len (b.take k) 0
          have h3 : (b.take k).length ≤ k := List.length_take_le _ _
          omega
        generalize b[k] = y at *
        clear hcx a3
        by_cases hy : 0 < y
        · rw [if_pos hy] at hst
          go_wp2_with (at_builtin; refine wpList_appA _ rfl (.tmp 22) (.tmp 29) rfl w.heap.size _ (amtsFrom 0 (b.take k)) rfl (ho.ext ((Ext.refl _).alloc _)) ⟨wr.heap.size, 0, none⟩ 1 1 [((k : Int), y)] rfl rfl (newsA wr _ rfl [((k : Int), y)] _) (by omega) (by simp; omega) ?_; intro v1 w1 ho1 hg1)
          have hxn : Ext w w1 := (hxr.alloc _).grown hg1 (fun k e => (ho.lt k e).1)
          rw [← hst.out] at ho1
          go_roundw
          case rel => exact ⟨k + 1, by omega, by go_num, ho1, hxn⟩
          case measure => simp [intOf]; omega
        · rw [if_neg hy, List.append_nil] at hst
          rw [← hst.out] at ho
          have HO := Lib.hid ho
          clear ho
          go_wp2
          go_roundw
          case rel => exact ⟨k + 1, by omega, by go_num, HO.out, hxr⟩
          case measure => simp [intOf]; omega
      · rw [List.take_of_length_le (by omega)] at ho
        clear a3
        go_wp2
        go_ret
        rw [HA.out, HC.out, if_pos rfl]
        exact ⟨_, rfl, ho, hxr⟩
end Go.Proofs.Ytbcjikiakanncaa
