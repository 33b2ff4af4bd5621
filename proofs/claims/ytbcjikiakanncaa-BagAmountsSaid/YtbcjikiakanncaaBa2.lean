/- package bag: proper, Of, Amounts, Encode: contracts. -/
import Derived.Test.YtbcjikiakanncaaBa1
import Derived.Test.YtbcjikiakanncaaWo
namespace Go.Proofs.Ytbcjikiakanncaa
open Go.RowKit
set_option linter.unusedVariables false

def AmtsOk (l : List Amt) : Prop := ∀ p ∈ l, inI64 p.1 ∧ inI64 p.2

set_option maxRecDepth 100000 in
set_option maxHeartbeats 2000000 in
theorem proper_any (n : Int) (v : Value) (l : List Amt) (w : World) (hn : inI64 n) (h : RdA w v l) (hl : AmtsOk l) :
    Calls Try.prog 67 #[.int .i64 n, v] w fun e w' => e = .returned (.bool (properB n l)) ∧ Ext w w' := by
  obtain ⟨A, c, rfl, a1, a2, a3⟩ := h.form
  obtain ⟨hn1, hn2⟩ := hn
  simp only [maxLen] at a2
  go_enter Try.func67, Try.ntmps67
  go_wp2
  go_loopw [9] (fun i wr => ∃ k : Nat, k ≤ l.length ∧ i = .int .i64 k ∧ Hid (∀ p ∈ l.take k, okA n p = true) ∧ Ext w wr) (fun i _ => l.length - (intOf i).toNat)
  case atStart => exact ⟨0, Nat.zero_le _, rfl, Lib.hid (by simp), Ext.refl _⟩
  case round =>
    obtain ⟨k, hk, rfl, hp, hxr⟩ := hrel
    by_cases hlt : k < l.length
    · obtain ⟨b, off, rfl, hcx⟩ := a3 (by omega)
      obtain ⟨c1, c2⟩ := hcx wr hxr k hlt
      obtain ⟨⟨hi1, hi2⟩, ⟨hj1, hj2⟩⟩ := hl l[k] (by simp)
      have hstep := Lib.hid (fun h => okA_step hlt hp.out h)
      have hbad := Lib.hid (fun h => proper_bad (n := n) hlt (okA_not h))
      have HI := Lib.hid (okA_iff n l[k])
      generalize l[k].1 = x at *
      generalize l[k].2 = y at *
      clear hcx a3 hl
      have hcase : (x < 0) ∨ (0 ≤ x ∧ n ≤ x) ∨ (0 ≤ x ∧ x < n ∧ y < 1) ∨ (0 ≤ x ∧ x < n ∧ 1 ≤ y ∧ 1099511627776 < y) ∨ (0 ≤ x ∧ x < n ∧ 1 ≤ y ∧ y ≤ 1099511627776) := by omega
      rcases hcase with h1 | ⟨h1, h2⟩ | ⟨h1, h2, h3⟩ | ⟨h1, h2, h3, h4⟩ | ⟨h1, h2, h3, h4⟩
      · have HB := Lib.hid (hbad.out (by omega))
        go_wp2
        go_ret
        exact ⟨by rw [HB.out]; rfl, hxr.alloc _⟩
      · have HB := Lib.hid (hbad.out (by omega))
        go_wp2
        go_ret
        exact ⟨by rw [HB.out]; rfl, hxr.alloc _⟩
      · have HB := Lib.hid (hbad.out (by omega))
        go_wp2
        go_ret
        exact ⟨by rw [HB.out]; rfl, hxr.alloc _⟩
      · have HB := Lib.hid (hbad.out (by omega))
        go_wp2
        go_ret
        exact ⟨by rw [HB.out]; rfl, hxr.alloc _⟩
      · have HS := Lib.hid (hstep.out (HI.out.2 ⟨h1, h2, h3, h4⟩))
        go_wp2
        go_roundw
        case rel => exact ⟨k + 1, by omega, by go_num, HS, hxr.alloc _⟩
        case measure => simp [intOf]; omega
    · have HN : Hid (properB n l = (decide (0 ≤ n) && decide (n ≤ 64))) := Lib.hid (proper_end (by have := hp.out; rwa [List.take_of_length_le (by omega)] at this))
      clear a3 hl
      by_cases h0 : 0 ≤ n
      · go_wp2
        go_ret
        exact ⟨ret_bool (by rw [HN.out, decide_eq_true h0]; simp), hxr⟩
      · go_wp2
        go_ret
        exact ⟨ret_bool (by rw [HN.out, decide_eq_false (by omega : ¬ 0 ≤ n)]; simp), hxr⟩

theorem ofGo_step {O : List Int} {l : List Amt} {k : Nat} (hk : k < l.length) (x : Nat) (hx : l[k].1 = (x : Int)) (hxl : x < O.length) :
    ofGo O (l.drop k) = if 1099511627776 < O[x] + l[k].2 then none else ofGo (O.set x (O[x] + l[k].2)) (l.drop (k + 1)) := by
  rw [List.drop_eq_getElem_cons hk, ofGo, hx]
  have e : O.getD ((x : Int)).toNat 0 = O[x] := by
    rw [show ((x : Int)).toNat = x by omega, List.getD_eq_getElem?_getD, List.getElem?_eq_getElem hxl]; rfl
  rw [e, show ((x : Int)).toNat = x by omega]

set_option maxRecDepth 100000 in
set_option maxHeartbeats 4000000 in
theorem of_any (n : Int) (v : Value) (l : List Amt) (w : World) (hn : inI64 n) (h : RdA w v l) (hl : AmtsOk l) :
    Calls Try.prog 30 #[.int .i64 n, v] w fun e w' => ∃ v', e = .returned (.tuple #[v', .int .i64 (ofB n l).2]) ∧ Own w' w.heap.size 3 v' (vis (ofB n l).1) ∧ Ext w w' := by
  have HA : Hid (ofB n l = if properB n l then (match ofGo (List.replicate n.toNat 0) l with | some o => (o, (0 : Int)) | none => ([], 4)) else ([], 1)) := Lib.hid rfl
  obtain ⟨i0, hi, hz0, hz1, hz2⟩ := info_parts info_int
  obtain ⟨A, c, rfl, a1, a2, a3⟩ := h.form
  simp only [maxLen] at a2
  go_enter Try.func30, Try.ntmps30
  go_wp2_with fail
  refine (proper_any n _ l _ hn h hl).mono ?_
  rintro e w1 ⟨rfl, hx1⟩
  rcases hc : properB n l with _ | _
  · have HC := Lib.hid hc
    clear hc
    go_wp2
    go_ret2
    rw [HA.out, HC.out]
    exact ⟨_, rfl, Own.of_nil, hx1⟩
  · have HC := Lib.hid hc
    obtain ⟨hpr, hn0, hn64⟩ := (properB_iff n l).1 hc
    have HP := Lib.hid hpr
    clear hc hpr
    obtain ⟨N, hN⟩ : ∃ N : Nat, n = (N : Int) := ⟨n.toNat, by omega⟩
    subst hN
    have hs1 := hx1.size
    go_wp2_with (at_make; refine wpList_make_full _ rfl _ _ 22 rfl w1.heap.size 3 i0 (.int .i64 0) 1 Try.underlying22 hi hz0 hz1 .i64 .i64 _ _ N rfl rfl rfl rfl (by rw [hz2]; omega) (by unfold maxLen; omega) (Nat.le_refl _) ?_; intro w2 ho2 hg2; obtain ⟨hb2, hx2⟩ := made_blk ho2 hg2)
    have HO0 : Hid (ofGo (List.replicate N 0) (l.drop 0) = ofGo (List.replicate (N : Int).toNat 0) l) := Lib.hid (by rw [List.drop_zero]; rfl)
    clear ho2 hg2
    go_loopw [17] (fun i wr => ∃ k : Nat, ∃ O : List Int, k ≤ l.length ∧ i = .int .i64 k ∧ O.length = N ∧ Blk wr w1.heap.size 3 (vis O) ∧ Ext w1 wr ∧ Hid (∀ i (h : i < O.length), 0 ≤ O[i] ∧ O[i] ≤ 1099511627776) ∧ Hid (ofGo O (l.drop k) = ofGo (List.replicate (N : Int).toNat 0) l)) (fun i _ => l.length - (intOf i).toNat)
    case atStart => exact ⟨0, _, by omega, rfl, by simp, hb2, hx2, Lib.hid (by intro i h; simp), HO0⟩
    case round =>
      obtain ⟨k, O, hk, rfl, hON, hb, hxr, hP, hD⟩ := hrel
      have hszr := hb.lt
      by_cases hlt : k < l.length
      · obtain ⟨b, off, rfl, hcx⟩ := a3 (by omega)
        obtain ⟨c1, c2⟩ := hcx wr (hx1.trans hxr) k hlt
        obtain ⟨p1, p2, p3, p4⟩ := HP.out l[k] (by simp)
        obtain ⟨x, hx⟩ : ∃ x : Nat, l[k].1 = (x : Int) := ⟨l[k].1.toNat, by omega⟩
        have hxN : x < O.length := by omega
        have HD := Lib.hid (hD.out.symm.trans (ofGo_step hlt x hx hxN))
        obtain ⟨o1, o2⟩ := hP.out x hxN
        rw [hx] at c1 p1 p2
        have d1 := hb.cell x
        have f1 := hb.frozen x
        rw [show (vis O)[x]? = some (.int .i64 O[x]) by simp [vis, hxN]] at d1
        generalize l[k].2 = y at *
        have HON := Lib.hid hON
        have hxs : Hid (∀ z, 0 ≤ z → z ≤ 1099511627776 → ∀ i (h : i < (O.set x z).length), 0 ≤ (O.set x z)[i] ∧ (O.set x z)[i] ≤ 1099511627776) := Lib.hid (fun z h0 h1 i h => by
          rw [List.getElem_set]
          split
          · omega
          · exact hP.out i (by simpa using h))
        generalize O[x] = q at *
        have hxlt : x < N := by omega
        have hA : Ext wr (wr.alloc (.cells #[.int .i64 x, .int .i64 y] 75)) := (Ext.refl wr).alloc _
        have d1 := hA.cell d1
        have f1 := (hb.ext hA).frozen x
        have HBN := Lib.hid (fun z => (hb.set x (.int .i64 z)).ext (((Ext.refl _).alloc (.cells #[.int .i64 x, .int .i64 y] 75)).drew))
        have HXN := Lib.hid (fun z => ((hxr.setCell (show w1.heap.size ≤ (⟨w1.heap.size, x, none⟩ : Addr).block from Nat.le_refl _) (.int .i64 z)).alloc (.cells #[.int .i64 x, .int .i64 y] 75)).drew)
        have e0 : (0 : Int) ≤ (x : Int) := by omega
        have e1 : (x : Int) < (N : Int) := by omega
        clear hx hcx a3 hON hxN hP hD hl hb hA
        by_cases hbig : 1099511627776 < q + y
        · rw [if_pos hbig] at HD
          go_wp2_with fail
          go_region
          all_goals
            go_wp2
            go_ret2
            rw [HA.out, HC.out, if_pos rfl, HD.out]
            exact ⟨_, rfl, Own.of_nil, hx1.trans (HXN.out _)⟩
        · rw [if_neg hbig] at HD
          have HS := Lib.hid (hxs.out (q + y) (by omega) (by omega))
          have HL : Hid ((O.set x (q + y)).length = N) := Lib.hid (by rw [List.length_set]; exact HON.out)
          go_wp2_with fail
          go_region
          all_goals
            have hbn := HBN.out (q + y)
            rw [vis_set] at hbn
            have hxn := HXN.out (q + y)
            go_wp2
            go_roundw
            case rel => exact ⟨k + 1, _, by omega, by go_num, HL.out, hbn, hxn, HS, HD.out.symm⟩
            case measure => simp [intOf]; omega
      · have hke : l.drop k = [] := List.drop_eq_nil_of_le (by omega)
        rw [hke] at hD
        have HD := Lib.hid hD.out.symm
        have hown := Own.of_blk hb (Nat.le_refl _) (by rw [vis_len]; omega)
        rw [vis_len, hON] at hown
        have hown := hown.mono hs1
        clear a3 hl hke hD hb
        go_wp2
        go_ret2
        rw [HA.out, HC.out, if_pos rfl, HD.out]
        exact ⟨_, rfl, hown, hx1.trans hxr⟩
end Go.Proofs.Ytbcjikiakanncaa
