/- package bag: Amounts, Encode; bytesAre: contracts. -/
import Derived.Test.YtbcjikiakanncaaBa2
import Derived.Test.YtbcjikiakanncaaWk
namespace Go.Proofs.Ytbcjikiakanncaa
open Go.RowKit
set_option linter.unusedVariables false

theorem amts_step {b : List Int} {k : Nat} (hk : k < b.length) : amtsFrom 0 (b.take (k + 1)) = amtsFrom 0 (b.take k) ++ (if 0 < b[k] then [((k : Int), b[k])] else []) := by
  rw [List.take_succ_eq_append_getElem hk, amtsFrom_snoc, List.length_take, Nat.min_eq_left (by omega), Nat.zero_add]

set_option maxRecDepth 100000 in
set_option maxHeartbeats 2000000 in
theorem amounts_any (v : Value) (b : List Int) (w : World) (h : Rd w v (vis b)) :
    Calls Try.prog 34 #[v] w fun e w' => ∃ v', e = .returned v' ∧ OwnA w' w.heap.size v' (amtsB b) ∧ Ext w w' := by
  have HA : Hid (amtsB b = if isB b then amtsFrom 0 b else []) := Lib.hid rfl
  have hh := h
  obtain ⟨A, c, rfl, _⟩ := h
  obtain ⟨_, a1, a2, a3⟩ := hh.at
  simp only [vis_len, maxLen] at *
  go_enter Try.func34, Try.ntmps34
  go_wp2_with fail
  refine (is_any _ b _ hh).mono ?_
  rintro e w1 ⟨rfl, rfl⟩
  rcases hc : isB b with _ | _
  · have HC := Lib.hid hc
    clear hc
    go_wp2
    go_ret
    rw [HA.out, HC.out]
    exact ⟨_, rfl, OwnA.nil _ _, Ext.refl _⟩
  · have HC := Lib.hid hc
    have hlen := isB_len hc
    clear hc hh
    go_wp2_with fail
    go_loopw [11, 3] (fun i o wr => ∃ k : Nat, k ≤ b.length ∧ i = .int .i64 k ∧ OwnA wr w.heap.size o (amtsFrom 0 (b.take k)) ∧ Ext w wr) (fun i _ _ => b.length - (intOf i).toNat)
    case atStart => exact ⟨0, by omega, rfl, OwnA.nil _ _, Ext.refl _⟩
    case round =>
      obtain ⟨k, hk, rfl, ho, hxr⟩ := hrel
      have hsz := hxr.size
      by_cases hlt : k < b.length
      · obtain ⟨bb, off, rfl, hcx⟩ := a3 (by omega)
        have c1 := hcx wr hxr k (.int .i64 b[k]) (by simp [vis, hlt])
        have hst := Lib.hid (amts_step hlt)
        have hal : (amtsFrom 0 (b.take k)).length ≤ 64 := by
          have := amtsFrom_len (b.take k) 0
          have h3 : (b.take k).length ≤ k := List.length_take_le _ _
          omega
        generalize b[k] = y at *
        clear hcx a3
        by_cases hy : 0 < y
        · rw [if_pos hy] at hst
          go_wp2_with (at_builtin; refine wpList_appA _ rfl (.tmp 18) (.tmp 22) rfl w.heap.size _ (amtsFrom 0 (b.take k)) rfl (ho.ext ((Ext.refl _).alloc _)) ⟨wr.heap.size, 0, none⟩ 1 1 [((k : Int), y)] rfl rfl (newsA wr _ rfl [((k : Int), y)] _) (by omega) (by simp; omega) ?_; intro v1 w1 ho1 hg1)
          have hxn : Ext w w1 := (hxr.alloc _).grown hg1 (fun k e => (ho.lt k e).1)
          rw [← hst.out] at ho1
          go_roundw
          case rel => exact ⟨k + 1, by omega, by go_num, ho1, hxn⟩
          case measure => simp [intOf]; omega
        · rw [if_neg hy, List.append_nil] at hst
          rw [← hst.out] at ho
          have HO := Lib.hid ho
          clear ho
          go_wp2
          go_roundw
          case rel => exact ⟨k + 1, by omega, by go_num, HO.out, hxr⟩
          case measure => simp [intOf]; omega
      · rw [List.take_of_length_le (by omega)] at ho
        clear a3
        go_wp2
        go_ret
        rw [HA.out, HC.out, if_pos rfl]
        exact ⟨_, rfl, ho, hxr⟩

theorem pairsW_snoc {l : List Amt} {k : Nat} (hk : k < l.length) : pairsW (l.take (k + 1)) = (pairsW (l.take k) ++ uvar (zig l[k].1)) ++ uvar (zig l[k].2) := by
  rw [List.take_succ_eq_append_getElem hk]
  simp only [pairsW, List.flatMap_append, List.flatMap_cons, List.flatMap_nil, List.append_nil, List.append_assoc]
theorem pairsW_len : ∀ (l : List Amt), (∀ p ∈ l, inI64 p.1 ∧ inI64 p.2) → (pairsW l).length ≤ 20 * l.length
  | [], _ => by simp [pairsW]
  | p :: r, h => by
    have h1 := pairsW_len r (fun q hq => h q (by simp [hq]))
    have h2 := uvar_len10 _ (zig_range _ (h p (by simp)).1).2
    have h3 := uvar_len10 _ (zig_range _ (h p (by simp)).2).2
    show ((uvar (zig p.1) ++ uvar (zig p.2)) ++ pairsW r).length ≤ _
    simp; omega
theorem amtsFrom_ok : ∀ (l : List Int) (i : Nat), (∀ n ∈ l, inI64 n) → i + l.length ≤ 1000000 → ∀ p ∈ amtsFrom i l, inI64 p.1 ∧ inI64 p.2
  | [], i, _, _, p, hp => by simp [amtsFrom] at hp
  | n :: r, i, h, hl, p, hp => by
    simp only [List.length_cons] at hl
    have hr := amtsFrom_ok r (i + 1) (fun m hm => h m (by simp [hm])) (by omega)
    simp only [amtsFrom] at hp
    split at hp
    · rcases List.mem_cons.1 hp with rfl | hp
      · exact ⟨by unfold inI64; simp only; omega, h n (by simp)⟩
      · exact hr p hp
    · exact hr p hp
theorem amtsB_ok (b : List Int) : AmtsOk (amtsB b) := fun p hp => by
  unfold amtsB at hp
  split at hp
  · rename_i h
    exact amtsFrom_ok b 0 (i64_of_isB h) (by have := isB_len h; omega) p hp
  · simp at hp
theorem amtsB_len (b : List Int) : (amtsB b).length ≤ 64 := by
  unfold amtsB
  split
  · rename_i h
    have := amtsFrom_len b 0
    have := isB_len h
    omega
  · simp

theorem OwnA.keepT {w w' : World} {base : Nat} {v : Value} {l : List Amt} (h : OwnA w base v l) (hk : KeepT 75 w w') : OwnA w' base v l := by
  refine ⟨h.1, ?_⟩
  rcases h.2 with hn | ⟨g, cap, cur, rfl, hb, hg, rest⟩
  · exact .inl hn
  · exact .inr ⟨g, cap, cur, rfl, hb, (hk g cur _ hg).trans hg, rest⟩

set_option maxRecDepth 100000 in
set_option maxHeartbeats 4000000 in
theorem encodeB_any (v : Value) (b : List Int) (w : World) (h : Rd w v (vis b)) :
    Calls Try.prog 19 #[v] w fun e w' => ∃ v', e = .returned v' ∧ Own w' w.heap.size 5 v' (vbs (bagW b)) ∧ Ext w w' := by
  obtain ⟨l, hl⟩ : ∃ l, amtsB b = l := ⟨_, rfl⟩
  have HA : Hid (bagW b = if isB b then uvar (zig b.length) ++ (uvar (zig l.length) ++ pairsW l) else []) := Lib.hid (by rw [← hl]; rfl)
  have hh := h
  obtain ⟨A, c, rfl, _⟩ := h
  obtain ⟨_, a1, a2, a3⟩ := hh.at
  simp only [vis_len, maxLen] at *
  clear a3
  go_enter Try.func19, Try.ntmps19
  go_wp2_with fail
  refine (is_any _ b _ hh).mono ?_
  rintro e w1 ⟨rfl, rfl⟩
  rcases hc : isB b with _ | _
  · have HC := Lib.hid hc
    clear hc
    go_wp2
    go_ret
    rw [HA.out, HC.out]
    exact ⟨_, rfl, Own.nil _ _ _, Ext.refl _⟩
  · have HC := Lib.hid hc
    have hlen := isB_len hc
    clear hc
    have hx0 : ∀ o, Ext w (w.alloc o) := fun o => (Ext.refl w).alloc _
    go_wp2_with fail
    refine (amounts_any _ b _ (hh.ext (hx0 _))).mono ?_
    rintro e w1 ⟨v1, rfl, ho1, hx1⟩
    have hw1 := (WAt.new w).ext hx1
    have hra := ho1.rd
    have hxw : Ext w w1 := (hx0 _).trans hx1
    have hok := amtsB_ok b
    have hal := amtsB_len b
    have hln := uvar_len10 (zig b.length) (zig_range _ (by unfold inI64; omega)).2
    have hln2 := uvar_len10 (zig (amtsB b).length) (zig_range _ (by unfold inI64; omega)).2
    rw [hl] at ho1 hra hok hal hln2
    clear hl
    obtain ⟨AA, cc, rfl, q1, q2, q3⟩ := hra.form
    simp only [maxLen] at q2
    clear hx0 hx1 hh hra q3
    go_wp2_with fail
    refine (wintK_any 75 (by decide) (by decide) w.heap.size w.heap.size [] b.length _ (by unfold inI64; omega) hw1 (by simp)).mono ?_
    rintro e w2 ⟨rfl, hw2, hb2, hk2⟩
    rw [List.nil_append] at hw2
    have ho2 := ho1.keepT hk2
    go_wp2_with fail
    refine (wintK_any 75 (by decide) (by decide) w.heap.size w.heap.size _ l.length _ (by unfold inI64; omega) hw2 (by omega)).mono ?_
    rintro e w3 ⟨rfl, hw3, hb3, hk3⟩
    have ho3 := ho2.keepT hk3
    have hx3 : Ext w w3 := Below.trans (Below.trans hxw hb2) hb3
    have HD : Hid ((uvar (zig b.length) ++ uvar (zig l.length)) ++ pairsW l = uvar (zig b.length) ++ (uvar (zig l.length) ++ pairsW l)) := Lib.hid (List.append_assoc _ _ _)
    obtain ⟨hd, hdd⟩ : ∃ hd, uvar (zig b.length) ++ uvar (zig l.length) = hd := ⟨_, rfl⟩
    rw [hdd] at hw3 HD
    have hdl : hd.length ≤ 20 := by rw [← hdd]; simp; omega
    have hpl := pairsW_len
    clear hw1 hw2 ho1 ho2 hk2 hk3 hb2 hb3 hdd hpl
    go_wp2_with fail
    go_loopw [20] (fun i wr => ∃ k : Nat, k ≤ l.length ∧ i = .int .i64 k ∧ WAt wr w.heap.size w.heap.size (hd ++ pairsW (l.take k)) ∧ Ext w wr ∧ OwnA wr (w.heap.size + 1) (.slice AA l.length cc) l) (fun i _ => l.length - (intOf i).toNat)
    case atStart => exact ⟨0, by omega, rfl, by simpa [pairsW] using hw3, hx3, by have := ho3; simpa using this⟩
    case round =>
      obtain ⟨k, hk, rfl, hwk, hxr, hor⟩ := hrel
      by_cases hlt : k < l.length
      · obtain ⟨AA', cc', hv', -, -, q3⟩ := hor.rd.form
        injection hv' with e1 e2 e3
        subst e1 e3
        clear e2
        obtain ⟨ab, off, rfl, hcx⟩ := q3 (by omega)
        obtain ⟨c1, c2⟩ := hcx wr (Ext.refl _) k hlt
        obtain ⟨hi1, hi2⟩ := hok l[k] (by simp)
        have hst := Lib.hid (pairsW_snoc hlt)
        have hpl := pairsW_len (l.take k) (fun p hp => hok p (List.mem_of_mem_take hp))
        have hpl2 : (l.take k).length ≤ k := List.length_take_le _ _
        have hu1 := uvar_len10 _ (zig_range _ hi1).2
        have HOK := Lib.hid hok
        generalize l[k].1 = x at *
        generalize l[k].2 = y at *
        have hA : ∀ o, Ext wr (wr.alloc o) := fun o => (Ext.refl wr).alloc _
        have hcell : ∀ W, Ext (wr.alloc (.cells #[.int .i64 x, .int .i64 y] 75)) W → True := fun _ _ => trivial
        have i1 : (wr.alloc (.cells #[.int .i64 x, .int .i64 y] 75)).heap[wr.heap.size]? = some (Obj.cells #[.int .i64 x, .int .i64 y] 75 (0, 0)) := heap_alloc_new wr _
        have I1 := Lib.hid i1
        clear hcell i1 hcx q3 hok
        go_wp2_with fail
        refine (wintK_any 75 (by decide) (by decide) w.heap.size w.heap.size _ x _ hi1 (hwk.ext (hA _)) (by simp; omega)).mono ?_
        rintro e w4 ⟨rfl, hw4, hb4, hk4⟩
        have d2 : w4.cell? ⟨wr.heap.size, 1, none⟩ = some (.int .i64 y) := (World.cell?_of_block (hk4 wr.heap.size _ _ I1.out)).trans (by go_simp)
        have ho4 := (hor.ext (hA (.cells #[.int .i64 x, .int .i64 y] 75))).keepT hk4
        go_wp2_with fail
        refine (wintK_any 75 (by decide) (by decide) w.heap.size w.heap.size _ y _ hi2 hw4 (by simp; omega)).mono ?_
        rintro e w5 ⟨rfl, hw5, hb5, hk5⟩
        have ho5 := ho4.keepT hk5
        have hx5 : Ext w w5 := Below.trans (Below.trans (hxr.trans (hA _)) hb4) hb5
        rw [List.append_assoc, List.append_assoc, ← List.append_assoc (pairsW _), ← hst.out] at hw5
        clear hw4 hwk ho4 hor c1 c2 d2 hb4 hb5 hk4 hk5 hA
        go_wp2
        go_roundw
        case rel => exact ⟨k + 1, by omega, by go_num, hw5, hx5, ho5⟩
        case measure => simp [intOf]; omega
      · rw [List.take_of_length_le (by omega), HD.out] at hwk
        have hpl := pairsW_len l hok
        have hszr := hxr.size
        clear hok
        go_wp2_with fail
        refine (wdone_any _ _ _ _ hwk (by simp; omega)).mono ?_
        rintro e w6 ⟨v6, rfl, ho6, hx6⟩
        go_wp2
        go_ret
        rw [HA.out, HC.out, if_pos rfl]
        exact ⟨_, rfl, ho6.mono hszr, hxr.trans hx6⟩
end Go.Proofs.Ytbcjikiakanncaa
