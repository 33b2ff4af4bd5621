/- the reference of package bag: Add, Sub, Times, Join, Meet. -/
import Derived.Test.YtbcjikiakanncaaBc3
import Derived.Deep.RegionHeld3
import Derived.Deep.AppendLies
namespace Go.Proofs.Ytbcjikiakanncaa
open Go.RowKit
set_option linter.unusedVariables false

theorem own_snoci {w : World} {base : Nat} {e : TypeId} {v : Value} {bs : List Int} {X : Int} (h : w.ownsRow base e 1 v ((vis bs).length + 1) (vis bs ++ [.int .i64 X])) : Own w base e v (vis (bs ++ [X])) := by
  unfold Own
  rw [vis_app, List.length_append]
  exact h
theorem zw_take (f : Int → Int → Int) (a b : List Int) (k : Nat) (ha : k < a.length) (hb : k < b.length) : (List.zipWith f a b).take k ++ [f a[k] b[k]] = (List.zipWith f a b).take (k + 1) := by
  have hz : k < (List.zipWith f a b).length := by simp; omega
  rw [List.take_succ_eq_append_getElem hz]; simp

set_option maxRecDepth 100000 in
set_option maxHeartbeats 2000000 in
theorem addR_any (v1 v2 : Value) (a b : List Int) (w : World) (h1 : Rd w v1 (vis a)) (h2 : Rd w v2 (vis b)) :
    Calls Try.prog 42 #[v1, v2] w fun e w' => ∃ v, e = .returned (.tuple #[v, .int .i64 (addB a b).2]) ∧ Own w' w.heap.size 3 v (vis (addB a b).1) ∧ Ext w w' := by
  have HA : Hid (addB a b = if fitB a b then (if isB (List.zipWith (· + ·) a b) then (List.zipWith (· + ·) a b, 0) else ([], 4)) else ([], 1)) := Lib.hid rfl
  obtain ⟨i0, hi, hz0, hz1, hz2⟩ := info_parts info_int
  have hh1 := h1
  have hh2 := h2
  obtain ⟨A, c, rfl, _⟩ := h1
  obtain ⟨B, d, rfl, _⟩ := h2
  obtain ⟨_, a1, a2, a3⟩ := hh1.at
  obtain ⟨_, b1, b2, b3⟩ := hh2.at
  simp only [vis_len, maxLen] at *
  go_enter Try.func42, Try.ntmps42
  go_wp2_with fail
  refine (fitR_any _ _ a b _ hh1 hh2).mono ?_
  rintro e w1 ⟨rfl, rfl⟩
  rcases hc : fitB a b with _ | _
  · have HC := Lib.hid hc
    clear hc
    go_wp2
    go_ret2
    rw [HA.out, HC.out]
    exact ⟨_, rfl, Own.of_nil, Ext.refl _⟩
  · have HC := Lib.hid hc
    obtain ⟨ha, hb, hl⟩ := (fitB_iff a b).1 hc
    have hiff := isB_zw_add a b hc
    have hla := isB_len ha
    clear hc
    obtain ⟨N, hN⟩ : ∃ N, a.length = N := ⟨_, rfl⟩
    have hNb : b.length = N := by omega
    rw [hN] at a1 a3 hla ⊢
    rw [hNb] at b1 b3 ⊢
    have HN := Lib.hid hN
    have HNb := Lib.hid hNb
    have HL := Lib.hid hl
    have HI := Lib.hid hiff
    have HAB := Lib.hid (And.intro ha hb)
    clear hN hNb hl hiff ha hb hh1 hh2
    go_wp2_with fail
    go_loopw [8, 7] (fun i o wr => ∃ k : Nat, k ≤ N ∧ i = .int .i64 k ∧ Own wr w.heap.size 3 o (vis ((List.zipWith (· + ·) a b).take k)) ∧ Ext w wr ∧ Hid (∀ i (h1 : i < a.length) (h2 : i < b.length), i < k → a[i] + b[i] ≤ 1099511627776)) (fun i _ _ => N - (intOf i).toNat)
    case atStart => exact ⟨0, by omega, rfl, Own.of_nil, Ext.refl _, Lib.hid (fun i _ _ h => by omega)⟩
    case round =>
      obtain ⟨k, hk, rfl, ho, hxr, hP⟩ := hrel
      by_cases hlt : k < N
      · have hka : k < a.length := by rw [HN.out]; exact hlt
        have hkb : k < b.length := by rw [HNb.out]; exact hlt
        obtain ⟨ba, oa, rfl, hca⟩ := a3 (by omega)
        obtain ⟨bb, ob, rfl, hcb⟩ := b3 (by omega)
        have ca0 := hca w (Ext.refl _) k (.int .i64 a[k]) (by simp [vis, hka])
        have cb0 := hcb w (Ext.refl _) k (.int .i64 b[k]) (by simp [vis, hkb])
        have hla0 := World.block_lt_of_cell? w _ ca0
        have hlb0 := World.block_lt_of_cell? w _ cb0
        simp only at hla0 hlb0
        have ca := hxr.cell ca0
        have cb := hxr.cell cb0
        obtain ⟨hx0, hx1⟩ := isB_get HAB.out.1 k hka
        obtain ⟨hy0, hy1⟩ := isB_get HAB.out.2 k hkb
        have hZ := Lib.hid (zw_take (· + ·) a b k hka hkb)
        have hbad : Hid (1099511627776 < a[k] + b[k] → isB (List.zipWith (· + ·) a b) = false) := Lib.hid (fun h => by
          rw [← Bool.not_eq_true, HI.out]
          intro hall
          have := hall k hka hkb
          omega)
        have hstep : Hid (¬ (1099511627776 < a[k] + b[k]) → ∀ i (h1 : i < a.length) (h2 : i < b.length), i < k + 1 → a[i] + b[i] ≤ 1099511627776) := Lib.hid (fun h i h1 h2 hi => by
          by_cases hik : i = k
          · subst hik; omega
          · exact hP.out i h1 h2 (by omega))
        generalize a[k] = x at *
        generalize b[k] = y at *
        have hk0 : (0 : Int) ≤ (k : Int) := by omega
        have hk1 : (k : Int) < (N : Int) := by omega
        have hsz := hxr.size
        have hne1 : u7.ownBlock ≠ some ba := fun e => by have := (ho.lt _ e).1; omega
        have hne2 : u7.ownBlock ≠ some bb := fun e => by have := (ho.lt _ e).1; omega
        have HO := Lib.hid ho
        have hbl : (vis ((List.zipWith (· + ·) a b).take k)).length ≤ 64 := by rw [vis_len]; simp; omega
        have hob : wr.ownsRow w.heap.size 3 1 u7 (vis ((List.zipWith (· + ·) a b).take k)).length (vis ((List.zipWith (· + ·) a b).take k)) := ho
        clear hca hcb a3 b3 ca0 cb0 ho hka hkb hP
        have hw : IntKind.i64.wrap (x + y) = x + y := by rw [IntKind.wrap_i64]; omega
        by_cases hb : 1099511627776 < x + y
        · have HF := Lib.hid (hbad.out hb)
          go_wp2_with fail
          go_quiet (fail)
          go_wp2_with fail
          go_ret2
          rw [HA.out, HC.out, if_pos rfl, HF.out]
          exact ⟨_, rfl, Own.of_nil, hxr.drewN _⟩
        · have HS := Lib.hid (hstep.out hb)
          go_wp2_with fail
          go_quiet (fail)
          go_wp2_with fail
          have hq : Ext wr (wr.drewN nq) := (Ext.refl wr).drewN nq
          have ca := hq.cell ca
          have cb := hq.cell cb
          have hob := (show Own wr w.heap.size 3 u7 (vis ((List.zipWith (· + ·) a b).take k)) from hob).ext hq
          have hob : (wr.drewN nq).ownsRow w.heap.size 3 1 u7 (vis ((List.zipWith (· + ·) a b).take k)).length (vis ((List.zipWith (· + ·) a b).take k)) := hob
          have hxq := hxr.trans hq
          have hszq := hxq.size
          generalize wr.drewN nq = wq at *
          have cA : ∀ o, (wq.alloc o).drew.cell? ⟨ba, oa + k, none⟩ = some (.int .i64 x) := fun o => (((Ext.refl wq).alloc o).drew).cell ca
          have cB : ∀ o, (wq.alloc o).drew.cell? ⟨bb, ob + k, none⟩ = some (.int .i64 y) := fun o => (((Ext.refl wq).alloc o).drew).cell cb
          go_region_held3 (fun w' => w'.cell? ⟨ba, oa + k, none⟩ = some (.int .i64 x) ∧ w'.cell? ⟨bb, ob + k, none⟩ = some (.int .i64 y))
            (first
              | go_keep
              | (go_split_ands
                 exact ⟨(hgrow.cell_far _ (by simp; omega) (Ne.symm hne1)).trans (cA _), (hgrow.cell_far _ (by simp; omega) (Ne.symm hne2)).trans (cB _)⟩))
            ((refine step_append_lies _ (by rfl) (.tmp 30) _ _ (by rfl) w.heap.size 3 i0 _ 1 8 Try.underlying22 hi hz0 hz1 hz2 rfl (by omega) u7 (vis ((List.zipWith (· + ·) a b).take k)).length (vis ((List.zipWith (· + ·) a b).take k)) (by rfl) ((World.ownsRow.alloc hob _).drew) ⟨wq.heap.size, 0, none⟩ 1 1 [.int .i64 (x + y)] (by rfl) (by rfl) (World.news_of_block (cs := #[.int .i64 (x + y)]) (t := 3) (fr := (0, 0)) (heap_alloc_new wq _)) (by simp [Value.oneCell']) (by omega) (by simp only [maxLen]; omega) (by omega) (by simp; omega) (wq.heap.size + 1) (by simp) ?_; intro gg cap w1 hown1 hgrow hat hlt1))
          have hon := own_snoci hown1
          rw [show (x + y) = (· + ·) x y from rfl, hZ.out] at hon
          have hxn : Ext w w1 := ((hxq.alloc _).drew).grown hgrow (fun k e => by have := (HO.out.lt k e).1; omega)
          clear hw ca cb cA cB hob
          go_wp2
          go_roundw
          case rel => exact ⟨k + 1, by omega, by go_num, hon, hxn, HS⟩
          case measure => simp [intOf]; omega
      · have hke : k = N := by omega
        have HT : Hid (isB (List.zipWith (· + ·) a b) = true) := Lib.hid (HI.out.2 (fun i h1 h2 => hP.out i h1 h2 (by rw [HN.out] at h1; omega)))
        rw [List.take_of_length_le (by rw [zw_len (· + ·) a b HL.out, HN.out]; omega)] at ho
        clear a3 b3
        go_wp2
        go_ret2
        rw [HA.out, HC.out, if_pos rfl, HT.out]
        exact ⟨_, rfl, ho, hxr⟩

set_option maxRecDepth 100000 in
set_option maxHeartbeats 2000000 in
theorem subR_any (v1 v2 : Value) (a b : List Int) (w : World) (h1 : Rd w v1 (vis a)) (h2 : Rd w v2 (vis b)) :
    Calls Try.prog 43 #[v1, v2] w fun e w' => ∃ v, e = .returned (.tuple #[v, .int .i64 (subB a b).2]) ∧ Own w' w.heap.size 3 v (vis (subB a b).1) ∧ Ext w w' := by
  have HA : Hid (subB a b = if fitB a b then (if isB (List.zipWith (· - ·) a b) then (List.zipWith (· - ·) a b, 0) else ([], 10)) else ([], 1)) := Lib.hid rfl
  obtain ⟨i0, hi, hz0, hz1, hz2⟩ := info_parts info_int
  have hh1 := h1
  have hh2 := h2
  obtain ⟨A, c, rfl, _⟩ := h1
  obtain ⟨B, d, rfl, _⟩ := h2
  obtain ⟨_, a1, a2, a3⟩ := hh1.at
  obtain ⟨_, b1, b2, b3⟩ := hh2.at
  simp only [vis_len, maxLen] at *
  go_enter Try.func43, Try.ntmps43
  go_wp2_with fail
  refine (fitR_any _ _ a b _ hh1 hh2).mono ?_
  rintro e w1 ⟨rfl, rfl⟩
  rcases hc : fitB a b with _ | _
  · have HC := Lib.hid hc
    clear hc
    go_wp2
    go_ret2
    rw [HA.out, HC.out]
    exact ⟨_, rfl, Own.of_nil, Ext.refl _⟩
  · have HC := Lib.hid hc
    obtain ⟨ha, hb, hl⟩ := (fitB_iff a b).1 hc
    have hiff := isB_zw_sub a b hc
    have hla := isB_len ha
    clear hc
    obtain ⟨N, hN⟩ : ∃ N, a.length = N := ⟨_, rfl⟩
    have hNb : b.length = N := by omega
    rw [hN] at a1 a3 hla ⊢
    rw [hNb] at b1 b3 ⊢
    have HN := Lib.hid hN
    have HNb := Lib.hid hNb
    have HL := Lib.hid hl
    have HI := Lib.hid hiff
    have HAB := Lib.hid (And.intro ha hb)
    clear hN hNb hl hiff ha hb hh1 hh2
    go_wp2_with fail
    go_loopw [8, 7] (fun i o wr => ∃ k : Nat, k ≤ N ∧ i = .int .i64 k ∧ Own wr w.heap.size 3 o (vis ((List.zipWith (· - ·) a b).take k)) ∧ Ext w wr ∧ Hid (∀ i (h1 : i < a.length) (h2 : i < b.length), i < k → b[i] ≤ a[i])) (fun i _ _ => N - (intOf i).toNat)
    case atStart => exact ⟨0, by omega, rfl, Own.of_nil, Ext.refl _, Lib.hid (fun i _ _ h => by omega)⟩
    case round =>
      obtain ⟨k, hk, rfl, ho, hxr, hP⟩ := hrel
      by_cases hlt : k < N
      · have hka : k < a.length := by rw [HN.out]; exact hlt
        have hkb : k < b.length := by rw [HNb.out]; exact hlt
        obtain ⟨ba, oa, rfl, hca⟩ := a3 (by omega)
        obtain ⟨bb, ob, rfl, hcb⟩ := b3 (by omega)
        have ca0 := hca w (Ext.refl _) k (.int .i64 a[k]) (by simp [vis, hka])
        have cb0 := hcb w (Ext.refl _) k (.int .i64 b[k]) (by simp [vis, hkb])
        have hla0 := World.block_lt_of_cell? w _ ca0
        have hlb0 := World.block_lt_of_cell? w _ cb0
        simp only at hla0 hlb0
        have ca := hxr.cell ca0
        have cb := hxr.cell cb0
        obtain ⟨hx0, hx1⟩ := isB_get HAB.out.1 k hka
        obtain ⟨hy0, hy1⟩ := isB_get HAB.out.2 k hkb
        have hZ := Lib.hid (zw_take (· - ·) a b k hka hkb)
        have hbad : Hid (a[k] < b[k] → isB (List.zipWith (· - ·) a b) = false) := Lib.hid (fun h => by
          rw [← Bool.not_eq_true, HI.out]
          intro hall
          have := hall k hka hkb
          omega)
        have hstep : Hid (¬ (a[k] < b[k]) → ∀ i (h1 : i < a.length) (h2 : i < b.length), i < k + 1 → b[i] ≤ a[i]) := Lib.hid (fun h i h1 h2 hi => by
          by_cases hik : i = k
          · subst hik; omega
          · exact hP.out i h1 h2 (by omega))
        generalize a[k] = x at *
        generalize b[k] = y at *
        have hk0 : (0 : Int) ≤ (k : Int) := by omega
        have hk1 : (k : Int) < (N : Int) := by omega
        have hsz := hxr.size
        have hne1 : u7.ownBlock ≠ some ba := fun e => by have := (ho.lt _ e).1; omega
        have hne2 : u7.ownBlock ≠ some bb := fun e => by have := (ho.lt _ e).1; omega
        have HO := Lib.hid ho
        have hbl : (vis ((List.zipWith (· - ·) a b).take k)).length ≤ 64 := by rw [vis_len]; simp; omega
        have hob : wr.ownsRow w.heap.size 3 1 u7 (vis ((List.zipWith (· - ·) a b).take k)).length (vis ((List.zipWith (· - ·) a b).take k)) := ho
        clear hca hcb a3 b3 ca0 cb0 ho hka hkb hP
        have hw : IntKind.i64.wrap (x - y) = x - y := by rw [IntKind.wrap_i64]; omega
        by_cases hb : x < y
        · have HF := Lib.hid (hbad.out hb)
          go_wp2_with fail
          go_quiet (fail)
          go_wp2_with fail
          go_ret2
          rw [HA.out, HC.out, if_pos rfl, HF.out]
          exact ⟨_, rfl, Own.of_nil, hxr.drewN _⟩
        · have HS := Lib.hid (hstep.out hb)
          go_wp2_with fail
          go_quiet (fail)
          go_wp2_with fail
          have hq : Ext wr (wr.drewN nq) := (Ext.refl wr).drewN nq
          have ca := hq.cell ca
          have cb := hq.cell cb
          have hob := (show Own wr w.heap.size 3 u7 (vis ((List.zipWith (· - ·) a b).take k)) from hob).ext hq
          have hob : (wr.drewN nq).ownsRow w.heap.size 3 1 u7 (vis ((List.zipWith (· - ·) a b).take k)).length (vis ((List.zipWith (· - ·) a b).take k)) := hob
          have hxq := hxr.trans hq
          have hszq := hxq.size
          generalize wr.drewN nq = wq at *
          have cA : ∀ o, (wq.alloc o).drew.cell? ⟨ba, oa + k, none⟩ = some (.int .i64 x) := fun o => (((Ext.refl wq).alloc o).drew).cell ca
          have cB : ∀ o, (wq.alloc o).drew.cell? ⟨bb, ob + k, none⟩ = some (.int .i64 y) := fun o => (((Ext.refl wq).alloc o).drew).cell cb
          go_region_held3 (fun w' => w'.cell? ⟨ba, oa + k, none⟩ = some (.int .i64 x) ∧ w'.cell? ⟨bb, ob + k, none⟩ = some (.int .i64 y))
            (first
              | go_keep
              | (go_split_ands
                 exact ⟨(hgrow.cell_far _ (by simp; omega) (Ne.symm hne1)).trans (cA _), (hgrow.cell_far _ (by simp; omega) (Ne.symm hne2)).trans (cB _)⟩))
            ((refine step_append_lies _ (by rfl) (.tmp 29) _ _ (by rfl) w.heap.size 3 i0 _ 1 8 Try.underlying22 hi hz0 hz1 hz2 rfl (by omega) u7 (vis ((List.zipWith (· - ·) a b).take k)).length (vis ((List.zipWith (· - ·) a b).take k)) (by rfl) ((World.ownsRow.alloc hob _).drew) ⟨wq.heap.size, 0, none⟩ 1 1 [.int .i64 (x - y)] (by rfl) (by rfl) (World.news_of_block (cs := #[.int .i64 (x - y)]) (t := 3) (fr := (0, 0)) (heap_alloc_new wq _)) (by simp [Value.oneCell']) (by omega) (by simp only [maxLen]; omega) (by omega) (by simp; omega) (wq.heap.size + 1) (by simp) ?_; intro gg cap w1 hown1 hgrow hat hlt1))
          have hon := own_snoci hown1
          rw [show (x - y) = (· - ·) x y from rfl, hZ.out] at hon
          have hxn : Ext w w1 := ((hxq.alloc _).drew).grown hgrow (fun k e => by have := (HO.out.lt k e).1; omega)
          clear hw ca cb cA cB hob
          go_wp2
          go_roundw
          case rel => exact ⟨k + 1, by omega, by go_num, hon, hxn, HS⟩
          case measure => simp [intOf]; omega
      · have hke : k = N := by omega
        have HT : Hid (isB (List.zipWith (· - ·) a b) = true) := Lib.hid (HI.out.2 (fun i h1 h2 => hP.out i h1 h2 (by rw [HN.out] at h1; omega)))
        rw [List.take_of_length_le (by rw [zw_len (· - ·) a b HL.out, HN.out]; omega)] at ho
        clear a3 b3
        go_wp2
        go_ret2
        rw [HA.out, HC.out, if_pos rfl, HT.out]
        exact ⟨_, rfl, ho, hxr⟩

set_option maxRecDepth 100000 in
set_option maxHeartbeats 2000000 in
theorem joinR_any (v1 v2 : Value) (a b : List Int) (w : World) (h1 : Rd w v1 (vis a)) (h2 : Rd w v2 (vis b)) :
    Calls Try.prog 44 #[v1, v2] w fun e w' => ∃ v, e = .returned v ∧ Own w' w.heap.size 3 v (vis (joinB a b)) ∧ Ext w w' := by
  have HA : Hid (joinB a b = if fitB a b then List.zipWith max a b else []) := Lib.hid rfl
  obtain ⟨i0, hi, hz0, hz1, hz2⟩ := info_parts info_int
  have hh1 := h1
  have hh2 := h2
  obtain ⟨A, c, rfl, _⟩ := h1
  obtain ⟨B, d, rfl, _⟩ := h2
  obtain ⟨_, a1, a2, a3⟩ := hh1.at
  obtain ⟨_, b1, b2, b3⟩ := hh2.at
  simp only [vis_len, maxLen] at *
  go_enter Try.func44, Try.ntmps44
  go_wp2_with fail
  refine (fitR_any _ _ a b _ hh1 hh2).mono ?_
  rintro e w1 ⟨rfl, rfl⟩
  rcases hc : fitB a b with _ | _
  · have HC := Lib.hid hc
    clear hc a3 b3
    go_wp2_with fail
    go_loop [7, 5] (fun i o => i = .int .i64 0 ∧ o = .slice none 0 0) (fun _ _ => 0)
    case atStart => exact ⟨rfl, rfl⟩
    case round =>
      obtain ⟨rfl, rfl⟩ := hrel
      by_cases hl0 : a.length = 0
      · have hl1 : ¬ (0 < a.length) := by omega
        have hl2 : ¬ ((0 : Int) < (a.length : Int)) := by omega
        clear hl0
        go_wp2
        go_ret
        rw [HA.out, HC.out]
        exact ⟨_, rfl, Own.of_nil, Ext.refl _⟩
      · have hl1 : (0 < a.length) := by omega
        have hl2 : ((0 : Int) < (a.length : Int)) := by omega
        go_wp2
        go_ret
        rw [HA.out, HC.out]
        exact ⟨_, rfl, Own.of_nil, Ext.refl _⟩
  · have HC := Lib.hid hc
    obtain ⟨ha, hb, hl⟩ := (fitB_iff a b).1 hc
    have hla := isB_len ha
    clear hc
    obtain ⟨N, hN⟩ : ∃ N, a.length = N := ⟨_, rfl⟩
    have hNb : b.length = N := by omega
    rw [hN] at a1 a3 hla ⊢
    rw [hNb] at b1 b3 ⊢
    have HN := Lib.hid hN
    have HNb := Lib.hid hNb
    have HL := Lib.hid hl
    clear hN hNb hl ha hb hh1 hh2
    go_wp2_with fail
    go_loopw [7, 5] (fun i o wr => ∃ k : Nat, k ≤ N ∧ i = .int .i64 k ∧ Own wr w.heap.size 3 o (vis ((List.zipWith max a b).take k)) ∧ Ext w wr) (fun i _ _ => N - (intOf i).toNat)
    case atStart => exact ⟨0, by omega, rfl, Own.of_nil, Ext.refl _⟩
    case round =>
      obtain ⟨k, hk, rfl, ho, hxr⟩ := hrel
      by_cases hlt : k < N
      · have hka : k < a.length := by rw [HN.out]; exact hlt
        have hkb : k < b.length := by rw [HNb.out]; exact hlt
        obtain ⟨ba, oa, rfl, hca⟩ := a3 (by omega)
        obtain ⟨bb, ob, rfl, hcb⟩ := b3 (by omega)
        have ca0 := hca w (Ext.refl _) k (.int .i64 a[k]) (by simp [vis, hka])
        have cb0 := hcb w (Ext.refl _) k (.int .i64 b[k]) (by simp [vis, hkb])
        have hla0 := World.block_lt_of_cell? w _ ca0
        have hlb0 := World.block_lt_of_cell? w _ cb0
        simp only at hla0 hlb0
        have ca := hxr.cell ca0
        have cb := hxr.cell cb0
        have hZ := Lib.hid (zw_take max a b k hka hkb)
        generalize a[k] = x at *
        generalize b[k] = y at *
        have hk0 : (0 : Int) ≤ (k : Int) := by omega
        have hk1 : (k : Int) < (N : Int) := by omega
        have hsz := hxr.size
        have hne1 : u5.ownBlock ≠ some ba := fun e => by have := (ho.lt _ e).1; omega
        have hne2 : u5.ownBlock ≠ some bb := fun e => by have := (ho.lt _ e).1; omega
        have HO := Lib.hid ho
        have hbl : (vis ((List.zipWith max a b).take k)).length ≤ 64 := by rw [vis_len]; simp; omega
        have hob : wr.ownsRow w.heap.size 3 1 u5 (vis ((List.zipWith max a b).take k)).length (vis ((List.zipWith max a b).take k)) := ho
        have cA : ∀ o, (wr.alloc o).drew.cell? ⟨ba, oa + k, none⟩ = some (.int .i64 x) := fun o => (((Ext.refl wr).alloc o).drew).cell ca
        have cB : ∀ o, (wr.alloc o).drew.cell? ⟨bb, ob + k, none⟩ = some (.int .i64 y) := fun o => (((Ext.refl wr).alloc o).drew).cell cb
        clear hca hcb a3 b3 ca0 cb0 ho hka hkb
        have hw : max x y = if x < y then y else x := by split <;> omega
        have HW := Lib.hid hw
        clear hw
        go_wp2_with fail
        go_region_held3 (fun w' => w'.cell? ⟨ba, oa + k, none⟩ = some (.int .i64 x) ∧ w'.cell? ⟨bb, ob + k, none⟩ = some (.int .i64 y))
          (first
            | go_keep
            | (go_split_ands
               exact ⟨(hgrow.cell_far _ (by simp; omega) (Ne.symm hne1)).trans (cA _), (hgrow.cell_far _ (by simp; omega) (Ne.symm hne2)).trans (cB _)⟩))
          ((refine step_append_lies _ (by rfl) (.tmp 20) _ _ (by rfl) w.heap.size 3 i0 _ 1 8 Try.underlying22 hi hz0 hz1 hz2 rfl (by omega) u5 (vis ((List.zipWith max a b).take k)).length (vis ((List.zipWith max a b).take k)) (by rfl) ((World.ownsRow.alloc hob _).drew) ⟨wr.heap.size, 0, none⟩ 1 1 [.int .i64 (if x < y then y else x)] (by rfl) (by rfl) (World.news_of_block (cs := #[.int .i64 (if x < y then y else x)]) (t := 3) (fr := (0, 0)) (heap_alloc_new wr _)) (by simp [Value.oneCell']) (by omega) (by simp only [maxLen]; omega) (by omega) (by simp; omega) (wr.heap.size + 1) (by simp) ?_; intro gg cap w1 hown1 hgrow hat hlt1))
        have hon := own_snoci hown1
        rw [← HW.out, hZ.out] at hon
        have hxn : Ext w w1 := ((hxr.alloc _).drew).grown hgrow (fun k e => by have := (HO.out.lt k e).1; omega)
        clear ca cb cA cB hob
        go_wp2
        go_roundw
        case rel => exact ⟨k + 1, by omega, by go_num, hon, hxn⟩
        case measure => simp [intOf]; omega
      · have hke : k = N := by omega
        rw [List.take_of_length_le (by rw [zw_len max a b HL.out, HN.out]; omega)] at ho
        clear a3 b3
        go_wp2
        go_ret
        rw [HA.out, HC.out, if_pos rfl]
        exact ⟨_, rfl, ho, hxr⟩

set_option maxRecDepth 100000 in
set_option maxHeartbeats 2000000 in
theorem meetR_any (v1 v2 : Value) (a b : List Int) (w : World) (h1 : Rd w v1 (vis a)) (h2 : Rd w v2 (vis b)) :
    Calls Try.prog 45 #[v1, v2] w fun e w' => ∃ v, e = .returned v ∧ Own w' w.heap.size 3 v (vis (meetB a b)) ∧ Ext w w' := by
  have HA : Hid (meetB a b = if fitB a b then List.zipWith min a b else []) := Lib.hid rfl
  obtain ⟨i0, hi, hz0, hz1, hz2⟩ := info_parts info_int
  have hh1 := h1
  have hh2 := h2
  obtain ⟨A, c, rfl, _⟩ := h1
  obtain ⟨B, d, rfl, _⟩ := h2
  obtain ⟨_, a1, a2, a3⟩ := hh1.at
  obtain ⟨_, b1, b2, b3⟩ := hh2.at
  simp only [vis_len, maxLen] at *
  go_enter Try.func45, Try.ntmps45
  go_wp2_with fail
  refine (fitR_any _ _ a b _ hh1 hh2).mono ?_
  rintro e w1 ⟨rfl, rfl⟩
  rcases hc : fitB a b with _ | _
  · have HC := Lib.hid hc
    clear hc a3 b3
    go_wp2_with fail
    go_loop [7, 5] (fun i o => i = .int .i64 0 ∧ o = .slice none 0 0) (fun _ _ => 0)
    case atStart => exact ⟨rfl, rfl⟩
    case round =>
      obtain ⟨rfl, rfl⟩ := hrel
      by_cases hl0 : a.length = 0
      · have hl1 : ¬ (0 < a.length) := by omega
        have hl2 : ¬ ((0 : Int) < (a.length : Int)) := by omega
        clear hl0
        go_wp2
        go_ret
        rw [HA.out, HC.out]
        exact ⟨_, rfl, Own.of_nil, Ext.refl _⟩
      · have hl1 : (0 < a.length) := by omega
        have hl2 : ((0 : Int) < (a.length : Int)) := by omega
        go_wp2
        go_ret
        rw [HA.out, HC.out]
        exact ⟨_, rfl, Own.of_nil, Ext.refl _⟩
  · have HC := Lib.hid hc
    obtain ⟨ha, hb, hl⟩ := (fitB_iff a b).1 hc
    have hla := isB_len ha
    clear hc
    obtain ⟨N, hN⟩ : ∃ N, a.length = N := ⟨_, rfl⟩
    have hNb : b.length = N := by omega
    rw [hN] at a1 a3 hla ⊢
    rw [hNb] at b1 b3 ⊢
    have HN := Lib.hid hN
    have HNb := Lib.hid hNb
    have HL := Lib.hid hl
    clear hN hNb hl ha hb hh1 hh2
    go_wp2_with fail
    go_loopw [7, 5] (fun i o wr => ∃ k : Nat, k ≤ N ∧ i = .int .i64 k ∧ Own wr w.heap.size 3 o (vis ((List.zipWith min a b).take k)) ∧ Ext w wr) (fun i _ _ => N - (intOf i).toNat)
    case atStart => exact ⟨0, by omega, rfl, Own.of_nil, Ext.refl _⟩
    case round =>
      obtain ⟨k, hk, rfl, ho, hxr⟩ := hrel
      by_cases hlt : k < N
      · have hka : k < a.length := by rw [HN.out]; exact hlt
        have hkb : k < b.length := by rw [HNb.out]; exact hlt
        obtain ⟨ba, oa, rfl, hca⟩ := a3 (by omega)
        obtain ⟨bb, ob, rfl, hcb⟩ := b3 (by omega)
        have ca0 := hca w (Ext.refl _) k (.int .i64 a[k]) (by simp [vis, hka])
        have cb0 := hcb w (Ext.refl _) k (.int .i64 b[k]) (by simp [vis, hkb])
        have hla0 := World.block_lt_of_cell? w _ ca0
        have hlb0 := World.block_lt_of_cell? w _ cb0
        simp only at hla0 hlb0
        have ca := hxr.cell ca0
        have cb := hxr.cell cb0
        have hZ := Lib.hid (zw_take min a b k hka hkb)
        generalize a[k] = x at *
        generalize b[k] = y at *
        have hk0 : (0 : Int) ≤ (k : Int) := by omega
        have hk1 : (k : Int) < (N : Int) := by omega
        have hsz := hxr.size
        have hne1 : u5.ownBlock ≠ some ba := fun e => by have := (ho.lt _ e).1; omega
        have hne2 : u5.ownBlock ≠ some bb := fun e => by have := (ho.lt _ e).1; omega
        have HO := Lib.hid ho
        have hbl : (vis ((List.zipWith min a b).take k)).length ≤ 64 := by rw [vis_len]; simp; omega
        have hob : wr.ownsRow w.heap.size 3 1 u5 (vis ((List.zipWith min a b).take k)).length (vis ((List.zipWith min a b).take k)) := ho
        have cA : ∀ o, (wr.alloc o).drew.cell? ⟨ba, oa + k, none⟩ = some (.int .i64 x) := fun o => (((Ext.refl wr).alloc o).drew).cell ca
        have cB : ∀ o, (wr.alloc o).drew.cell? ⟨bb, ob + k, none⟩ = some (.int .i64 y) := fun o => (((Ext.refl wr).alloc o).drew).cell cb
        clear hca hcb a3 b3 ca0 cb0 ho hka hkb
        have hw : min x y = if y < x then y else x := by split <;> omega
        have HW := Lib.hid hw
        clear hw
        go_wp2_with fail
        go_region_held3 (fun w' => w'.cell? ⟨ba, oa + k, none⟩ = some (.int .i64 x) ∧ w'.cell? ⟨bb, ob + k, none⟩ = some (.int .i64 y))
          (first
            | go_keep
            | (go_split_ands
               exact ⟨(hgrow.cell_far _ (by simp; omega) (Ne.symm hne1)).trans (cA _), (hgrow.cell_far _ (by simp; omega) (Ne.symm hne2)).trans (cB _)⟩))
          ((refine step_append_lies _ (by rfl) (.tmp 20) _ _ (by rfl) w.heap.size 3 i0 _ 1 8 Try.underlying22 hi hz0 hz1 hz2 rfl (by omega) u5 (vis ((List.zipWith min a b).take k)).length (vis ((List.zipWith min a b).take k)) (by rfl) ((World.ownsRow.alloc hob _).drew) ⟨wr.heap.size, 0, none⟩ 1 1 [.int .i64 (if y < x then y else x)] (by rfl) (by rfl) (World.news_of_block (cs := #[.int .i64 (if y < x then y else x)]) (t := 3) (fr := (0, 0)) (heap_alloc_new wr _)) (by simp [Value.oneCell']) (by omega) (by simp only [maxLen]; omega) (by omega) (by simp; omega) (wr.heap.size + 1) (by simp) ?_; intro gg cap w1 hown1 hgrow hat hlt1))
        have hon := own_snoci hown1
        rw [← HW.out, hZ.out] at hon
        have hxn : Ext w w1 := ((hxr.alloc _).drew).grown hgrow (fun k e => by have := (HO.out.lt k e).1; omega)
        clear ca cb cA cB hob
        go_wp2
        go_roundw
        case rel => exact ⟨k + 1, by omega, by go_num, hon, hxn⟩
        case measure => simp [intOf]; omega
      · have hke : k = N := by omega
        rw [List.take_of_length_le (by rw [zw_len min a b HL.out, HN.out]; omega)] at ho
        clear a3 b3
        go_wp2
        go_ret
        rw [HA.out, HC.out, if_pos rfl]
        exact ⟨_, rfl, ho, hxr⟩
end Go.Proofs.Ytbcjikiakanncaa
