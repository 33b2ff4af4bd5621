/- share.Split: contract. -/
import Derived.Test.YtbcjikiakanncaaSs1
import Derived.Deep.RegionHeld3
import Derived.Deep.DeepCutAuto
import Derived.OwnWalk
namespace Go.Proofs.Ytbcjikiakanncaa
open Go.RowKit
set_option linter.unusedVariables false

/-- the weights that Split takes -/
def okS (t : Int) (ws : List Int) : Bool := (decide (AmtI t) && ws.all amtS) && decide (0 < totS ws)
theorem okS_iff (t : Int) (ws : List Int) : okS t ws = true ↔ AmtI t ∧ (∀ x ∈ ws, 0 ≤ x ∧ x ≤ 1099511627776) ∧ 0 < totS ws := by
  unfold okS
  simp only [Bool.and_eq_true, decide_eq_true_eq, List.all_eq_true, amtS_iff]
  exact ⟨fun ⟨⟨h1, h2⟩, h3⟩ => ⟨h1, h2, h3⟩, fun ⟨h1, h2, h3⟩ => ⟨⟨h1, h2⟩, h3⟩⟩
/-- what Split answers: the parts, the code -/
structure SplitAns (t : Int) (ws xs : List Int) (c : Int) : Prop where
  yes : okS t ws = true → c = 0 ∧ IsSplit t ws xs
  no : okS t ws = false → c = 1 ∧ xs = []
theorem splitAns_no {t : Int} {ws : List Int} (h : okS t ws = false) : SplitAns t ws [] 1 := ⟨fun h' => by (rw [h] at h'; cases h'), fun _ => ⟨rfl, rfl⟩⟩

theorem totS_take_succ (ws : List Int) (k : Nat) (hk : k < ws.length) : totS (ws.take (k + 1)) = totS (ws.take k) + ws[k] := by
  rw [List.take_succ_eq_append_getElem hk, totS_snoc]
theorem take_bound {ws : List Int} {k : Nat} (h : ∀ x ∈ ws.take k, 0 ≤ x ∧ x ≤ 1099511627776) (hk : k ≤ 19) (hl : k ≤ ws.length) : 0 ≤ totS (ws.take k) ∧ totS (ws.take k) ≤ 20890720927744 := by
  have h1 := totS_nonneg (fun x hx => (h x hx).1)
  have h2 := totS_le (fun x hx => (h x hx).2)
  rw [List.length_take, Nat.min_eq_left hl] at h2
  omega

theorem made_ints' (n : Nat) : madeCells (Value.int IntKind.i64 0).cells (n * 1) = (vis (List.replicate n 0)).toArray := by
  apply Array.ext
  · simp [madeCells, vis]
  · intro j h1 h2
    simp [madeCells, vis, Value.cells, Nat.mod_one]
theorem run_mk (n : Nat) (hn : n ≤ 1000) (W : World) : (Instr.makeSlice 22 (.int .i64 (n : Int)) (.int .i64 (n : Int))).run Try.prog W = .ok (.slice (some ⟨W.heap.size, 0, none⟩) n n) (W.alloc (.cells (vis (List.replicate n 0)).toArray 3)) := by
  obtain ⟨i0, hi, hz0, hz1, hz2⟩ := info_parts info_int
  have h := run_make (P := Try.prog) W 22 3 i0 (.int .i64 0) Try.underlying22 hi hz0 .i64 .i64 n n (by omega) (by omega) (by rw [hz2]; omega) (by omega)
  rw [hz1] at h
  simp only [Int.toNat_natCast] at h
  rw [made_ints'] at h
  exact h

theorem blk_new {W : World} {g : Nat} {t : TypeId} {C : Array Value} {cs : List Value} (h : g = W.heap.size) (hC : C = cs.toArray) : Blk (W.alloc (.cells C t)) g t cs := by
  subst h hC
  exact Blk.new W t cs
theorem blk_old {W : World} {g : Nat} {t : TypeId} {cs : List Value} {o : Obj} (h : Blk W g t cs) : Blk (W.alloc o) g t cs := h.ext ((Ext.refl _).alloc _)
theorem blk_drew {W : World} {g : Nat} {t : TypeId} {cs : List Value} (h : Blk W g t cs) : Blk W.drew g t cs := h

structure MadeS (w : World) (n : Nat) (v10 v11 v12 : Value) (wx : World) (g1 g2 g3 : Nat) : Prop where
  e1 : v10 = .slice (some ⟨g1, 0, none⟩) n n
  e2 : v11 = .pointer (some ⟨g2, 0, none⟩)
  e3 : v12 = .slice (some ⟨g3, 0, none⟩) n n
  b1 : Blk wx g1 3 (vis (List.replicate n 0))
  b3 : Blk wx g3 3 (vis (List.replicate n 0))
  b4 : ∃ g4, Blk wx g2 22 [.slice (some ⟨g4, 0, none⟩) n n] ∧ Blk wx g4 3 (vis (List.replicate n 0)) ∧ (g1 ≠ g4 ∧ g3 ≠ g4 ∧ g2 ≠ g4) ∧ w.heap.size ≤ g4
  d : g1 ≠ g3 ∧ g2 ≠ g1 ∧ g2 ≠ g3
  l : w.heap.size ≤ g1 ∧ w.heap.size ≤ g2 ∧ w.heap.size ≤ g3
  ext : Ext w wx

/-- a row of n numbers, filled up to k -/
def fillK (L : List Int) (n k : Nat) : List Int := L.take k ++ List.replicate (n - k) 0
theorem fillK_zero (L : List Int) (n : Nat) : fillK L n 0 = List.replicate n 0 := by simp [fillK]
theorem fillK_end (L : List Int) (n : Nat) (h : L.length = n) : fillK L n n = L := by simp [fillK, ← h]
theorem fillK_len (L : List Int) (n k : Nat) (h : L.length = n) (hk : k ≤ n) : (fillK L n k).length = n := by simp [fillK]; omega
theorem fillK_set (L : List Int) (n k : Nat) (h : L.length = n) (hk : k < n) (x : Int) (hx : L[k]? = some x) : (fillK L n k).set k x = fillK L n (k + 1) := by
  unfold fillK
  have hkl : k < L.length := by omega
  have e : L[k] = x := by rw [List.getElem?_eq_getElem hkl] at hx; injection hx
  rw [List.set_append_right _ _ (by simp; omega), List.take_succ_eq_append_getElem hkl, e]
  have e2 : k - (L.take k).length = 0 := by simp; omega
  rw [e2, show n - k = (n - (k + 1)) + 1 by omega, List.replicate_succ, List.set_cons_zero]
  simp
def idI (n : Nat) : List Int := (List.range n).map fun j : Nat => (j : Int)
theorem idI_len (n : Nat) : (idI n).length = n := by simp [idI]
theorem idI_at {n k : Nat} (hk : k < n) : (idI n)[k]? = some (k : Int) := by simp [idI, hk]
theorem vis_idI (n : Nat) : vis (idI n) = vns (List.range n) := by simp [vis, vns, idI]

/-- the four blocks of Split in its second loop -/
structure RowsS (W : World) (n k g1 g2 g3 g4 : Nat) (q r : List Int) : Prop where
  b1 : Blk W g1 3 (vis (fillK q n k))
  b2 : Blk W g2 22 [.slice (some ⟨g4, 0, none⟩) n n]
  b3 : Blk W g3 3 (vis (fillK (idI n) n k))
  b4 : Blk W g4 3 (vis (fillK r n k))
theorem vis_set' (l : List Int) (k : Nat) (x : Int) : (vis l).set k (.int .i64 x) = vis (l.set k x) := by simp [vis, List.map_set]
theorem RowsS.step {W : World} {n k g1 g2 g3 g4 : Nat} {q r : List Int} (h : RowsS W n k g1 g2 g3 g4 q r) (d13 : g1 ≠ g3) (d14 : g1 ≠ g4) (d34 : g3 ≠ g4) (d12 : g2 ≠ g1) (d23 : g2 ≠ g3) (d24 : g2 ≠ g4)
    (hq : q.length = n) (hr : r.length = n) (hk : k < n) (x y : Int) (hx : q[k]? = some x) (hy : r[k]? = some y) :
    RowsS (((W.setCell ⟨g1, k, none⟩ (.int .i64 x)).setCell ⟨g4, k, none⟩ (.int .i64 y)).setCell ⟨g3, k, none⟩ (.int .i64 (k : Int))) n (k + 1) g1 g2 g3 g4 q r := by
  obtain ⟨b1, b2, b3, b4⟩ := h
  have e1 := ((b1.set k (.int .i64 x)).far (p := ⟨g4, k, none⟩) d14 (.int .i64 y)).far (p := ⟨g3, k, none⟩) d13 (.int .i64 (k : Int))
  have e2 := ((b2.far (p := ⟨g1, k, none⟩) d12 (.int .i64 x)).far (p := ⟨g4, k, none⟩) d24 (.int .i64 y)).far (p := ⟨g3, k, none⟩) d23 (.int .i64 (k : Int))
  have e3 := ((b3.far (p := ⟨g1, k, none⟩) (Ne.symm d13) (.int .i64 x)).far (p := ⟨g4, k, none⟩) d34 (.int .i64 y)).set k (.int .i64 (k : Int))
  have e4 := ((b4.far (p := ⟨g1, k, none⟩) (Ne.symm d14) (.int .i64 x)).set k (.int .i64 y)).far (p := ⟨g3, k, none⟩) (Ne.symm d34) (.int .i64 (k : Int))
  rw [vis_set', fillK_set _ _ _ hq hk _ hx] at e1
  rw [vis_set', fillK_set _ _ _ (idI_len n) hk _ (idI_at hk)] at e3
  rw [vis_set', fillK_set _ _ _ hr hk _ hy] at e4
  exact ⟨e1, e2, e3, e4⟩
theorem RowsS.drewN {W : World} {n k g1 g2 g3 g4 : Nat} {q r : List Int} (h : RowsS W n k g1 g2 g3 g4 q r) (m : Nat) : RowsS (W.drewN m) n k g1 g2 g3 g4 q r := ⟨h.b1, h.b2, h.b3, h.b4⟩
theorem Own.of_blk' {w : World} {base g n : Nat} {e : TypeId} {cs : List Value} (h : Blk w g e cs) (hb : base ≤ g) (hm : cs.length = n) (hn : n ≤ 1000000) : Own w base e (.slice (some ⟨g, 0, none⟩) n n) cs := by
  subst hm
  exact ⟨by simp, .inr ⟨g, cs.length, cs.toArray, rfl, hb, h, Nat.le_refl _, by simp only [maxLen]; omega, by simp, by simp⟩⟩
theorem fillK_cell {L : List Int} {n k : Nat} (h : L.length = n) (hk : k < n) : (vis (fillK L n k))[k]? = some (.int .i64 0) := by
  unfold fillK vis
  rw [List.getElem?_map, List.getElem?_append_right (by simp; omega)]
  have : k - (L.take k).length = 0 := by simp; omega
  rw [this, show n - k = (n - (k + 1)) + 1 by omega]
  simp [List.replicate_succ]

theorem mul_le_amt {t y s : Int} (ht : 0 ≤ t) (hy : y ≤ s) (hs : 1 ≤ s) : t * y / s ≤ t := by
  have := Int.mul_le_mul_of_nonneg_left hy ht
  have h2 : t * y / s ≤ t * s / s := Int.ediv_le_ediv (by omega) this
  rwa [Int.mul_ediv_cancel _ (by omega)] at h2

set_option maxRecDepth 100000 in
set_option maxHeartbeats 8000000 in
theorem split_any (t : Int) (v : Value) (ws : List Int) (w : World) (h : Rd w v (vis ws)) (hws : ∀ x ∈ ws, inI64 x) (hl : ws.length ≤ 19) :
    Calls Try.prog 16 #[.int .i64 t, v] w fun e w' => ∃ v' xs c, e = .returned (.tuple #[v', .int .i64 c]) ∧ SplitAns t ws xs c ∧ Own w' w.heap.size 3 v' (vis xs) ∧ Ext w w' := by
  have HNO := Lib.hid (fun h => splitAns_no (t := t) (ws := ws) h)
  have HOKI := Lib.hid (okS_iff t ws)
  have hh := h
  obtain ⟨A, cp, rfl, _⟩ := h
  obtain ⟨_, a1, a2, a3⟩ := hh.at
  clear hh
  simp only [vis_len, maxLen] at *
  obtain ⟨i0, hi, hz0, hz1, hz2⟩ := info_parts info_int
  go_enter Try.func16, Try.ntmps16
  go_wp2_with fail
  go_loop [6, 18] (fun x6 x18 => ∃ k : Nat, k ≤ ws.length ∧ x18 = .int .i64 k ∧ x6 = .int .i64 (totS (ws.take k)) ∧ Hid (∀ x ∈ ws.take k, 0 ≤ x ∧ x ≤ 1099511627776)) (fun _ x18 => ws.length - (RowKit.intOf x18).toNat)
  case atStart => exact ⟨0, by omega, rfl, rfl, Lib.hid (by simp)⟩
  case round =>
    obtain ⟨k, hk, rfl, rfl, HP⟩ := hrel
    obtain ⟨s0, s1⟩ := take_bound HP.out (by omega) hk
    by_cases hlt : k < ws.length
    · obtain ⟨b, off, rfl, hcx⟩ := a3 (by omega)
      have c1 := hcx w (Ext.refl w) k (.int .i64 ws[k]) (by simp [vis, hlt])
      have hts := Lib.hid (totS_take_succ ws k hlt)
      have HN1 : Hid ((0 ≤ ws[k] ∧ ws[k] ≤ 1099511627776) → ∀ x ∈ ws.take (k + 1), 0 ≤ x ∧ x ≤ 1099511627776) := Lib.hid (fun h x hx => by
        rw [List.take_succ_eq_append_getElem hlt] at hx
        rcases List.mem_append.1 hx with hx | hx
        · exact HP.out x hx
        · simp only [List.mem_singleton] at hx; subst hx; exact h)
      have HBAD : Hid (amtS ws[k] = false → okS t ws = false) := Lib.hid (fun h => by
        rw [← Bool.not_eq_true]
        intro h'
        have := (HOKI.out.1 h').2.1 ws[k] (by simp)
        rw [← amtS_iff, h] at this
        cases this)
      generalize ws[k] = y at *
      generalize totS (ws.take k) = s at *
      clear hcx a3 HP
      go_wp2_with fail
      refine (samt_any y _).mono ?_
      rintro e w1 ⟨rfl, rfl⟩
      rcases hy : amtS y with _ | _
      · have HR := Lib.hid (HNO.out (HBAD.out hy))
        clear hy
        go_wp2
        go_ret2
        exact ⟨_, [], 1, rfl, HR.out, Own.nil _ _ _, Ext.refl _⟩
      · obtain ⟨y0, y1⟩ := (amtS_iff y).1 hy
        have HN2 := Lib.hid (HN1.out ⟨y0, y1⟩)
        clear hy HBAD HN1
        go_wp2
        go_round
        case rel => exact ⟨k + 1, by omega, by go_num, by rw [hts.out], HN2⟩
        case measure => simp [RowKit.intOf]; omega
    · have hke : ws.take k = ws := List.take_of_length_le (by omega)
      rw [hke] at HP s0 s1
      rw [hke]
      clear hke
      go_wp2_with fail
      refine (samt_any t _).mono ?_
      rintro e w1 ⟨rfl, rfl⟩
      rcases ht : amtS t with _ | _
      · have HR := Lib.hid (HNO.out (by
          rw [← Bool.not_eq_true]
          intro h'
          have := (HOKI.out.1 h').1
          rw [amtS_not] at ht
          unfold AmtI at this; omega))
        clear ht a3
        go_wp2
        go_ret2
        exact ⟨_, [], 1, rfl, HR.out, Own.nil _ _ _, Ext.refl _⟩
      · obtain ⟨t0, t1⟩ := (amtS_iff t).1 ht
        clear ht
        by_cases hs0 : totS ws = 0
        · have HR := Lib.hid (HNO.out (by
            rw [← Bool.not_eq_true]
            intro h'
            have := (HOKI.out.1 h').2.2
            omega))
          have hs0' : (totS ws == 0) = true := by simp [hs0]
          clear hs0 a3
          go_wp2
          go_ret2
          exact ⟨_, [], 1, rfl, HR.out, Own.nil _ _ _, Ext.refl _⟩
        · have HOK : Hid (okS t ws = true) := Lib.hid (HOKI.out.2 ⟨⟨t0, t1⟩, HP.out, by omega⟩)
          have hs0' : (totS ws == 0) = false := by simp [hs0]
          have hs1 : 1 ≤ totS ws := by omega
          have hn1 : 1 ≤ ws.length := by
            rcases Nat.eq_zero_or_pos ws.length with h | h
            · rw [List.eq_nil_of_length_eq_zero h] at hs1
              simp [totS] at hs1
            · exact h
          obtain ⟨b, off, rfl, hcx⟩ := a3 (by omega)
          have HCX := Lib.hid hcx
          clear hs0 hcx a3 HNO HOKI
          go_upto_region 12 with fail
          obtain ⟨n, hn⟩ : ∃ n, n = ws.length := ⟨_, rfl⟩
          obtain ⟨C, hC⟩ : ∃ C, C = (vis (List.replicate n 0)).toArray := ⟨_, rfl⟩
          have hmk := run_mk n (by omega)
          rw [← hC] at hmk
          rw [← hn] at a1 hn1 hl ⊢
          have HC := Lib.hid hC
          have HN := Lib.hid hn.symm
          clear hC hn
          go_cut [10, 11, 12] (fun v10 v11 v12 wx => ∃ g1 g2 g3, MadeS w n v10 v11 v12 wx g1 g2 g3)
          case first =>
            go_region
            all_goals
              go_wp2_with fail
              go_meet
              refine ⟨_, _, _, rfl, rfl, rfl, ?_, ?_, ?_, ?_, ?_, ?_⟩
              · repeat (first | (refine blk_new ?_ HC.out; simp; done) | apply blk_old | apply blk_drew)
              · repeat (first | (refine blk_new ?_ HC.out; simp; done) | apply blk_old | apply blk_drew)
              · exact ⟨_, (by repeat (first | (refine blk_new ?_ rfl; simp; done) | apply blk_old | apply blk_drew)), (by repeat (first | (refine blk_new ?_ HC.out; simp; done) | apply blk_old | apply blk_drew)), by omega, by omega⟩
              · omega
              · omega
              · first | exact (((((Ext.refl w).alloc _).alloc _).alloc _).alloc _).drew | exact ((((Ext.refl w).alloc _).alloc _).alloc _).alloc _
          case rest =>
            obtain ⟨g1, g2, g3, hm⟩ := hcut
            obtain ⟨rfl, rfl, rfl, b1, b3, ⟨g4, b2, b4, ⟨d14, d34, d24⟩, l4⟩, ⟨d13, d12, d23⟩, ⟨l1, l2, l3⟩, hx0⟩ := hm
            have hbw : b < w.heap.size := World.block_lt_of_cell? w _ (HCX.out w (Ext.refl w) 0 (.int .i64 (ws[0]'(by rw [HN.out]; omega))) (by simp [vis]))
            have hq0 := fillK_zero (qS t (totS ws) ws) n
            have hr0 := fillK_zero (rS t (totS ws) ws) n
            have hi0 := fillK_zero (idI n) n
            have HR0 : Hid (RowsS wc n 0 g1 g2 g3 g4 (qS t (totS ws) ws) (rS t (totS ws) ws)) := Lib.hid ⟨by rw [hq0]; exact b1, b2, by rw [hi0]; exact b3, by rw [hr0]; exact b4⟩
            clear b1 b2 b3 b4 hq0 hr0 hi0 hmk HC
            go_wp2_with fail
            go_loopw [13, 54] (fun x13 x54 wr => ∃ k : Nat, k ≤ n ∧ x54 = .int .i64 k ∧ x13 = .int .i64 (t - totS ((qS t (totS ws) ws).take k)) ∧ Hid (RowsS wr n k g1 g2 g3 g4 (qS t (totS ws) ws) (rS t (totS ws) ws)) ∧ Ext w wr) (fun _ x54 _ => n - (RowKit.intOf x54).toNat)
            case atStart => exact ⟨0, by omega, rfl, by simp [totS], HR0, hx0⟩
            case round =>
              obtain ⟨k, hk, rfl, rfl, HR, hxr⟩ := hrel
              clear HR0 hx0
              by_cases hlt : k < n
              · have hltz : (k : Int) < (n : Int) := by omega
                have hkw : k < ws.length := by rw [HN.out]; exact hlt
                have c1 := (HCX.out wr hxr k (.int .i64 ws[k]) (by simp [vis, hkw]))
                have c2 := HR.out.b2.cell 0
                simp only [List.getElem?_cons_zero] at c2
                have o1 := HR.out.b1.cell k
                rw [fillK_cell (by rw [qS_len, HN.out]) hlt] at o1
                have o2 := HR.out.b4.cell k
                rw [fillK_cell (by rw [rS_len, HN.out]) hlt] at o2
                have o3 := HR.out.b3.cell k
                rw [fillK_cell (idI_len n) hlt] at o3
                have f1 := HR.out.b1.frozen k
                have f2 := HR.out.b4.frozen k
                have f3 := HR.out.b3.frozen k
                have hy := HP.out ws[k] (by simp)
                have hys := totS_mem (fun x hx => (HP.out x hx).1) ws[k] (by simp)
                have HQ : Hid ((qS t (totS ws) ws)[k]? = some (t * ws[k] / totS ws)) := Lib.hid (by simp [qS, hkw])
                have HRR : Hid ((rS t (totS ws) ws)[k]? = some (t * ws[k] % totS ws)) := Lib.hid (by simp [rS, hkw])
                have HTS : Hid (totS ((qS t (totS ws) ws).take (k + 1)) = totS ((qS t (totS ws) ws).take k) + t * ws[k] / totS ws) := Lib.hid (by
                  rw [totS_take_succ _ k (by rw [qS_len]; exact hkw)]; simp [qS])
                have hle := mul_le_amt t0 hys hs1
                have hge : 0 ≤ t * ws[k] / totS ws := Int.ediv_nonneg (Int.mul_nonneg t0 hy.1) (by omega)
                have hsum0 : 0 ≤ totS ((qS t (totS ws) ws).take k) := totS_nonneg (fun x hx => by
                  obtain ⟨z, hz, rfl⟩ := List.mem_map.1 (List.mem_of_mem_take hx)
                  exact Int.ediv_nonneg (Int.mul_nonneg t0 (HP.out z hz).1) (by omega))
                have hsum1 : totS ((qS t (totS ws) ws).take k) ≤ k * 1099511627776 := by
                  have := totS_le (l := (qS t (totS ws) ws).take k) (m := 1099511627776) (fun x hx => by
                    obtain ⟨z, hz, rfl⟩ := List.mem_map.1 (List.mem_of_mem_take hx)
                    have := mul_le_amt t0 (totS_mem (fun x hx => (HP.out x hx).1) z hz) hs1
                    omega)
                  rw [List.length_take, Nat.min_eq_left (by rw [qS_len]; omega)] at this
                  exact this
                have HSTEP := Lib.hid (fun W (h : RowsS W n k g1 g2 g3 g4 (qS t (totS ws) ws) (rS t (totS ws) ws)) => h.step d13 d14 d34 d12 d23 d24 (by rw [qS_len, HN.out]) (by rw [rS_len, HN.out]) hlt _ _ HQ.out HRR.out)
                have k0 : (0 : Int) ≤ (k : Int) := by omega
                have hb1 : b ≠ g1 := by omega
                have hb4 : b ≠ g4 := by omega
                have hb3 : b ≠ g3 := by omega
                have HOKD : Hid (divOk (t * ws[k]) (totS ws) = true) := Lib.hid ((divOk_iff _ _).2 (by omega))
                have HLE : Hid (t * ws[k] / totS ws ≤ 1099511627776) := Lib.hid (by omega)
                have HANS : Hid (∀ x' y', DivAns (t * ws[k]) (totS ws) x' y' → x' = t * ws[k] / totS ws ∧ y' = t * ws[k] % totS ws) := Lib.hid (fun x' y' h => h (by omega))
                have HDV := Lib.hid fun W => divide_P t ws[k] (totS ws) (t * ws[k]) rfl W t0 (by omega) hy.1 (by omega) hs1 (by omega)
                have HXR := Lib.hid hxr
                obtain ⟨y0, y1⟩ := hy
                generalize totS ((qS t (totS ws) ws).take k) = sk at *
                generalize t * ws[k] / totS ws = x at *
                generalize t * ws[k] % totS ws = z at *
                generalize hP : t * ws[k] = P at *
                go_wp2_with fail
                go_region_held3 (fun w' => w'.cell? ⟨g2, 0, none⟩ = some (.slice (some ⟨g4, 0, none⟩) n n) ∧ w'.cell? ⟨b, off + k, none⟩ = some (.int .i64 ws[k])) (first | exact ⟨c2, c1⟩ | exact ⟨(Chg.set g1 k _ _).cell (p := ⟨g2, 0, none⟩) c2 d12, (Chg.set g1 k _ _).cell (p := ⟨b, off + k, none⟩) c1 hb1⟩ | exact ⟨(Chg.set g4 k _ _).cell (p := ⟨g2, 0, none⟩) ((Chg.set g1 k _ _).cell (p := ⟨g2, 0, none⟩) c2 d12) d24, (Chg.set g4 k _ _).cell (p := ⟨b, off + k, none⟩) ((Chg.set g1 k _ _).cell (p := ⟨b, off + k, none⟩) c1 hb1) hb4⟩) ((go_at_call 51; refine (HDV.out _).mono ?_; rintro e w1 ⟨xx, yy, rfl, hans, kq, rfl⟩; rw [HOKD.out]; obtain ⟨rfl, rfl⟩ := HANS.out _ _ hans; clear hans))
                go_wp2
                go_roundw
                case rel => exact ⟨k + 1, by omega, by go_num, congrArg _ (by rw [HTS.out]; omega), Lib.hid (HSTEP.out _ (HR.out.drewN _)), Ext.setCell (Ext.setCell (Ext.setCell (HXR.out.drewN _) (p := ⟨g1, k, none⟩) l1 _) (p := ⟨g4, k, none⟩) l4 _) (p := ⟨g3, k, none⟩) l3 _⟩
                case measure => simp [RowKit.intOf]; omega
              · obtain rfl : k = n := by omega
                have HRS := HR.out
                have hrl : (rS t (totS ws) ws).length = k := by rw [rS_len, HN.out]
                have hql : (qS t (totS ws) ws).length = k := by rw [qS_len, HN.out]
                have hb3 := HRS.b3
                rw [fillK_end _ _ (idI_len k), vis_idI] at hb3
                have hb4 := HRS.b4
                rw [fillK_end _ _ hrl] at hb4
                have hb1 := HRS.b1
                rw [fillK_end _ _ hql] at hb1
                have hra : RestAt wr g2 g4 k (rS t (totS ws) ws) := ⟨by rw [hrl]; exact HRS.b2.cell 0, fun j u hu => (hb4.cell j).trans hu⟩
                have hrb : ∀ z ∈ rS t (totS ws) ws, 0 ≤ z ∧ z ≤ 1152921504606846976 := fun z hz => by
                  have := rS_range (t := t) (ws := ws) (show 0 < totS ws by omega) z hz
                  omega
                rw [List.take_of_length_le (by omega)]
                have hleft : t - totS (qS t (totS ws) ws) = leftS t (totS ws) ws := rfl
                rw [hleft]
                clear hleft
                obtain ⟨L0, L1⟩ := left_range (t := t) (ws := ws) (show 0 < totS ws by omega)
                obtain ⟨L, hL⟩ : ∃ L : Nat, leftS t (totS ws) ws = (L : Int) := ⟨(leftS t (totS ws) ws).toNat, by omega⟩
                rw [hL]
                have hLk : L ≤ k := by rw [HN.out] at L1; omega
                have HL := Lib.hid hL
                have HRL := Lib.hid hrl
                have HQL := Lib.hid hql
                have HRB := Lib.hid hrb
                have HRA := Lib.hid hra
                have HB1 := Lib.hid hb1
                have HB3 := Lib.hid hb3
                have HQB : Hid (∀ j, 0 ≤ (qS t (totS ws) ws).getD j 0 ∧ (qS t (totS ws) ws).getD j 0 ≤ 1099511627776) := Lib.hid (getD_mem0 (P := fun z => 0 ≤ z ∧ z ≤ 1099511627776) (by omega) (fun x hx => by
                  obtain ⟨z, hz, rfl⟩ := List.mem_map.1 hx
                  have := mul_le_amt t0 (totS_mem (fun x hx => (HP.out x hx).1) z hz) hs1
                  have := Int.ediv_nonneg (Int.mul_nonneg t0 (HP.out z hz).1) (show 0 ≤ totS ws by omega)
                  omega))
                clear hL hrl hql hrb hra hb1 hb3 hb4 L0 L1 HRS HR
                go_wp2_with fail
                refine (sort_any g3 k k g2 g4 k (rS t (totS ws) ws) _ HRL.out hn1 hl HRB.out HRA.out HB3.out d23 (by omega)).mono ?_
                rintro e w1 ⟨rfl, O, hO1, hO2, hO3, hO4⟩
                have HPK : Hid (∀ m, Picks (rS t (totS ws) ws) (O.take m)) := Lib.hid (fun m => picks_of_order (by rw [HRL.out]; exact hO1) hO2 m)
                have HOL : Hid (O.length = k) := Lib.hid (by rw [hO1.length_eq]; simp)
                have hb1 := hO4.blk HB1.out d13
                have hx1 : Ext w w1 := hO4.ext hxr l3
                clear hO1 hO2 hO4 HB1 HB3 HRA
                go_wp2_with fail
                go_loopw [89] (fun x89 wr => ∃ m : Nat, m ≤ L ∧ x89 = .int .i64 m ∧ Blk wr g1 3 (vis (bump (qS t (totS ws) ws) (O.take m))) ∧ Blk wr g3 3 (vns O) ∧ Ext w wr) (fun x89 _ => L - (RowKit.intOf x89).toNat)
                case atStart => exact ⟨0, by omega, rfl, by simpa [bump] using hb1, hO3, hx1⟩
                case round =>
                  obtain ⟨m, hm, rfl, hbm, hom, hxm⟩ := hrel
                  clear hb1 hO3 hx1
                  by_cases hmL : m < L
                  · have hmk : m < O.length := by rw [HOL.out]; omega
                    have hmz : (m : Int) < (L : Int) := by omega
                    have hmz2 : (m : Int) < (k : Int) := by omega
                    have hj := (HPK.out (m + 1)).lt O[m] (by rw [List.take_succ_eq_append_getElem hmk]; exact List.mem_append_right _ (List.mem_singleton.2 rfl))
                    rw [HRL.out] at hj
                    have c1 := hom.cell m
                    rw [vns_at (List.getElem?_eq_getElem hmk)] at c1
                    have HBS := Lib.hid (bump_snoc (qS t (totS ws) ws) (O.take m) O[m])
                    have hbat := bump_at (qS t (totS ws) ws) (O.take m) (HPK.out m).nd O[m] (by rw [HQL.out]; exact hj)
                    have hqb := HQB.out O[m]
                    have c2 := hbm.cell O[m]
                    have hlen : O[m] < (bump (qS t (totS ws) ws) (O.take m)).length := by rw [bump_len, HQL.out]; exact hj
                    have ec : (vis (bump (qS t (totS ws) ws) (O.take m)))[O[m]]? = some (.int .i64 ((bump (qS t (totS ws) ws) (O.take m)).getD O[m] 0)) := by
                      simp [vis, List.getD_eq_getElem?_getD, hlen]
                    rw [ec] at c2
                    have f2 := hbm.frozen O[m]
                    have hv0 : 0 ≤ (bump (qS t (totS ws) ws) (O.take m)).getD O[m] 0 := by rw [hbat]; split <;> omega
                    have hv1 : (bump (qS t (totS ws) ws) (O.take m)).getD O[m] 0 ≤ 1099511627777 := by rw [hbat]; split <;> omega
                    have HTK : Hid (O.take (m + 1) = O.take m ++ [O[m]]) := Lib.hid (List.take_succ_eq_append_getElem hmk)
                    have HBN := Lib.hid (hbm.set O[m] (.int .i64 ((bump (qS t (totS ws) ws) (O.take m)).getD O[m] 0 + 1)))
                    have HON := Lib.hid (hom.far (p := ⟨g1, O[m], none⟩) (Ne.symm d13) (.int .i64 ((bump (qS t (totS ws) ws) (O.take m)).getD O[m] 0 + 1)))
                    have HXN := Lib.hid (hxm.setCell (p := ⟨g1, O[m], none⟩) l1 (.int .i64 ((bump (qS t (totS ws) ws) (O.take m)).getD O[m] 0 + 1)))
                    have HBV := Lib.hid (vis_set' (bump (qS t (totS ws) ws) (O.take m)) O[m] ((bump (qS t (totS ws) ws) (O.take m)).getD O[m] 0 + 1))
                    clear hbat hlen ec hbm hom hxm hqb
                    generalize O[m] = j at *
                    generalize (bump (qS t (totS ws) ws) (O.take m)).getD j 0 = z at *
                    have hjz : (j : Int) < (k : Int) := by omega
                    go_wp2
                    go_roundw
                    case rel => exact ⟨m + 1, by omega, by go_num, by rw [HTK.out, HBS.out, ← HBV.out]; exact HBN.out, HON.out, HXN.out⟩
                    case measure => simp [RowKit.intOf]; omega
                  · obtain rfl : m = L := by omega
                    have hmz : ¬ (m : Int) < (m : Int) := by omega
                    have HF : Hid (SplitAns t ws (bump (qS t (totS ws) ws) (O.take m)) 0) := Lib.hid ⟨fun _ => ⟨rfl, O.take m, HPK.out m, by rw [List.length_take, HOL.out, Nat.min_eq_left hLk, HL.out], rfl⟩, fun h => by rw [HOK.out] at h; cases h⟩
                    have HOW := Lib.hid (Own.of_blk' hbm l1 (n := k) (by rw [vis_len, bump_len, HQL.out]) (by omega))
                    clear hbm hom
                    go_wp2
                    go_ret2
                    exact ⟨_, _, 0, rfl, HF.out, HOW.out, hxm⟩
end Go.Proofs.Ytbcjikiakanncaa
