/- package dice: Shuffle: its contract. -/
import Derived.Test.YtjgpdimhgcacgaaDw1
namespace Go.Proofs.Ytjgpdimhgcacgaa
open Go.RowKit
set_option linter.unusedVariables false

/-- two elements change places -/
def swapL (l : List Int) (i j : Nat) : List Int := (l.set i (l.getD j 0)).set j (l.getD i 0)
theorem swapL_len (l : List Int) (i j : Nat) : (swapL l i j).length = l.length := by simp [swapL]
/-- from index i downwards -/
def shufF (seed label : List UInt8) : Nat → List Int → Int → List Int × Int × Int
  | 0, l, p => (l, 0, p)
  | i + 1, l, p =>
    if (rollD seed label (i + 2 : Nat) p).2.1 = 0 then shufF seed label i (swapL l (i + 1) (rollD seed label (i + 2 : Nat) p).1.toNat) (rollD seed label (i + 2 : Nat) p).2.2
    else ([], (rollD seed label (i + 2 : Nat) p).2.1, (rollD seed label (i + 2 : Nat) p).2.2)
def rangeI (n : Nat) : List Int := (List.range n).map Int.ofNat
def shuffleD (seed label : List UInt8) (n p : Int) : List Int × Int × Int := if n < 0 ∨ 4096 < n then ([], 1, p) else shufF seed label (n.toNat - 1) (rangeI n.toNat) p

theorem Own.cellAt {w : World} {base g cap n : Nat} {e : TypeId} {zs : List Int} (h : Own w base e (.slice (some ⟨g, 0, none⟩) n cap) (vis zs)) {k : Nat} (hk : k < zs.length) :
    w.cell? ⟨g, k, none⟩ = some (.int .i64 (zs.getD k 0)) ∧ w.frozen? ⟨g, k, none⟩ = false ∧ ∀ u, Own (w.setCell ⟨g, k, none⟩ (.int .i64 u)) base e (.slice (some ⟨g, 0, none⟩) n cap) (vis (zs.set k u)) := by
  obtain ⟨g', cap', hv, -, -, h3, h4, h5⟩ := h.at (by rw [vis_len]; omega)
  injection hv with e1 e2 e3
  injection e1 with e1
  injection e1 with e1
  subst e1 e3
  refine ⟨h3 w (Ext.refl w) k _ (by simp [vis, hk]), h4 k, fun u => ?_⟩
  have := h5 k (.int .i64 u)
  rw [e2]
  rw [show vis (zs.set k u) = (vis zs).set k (.int .i64 u) by simp [vis, List.map_set]]
  exact this
theorem made_ints (n : Nat) : (madeCells (Value.int IntKind.i64 0).cells (n * 1)).toList = vis (List.replicate n 0) := by
  apply List.ext_getElem
  · simp [madeCells, vis]
  · intro j h1 h2
    simp [madeCells, vis, Value.cells, Nat.mod_one]
theorem rangeI_set (n k : Nat) (h : k < n) : (rangeI k ++ List.replicate (n - k) 0).set k (k : Int) = rangeI (k + 1) ++ List.replicate (n - (k + 1)) 0 := by
  have e : n - k = (n - (k + 1)) + 1 := by omega
  rw [e, List.replicate_succ, List.set_append_right _ _ (by simp [rangeI])]
  simp [rangeI, List.range_succ]
theorem rangeI_len (n : Nat) : (rangeI n).length = n := by simp [rangeI]

set_option maxRecDepth 100000 in
set_option maxHeartbeats 4000000 in
theorem shuffle_any (R : Nat → Prop) (g : Nat) (seed : List UInt8) (label : ByteArray) (p n : Int) (w : World) (h : DiceAt w R g seed label p) (hR : ∀ k, R k → k < w.heap.size) (hp : inI64 p) (hn : inI64 n) (hl : seed.length ≤ 1000000) (hs : label.size ≤ 1000000) :
    Calls Try.prog 38 #[.pointer (some ⟨g, 0, none⟩), .int .i64 n] w fun e w' => ∃ v,
      e = .returned (.tuple #[v, .int .i64 (shuffleD seed label.data.toList n p).2.1]) ∧ Own w' w.heap.size 3 v (vis (shuffleD seed label.data.toList n p).1) ∧ DiceAt w' R g seed label (shuffleD seed label.data.toList n p).2.2 ∧ Chg g w w' := by
  obtain ⟨i0, hi, hz00, hz01, hz02⟩ := info_parts info_int
  have hgl := h.lt
  by_cases hbad : n < 0 ∨ 4096 < n
  · have HH : Hid (shuffleD seed label.data.toList n p = ([], 1, p)) := Lib.hid (by unfold shuffleD; rw [if_pos hbad])
    have hc : decide (n < 0) = true ∨ (decide (n < 0) = false ∧ decide (4096 < n) = true) := by
      simp only [decide_eq_true_eq, decide_eq_false_iff_not]; omega
    clear hbad
    rcases hc with h1 | ⟨h1, h2⟩
    all_goals
      go_enter Try.func38, Try.ntmps38
      go_wp2
      go_ret2
      rw [HH.out]
      exact ⟨_, rfl, Own.nil _ _ _, h, Chg.refl g w⟩
  · obtain ⟨N, rfl⟩ := Int.eq_ofNat_of_zero_le (show 0 ≤ n by omega)
    have hN : N ≤ 4096 := by omega
    have HH : Hid (shuffleD seed label.data.toList N p = shufF seed label.data.toList (N - 1) (rangeI N) p) := Lib.hid (by unfold shuffleD; rw [if_neg hbad]; simp)
    have h1 : decide ((N : Int) < 0) = false := decide_eq_false (by omega)
    have h2 : decide ((4096 : Int) < (N : Int)) = false := decide_eq_false (by omega)
    clear hbad
    go_enter Try.func38, Try.ntmps38
    go_wp2_with (at_make; refine wpList_make_full _ rfl _ _ 29 rfl w.heap.size 3 i0 (.int .i64 0) 1 Try.underlying29 hi hz00 hz01 .i64 .i64 _ _ N rfl rfl rfl rfl (by rw [hz02]; omega) (by unfold maxLen; omega) (Nat.le_refl _) ?_; intro w1 ho1 hg1)
    have ho1 : Own w1 w.heap.size 3 (.slice (some ⟨w.heap.size, 0, none⟩) N N) (vis (rangeI 0 ++ List.replicate (N - 0) 0)) := by
      rw [made_ints] at ho1
      unfold Own
      rw [vis_len]
      simpa [rangeI] using ho1
    have hx1 : Ext w w1 := ⟨hg1.os, hg1.tape, hg1.output, hg1.size, fun k hk => World.grownBy.block hg1 k hk (by simp)⟩
    have hb1 : w.heap.size < w1.heap.size ∨ N = 0 := by
      rcases Nat.eq_zero_or_pos N with h | h
      · exact .inr h
      · have := ho1.lt w.heap.size rfl
        exact .inl this.2
    clear hg1
    go_loopw [21, 7] (fun i _ wr => ∃ k : Nat, i = .int .i64 k ∧ k ≤ N ∧ Own wr w.heap.size 3 (.slice (some ⟨w.heap.size, 0, none⟩) N N) (vis (rangeI k ++ List.replicate (N - k) 0)) ∧ Ext w wr) (fun i _ _ => N - (intOf i).toNat)
    case atStart => exact ⟨0, rfl, by omega, ho1, hx1⟩
    case round =>
      obtain ⟨k, rfl, hk, ho, hx⟩ := hrel
      by_cases hlt : (k : Int) < N
      · obtain ⟨hc, hf, hset⟩ := Own.cellAt ho (k := k) (by simp [rangeI]; omega)
        have hset := hset k
        rw [rangeI_set N k (by omega)] at hset
        clear ho
        go_wp2_with fail
        go_roundw
        case rel => exact ⟨k + 1, by go_num, by omega, hset, hx.setCell (by simp) _⟩
        case measure => simp [intOf]; omega
      · have hke : k = N := by omega
        rw [hke] at ho
        clear ho1 hx1 hke hk
        simp only [Nat.sub_self, List.replicate_zero, List.append_nil] at ho
        have hd := h.ext hx
        have hc := Chg.of_ext (g := g) hx
        clear hx h
        generalize wr = w2 at *
        go_wp2_with fail
        clear hlt
        go_loopw [8] (fun i wr => ∃ (z : Int) (l : List Int) (q : Int), i = .int .i64 z ∧ -1 ≤ z ∧ z < N ∧ l.length = N ∧ inI64 q ∧ Own wr w.heap.size 3 (.slice (some ⟨w.heap.size, 0, none⟩) N N) (vis l) ∧ DiceAt wr R g seed label q ∧ Chg g w wr ∧ Hid (shufF seed label.data.toList z.toNat l q = shuffleD seed label.data.toList N p)) (fun i _ => (intOf i).toNat)
        case atStart => exact ⟨(N : Int) - 1, rangeI N, p, by first | rfl | go_num, by omega, by omega, rangeI_len N, hp, ho, hd, hc, Lib.hid (by rw [HH.out]; congr 1; omega)⟩
        case round =>
          obtain ⟨z, l, q, rfl, hz1, hz2, hll, hq, hol, hdl, hcl, hS⟩ := hrel
          by_cases hz : 0 < z
          · obtain ⟨i, rfl⟩ : ∃ i : Nat, z = ((i + 1 : Nat) : Int) := ⟨(z - 1).toNat, by omega⟩
            have HLL := Lib.hid hll
            have hsz : w.heap.size ≤ wr.heap.size := hcl.size
            have hns : inI64 (((i + 1 : Nat) : Int) + 1) := ⟨by omega, by omega⟩
            go_wp2_with fail
            refine (roll_any R g seed label q (((i + 1 : Nat) : Int) + 1) _ hdl hq hns hl hs).mono ?_
            rintro e w3 ⟨rfl, hD, hc3⟩
            have herr := rollD_err seed label.data.toList (((i + 1 : Nat) : Int) + 1) q (by omega)
            have hval := rollD_val seed label.data.toList (((i + 1 : Nat) : Int) + 1) q (by omega)
            have hpos := rollD_pos seed label.data.toList (((i + 1 : Nat) : Int) + 1) q hq
            have HS : Hid (shuffleD seed label.data.toList N p = if (rollD seed label.data.toList (((i + 1 : Nat) : Int) + 1) q).2.1 = 0 then shufF seed label.data.toList i (swapL l (i + 1) (rollD seed label.data.toList (((i + 1 : Nat) : Int) + 1) q).1.toNat) (rollD seed label.data.toList (((i + 1 : Nat) : Int) + 1) q).2.2 else ([], (rollD seed label.data.toList (((i + 1 : Nat) : Int) + 1) q).2.1, (rollD seed label.data.toList (((i + 1 : Nat) : Int) + 1) q).2.2)) := Lib.hid (by rw [← hS.out]; rfl)
            generalize (rollD seed label.data.toList (((i + 1 : Nat) : Int) + 1) q).2.2 = q' at *
            generalize (rollD seed label.data.toList (((i + 1 : Nat) : Int) + 1) q).2.1 = er at *
            generalize (rollD seed label.data.toList (((i + 1 : Nat) : Int) + 1) q).1 = r at *
            clear hS hns hdl
            have hcl3 := hcl.trans hc3
            have hol3 := Own.farR hol hc3 (fun k hk => by cases hk; omega)
            have hsz3 := hcl3.size
            clear hol hc3 hcl
            rcases herr with rfl | rfl
            · rw [if_pos rfl] at HS
              obtain ⟨j, rfl⟩ : ∃ j : Nat, r = (j : Int) := ⟨r.toNat, by omega⟩
              have hj : j < i + 2 := by omega
              obtain ⟨ci, fi, seti⟩ := Own.cellAt hol3 (k := i + 1) (by rw [hll]; omega)
              obtain ⟨cj, fj, setj⟩ := Own.cellAt hol3 (k := j) (by rw [hll]; omega)
              have hi1 : i + 1 < N := by omega
              have hj1 : j < N := by omega
              have s1 := seti (l.getD j 0)
              obtain ⟨-, -, s2⟩ := Own.cellAt s1 (k := j) (by rw [List.length_set, hll]; omega)
              have s2 := s2 (l.getD (i + 1) 0)
              have HS2 : Hid (Own ((w3.setCell ⟨w.heap.size, i + 1, none⟩ (.int .i64 (l.getD j 0))).setCell ⟨w.heap.size, j, none⟩ (.int .i64 (l.getD (i + 1) 0))).drew w.heap.size 3 (.slice (some ⟨w.heap.size, 0, none⟩) N N) (vis (swapL l (i + 1) j))) := Lib.hid (World.ownsRow.drew s2)
              have HD2 : Hid (∀ x y, DiceAt ((w3.setCell ⟨w.heap.size, i + 1, none⟩ x).setCell ⟨w.heap.size, j, none⟩ y).drew R g seed label q') := Lib.hid (fun x y => DiceAt.ext (DiceAt.chg (DiceAt.chg hD (Chg.set w.heap.size (i + 1) w3 x) (by omega) (fun k hk => by have := hR k hk; omega)) (Chg.set w.heap.size j _ y) (by omega) (fun k hk => by have := hR k hk; omega)) (Ext.drew (Ext.refl _)))
              have HC2 : Hid (∀ x y, Chg g w ((w3.setCell ⟨w.heap.size, i + 1, none⟩ x).setCell ⟨w.heap.size, j, none⟩ y).drew) := Lib.hid (fun x y => (chg_new (chg_new hcl3 (p := ⟨w.heap.size, i + 1, none⟩) (by simp) x) (p := ⟨w.heap.size, j, none⟩) (by simp) y).trans (Chg.of_ext (Ext.drew (Ext.refl _))))
              have HL2 := Lib.hid (swapL_len l (i + 1) j)
              rw [Int.toNat_natCast] at HS
              clear seti setj s1 s2 hD hol3
              obtain ⟨xi, hxi⟩ : ∃ x, x = l.getD (i + 1) 0 := ⟨_, rfl⟩
              obtain ⟨xj, hxj⟩ : ∃ x, x = l.getD j 0 := ⟨_, rfl⟩
              rw [← hxi] at ci HS2
              rw [← hxj] at cj HS2
              clear hxi hxj
              by_cases hij : j = i + 1
              · subst hij
                have hxe : xj = xi := by rw [ci] at cj; injection cj with cj; injection cj with _ cj; exact cj.symm
                subst hxe
                go_wp2_with fail
                go_region
                go_wp2_with fail
                go_roundw
                case rel => exact ⟨(i : Int), swapL l (i + 1) (i + 1), q', by first | rfl | go_num, by omega, by omega, by rw [HL2.out]; exact HLL.out, hpos, HS2.out, HD2.out _ _, HC2.out _ _, Lib.hid HS.out.symm⟩
                case measure => simp [intOf]
              · go_wp2_with fail
                go_region
                go_wp2_with fail
                go_roundw
                case rel => exact ⟨(i : Int), swapL l (i + 1) j, q', by first | rfl | go_num, by omega, by omega, by rw [HL2.out]; exact HLL.out, hpos, HS2.out, HD2.out _ _, HC2.out _ _, Lib.hid HS.out.symm⟩
                case measure => simp [intOf]
            · rw [if_neg (by decide)] at HS
              go_wp2
              go_ret2
              rw [HS.out]
              exact ⟨_, rfl, Own.nil _ _ _, hD, hcl3⟩
          · have HR : Hid (shuffleD seed label.data.toList N p = (l, 0, q)) := Lib.hid (by rw [← hS.out, show z.toNat = 0 by omega]; rfl)
            clear hS
            go_wp2
            go_ret2
            rw [HR.out]
            exact ⟨_, rfl, hol, hdl, hcl⟩
end Go.Proofs.Ytjgpdimhgcacgaa
