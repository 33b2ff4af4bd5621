/- package dice's reference: Shuffle: its contract. -/
import Derived.Test.YtjgpdimhgcacgaaDw2
namespace Go.Proofs.Ytjgpdimhgcacgaa
open Go.RowKit
set_option linter.unusedVariables false

set_option maxRecDepth 100000 in
set_option maxHeartbeats 4000000 in
theorem rshuffle_any (R : Nat → Prop) (g : Nat) (seed : List UInt8) (label : ByteArray) (p n : Int) (w : World) (h : RDAt w R g seed label p) (hR : ∀ k, R k → k < w.heap.size) (hp : inI64 p) (hn : inI64 n) (hl : seed.length ≤ 1000000) (hs : label.size ≤ 1000000) :
    Calls Try.prog 39 #[.pointer (some ⟨g, 0, none⟩), .int .i64 n] w fun e w' => ∃ v,
      e = .returned (.tuple #[v, .int .i64 (shuffleD seed label.data.toList n p).2.1]) ∧ Own w' w.heap.size 3 v (vis (shuffleD seed label.data.toList n p).1) ∧ RDAt w' R g seed label (shuffleD seed label.data.toList n p).2.2 ∧ Chg g w w' := by
  obtain ⟨i0, hi, hz00, hz01, hz02⟩ := info_parts info_int
  have hgl := h.lt
  by_cases hbad : n < 0 ∨ 4096 < n
  · have HH : Hid (shuffleD seed label.data.toList n p = ([], 1, p)) := Lib.hid (by unfold shuffleD; rw [if_pos hbad])
    have hc : decide (n < 0) = true ∨ (decide (n < 0) = false ∧ decide (4096 < n) = true) := by
      simp only [decide_eq_true_eq, decide_eq_false_iff_not]; omega
    clear hbad
    rcases hc with h1 | ⟨h1, h2⟩
    all_goals
      go_enter Try.func39, Try.ntmps39
      go_wp2
      go_ret2
      rw [HH.out]
      exact ⟨_, rfl, Own.nil _ _ _, h, Chg.refl g w⟩
  · obtain ⟨N, rfl⟩ := Int.eq_ofNat_of_zero_le (show 0 ≤ n by omega)
    have hN : N ≤ 4096 := by omega
    have HH : Hid (shuffleD seed label.data.toList N p = shufF seed label.data.toList (N - 1) (rangeI N) p) := Lib.hid (by unfold shuffleD; rw [if_neg hbad]; simp)
    have h1 : decide ((N : Int) < 0) = false := decide_eq_false (by omega)
    have h2 : decide ((4096 : Int) < (N : Int)) = false := decide_eq_false (by omega)
    clear hbad
    go_enter Try.func39, Try.ntmps39
    go_wp2_with fail
    go_loopw [7, 6] (fun i out wr => ∃ k : Nat, i = .int .i64 k ∧ k ≤ N ∧ Own wr w.heap.size 3 out (vis (rangeI k)) ∧ Ext w wr) (fun i _ _ => N - (intOf i).toNat)
    case atStart => exact ⟨0, rfl, by omega, Own.nil _ _ _, Ext.refl w⟩
    case round =>
      obtain ⟨k, rfl, hk, ho, hx⟩ := hrel
      by_cases hlt : (k : Int) < N
      · have hsz := hx.size
        have hle : (vis (rangeI k)).length = k := by rw [vis_len, rangeI_len]
        have HT : Hid (vis (rangeI k) ++ [.int .i64 (k : Int)] = vis (rangeI (k + 1))) := Lib.hid (by simp [rangeI, List.range_succ, vis])
        generalize hF : vis (rangeI k) = F at *
        clear hF
        go_wp2_with (at_builtin; refine wpList_app _ rfl (.tmp 23) (.tmp 25) _ rfl w.heap.size 3 i0 _ 8 Try.underlying29 hi hz00 hz01 hz02 rfl (by omega) _ _ rfl (ho.ext ((Ext.refl _).alloc _)) (some ⟨wr.heap.size, 0, none⟩) 1 1 [.int .i64 (k : Int)] rfl (Src.one _ _ _) ?_ ?_ ?_ ?_; (simp [Value.oneCell']); (rw [hle]; omega); (simp; omega); intro v1 w3 ho3 hg3 _)
        go_roundw
        case rel => exact ⟨k + 1, by go_num, by omega, by rw [← HT.out]; exact ho3, hx.app (Ext.refl _) ho hg3⟩
        case measure => simp [intOf]; omega
      · have hke : k = N := by omega
        rw [hke] at ho
        obtain ⟨A, cap, hv, hA⟩ := ho.form'
        rw [vis_len, rangeI_len] at hv hA
        subst hv
        have hAl := ho.lt
        have hd := h.ext hx
        have hc := Chg.of_ext (g := g) hx
        clear hx h hke hk
        generalize wr = w2 at *
        go_wp2_with fail
        clear hlt
        go_loopw [8] (fun i wr => ∃ (z : Int) (l : List Int) (q : Int), i = .int .i64 z ∧ -1 ≤ z ∧ z < N ∧ l.length = N ∧ inI64 q ∧ Own wr w.heap.size 3 (.slice A N cap) (vis l) ∧ RDAt wr R g seed label q ∧ Chg g w wr ∧ Hid (shufF seed label.data.toList z.toNat l q = shuffleD seed label.data.toList N p)) (fun i _ => (intOf i).toNat)
        case atStart => exact ⟨(N : Int) - 1, rangeI N, p, by first | rfl | go_num, by omega, by omega, rangeI_len N, hp, ho, hd, hc, Lib.hid (by rw [HH.out]; congr 1; omega)⟩
        case round =>
          obtain ⟨z, l, q, rfl, hz1, hz2, hll, hq, hol, hdl, hcl, hS⟩ := hrel
          by_cases hz : 0 < z
          · obtain ⟨i, rfl⟩ : ∃ i : Nat, z = ((i + 1 : Nat) : Int) := ⟨(z - 1).toNat, by omega⟩
            have HLL := Lib.hid hll
            obtain ⟨G, hAe⟩ := hA (by omega)
            subst hAe
            have hG := (hAl G rfl).1
            have hsz : w.heap.size ≤ wr.heap.size := hcl.size
            have hns : inI64 (((i + 1 : Nat) : Int) + 1) := ⟨by omega, by omega⟩
            go_wp2_with fail
            refine (rroll_any R g seed label q (((i + 1 : Nat) : Int) + 1) _ hdl hq hns hl hs).mono ?_
            rintro e w3 ⟨rfl, hD, hc3⟩
            have herr := rollD_err seed label.data.toList (((i + 1 : Nat) : Int) + 1) q (by omega)
            have hval := rollD_val seed label.data.toList (((i + 1 : Nat) : Int) + 1) q (by omega)
            have hpos := rollD_pos seed label.data.toList (((i + 1 : Nat) : Int) + 1) q hq
            have HS : Hid (shuffleD seed label.data.toList N p = if (rollD seed label.data.toList (((i + 1 : Nat) : Int) + 1) q).2.1 = 0 then shufF seed label.data.toList i (swapL l (i + 1) (rollD seed label.data.toList (((i + 1 : Nat) : Int) + 1) q).1.toNat) (rollD seed label.data.toList (((i + 1 : Nat) : Int) + 1) q).2.2 else ([], (rollD seed label.data.toList (((i + 1 : Nat) : Int) + 1) q).2.1, (rollD seed label.data.toList (((i + 1 : Nat) : Int) + 1) q).2.2)) := Lib.hid (by rw [← hS.out]; rfl)
            generalize (rollD seed label.data.toList (((i + 1 : Nat) : Int) + 1) q).2.2 = q' at *
            generalize (rollD seed label.data.toList (((i + 1 : Nat) : Int) + 1) q).2.1 = er at *
            generalize (rollD seed label.data.toList (((i + 1 : Nat) : Int) + 1) q).1 = r at *
            clear hS hns hdl
            have hcl3 := hcl.trans hc3
            have hol3 := Own.farR hol hc3 (fun k hk => by cases hk; omega)
            have hsz3 := hcl3.size
            clear hol hc3 hcl
            rcases herr with rfl | rfl
            · rw [if_pos rfl] at HS
              obtain ⟨j, rfl⟩ : ∃ j : Nat, r = (j : Int) := ⟨r.toNat, by omega⟩
              have hj : j < i + 2 := by omega
              obtain ⟨ci, fi, seti⟩ := Own.cellAt hol3 (k := i + 1) (by rw [hll]; omega)
              obtain ⟨cj, fj, setj⟩ := Own.cellAt hol3 (k := j) (by rw [hll]; omega)
              have hi1 : i + 1 < N := by omega
              have hj1 : j < N := by omega
              have s1 := seti (l.getD j 0)
              obtain ⟨-, -, s2⟩ := Own.cellAt s1 (k := j) (by rw [List.length_set, hll]; omega)
              have s2 := s2 (l.getD (i + 1) 0)
              have HS2 : Hid (Own ((w3.setCell ⟨G, i + 1, none⟩ (.int .i64 (l.getD j 0))).setCell ⟨G, j, none⟩ (.int .i64 (l.getD (i + 1) 0))) w.heap.size 3 (.slice (some ⟨G, 0, none⟩) N cap) (vis (swapL l (i + 1) j))) := Lib.hid s2
              have HD2 : Hid (∀ x y, RDAt ((w3.setCell ⟨G, i + 1, none⟩ x).setCell ⟨G, j, none⟩ y) R g seed label q') := Lib.hid (fun x y => RDAt.chg (RDAt.chg hD (Chg.set G (i + 1) w3 x) (by omega) (fun k hk => by have := hR k hk; omega)) (Chg.set G j _ y) (by omega) (fun k hk => by have := hR k hk; omega))
              have HC2 : Hid (∀ x y, Chg g w ((w3.setCell ⟨G, i + 1, none⟩ x).setCell ⟨G, j, none⟩ y)) := Lib.hid (fun x y => chg_new (chg_new hcl3 (p := ⟨G, i + 1, none⟩) hG x) (p := ⟨G, j, none⟩) hG y)
              have HL2 := Lib.hid (swapL_len l (i + 1) j)
              rw [Int.toNat_natCast] at HS
              clear seti setj s1 s2 hD hol3
              obtain ⟨xi, hxi⟩ : ∃ x, x = l.getD (i + 1) 0 := ⟨_, rfl⟩
              obtain ⟨xj, hxj⟩ : ∃ x, x = l.getD j 0 := ⟨_, rfl⟩
              rw [← hxi] at ci HS2
              rw [← hxj] at cj HS2
              clear hxi hxj
              by_cases hij : j = i + 1
              · subst hij
                have hxe : xj = xi := by rw [ci] at cj; injection cj with cj; injection cj with _ cj; exact cj.symm
                subst hxe
                go_wp2_with fail
                go_roundw
                case rel => exact ⟨(i : Int), swapL l (i + 1) (i + 1), q', by first | rfl | go_num, by omega, by omega, by rw [HL2.out]; exact HLL.out, hpos, HS2.out, HD2.out _ _, HC2.out _ _, Lib.hid HS.out.symm⟩
                case measure => simp [intOf]
              · go_wp2_with fail
                go_roundw
                case rel => exact ⟨(i : Int), swapL l (i + 1) j, q', by first | rfl | go_num, by omega, by omega, by rw [HL2.out]; exact HLL.out, hpos, HS2.out, HD2.out _ _, HC2.out _ _, Lib.hid HS.out.symm⟩
                case measure => simp [intOf]
            · rw [if_neg (by decide)] at HS
              go_wp2
              go_ret2
              rw [HS.out]
              exact ⟨_, rfl, Own.nil _ _ _, hD, hcl3⟩
          · have HR : Hid (shuffleD seed label.data.toList N p = (l, 0, q)) := Lib.hid (by rw [← hS.out, show z.toNat = 0 by omega]; rfl)
            clear hS
            go_wp2
            go_ret2
            rw [HR.out]
            exact ⟨_, rfl, hol, hdl, hcl⟩
end Go.Proofs.Ytjgpdimhgcacgaa
