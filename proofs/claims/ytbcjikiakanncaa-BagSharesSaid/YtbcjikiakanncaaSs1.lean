/- slices.SortStableFunc of a few numbers by package share's comparison: contracts. -/
import Derived.Test.YtbcjikiakanncaaSc3
import Derived.Test.YtbcjikiakanncaaMo
import Derived.RegionTactic
import Derived.BigRegion
import Derived.ChangeAlike
namespace Go.Proofs.Ytbcjikiakanncaa
open Go.RowKit
set_option linter.unusedVariables false

def vns (l : List Nat) : List Value := l.map fun n : Nat => Value.int .i64 (n : Int)
theorem vns_len (l : List Nat) : (vns l).length = l.length := by simp [vns]
theorem vns_at {l : List Nat} {k x : Nat} (h : l[k]? = some x) : (vns l)[k]? = some (.int .i64 (x : Int)) := by simp [vns, h]
theorem vns_set (l : List Nat) (k x : Nat) : (vns l).set k (.int .i64 (x : Int)) = vns (l.set k x) := by simp [vns, List.map_set]
theorem Chg.drewN {g : Nat} {w w' : World} (h : Chg g w w') (n : Nat) : Chg g w (w'.drewN n) := h.trans (Chg.of_ext ((Ext.refl _).drewN n))
theorem Blk.drewN {w : World} {g : Nat} {t : TypeId} {cs : List Value} (h : Blk w g t cs) (n : Nat) : Blk (w.drewN n) g t cs := h

/-- where the comparison finds the rests -/
structure RestAt (W : World) (bx gr c : Nat) (r : List Int) : Prop where
  box : W.cell? ⟨bx, 0, none⟩ = some (.slice (some ⟨gr, 0, none⟩) r.length c)
  cells : ∀ (j : Nat) (u : Value), (vis r)[j]? = some u → W.cell? ⟨gr, j, none⟩ = some u
theorem RestAt.chg {W W' : World} {bx gr c g : Nat} {r : List Int} (h : RestAt W bx gr c r) (hc : Chg g W W') (h1 : bx ≠ g) (h2 : gr ≠ g) : RestAt W' bx gr c r :=
  ⟨hc.cell h.box h1, fun j u hu => hc.cell (h.cells j u hu) h2⟩

set_option maxHeartbeats 1000000 in
theorem cmp_any (bx gr c : Nat) (r : List Int) (x y : Nat) (W : World) (h : RestAt W bx gr c r) (hr : ∀ z ∈ r, 0 ≤ z ∧ z ≤ 1152921504606846976) (hx : x < r.length) (hy : y < r.length) :
    Calls Try.prog 53 #[.int .i64 x, .int .i64 y, .pointer (some ⟨bx, 0, none⟩)] W fun e w' => e = .returned (.int .i64 (r.getD y 0 - r.getD x 0)) ∧ ∃ q, w' = W.drewN q := by
  obtain ⟨h1, h2⟩ := h
  have c1 : W.cell? ⟨gr, x, none⟩ = some (.int .i64 (r.getD x 0)) := h2 x _ (by simp [vis, hx])
  have c2 : W.cell? ⟨gr, y, none⟩ = some (.int .i64 (r.getD y 0)) := h2 y _ (by simp [vis, hy])
  have b1 := getD_mem0 (P := fun z => 0 ≤ z ∧ z ≤ 1152921504606846976) (by omega) hr x
  have b2 := getD_mem0 (P := fun z => 0 ≤ z ∧ z ≤ 1152921504606846976) (by omega) hr y
  obtain ⟨p1, p2⟩ := b1
  obtain ⟨p3, p4⟩ := b2
  have x0 : (0 : Int) ≤ (x : Int) := by omega
  have x1 : (x : Int) < (r.length : Int) := by omega
  have y0 : (0 : Int) ≤ (y : Int) := by omega
  have y1 : (y : Int) < (r.length : Int) := by omega
  generalize r.getD x 0 = a at *
  generalize r.getD y 0 = b at *
  clear h2 hr
  go_enter Try.func53, Try.ntmps53
  go_wp2
  go_quiet (fail)
  go_wp2
  go_ret
  exact ⟨rfl, _, rfl⟩

theorem swap_blk {W : World} {g : Nat} {t : TypeId} {A R : List Nat} {jp i y : Nat} (hj : jp < A.length) (hy : A[jp] = y) (hb : Blk W g t (vns (insAt A (jp + 1) i R))) :
    Blk ((W.setCell ⟨g, jp + 1, none⟩ (.int .i64 (y : Int))).setCell ⟨g, jp, none⟩ (.int .i64 (i : Int))) g t (vns (insAt A jp i R)) := by
  have h := (hb.set (jp + 1) (.int .i64 (y : Int))).set jp (.int .i64 (i : Int))
  rw [vns_set, vns_set, ← hy, (insAt_swap A jp i R hj).1] at h
  rw [← hy]
  exact h

set_option maxRecDepth 100000 in
set_option maxHeartbeats 4000000 in
theorem insort_any (g n cap bx gr c : Nat) (r : List Int) (w : World) (hrl : r.length = n) (hn1 : 1 ≤ n) (hn : n ≤ 19) (hr : ∀ z ∈ r, 0 ≤ z ∧ z ≤ 1152921504606846976) (h : RestAt w bx gr c r) (hb : Blk w g 3 (vns (List.range n))) (h1 : bx ≠ g) (h2 : gr ≠ g) :
    Calls Try.prog 89 #[.slice (some ⟨g, 0, none⟩) n cap, .int .i64 0, .int .i64 n, .func (.func 53) #[] #[.pointer (some ⟨bx, 0, none⟩)]] w fun e w' =>
      e = .returned (.tuple #[]) ∧ ∃ O : List Nat, O.Perm (List.range n) ∧ O.Pairwise (Bef r) ∧ Blk w' g 3 (vns O) ∧ Chg g w w' := by
  have HC := Lib.hid (fun (W : World) (hW : Chg g w W) (x y : Nat) (hx : x < n) (hy : y < n) => cmp_any bx gr c r x y W (h.chg hW h1 h2) hr (by omega) (by omega))
  have HBD := Lib.hid (fun k => getD_mem0 (P := fun z => 0 ≤ z ∧ z ≤ 1152921504606846976) (by omega) hr k)
  clear h hr
  have H0 : Hid (List.range n = 0 :: (List.range n).drop 1) := Lib.hid (by
    have := List.drop_eq_getElem_cons (l := List.range n) (i := 0) (by simp; omega)
    simpa using this)
  go_enter Try.func89, Try.ntmps89
  go_wp2_with fail
  go_loopw [8] (fun x8 wr => ∃ (i : Nat) (A : List Nat), x8 = .int .i64 i ∧ 1 ≤ i ∧ i ≤ n ∧ Hid (A.Perm (List.range i)) ∧ Hid (A.Pairwise (Bef r)) ∧ Blk wr g 3 (vns (A ++ (List.range n).drop i)) ∧ Chg g w wr) (fun x8 _ => n - (RowKit.intOf x8).toNat)
  case atStart => exact ⟨1, [0], by go_num, by omega, by omega, Lib.hid (by simp), Lib.hid (by simp), by rw [H0.out] at hb; exact hb, Chg.refl _ _⟩
  case round =>
    obtain ⟨i, A, rfl, hi1, hi2, HP, HS, hbo, hco⟩ := hrel
    clear hb H0
    obtain ⟨wo, rfl⟩ : ∃ wo : World, wo = wr := ⟨_, rfl⟩
    by_cases hlt : i < n
    · have hiz : (i : Int) < (n : Int) := by omega
      have hAl : A.length = i := by rw [HP.out.length_eq]; simp
      have hdrop : (List.range n).drop i = i :: (List.range n).drop (i + 1) := by
        rw [List.drop_eq_getElem_cons (by simp; omega)]; simp
      rw [hdrop] at hbo
      clear hdrop
      obtain ⟨R, hR⟩ : ∃ R, R = (List.range n).drop (i + 1) := ⟨_, rfl⟩
      rw [← hR] at hbo
      have HR := Lib.hid hR
      clear hR
      have HAL := Lib.hid hAl
      have HAM : Hid (∀ y ∈ A, y < i) := Lib.hid (fun y hy => by have := HP.out.mem_iff.1 hy; simpa using this)
      rw [← insAt_top] at hbo
      rw [hAl] at hbo
      clear hAl
      go_wp2_with fail
      go_loopw [9] (fun x9 wr => ∃ j : Nat, x9 = .int .i64 j ∧ j ≤ i ∧ Hid (∀ y ∈ A.drop j, Bef r i y) ∧ Blk wr g 3 (vns (insAt A j i R)) ∧ Chg g w wr) (fun x9 _ => (RowKit.intOf x9).toNat)
      case atStart => exact ⟨i, rfl, Nat.le_refl _, Lib.hid (by rw [List.drop_of_length_le (by rw [HAL.out]; omega)]; simp), hbo, hco⟩
      case round =>
        obtain ⟨j, rfl, hji, HD, hbj, hcj⟩ := hrel
        have OUT : Hid ((j = 0 ∨ ∃ h : j - 1 < A.length, Bef r A[j - 1] i) → (A.take j ++ i :: A.drop j).Perm (List.range (i + 1)) ∧ (A.take j ++ i :: A.drop j).Pairwise (Bef r)) := Lib.hid (fun hs => by
          refine ⟨(ins_perm A j i).trans ((List.Perm.cons i HP.out).trans ?_), ins_sorted HS.out HD.out hs (by rw [HAL.out]; exact hji)⟩
          rw [List.range_succ]
          exact (List.perm_append_singleton i (List.range i)).symm)
        have HNX : Hid (vns (insAt A j i R) = vns ((A.take j ++ i :: A.drop j) ++ (List.range n).drop (i + 1))) := Lib.hid (by rw [← HR.out]; unfold insAt; simp)
        clear hbo hco
        rcases j with _ | jp
        · have hg : decide ((0 : Int) > 0) = false := by decide
          have hO := Lib.hid (OUT.out (.inl rfl))
          clear OUT HC
          go_wp2_with fail
          go_quiet (fail)
          go_wp2
          go_roundw
          case rel => exact ⟨i + 1, _, by go_num, by omega, by omega, Lib.hid hO.out.1, Lib.hid hO.out.2, by first | exact HNX.out ▸ hbj | exact HNX.out ▸ hbj.drewN _, by first | exact hcj.drewN _ | exact hcj⟩
          case measure => simp [RowKit.intOf]; omega
        · have hjA : jp < A.length := by rw [HAL.out]; omega
          have hyi := HAM.out A[jp] (by simp)
          obtain ⟨ga, gb⟩ := insAt_get A jp i R hjA
          have c1 := hbj.cell (jp + 1)
          have c2 := hbj.cell jp
          rw [vns_at ga] at c1
          rw [vns_at gb] at c2
          have f1 := hbj.frozen (jp + 1)
          have f2 := hbj.frozen jp
          have hcm := fun m => HC.out (wr.drewN m) (hcj.drewN m) i A[jp] hlt (by omega)
          have HSW := Lib.hid (insAt_swap A jp i R hjA)
          have HSTOP : Hid (r.getD i 0 ≤ r.getD A[jp] 0 → (A.take (jp + 1) ++ i :: A.drop (jp + 1)).Perm (List.range (i + 1)) ∧ (A.take (jp + 1) ++ i :: A.drop (jp + 1)).Pairwise (Bef r)) := Lib.hid (fun h => OUT.out (.inr ⟨by simpa using hjA, by
            simp only [Nat.add_sub_cancel]
            unfold Bef; omega⟩))
          have HGO : Hid (r.getD A[jp] 0 < r.getD i 0 → ∀ y ∈ A.drop jp, Bef r i y) := Lib.hid (fun h y hy => by
            rw [List.drop_eq_getElem_cons hjA] at hy
            rcases List.mem_cons.1 hy with rfl | hy
            · exact .inl h
            · exact HD.out y hy)
          have hri := HBD.out i
          have hry := HBD.out A[jp]
          have HB := Lib.hid (fun W (h : Blk W g 3 (vns (insAt A (jp + 1) i R))) => swap_blk hjA rfl h)
          obtain ⟨ri0, ri1⟩ := hri
          obtain ⟨ry0, ry1⟩ := hry
          generalize r.getD i 0 = ri at *
          generalize A[jp] = y at *
          generalize r.getD y 0 = ry at *
          have HBJ := Lib.hid hbj
          have HCJ := Lib.hid hcj
          have HHNX := HNX
          have j0 : (0 : Int) < (jp : Int) + 1 := by omega
          have j1 : (jp : Int) + 1 < (n : Int) := by omega
          have j2 : (jp : Int) < (n : Int) := by omega
          have j3 : (0 : Int) ≤ (jp : Int) + 1 := by omega
          have j4 : ((jp : Int) + 1).toNat = jp + 1 := by omega
          clear hbj hcj HC HNX HSW OUT ga gb
          by_cases hlt2 : ry < ri
          · have HN := Lib.hid (HGO.out hlt2)
            clear HSTOP HGO
            go_wp2_with fail
            go_quiet ((go_at_call 53; exact Calls.quiet_of (hcm _)))
            go_wp2_with fail
            clear hcm
            have HBN := Lib.hid (HB.out _ (HBJ.out.drewN nq))
            have HCN : Hid (Chg g w (((wr.drewN nq).setCell ⟨g, jp + 1, none⟩ (.int .i64 (y : Int))).setCell ⟨g, jp, none⟩ (.int .i64 (i : Int)))) := Lib.hid (((HCJ.out.drewN nq).trans (Chg.set g (jp + 1) _ _)).trans (Chg.set g jp _ _))
            go_region
            all_goals
              go_wp2
              go_roundw
              case rel => exact ⟨jp, by first | rfl | go_num, by omega, HN, HBN.out, by first | exact HCN.out.drewN 1 | exact HCN.out⟩
              case measure => simp [RowKit.intOf] <;> omega
          · have HN := Lib.hid (HSTOP.out (by omega))
            clear HSTOP HGO
            go_wp2_with fail
            go_quiet ((go_at_call 53; exact Calls.quiet_of (hcm _)))
            go_wp2
            go_roundw
            case rel => exact ⟨i + 1, _, by go_num, by omega, by omega, Lib.hid HN.out.1, Lib.hid HN.out.2, HHNX.out ▸ HBJ.out.drewN _, HCJ.out.drewN _⟩
            case measure => simp [RowKit.intOf]; omega
    · have hin : i = n := by omega
      have hiz : ¬ (i : Int) < (n : Int) := by omega
      have HIN := Lib.hid hin
      clear hin HC
      go_wp2
      go_end0
      have e : A ++ (List.range n).drop i = A := by rw [HIN.out, List.drop_of_length_le (by simp), List.append_nil]
      rw [e] at hbo
      exact ⟨rfl, A, by rw [← HIN.out]; exact HP.out, HS.out, hbo, hco⟩

theorem stable_any (g n cap bx gr c : Nat) (r : List Int) (w : World) (hrl : r.length = n) (hn1 : 1 ≤ n) (hn : n ≤ 19) (hr : ∀ z ∈ r, 0 ≤ z ∧ z ≤ 1152921504606846976) (h : RestAt w bx gr c r) (hb : Blk w g 3 (vns (List.range n))) (h1 : bx ≠ g) (h2 : gr ≠ g) :
    Calls Try.prog 77 #[.slice (some ⟨g, 0, none⟩) n cap, .int .i64 n, .func (.func 53) #[] #[.pointer (some ⟨bx, 0, none⟩)]] w fun e w' =>
      e = .returned (.tuple #[]) ∧ ∃ O : List Nat, O.Perm (List.range n) ∧ O.Pairwise (Bef r) ∧ Blk w' g 3 (vns O) ∧ Chg g w w' := by
  have n1 : ¬ (20 : Int) ≤ (n : Int) := by omega
  have n2 : ¬ (20 : Int) < (n : Int) := by omega
  go_enter Try.func77, Try.ntmps77
  go_wp2_with fail
  refine wp_loop_rounds 1 ?_
  rw [rounds_succ]
  go_wp2_with fail
  refine (insort_any g n cap bx gr c r _ hrl hn1 hn hr h hb h1 h2).mono ?_
  rintro e w1 ⟨rfl, O, o1, o2, o3, o4⟩
  have HO := Lib.hid (And.intro o1 (And.intro o2 (And.intro o3 o4)))
  clear o1 o2 o3 o4
  go_wp2_with fail
  refine wp_loop_rounds 1 ?_
  rw [rounds_succ]
  go_wp2_with fail
  go_end0
  exact ⟨rfl, O, HO.out⟩

theorem sort_any (g n cap bx gr c : Nat) (r : List Int) (w : World) (hrl : r.length = n) (hn1 : 1 ≤ n) (hn : n ≤ 19) (hr : ∀ z ∈ r, 0 ≤ z ∧ z ≤ 1152921504606846976) (h : RestAt w bx gr c r) (hb : Blk w g 3 (vns (List.range n))) (h1 : bx ≠ g) (h2 : gr ≠ g) :
    Calls Try.prog 52 #[.slice (some ⟨g, 0, none⟩) n cap, .func (.func 53) #[] #[.pointer (some ⟨bx, 0, none⟩)]] w fun e w' =>
      e = .returned (.tuple #[]) ∧ ∃ O : List Nat, O.Perm (List.range n) ∧ O.Pairwise (Bef r) ∧ Blk w' g 3 (vns O) ∧ Chg g w w' := by
  go_enter Try.func52, Try.ntmps52
  go_wp2_with fail
  refine (stable_any g n cap bx gr c r _ hrl hn1 hn hr h hb h1 h2).mono ?_
  rintro e w1 ⟨rfl, O, o1, o2, o3, o4⟩
  have HO := Lib.hid (And.intro o1 (And.intro o2 (And.intro o3 o4)))
  clear o1 o2 o3 o4
  go_wp2_with fail
  go_end0
  exact ⟨rfl, O, HO.out⟩
end Go.Proofs.Ytbcjikiakanncaa
