/- package bag: fit of both; combine, for whatever function. -/
import Derived.Test.YtbcjikiakanncaaBc1
import Derived.Laws.CopyOwn
import Derived.Deep.RegionWith
import Derived.Shelf.Abstract
namespace Go.Proofs.Ytbcjikiakanncaa
open Go.RowKit
set_option linter.unusedVariables false

set_option maxHeartbeats 1000000 in
theorem fit_any (v1 v2 : Value) (a b : List Int) (w : World) (h1 : Rd w v1 (vis a)) (h2 : Rd w v2 (vis b)) :
    Calls Try.prog 54 #[v1, v2] w fun e w' => e = .returned (.bool (fitB a b)) ∧ w = w' := by
  have hh1 := h1
  have hh2 := h2
  obtain ⟨A, c, rfl, ha1, ha2, _⟩ := id h1
  obtain ⟨B, d, rfl, hb1, hb2, _⟩ := id h2
  simp only [vis_len, maxLen] at *
  have HF : Hid (fitB a b = ((isB a && isB b) && decide (a.length = b.length))) := Lib.hid rfl
  go_enter Try.func54, Try.ntmps54
  go_wp2_with fail
  refine (is_any _ a _ hh1).mono ?_
  rintro e w1 ⟨rfl, rfl⟩
  generalize isB a = ia at *
  cases ia
  · go_wp2
    go_ret
    exact ⟨by rw [HF.out]; rfl, rfl⟩
  · go_wp2_with fail
    refine (is_any _ b _ hh2).mono ?_
    rintro e w1 ⟨rfl, rfl⟩
    generalize isB b = ib at *
    cases ib
    · go_wp2
      go_ret
      exact ⟨by rw [HF.out]; rfl, rfl⟩
    · by_cases hl : a.length = b.length
      · have hl' : ((a.length : Int) == b.length) = true := by simp [hl]
        have HL := Lib.hid hl
        clear hl
        go_wp2
        go_ret
        exact ⟨by rw [HF.out]; simp [HL.out], rfl⟩
      · have hl' : ((a.length : Int) == b.length) = false := by simp; omega
        go_wp2
        go_ret
        exact ⟨by rw [HF.out]; simp [hl], rfl⟩

set_option maxHeartbeats 1000000 in
theorem fitR_any (v1 v2 : Value) (a b : List Int) (w : World) (h1 : Rd w v1 (vis a)) (h2 : Rd w v2 (vis b)) :
    Calls Try.prog 66 #[v1, v2] w fun e w' => e = .returned (.bool (fitB a b)) ∧ w = w' := by
  have hh1 := h1
  have hh2 := h2
  obtain ⟨A, c, rfl, ha1, ha2, _⟩ := id h1
  obtain ⟨B, d, rfl, hb1, hb2, _⟩ := id h2
  simp only [vis_len, maxLen] at *
  have HF : Hid (fitB a b = ((isB a && isB b) && decide (a.length = b.length))) := Lib.hid rfl
  go_enter Try.func66, Try.ntmps66
  go_wp2_with fail
  refine (isR_any _ a _ hh1).mono ?_
  rintro e w1 ⟨rfl, rfl⟩
  go_wp2_with fail
  refine (isR_any _ b _ hh2).mono ?_
  rintro e w1 ⟨rfl, rfl⟩
  generalize isB a = ia at *
  generalize isB b = ib at *
  cases ia
  · cases ib
    all_goals
      go_wp2
      go_ret
      exact ⟨by rw [HF.out]; rfl, rfl⟩
  · cases ib
    · go_wp2
      go_ret
      exact ⟨by rw [HF.out]; rfl, rfl⟩
    · by_cases hl : a.length = b.length
      · have hl' : ((a.length : Int) == b.length) = true := by simp [hl]
        have HL := Lib.hid hl
        clear hl
        go_wp2
        go_ret
        exact ⟨by rw [HF.out]; simp [HL.out], rfl⟩
      · have hl' : ((a.length : Int) == b.length) = false := by simp; omega
        go_wp2
        go_ret
        exact ⟨by rw [HF.out]; simp [hl], rfl⟩

/-- the row of combine behind k rounds -/
def combK (f : Int → Int → Int) (a b : List Int) (k : Nat) : List Int := (List.zipWith f a b).take k ++ a.drop k
theorem combK_len (f : Int → Int → Int) (a b : List Int) (k : Nat) (h : a.length = b.length) : (combK f a b k).length = a.length := by
  unfold combK; simp; omega
theorem combK_zero (f : Int → Int → Int) (a b : List Int) : combK f a b 0 = a := by simp [combK]
theorem combK_end (f : Int → Int → Int) (a b : List Int) (h : a.length = b.length) : combK f a b a.length = List.zipWith f a b := by
  unfold combK
  rw [List.drop_length, List.append_nil, List.take_of_length_le (by simp; omega)]
theorem combK_get (f : Int → Int → Int) (a b : List Int) (k : Nat) (h : a.length = b.length) (hk : k < a.length) : (combK f a b k)[k]? = some a[k] := by
  unfold combK
  rw [List.getElem?_append_right (by simp; omega)]
  have e : k - (List.take k (List.zipWith f a b)).length = 0 := by simp; omega
  rw [e, List.getElem?_drop]; simp [hk]
theorem combK_set (f : Int → Int → Int) (a b : List Int) (k : Nat) (h : a.length = b.length) (hk : k < a.length) : (combK f a b k).set k (f a[k] (b[k]'(by omega))) = combK f a b (k + 1) := by
  have hz : k < (List.zipWith f a b).length := by simp; omega
  unfold combK
  have e : k - (List.take k (List.zipWith f a b)).length = 0 := by simp; omega
  rw [List.set_append_right _ _ (by simp; omega), e, List.drop_eq_getElem_cons hk, List.set_cons_zero, List.take_succ_eq_append_getElem hz, List.append_assoc]
  simp
theorem vis_set (l : List Int) (k : Nat) (x : Int) : (vis l).set k (.int .i64 x) = vis (l.set k x) := by simp [vis, List.map_set]

theorem Own.of_blk {w : World} {base g : Nat} {e : TypeId} {cs : List Value} (h : Blk w g e cs) (hb : base ≤ g) (hm : cs.length ≤ 1000000) : Own w base e (.slice (some ⟨g, 0, none⟩) cs.length cs.length) cs := by
  refine ⟨by simp, .inr ⟨g, cs.length, cs.toArray, rfl, hb, h, Nat.le_refl _, by simp only [maxLen]; omega, by simp, by simp⟩⟩

theorem made_ints (n : Nat) : (madeCells (Value.int IntKind.i64 0).cells (n * 1)).toList = vis (List.replicate n 0) := by
  apply List.ext_getElem
  · simp [madeCells, vis]
  · intro j h1 h2
    simp [madeCells, vis, Value.cells, Nat.mod_one]
theorem Blk.raw {w : World} {g : Nat} {t : TypeId} {cs : List Value} (h : Blk w g t cs) : w.heap[g]? = some (Obj.cells cs.toArray t (0, 0)) := h
theorem made_blk {w w1 : World} {N : Nat} {t : TypeId} (ho : w1.ownsRow w.heap.size t 1 (.slice (some ⟨w.heap.size, 0, none⟩) N N) N (madeCells (Value.int IntKind.i64 0).cells (N * 1)).toList) (hg : w.grownBy w1 none) :
    Blk w1 w.heap.size t (vis (List.replicate N 0)) ∧ Ext w w1 := by
  refine ⟨?_, ⟨hg.os, hg.tape, hg.output, hg.size, fun k hk => World.grownBy.block hg k hk (by simp)⟩⟩
  rw [made_ints] at ho
  rcases ho.2 with ⟨hv, -⟩ | ⟨g, cap, cur, hv, hb, hg, hn, hm, hs, ht⟩
  · cases hv
  · injection hv with e1 e2 e3
    injection e1 with e1
    injection e1 with e1
    subst e1 e3
    have e : cur.toList = vis (List.replicate N 0) := by
      rw [← ht, List.take_of_length_le]
      rw [Array.length_toList, hs]; omega
    unfold Blk
    rw [hg, ← e]
theorem copy_run {P : Program} {w w1 : World} {t ty e : TypeId} {A : Option Addr} {c N : Nat} {xs ys : List Value} (hu : P.underlying t = some (.slice e)) (hs : (P.info? e).map (·.size) = some 1) (hb : Blk w1 w.heap.size e xs) (hx : Ext w w1)
    (hr : Rd w (.slice A N c) ys) (hxl : xs.length = N) (h1 : ∀ u ∈ ys, u.oneCell' = true) :
    ∃ w2, (Builtin.copy_ #[t, t] ty #[.slice (some ⟨w.heap.size, 0, none⟩) N N, .slice A N c]).run P w1 = .ok (goInt N) w2 ∧ Blk w2 w.heap.size e ys ∧ Ext w w2 := by
  obtain ⟨hyl, -, -, hcx⟩ := hr.at
  rcases Nat.eq_zero_or_pos N with h0 | h0
  · subst h0
    have hrun := run_copy_none (P := P) w1 t t ty e (some ⟨w.heap.size, 0, none⟩) A 0 0 0 c hu hs rfl
    refine ⟨w1, hrun, ?_, hx⟩
    have e1 : xs = [] := List.eq_nil_of_length_eq_zero hxl
    have e2 : ys = [] := List.eq_nil_of_length_eq_zero hyl.symm
    rw [e2]; rw [e1] at hb; exact hb
  · obtain ⟨b, off, rfl, hc⟩ := hcx h0
    have hrun := run_copy_row (P := P) w1 t t ty e w.heap.size 0 N N ⟨b, off, none⟩ N c xs.toArray e ys hu hs hb (by rw [← hyl]; exact (Nat.min_self N).symm) (fun j v hv => by rw [addr_add]; exact hc w1 hx j v hv) (by simp; omega) h1
    rw [show ys.length = N by omega] at hrun
    refine ⟨_, hrun, ?_, below_setRow hx.to (Nat.le_refl _) _⟩
    have := setRow_heap w1 w.heap.size xs.toArray (List.take 0 xs.toArray.toList ++ ys ++ List.drop (0 + N) xs.toArray.toList).toArray e (0, 0) hb
    have e1 : (List.take 0 xs.toArray.toList ++ ys ++ List.drop (0 + N) xs.toArray.toList) = ys := by
      rw [List.take_zero, List.nil_append, List.drop_eq_nil_of_le (by simp; omega), List.append_nil]
    rw [e1] at this
    unfold Blk
    rw [e1]
    exact this

set_option maxRecDepth 100000 in
set_option maxHeartbeats 2000000 in
theorem combine_any (f : Int → Int → Int) (gf : Nat) (cb : Array Value) (v1 v2 : Value) (a b : List Int) (w : World) (h1 : Rd w v1 (vis a)) (h2 : Rd w v2 (vis b)) (hl : a.length = b.length) (h64 : a.length ≤ 64)
    (eg : ∀ args w, (callFunc gf args).run Try.prog w = .ok (.enter gf args) w)
    (hf : ∀ (W : World) (i : Nat) (ha : i < a.length) (hb : i < b.length), Ext w W → Calls Try.prog gf (#[.int .i64 a[i], .int .i64 b[i]] ++ cb) W fun e w' => e = .returned (.int .i64 (f a[i] b[i])) ∧ W = w') :
    Calls Try.prog 55 #[v1, v2, .func (.func gf) #[] cb] w fun e w' => ∃ v, e = .returned v ∧ Own w' w.heap.size 3 v (vis (List.zipWith f a b)) ∧ Ext w w' := by
  obtain ⟨i0, hi, hz0, hz1, hz2⟩ := info_parts info_int
  have hh1 := h1
  have hh2 := h2
  obtain ⟨A, c, rfl, _⟩ := h1
  obtain ⟨B, d, rfl, _⟩ := h2
  obtain ⟨_, a1, a2, a3⟩ := hh1.at
  obtain ⟨_, b1, b2, b3⟩ := hh2.at
  simp only [vis_len, maxLen] at *
  obtain ⟨N, hN⟩ : ∃ N, a.length = N := ⟨_, rfl⟩
  have hNb : b.length = N := by omega
  rw [hN] at a1 a3 h64 ⊢
  rw [hNb] at b1 b3 ⊢
  have HN := Lib.hid hN
  have HNb := Lib.hid hNb
  have HL := Lib.hid hl
  have HF := Lib.hid hf
  clear hN hNb hl hf
  go_enter Try.func55, Try.ntmps55
  have hR1 : Rd w (.slice A N c) (vis a) := by rw [← HN.out]; exact hh1
  have HR1 := Lib.hid hR1
  clear hR1 hh1
  go_wp2_with (at_make; refine wpList_make_full _ rfl _ _ 22 rfl w.heap.size 3 i0 (.int .i64 0) 1 Try.underlying22 hi hz0 hz1 .i64 .i64 _ _ N rfl rfl rfl rfl (by rw [hz2]; omega) (by unfold maxLen; omega) (Nat.le_refl _) ?_; intro w1 ho1 hg1; obtain ⟨hb1, hx1⟩ := made_blk ho1 hg1; obtain ⟨w2, hcp, hb2, hx2⟩ := copy_run (P := Try.prog) (t := 22) (ty := 3) Try.underlying22 (by kernel_rfl) hb1 hx1 HR1.out (by rw [vis_len]; simp) (vis_one a))
  clear ho1 hg1 hb1 hcp
  go_loopw [17] (fun i wr => ∃ k : Nat, k ≤ N ∧ i = .int .i64 k ∧ Blk wr w.heap.size 3 (vis (combK f a b k)) ∧ Ext w wr) (fun i _ => N - (intOf i).toNat)
  case atStart => exact ⟨0, by omega, rfl, by rw [combK_zero]; exact hb2, hx2⟩
  case round =>
    obtain ⟨k, hk, rfl, hb, hxr⟩ := hrel
    by_cases hlt : k < N
    · have hka : k < a.length := by rw [HN.out]; exact hlt
      have hkb : k < b.length := by rw [HNb.out]; exact hlt
      obtain ⟨bb, off, rfl, hcx⟩ := b3 (by omega)
      have c1 := hcx wr hxr k (.int .i64 b[k]) (by simp [vis, hkb])
      have c2 := hb.cell k
      have f2 := hb.frozen k
      rw [show (vis (combK f a b k))[k]? = some (.int .i64 a[k]) by unfold vis; rw [List.getElem?_map, combK_get f a b k HL.out hka]; rfl] at c2
      have hS := Lib.hid (combK_set f a b k HL.out hka)
      have HFk := Lib.hid (fun W hW => HF.out W k hka hkb hW)
      have HB := Lib.hid hb
      generalize a[k] = x at *
      generalize b[k] = y at *
      have hk0 : (0 : Int) ≤ (k : Int) := by omega
      have hk1 : (k : Int) < (N : Int) := by omega
      have hlb := hxr.size
      clear hcx b3 a3 hb hka hkb
      go_wp2_with fail
      go_region_with (go_at_fn gf; refine (HFk.out _ (hxr.drew)).mono ?_; rintro e w' ⟨rfl, rfl⟩)
      all_goals
        have hbn : Blk (wr.setCell ⟨w.heap.size, k, none⟩ (.int .i64 (f x y))).drew w.heap.size 3 (vis (combK f a b (k + 1))) := by
          rw [← hS.out, ← vis_set]
          exact (HB.out.set k _).ext (Ext.refl _).drew
        have hxn : Ext w (wr.setCell ⟨w.heap.size, k, none⟩ (.int .i64 (f x y))).drew := (hxr.setCell (Nat.le_refl _) _).drew
        go_wp2
        go_roundw
        case rel => exact ⟨k + 1, by omega, by go_num, hbn, hxn⟩
        case measure => simp [intOf]; omega
    · have hke : k = N := by omega
      have hbe : Blk wr w.heap.size 3 (vis (List.zipWith f a b)) := by
        rw [hke, ← HN.out, combK_end f a b HL.out] at hb; exact hb
      have hlen : (vis (List.zipWith f a b)).length = N := by rw [vis_len, zw_len f a b HL.out]; exact HN.out
      have hown := Own.of_blk hbe (Nat.le_refl _) (by omega)
      rw [hlen] at hown
      clear hlen hbe hb hke a3 b3
      go_wp2
      go_ret
      exact ⟨_, rfl, hown, hxr⟩
end Go.Proofs.Ytbcjikiakanncaa
