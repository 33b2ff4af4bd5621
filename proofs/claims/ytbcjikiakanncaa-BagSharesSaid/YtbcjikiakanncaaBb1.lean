/- package bag: Decode: its contract. -/
import Derived.Test.YtbcjikiakanncaaBa4
import Derived.Test.YtbcjikiakanncaaWd3
import Derived.Test.YtbcjikiakanncaaWd4
import Derived.Test.YtbcjikiakanncaaWq
import Derived.Test.YtbcjikiakanncaaMo
namespace Go.Proofs.Ytbcjikiakanncaa
open Go.RowKit
set_option linter.unusedVariables false

/-- two numbers read -/
def pairR (s : RS) : Amt × RS := (((intR s).1, (intR (intR s).2).1), (intR (intR s).2).2)
/-- n pairs read -/
def pairsR : Nat → RS → List Amt × RS
  | 0, s => ([], s)
  | n + 1, s => ((pairsR n s).1 ++ [(pairR (pairsR n s).2).1], (pairR (pairsR n s).2).2)
theorem pairsR_len : ∀ (n : Nat) (s : RS), (pairsR n s).1.length = n
  | 0, s => rfl
  | n + 1, s => by simp [pairsR, pairsR_len n s]
theorem pairsR_ok : ∀ (n : Nat) (s : RS), AmtsOk (pairsR n s).1
  | 0, s => fun p hp => by simp [pairsR] at hp
  | n + 1, s => fun p hp => by
    simp only [pairsR, List.mem_append, List.mem_singleton] at hp
    rcases hp with hp | rfl
    · exact pairsR_ok n s p hp
    · exact ⟨intR_range _, intR_range _⟩
theorem pairR_W (p : Amt) (rest : List UInt8) (h : inI64 p.1 ∧ inI64 p.2) : pairR (.ok ((uvar (zig p.1) ++ uvar (zig p.2)) ++ rest)) = (p, .ok rest) := by
  unfold pairR
  rw [List.append_assoc, intR_uvar _ _ h.1]
  simp only
  rw [intR_uvar _ _ h.2]
theorem pairsR_W (l : List Amt) (hl : AmtsOk l) (rest : List UInt8) : ∀ k, k ≤ l.length → pairsR k (.ok (pairsW l ++ rest)) = (l.take k, .ok (pairsW (l.drop k) ++ rest))
  | 0, _ => by simp [pairsR]
  | k + 1, h => by
    have ih := pairsR_W l hl rest k (by omega)
    have hk : k < l.length := by omega
    rw [pairsR, ih]
    have e : pairsW (l.drop k) ++ rest = (uvar (zig l[k].1) ++ uvar (zig l[k].2)) ++ (pairsW (l.drop (k + 1)) ++ rest) := by
      rw [List.drop_eq_getElem_cons hk]
      unfold pairsW
      rw [List.flatMap_cons, List.append_assoc]
    simp only
    rw [e, pairR_W _ _ (hl _ (List.getElem_mem hk)), List.take_succ_eq_append_getElem hk]

/-- what Decode reads: the number of items, the amounts, the end -/
def decN (s : RS) : Int := (intR s).1
def decMany (s : RS) : Nat := (min (intR (intR s).2).1 64).toNat
def decL (s : RS) : List Amt := (pairsR (decMany s) (intR (intR s).2).2).1
def decE (s : RS) : RS := (pairsR (decMany s) (intR (intR s).2).2).2
def decodeB (bs : List UInt8) : List Int × Int :=
  if endR (decE (.ok bs)) = 0 then (if (ofB (decN (.ok bs)) (decL (.ok bs))).2 = 0 then (if bagW (ofB (decN (.ok bs)) (decL (.ok bs))).1 = bs then ((ofB (decN (.ok bs)) (decL (.ok bs))).1, 0) else ([], 2)) else ([], 2)) else ([], 2)
theorem decode_sound (bs : List UInt8) : ((decodeB bs).2 = 0 ∧ bagW (decodeB bs).1 = bs) ∨ ((decodeB bs).2 = 2 ∧ (decodeB bs).1 = []) := by
  unfold decodeB
  split
  · split
    · split
      · exact .inl ⟨rfl, by assumption⟩
      · exact .inr ⟨rfl, rfl⟩
    · exact .inr ⟨rfl, rfl⟩
  · exact .inr ⟨rfl, rfl⟩
theorem decode_back {b : List Int} (h : isB b = true) : decodeB (bagW b) = (b, 0) := by
  have hl := isB_len h
  have hal := amtsB_len b
  have hok := amtsB_ok b
  have e0 : bagW b = uvar (zig b.length) ++ (uvar (zig (amtsB b).length) ++ (pairsW (amtsB b) ++ [])) := by unfold bagW; rw [if_pos h, List.append_nil]
  have e1 : intR (.ok (bagW b)) = ((b.length : Int), .ok (uvar (zig (amtsB b).length) ++ (pairsW (amtsB b) ++ []))) := by
    rw [e0]; exact intR_uvar _ _ (by unfold inI64; omega)
  have e2 : intR (.ok (uvar (zig (amtsB b).length) ++ (pairsW (amtsB b) ++ []))) = (((amtsB b).length : Int), .ok (pairsW (amtsB b) ++ [])) := intR_uvar _ _ (by unfold inI64; omega)
  have eN : decN (.ok (bagW b)) = b.length := by unfold decN; rw [e1]
  have eM : decMany (.ok (bagW b)) = (amtsB b).length := by unfold decMany; rw [e1]; simp only; rw [e2]; simp only; omega
  have eP := pairsR_W (amtsB b) hok [] (amtsB b).length (Nat.le_refl _)
  have eL : decL (.ok (bagW b)) = amtsB b := by
    unfold decL; rw [eM, e1]; simp only; rw [e2]; simp only; rw [eP]; simp
  have eE : decE (.ok (bagW b)) = .ok [] := by
    unfold decE; rw [eM, e1]; simp only; rw [e2]; simp only; rw [eP]; simp [pairsW]
  unfold decodeB
  rw [eN, eL, eE, of_amts h]
  simp [endR]
theorem OwnA.farR {w w' : World} {base : Nat} {row : Option Nat} {v : Value} {l : List Amt} (h : OwnA w base v l) (hc : w.grownBy w' row) (hg : ∀ k, row = some k → k < base) : OwnA w' base v l := by
  refine ⟨h.1, ?_⟩
  rcases h.2 with hn | ⟨g, cap, cur, rfl, hb, hgk, rest⟩
  · exact .inl hn
  · refine .inr ⟨g, cap, cur, rfl, hb, ?_, rest⟩
    rw [World.grownBy.block hc g (Array.getElem?_eq_some_iff.1 hgk).1 (by intro e; have := hg g e.symm; omega)]
    exact hgk

set_option maxRecDepth 100000 in
set_option maxHeartbeats 4000000 in
theorem bytesEqual_any (v1 v2 : Value) (xs ys : List UInt8) (w : World) (h1 : Rd w v1 (vbs xs)) (h2 : Rd w v2 (vbs ys)) :
    Calls Try.prog 74 #[v1, v2] w fun e w' => e = .returned (.bool (decide (xs = ys))) ∧ w = w' := by
  have hk1 := conv_str (P := Try.prog) w 34 9 5 v1 xs Try.underlying34 Try.underlying5 Try.underlying9 h1
  have hk2 := conv_str (P := Try.prog) w 34 9 5 v2 ys Try.underlying34 Try.underlying5 Try.underlying9 h2
  go_enter Try.func74, Try.ntmps74
  go_wp2
  go_ret
  refine ⟨ret_bool ?_, rfl⟩
  rw [Bool.eq_iff_iff]; simp

set_option maxRecDepth 100000 in
set_option maxHeartbeats 8000000 in
theorem decode_any (v : Value) (bs : List UInt8) (w : World) (h : Rd w v (vbs bs)) (hl : bs.length ≤ 1000000) :
    Calls Try.prog 48 #[v] w fun e w' => ∃ v', e = .returned (.tuple #[v', .int .i64 (decodeB bs).2]) ∧ Own w' w.heap.size 3 v' (vis (decodeB bs).1) ∧ Ext w w' := by
  have HD : Hid (decodeB bs = if endR (decE (.ok bs)) = 0 then (if (ofB (decN (.ok bs)) (decL (.ok bs))).2 = 0 then (if bagW (ofB (decN (.ok bs)) (decL (.ok bs))).1 = bs then ((ofB (decN (.ok bs)) (decL (.ok bs))).1, 0) else ([], 2)) else ([], 2)) else ([], 2)) := Lib.hid rfl
  have hE : Hid (decE (.ok bs) = (pairsR (decMany (.ok bs)) (intR (intR (.ok bs)).2).2).2) := Lib.hid rfl
  have hL : Hid (decL (.ok bs) = (pairsR (decMany (.ok bs)) (intR (intR (.ok bs)).2).2).1) := Lib.hid rfl
  have hM : decMany (.ok bs) = (min (intR (intR (.ok bs)).2).1 64).toNat := rfl
  have hN : Hid (decN (.ok bs) = (intR (.ok bs)).1) := Lib.hid rfl
  have hn1 := intR_range (.ok bs)
  have hn2 := intR_range (intR (.ok bs)).2
  go_enter Try.func48, Try.ntmps48
  go_wp2_with fail
  refine (read_any v bs _ h (by omega)).mono ?_
  rintro e w1 ⟨g, rfl, hg0, hg1, hr1, hx1⟩
  have hgB : ¬ (w.heap.size ≤ g ∧ g < g) := by omega
  go_wp2_with fail
  refine (rint_any _ g _ _ hr1).mono ?_
  rintro e w2 ⟨rfl, hr2, hc2⟩
  go_wp2_with fail
  refine (rint_any _ g _ _ hr2).mono ?_
  rintro e w3 ⟨rfl, hr3, hc3⟩
  have hx3 : Ext w w3 := (hc2.ext hx1 hg0 |> fun h => hc3.ext h hg0)
  have hg3 : g < w3.heap.size := hr3.lt
  obtain ⟨m, hm⟩ : ∃ m : Int, (if (64 : Int) < (intR (intR (.ok bs)).2).1 then (64 : Int) else (intR (intR (.ok bs)).2).1) = m := ⟨_, rfl⟩
  have hMm : decMany (.ok bs) = m.toNat ∧ m ≤ 64 := by
    rw [hM, ← hm]; split <;> omega
  clear hM hc2 hc3 hr1 hr2 hx1
  generalize (intR (intR (.ok bs)).2).2 = s3 at *
  generalize (intR (intR (.ok bs)).2).1 = n2 at *
  generalize (intR (.ok bs)).1 = n1 at *
  generalize decMany (.ok bs) = M at *
  have HM := Lib.hid hMm
  clear hMm
  have hb3 : g + 1 ≤ w3.heap.size := hg3
  go_wp2_with fail
  go_loopw [8, 7] (fun i l wr => ∃ k : Nat, k ≤ M ∧ i = .int .i64 k ∧ OwnA wr (g + 1) l (pairsR k s3).1 ∧ RAt wr (fun k => w.heap.size ≤ k ∧ k < g) g (pairsR k s3).2 ∧ Ext w wr ∧ g < wr.heap.size) (fun i _ _ => M - (intOf i).toNat)
  case atStart => exact ⟨0, Nat.zero_le _, rfl, OwnA.nil _ _, hr3, hx3, hg3⟩
  case round =>
    obtain ⟨k, hk, rfl, ho, hr, hxr, hgr⟩ := hrel
    by_cases hlt : k < M
    · have hkm : (k : Int) < m := by have := HM.out; omega
      have hk64 : k < 64 := by have := HM.out; omega
      have hpl := pairsR_len k s3
      have hst : Hid (pairsR (k + 1) s3 = ((pairsR k s3).1 ++ [((intR (pairsR k s3).2).1, (intR (intR (pairsR k s3).2).2).1)], (intR (intR (pairsR k s3).2).2).2)) := Lib.hid rfl
      generalize (pairsR k s3).1 = L at *
      generalize (pairsR k s3).2 = s at *
      go_wp2_with fail
      refine (rint_any _ g _ _ hr).mono ?_
      rintro e w4 ⟨rfl, hr4, hc4⟩
      go_wp2_with fail
      refine (rint_any _ g _ _ hr4).mono ?_
      rintro e w5 ⟨rfl, hr5, hc5⟩
      have ho5 : OwnA w5 (g + 1) _ L := (ho.farR hc4 (fun k e => by cases e; omega)).farR hc5 (fun k e => by cases e; omega)
      have hx5 : Ext w w5 := hc5.ext (hc4.ext hxr hg0) hg0
      have hg5 : g < w5.heap.size := hr5.lt
      clear hc4 hc5 hr4 hr ho hm
      generalize (intR (intR s).2).2 = s5 at *
      generalize (intR (intR s).2).1 = y at *
      generalize (intR s).1 = x at *
      go_wp2_with (at_builtin; refine wpList_appA _ rfl (.tmp 23) (.tmp 29) rfl (g + 1) _ L rfl (ho5.ext ((Ext.refl _).alloc _)) ⟨w5.heap.size, 0, none⟩ 1 1 [(x, y)] rfl rfl (newsA w5 _ rfl [(x, y)] _) (by omega) (by simp; omega) ?_; intro v6 w6 ho6 hg6)
      have hlt5 := ho5.lt
      have hr6 := (hr5.ext ((Ext.refl _).alloc (.cells #[.int .i64 x, .int .i64 y] 75))).grownR hg6 (fun k e => by have := (hlt5 k e).1; omega)
      have hx6 : Ext w w6 := (hx5.alloc _).grown hg6 (fun k e => by have := (hlt5 k e).1; omega)
      have e1 : L ++ [(x, y)] = (pairsR (k + 1) s3).1 := by rw [hst.out]
      have e2 : s5 = (pairsR (k + 1) s3).2 := by rw [hst.out]
      rw [e1] at ho6
      rw [e2] at hr6
      have hg6 : g < w6.heap.size := hr6.lt
      clear e1 e2 hlt5 hr5 ho5
      go_roundw
      case rel => exact ⟨k + 1, by omega, by go_num, ho6, hr6, hx6, hg6⟩
      case measure => simp [intOf]; omega
    · have hkM : k = M := by omega
      have hkm : ¬ ((k : Int) < m) := by have := HM.out; omega
      rw [hkM] at ho hr
      have hpo := pairsR_ok M s3
      rw [← hL.out] at ho hpo
      rw [← hE.out] at hr
      have hNN := hN.out
      generalize decE (.ok bs) = s at *
      generalize decL (.ok bs) = L at *
      generalize decN (.ok bs) = N at *
      subst hNN
      have HPO := Lib.hid hpo
      clear hpo
      go_wp2_with fail
      refine (of_any N _ L _ hn1 ho.rd HPO.out).mono ?_
      rintro e w7 ⟨v7, rfl, ho7, hx7⟩
      have hr7 := hr.ext hx7
      have hx := hxr.trans hx7
      have hsz := hxr.size
      have hsz7 := hx7.size
      clear ho hr
      generalize ofB N L = o at *
      obtain ⟨O, q⟩ := o
      simp only at ho7 HD ⊢
      go_wp2_with fail
      refine (rend_any _ g _ _ hr7).mono ?_
      rintro e w8 ⟨rfl, rfl⟩
      generalize endR s = z at *
      by_cases hz : z = 0
      · subst hz
        rw [if_pos rfl] at HD
        by_cases hq : q = 0
        · subst hq
          rw [if_pos rfl] at HD
          go_wp2_with fail
          refine (encodeB_any _ O _ ho7.rd).mono ?_
          rintro e w9 ⟨v9, rfl, ho9, hx9⟩
          go_wp2_with fail
          refine (bytesEqual_any _ _ (bagW O) bs _ ho9.rd ((h.ext hx).ext hx9)).mono ?_
          rintro e w10 ⟨rfl, rfl⟩
          have ho7' := Own.mono (ho7.ext hx9) hsz
          by_cases hb : bagW O = bs
          · rw [if_pos hb] at HD
            rw [decide_eq_true hb]
            clear hb
            go_wp2
            go_ret2
            rw [HD.out]
            exact ⟨_, rfl, ho7', hx.trans hx9⟩
          · rw [if_neg hb] at HD
            rw [decide_eq_false hb]
            clear hb
            go_wp2
            go_ret2
            rw [HD.out]
            exact ⟨_, rfl, Own.of_nil, hx.trans hx9⟩
        · rw [if_neg hq] at HD
          have hqb : (q != 0) = true := by simp [hq]
          clear hq
          go_wp2
          go_ret2
          rw [HD.out]
          exact ⟨_, rfl, Own.of_nil, hx⟩
      · rw [if_neg hz] at HD
        have hzb : (z != 0) = true := by simp [hz]
        clear hz
        go_wp2
        go_ret2
        rw [HD.out]
        exact ⟨_, rfl, Own.of_nil, hx⟩
end Go.Proofs.Ytbcjikiakanncaa
