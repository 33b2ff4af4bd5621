/- The iterators of package hash over the words of a string and of a byte slice. -/
import Derived.Test.YtjgpdimhgcacgaaRows
import Derived.Test.YtjgpdimhgcacgaaHc1
import Derived.RangeFuncNested
import Derived.RangeFuncBound
import Derived.RangeFuncCalls
import Derived.RangeFuncLeaves
import Derived.Shelf.Abstract
import Derived.Shelf.RegionOpen
import Derived.OwnWalkIn
import Derived.TacticsInMore
import Derived.LoopNIn
import Derived.LoopIn
import Derived.RangeFuncBox
namespace Go.Proofs.Ytjgpdimhgcacgaa
open Go.RowKit Go.Shelf
set_option linter.unusedVariables false
attribute [local go_sem] Oper.semAt_some

/-- the blocks of S lie as they lay -/
def Kept (S : Nat → Prop) (W W' : World) : Prop := ∀ k, S k → W'.heap[k]? = W.heap[k]?
theorem Kept.refl (S : Nat → Prop) (W : World) : Kept S W W := fun _ _ => rfl
theorem Kept.trans {S : Nat → Prop} {A B C : World} (h : Kept S A B) (k : Kept S B C) : Kept S A C := fun i hi => (k i hi).trans (h i hi)
theorem Kept.cell {S : Nat → Prop} {W W' : World} (h : Kept S W W') {p : Addr} (hp : S p.block) : W'.cell? p = W.cell? p := World.cell?_of_block (h p.block hp)
theorem Kept.put {S : Nat → Prop} {n : Nat} (hS : ∀ k, S k → k < n) (W : World) (l : Nat) (o o' : Obj) (hl : n ≤ l) (h : W.heap[l]? = some o) : Kept S W (W.putObj l o') :=
  fun k hk => (grownBy_putObj' W l o').block k (by have := (Array.getElem?_eq_some_iff.1 h).1; have := hS k hk; omega) (fun e => by cases e; have := hS _ hk; omega)
theorem Kept.setCell {S : Nat → Prop} {W : World} {p : Addr} (hp : ¬ S p.block) (u : Value) : Kept S W (W.setCell p u) :=
  fun k hk => Below.heap_setCell W p u k (fun e => hp (e ▸ hk))

theorem wordsUpto_prefix (bs : List UInt8) (q : Nat) (h : q ≤ nWords bs) : wordsUpto bs q <+: wordsOf bs := by
  refine ⟨((List.range' q (nWords bs - q)).map (wordAt bs)), ?_⟩
  unfold wordsOf wordsUpto
  have e := @List.range'_append_1 0 q (nWords bs - q)
  rw [Nat.zero_add, show q + (nWords bs - q) = nWords bs by omega] at e
  rw [← List.map_append, List.range_eq_range', List.range_eq_range', e]

set_option maxRecDepth 100000 in
set_option maxHeartbeats 1000000 in
theorem wstr1_in (F : Fence) (n : Nat) (h6 : F.fn 75) (hro : F.round = none) (hn : 1 ≤ n) (l Bn : Nat) (s : ByteArray) (hs : s.size ≤ 2147483648) (J Jx : List Int → World → Prop)
    (hY : ∀ pre x W, J pre W → pre.length < nWords s.data.toList → YieldAt F (n - 1) Try.prog l #[.int .u64 x] W fun e W' =>
      (e = .returned (.bool true) ∧ J (pre ++ [x]) W' ∧ Kept (· = Bn) W W') ∨ (e = .returned (.bool false) ∧ Jx (pre ++ [x]) W'))
    (W : World) (hBn : W.cell? ⟨Bn, 0, none⟩ = some (.string s)) (h0 : J [] W) :
    CallsIn F n Try.prog 75 #[.func (.yield l) #[] #[], .pointer (some ⟨Bn, 0, none⟩)] W fun e W' => (∃ v, e = .returned v) ∧
      ((∃ ys, ys = wordsOf s.data.toList ∧ J ys W') ∨ (∃ pre, pre <+: wordsOf s.data.toList ∧ Jx pre W')) := by
  refine callsIn_of_wp Try.func75 rfl h6 ?_ hro
  simp only [Try.ntmps75, List.size_toArray, List.length_cons, List.length_nil, Nat.reduceAdd, Nat.reduceSub, Array.replicate_succ, Array.replicate_zero, List.push_toArray, List.append_toArray, List.nil_append, List.cons_append]
  gi_wp2
  gi_loopw [3] (fun i wr => ∃ q : Nat, q ≤ nWords s.data.toList ∧ i = .int .i64 (8 * (q : Int)) ∧ Kept (· = Bn) W wr ∧ J (wordsUpto s.data.toList q) wr)
    (fun i wr => s.size + 8 - (intOf i).toNat)
  case atStart =>
    exact ⟨0, by omega, rfl, Kept.refl _ _, h0⟩
  case round =>
    obtain ⟨q, hq, rfl, hB, hJ⟩ := hrel
    have hc : wr.cell? ⟨Bn, 0, none⟩ = some (.string s) := (hB.cell (p := ⟨Bn, 0, none⟩) rfl).trans hBn
    by_cases hlt : 8 * q < s.size
    · obtain ⟨fn, tmps, assign, body, hy, hR⟩ := hY _ (wordAt s.data.toList q) wr hJ (by rw [wordsUpto_len]; simp [nWords]; omega)
      have hdec : decide (8 * (q : Int) < (s.size : Int)) = true := by simp; omega
      have hq8 : 8 * q < s.size := hlt
      gi_wp2
      gi_loop [4, 5] (fun w k => ∃ j : Nat, j ≤ 8 ∧ 8 * q + j ≤ s.size ∧ k = .int .i64 (8 * (q : Int) + j) ∧ w = .int .u64 (leI ((s.data.toList.drop (8 * q)).take j))) (fun _ k => s.size + 8 - (intOf k).toNat)
      case atStart => exact ⟨0, by omega, by omega, by simp, by simp [leI]⟩
      case round =>
        obtain ⟨j, hj8, hjs, rfl, rfl⟩ := hrel
        have hws : (wordAt s.data.toList q) = leI ((s.data.toList.drop (8 * q)).take 8) := rfl
        by_cases hj : j < 8 ∧ 8 * q + j < s.size
        · obtain ⟨hj1, hj2⟩ := hj
          have hor := or_step ((s.data.toList.drop (8 * q))) j s[8 * q + j] hj1 (by simp [hj2]; rfl)
          have HOR := Lib.hid hor
          clear hor
          rcases Nat.lt_or_ge s.size (8 * q + 8) with hm | hm
          all_goals
            gi_wp2
            go_round
            case rel => exact ⟨j + 1, by omega, by omega, by go_num, by rw [HOR.out]⟩
            case measure => simp [intOf]; omega
        · have hend : (s.data.toList.drop (8 * q)).take j = (s.data.toList.drop (8 * q)).take 8 := by
            rcases Nat.lt_or_ge j 8 with h | h
            · rw [List.take_of_length_le (by simp; omega), List.take_of_length_le (by simp; omega)]
            · rw [show j = 8 by omega]
          have hwj : leI ((s.data.toList.drop (8 * q)).take j) = wordAt s.data.toList q := by rw [hend]; rfl
          rw [hwj]
          clear hwj hend hws
          have hns : ¬ (8 * q + j < s.size ∧ j < 8) := fun h => hj ⟨h.2, h.1⟩
          clear hj
          rcases Nat.lt_or_ge s.size (8 * q + 8) with hm | hm
          all_goals
            have hjn : s.size ≤ 8 * q + j ∨ 8 ≤ j := by omega
            gi_wp2
            refine hR.mono ?_
            rintro e W3 (⟨rfl, hJ3, hk3⟩ | ⟨rfl, hJx3⟩)
            · gi_wp2
              go_roundw
              case rel => exact ⟨q + 1, by simp [nWords]; omega, by go_num, hB.trans hk3, by rw [wordsUpto_succ]; exact hJ3⟩
              case measure => simp [intOf]; omega
            · gi_wp2
              refine bodyPost_ret (results_none rfl _ _ _) rfl ?_
              exact ⟨⟨_, rfl⟩, .inr ⟨_, by rw [← wordsUpto_succ]; exact wordsUpto_prefix _ _ (by simp [nWords]; omega), hJx3⟩⟩
    · have hdec : decide (8 * (q : Int) < (s.size : Int)) = false := by simp; omega
      have hqe : nWords s.data.toList = q := by simp [nWords] at hq ⊢; omega
      have HQ := Lib.hid hqe
      clear hqe hq
      gi_wp2
      go_end0
      exact ⟨⟨_, rfl⟩, .inl ⟨_, by rw [wordsOf, HQ.out], hJ⟩⟩
set_option maxRecDepth 100000 in
set_option maxHeartbeats 1000000 in
theorem wbyt1_in (F : Fence) (n : Nat) (h6 : F.fn 74) (hro : F.round = none) (hn : 1 ≤ n) (l Bn : Nat) (bs : List UInt8) (b off c : Nat) (hs : bs.length ≤ 2147483648) (J Jx : List Int → World → Prop)
    (hY : ∀ pre x W, J pre W → pre.length < nWords bs → YieldAt F (n - 1) Try.prog l #[.int .u64 x] W fun e W' =>
      (e = .returned (.bool true) ∧ J (pre ++ [x]) W' ∧ Kept (fun k => k = Bn ∨ k = b) W W') ∨ (e = .returned (.bool false) ∧ Jx (pre ++ [x]) W'))
    (W : World) (hcell : ∀ (j : Nat) (u : Value), (vbs bs)[j]? = some u → W.cell? ⟨b, off + j, none⟩ = some u) (hBn : W.cell? ⟨Bn, 0, none⟩ = some (.slice (some ⟨b, off, none⟩) bs.length c)) (h0 : J [] W) :
    CallsIn F n Try.prog 74 #[.func (.yield l) #[] #[], .pointer (some ⟨Bn, 0, none⟩)] W fun e W' => (∃ v, e = .returned v) ∧
      ((∃ ys, ys = wordsOf bs ∧ J ys W') ∨ (∃ pre, pre <+: wordsOf bs ∧ Jx pre W')) := by
  refine callsIn_of_wp Try.func74 rfl h6 ?_ hro
  simp only [Try.ntmps74, List.size_toArray, List.length_cons, List.length_nil, Nat.reduceAdd, Nat.reduceSub, Array.replicate_succ, Array.replicate_zero, List.push_toArray, List.append_toArray, List.nil_append, List.cons_append]
  gi_wp2
  gi_loopw [3] (fun i wr => ∃ q : Nat, q ≤ nWords bs ∧ i = .int .i64 (8 * (q : Int)) ∧ Kept (fun k => k = Bn ∨ k = b) W wr ∧ J (wordsUpto bs q) wr)
    (fun i wr => bs.length + 8 - (intOf i).toNat)
  case atStart =>
    exact ⟨0, by omega, rfl, Kept.refl _ _, h0⟩
  case round =>
    obtain ⟨q, hq, rfl, hB, hJ⟩ := hrel
    have hc : wr.cell? ⟨Bn, 0, none⟩ = some (.slice (some ⟨b, off, none⟩) bs.length c) := (hB.cell (p := ⟨Bn, 0, none⟩) (.inl rfl)).trans hBn
    by_cases hlt : 8 * q < bs.length
    · obtain ⟨fn, tmps, assign, body, hy, hR⟩ := hY _ (wordAt bs q) wr hJ (by rw [wordsUpto_len]; simp [nWords]; omega)
      have hdec : decide (8 * (q : Int) < (bs.length : Int)) = true := by simp; omega
      have hq8 : 8 * q < bs.length := hlt
      gi_wp2
      gi_loop [4, 5] (fun w k => ∃ j : Nat, j ≤ 8 ∧ 8 * q + j ≤ bs.length ∧ k = .int .i64 (8 * (q : Int) + j) ∧ w = .int .u64 (leI ((bs.drop (8 * q)).take j))) (fun _ k => bs.length + 8 - (intOf k).toNat)
      case atStart => exact ⟨0, by omega, by omega, by simp, by simp [leI]⟩
      case round =>
        obtain ⟨j, hj8, hjs, rfl, rfl⟩ := hrel
        have hws : (wordAt bs q) = leI ((bs.drop (8 * q)).take 8) := rfl
        by_cases hj : j < 8 ∧ 8 * q + j < bs.length
        · obtain ⟨hj1, hj2⟩ := hj
          have hor := or_step ((bs.drop (8 * q))) j bs[8 * q + j] hj1 (by simp [hj2])
          have HOR := Lib.hid hor
          clear hor
          have c1 : wr.cell? ⟨b, off + (8 * q + j), none⟩ = some (.int .u8 bs[8 * q + j].toNat) := (hB.cell (p := ⟨b, off + (8 * q + j), none⟩) (.inr rfl)).trans (hcell _ _ (by simp [vbs, hj2]))
          rcases Nat.lt_or_ge bs.length (8 * q + 8) with hm | hm
          all_goals
            gi_wp2
            go_round
            case rel => exact ⟨j + 1, by omega, by omega, by go_num, by rw [HOR.out]⟩
            case measure => simp [intOf]; omega
        · have hend : (bs.drop (8 * q)).take j = (bs.drop (8 * q)).take 8 := by
            rcases Nat.lt_or_ge j 8 with h | h
            · rw [List.take_of_length_le (by simp; omega), List.take_of_length_le (by simp; omega)]
            · rw [show j = 8 by omega]
          have hwj : leI ((bs.drop (8 * q)).take j) = wordAt bs q := by rw [hend]; rfl
          rw [hwj]
          clear hwj hend hws
          have hns : ¬ (8 * q + j < bs.length ∧ j < 8) := fun h => hj ⟨h.2, h.1⟩
          clear hj
          rcases Nat.lt_or_ge bs.length (8 * q + 8) with hm | hm
          all_goals
            have hjn : bs.length ≤ 8 * q + j ∨ 8 ≤ j := by omega
            gi_wp2
            refine hR.mono ?_
            rintro e W3 (⟨rfl, hJ3, hk3⟩ | ⟨rfl, hJx3⟩)
            · gi_wp2
              go_roundw
              case rel => exact ⟨q + 1, by simp [nWords]; omega, by go_num, hB.trans hk3, by rw [wordsUpto_succ]; exact hJ3⟩
              case measure => simp [intOf]; omega
            · gi_wp2
              refine bodyPost_ret (results_none rfl _ _ _) rfl ?_
              exact ⟨⟨_, rfl⟩, .inr ⟨_, by rw [← wordsUpto_succ]; exact wordsUpto_prefix _ _ (by simp [nWords]; omega), hJx3⟩⟩
    · have hdec : decide (8 * (q : Int) < (bs.length : Int)) = false := by simp; omega
      have hqe : nWords bs = q := by simp [nWords] at hq ⊢; omega
      have HQ := Lib.hid hqe
      clear hqe hq
      gi_wp2
      go_end0
      exact ⟨⟨_, rfl⟩, .inl ⟨_, by rw [wordsOf, HQ.out], hJ⟩⟩

set_option maxRecDepth 100000 in
theorem wbyt0_in (F : Fence) (n : Nat) (h6 : F.fn 74) (hro : F.round = none) (l Bn : Nat) (A : Option Addr) (c : Nat) (J Jx : List Int → World → Prop)
    (W : World) (hBn : W.cell? ⟨Bn, 0, none⟩ = some (.slice A 0 c)) (h0 : J [] W) :
    CallsIn F n Try.prog 74 #[.func (.yield l) #[] #[], .pointer (some ⟨Bn, 0, none⟩)] W fun e W' => (∃ v, e = .returned v) ∧
      ((∃ ys, ys = wordsOf [] ∧ J ys W') ∨ (∃ pre, pre <+: wordsOf [] ∧ Jx pre W')) := by
  refine callsIn_of_wp Try.func74 rfl h6 ?_ hro
  simp only [Try.ntmps74, List.size_toArray, List.length_cons, List.length_nil, Nat.reduceAdd, Nat.reduceSub, Array.replicate_succ, Array.replicate_zero, List.push_toArray, List.append_toArray, List.nil_append, List.cons_append]
  gi_wp2
  gi_loopw [3] (fun i wr => i = .int .i64 0 ∧ wr = W) (fun i wr => 0)
  case atStart => exact ⟨rfl, rfl⟩
  case round =>
    obtain ⟨rfl, rfl⟩ := hrel
    gi_wp2
    go_end0
    exact ⟨⟨_, rfl⟩, .inl ⟨_, rfl, h0⟩⟩
set_option maxHeartbeats 1000000 in
theorem wstr_in (F : Fence) (n : Nat) (h5 : F.fn 70) (hro : F.round = none) (s : ByteArray) (w : World) :
    CallsIn F n Try.prog 70 #[.string s] w fun e w' => e = .returned (.func (.func 75) #[] #[.pointer (some ⟨w.heap.size, 0, none⟩)]) ∧ w' = w.alloc (.cells #[.string s] 9) := by
  refine callsIn_of_wp Try.func70 rfl h5 ?_ hro
  simp only [Try.ntmps70, List.size_toArray, List.length_cons, List.length_nil, Nat.reduceAdd, Nat.reduceSub, Array.replicate_succ, Array.replicate_zero, List.push_toArray, List.append_toArray, List.nil_append, List.cons_append]
  gi_wp2
  go_ret
  exact ⟨rfl, rfl⟩

set_option maxHeartbeats 1000000 in
theorem wbyt_in (F : Fence) (n : Nat) (h5 : F.fn 67) (hro : F.round = none) (A : Option Addr) (k c : Nat) (w : World) :
    CallsIn F n Try.prog 67 #[.slice A k c] w fun e w' => e = .returned (.func (.func 74) #[] #[.pointer (some ⟨w.heap.size, 0, none⟩)]) ∧ w' = w.alloc (.cells #[.slice A k c] 22) := by
  refine callsIn_of_wp Try.func67 rfl h5 ?_ hro
  simp only [Try.ntmps67, List.size_toArray, List.length_cons, List.length_nil, Nat.reduceAdd, Nat.reduceSub, Array.replicate_succ, Array.replicate_zero, List.push_toArray, List.append_toArray, List.nil_append, List.cons_append]
  gi_wp2
  go_ret
  exact ⟨rfl, rfl⟩
theorem wstr1_stops (F : Fence) (n : Nat) (h6 : F.fn 75) (hro : F.round = none) (hn : 1 ≤ n) (Bn : Nat) (s : ByteArray) (hs : s.size ≤ 2147483648) (w : World) (hBn : Bn < w.heap.size)
    (hc : w.cell? ⟨Bn, 0, none⟩ = some (.string s)) :
    SeqStopsK F n Try.prog 75 #[.pointer (some ⟨Bn, 0, none⟩)] (fun x : Int => #[Value.int .u64 x]) (Kept (· = Bn)) (fun ys => ys = wordsOf s.data.toList) (fun pre => pre <+: wordsOf s.data.toList) (nWords s.data.toList) w := fun l J Jx W hW _ _ hY h0 =>
  wstr1_in F n h6 hro hn l Bn s hs J Jx hY W ((hW.cell (p := ⟨Bn, 0, none⟩) hBn).trans hc) h0

theorem wbyt1_stops (F : Fence) (n : Nat) (h6 : F.fn 74) (hro : F.round = none) (hn : 1 ≤ n) (Bn : Nat) (bs : List UInt8) (b off c : Nat) (hs : bs.length ≤ 2147483648) (w : World) (hBn : Bn < w.heap.size) (hb : b < w.heap.size)
    (hcell : ∀ (j : Nat) (u : Value), (vbs bs)[j]? = some u → w.cell? ⟨b, off + j, none⟩ = some u)
    (hc : w.cell? ⟨Bn, 0, none⟩ = some (.slice (some ⟨b, off, none⟩) bs.length c)) :
    SeqStopsK F n Try.prog 74 #[.pointer (some ⟨Bn, 0, none⟩)] (fun x : Int => #[Value.int .u64 x]) (Kept (fun k => k = Bn ∨ k = b)) (fun ys => ys = wordsOf bs) (fun pre => pre <+: wordsOf bs) (nWords bs) w := fun l J Jx W hW _ _ hY h0 =>
  wbyt1_in F n h6 hro hn l Bn bs b off c hs J Jx hY W (fun j u hu => (hW.cell (p := ⟨b, off + j, none⟩) hb).trans (hcell j u hu)) ((hW.cell (p := ⟨Bn, 0, none⟩) hBn).trans hc) h0

theorem wbyt0_stops (F : Fence) (n : Nat) (h6 : F.fn 74) (hro : F.round = none) (Bn : Nat) (A : Option Addr) (c : Nat) (w : World) (hBn : Bn < w.heap.size)
    (hc : w.cell? ⟨Bn, 0, none⟩ = some (.slice A 0 c)) (S : Nat → Prop) :
    SeqStopsK F n Try.prog 74 #[.pointer (some ⟨Bn, 0, none⟩)] (fun x : Int => #[Value.int .u64 x]) (Kept S) (fun ys => ys = wordsOf []) (fun pre => pre <+: wordsOf []) (nWords []) w := fun l J Jx W hW _ _ hY h0 =>
  wbyt0_in F n h6 hro l Bn A c J Jx W ((hW.cell (p := ⟨Bn, 0, none⟩) hBn).trans hc) h0

theorem wbyt_stops (F : Fence) (n : Nat) (h6 : F.fn 74) (hro : F.round = none) (hn : 1 ≤ n) (Bn n₀ : Nat) (bs : List UInt8) (A : Option Addr) (c : Nat) (hs : bs.length ≤ 2147483648) (w : World) (hBn : Bn < w.heap.size) (hn₀ : n₀ ≤ w.heap.size)
    (hcell : 0 < bs.length → ∃ b off, A = some ⟨b, off, none⟩ ∧ b < n₀ ∧ ∀ (j : Nat) (u : Value), (vbs bs)[j]? = some u → w.cell? ⟨b, off + j, none⟩ = some u)
    (hc : w.cell? ⟨Bn, 0, none⟩ = some (.slice A bs.length c)) :
    SeqStopsK F n Try.prog 74 #[.pointer (some ⟨Bn, 0, none⟩)] (fun x : Int => #[Value.int .u64 x]) (Kept (fun k => k = Bn ∨ k < n₀)) (fun ys => ys = wordsOf bs) (fun pre => pre <+: wordsOf bs) (nWords bs) w := by
  rcases Nat.eq_zero_or_pos bs.length with h0 | h0
  · have : bs = [] := List.eq_nil_of_length_eq_zero h0
    subst this
    exact wbyt0_stops F n h6 hro Bn A c w hBn hc _
  · obtain ⟨b, off, rfl, hb, hcell⟩ := hcell h0
    intro l J Jx W hW hJ hJx hY h0
    refine wbyt1_stops F n h6 hro hn Bn bs b off c hs w hBn (by omega) hcell hc l J Jx W hW hJ hJx (fun pre x W1 hj hl => ?_) h0
    obtain ⟨fn, tmps, assign, body, hy, hR⟩ := hY pre x W1 hj hl
    refine ⟨fn, tmps, assign, body, hy, hR.mono (fun e w' hr => ?_)⟩
    rcases hr with ⟨h1, h2, h3⟩ | hr
    · exact .inl ⟨h1, h2, fun k hk => h3 k (by rcases hk with rfl | rfl; exact .inl rfl; exact .inr hb)⟩
    · exact .inr hr
end Go.Proofs.Ytjgpdimhgcacgaa
