/- package dice: Pick: its contract. -/
import Derived.Test.YtjgpdimhgcacgaaDw4
namespace Go.Proofs.Ytjgpdimhgcacgaa
open Go.RowKit
set_option linter.unusedVariables false

set_option maxHeartbeats 2000000 in
theorem pick1_any (gb gr : Nat) (b r x : Int) (w : World) (hb : Blk w gb 3 [.int .i64 b]) (hr : Blk w gr 3 [.int .i64 r]) (hne : gr ≠ gb) (h0 : 0 ≤ b) (h1 : 0 ≤ x) (h2 : b + x ≤ 1152921504606846976) :
    Calls Try.prog 58 #[.int .i64 x, .pointer (some ⟨gb, 0, none⟩), .pointer (some ⟨gr, 0, none⟩)] w fun e w' => e = .returned (.bool (decide (r < b + x))) ∧ w' = w.setCell ⟨gb, 0, none⟩ (.int .i64 (b + x)) := by
  have c0 := hb.cell 0
  have f0 := hb.frozen 0
  simp only [List.getElem?_cons_zero] at c0
  have hb1 := hb.set 0 (.int .i64 (b + x))
  have hr1 := hr.far (p := ⟨gb, 0, none⟩) hne (.int .i64 (b + x))
  have c1 := hb1.cell 0
  have c2 := hr1.cell 0
  simp only [List.set_cons_zero, List.getElem?_cons_zero] at c1 c2
  go_enter Try.func58, Try.ntmps58
  go_wp2
  go_ret
  exact ⟨rfl, rfl⟩

set_option maxHeartbeats 2000000 in
theorem indexf_any (gb gr : Nat) (r : Int) (v : Value) (ws : List Int) (w : World) (hb : Blk w gb 3 [.int .i64 0]) (hr : Blk w gr 3 [.int .i64 r]) (hne : gr ≠ gb) (hv : Rd w v (vis ws)) (hvg : v.ownBlock ≠ some gb) (hz : ∀ n ∈ ws, inI64 n) (hS : sumF 0 ws ≠ 0) (hr0 : 0 ≤ r) (hrS : r < sumF 0 ws) :
    Calls Try.prog 57 #[v, .func (.func 58) #[] #[.pointer (some ⟨gb, 0, none⟩), .pointer (some ⟨gr, 0, none⟩)]] w fun e w' => e = .returned (.int .i64 (idxF r 0 ws 0)) ∧ Chg gb w w' := by
  obtain ⟨A, c, rfl, h1, h2, -⟩ := id hv
  rw [vis_len] at h1
  simp only [maxLen] at h2
  obtain ⟨n, hn⟩ : ∃ n, ws.length = n := ⟨_, rfl⟩
  have hcell : Hid (∀ W, Chg gb w W → ∀ j, j < n → ∃ b off, A = some ⟨b, off, none⟩ ∧ inI64 (ws.getD j 0) ∧ W.cell? ⟨b, off + j, none⟩ = some (.int .i64 (ws.getD j 0))) := Lib.hid (fun W hW j hj => by
    have hv2 := hv.chg hW hvg
    obtain ⟨-, -, -, hcc⟩ := hv2.at
    obtain ⟨b, off, hh, hc⟩ := hcc (by rw [vis_len]; omega)
    have hjl : j < ws.length := by omega
    refine ⟨b, off, hh, by have := hz (ws[j]) (by simp); simpa [hjl] using this, hc W (Ext.refl _) j _ (by simp [vis, hjl])⟩)
  have hl : (vis ws).length = n := by rw [vis_len, hn]
  rw [hl]
  have HN := Lib.hid hn
  have HSS := Lib.hid hrS
  rw [hn] at h1
  clear hn hl hv hz hS hrS hvg
  go_enter Try.func57, Try.ntmps57
  go_wp2_with fail
  go_loopw [8, 5] (fun i _ wr => ∃ (k : Nat) (b : Int), i = .int .i64 k ∧ k ≤ n ∧ 0 ≤ b ∧ b ≤ r ∧ Blk wr gb 3 [.int .i64 b] ∧ Blk wr gr 3 [.int .i64 r] ∧ Chg gb w wr ∧ Hid (sumF b (ws.drop k) = sumF 0 ws) ∧ Hid (idxF r b (ws.drop k) k = idxF r 0 ws 0)) (fun i _ _ => n - (intOf i).toNat)
  case atStart => exact ⟨0, 0, rfl, by omega, by omega, hr0, hb, hr, Chg.refl _ _, Lib.hid rfl, Lib.hid rfl⟩
  case round =>
    obtain ⟨k, b, rfl, hk, hb0, hb1, hB, hR, hc, hSb, hI⟩ := hrel
    have hlt : (k : Int) < n := by
      rcases Nat.lt_or_ge k n with h | h
      · omega
      · have := hSb.out
        rw [List.drop_of_length_le (by rw [HN.out]; omega)] at this
        simp only [sumF] at this
        have := HSS.out
        omega
    obtain ⟨bb, off, hAe, ⟨hx1, hx2⟩, hck⟩ := hcell.out wr hc k (by omega)
    subst hAe
    have hd := drop_cons ws k (by rw [HN.out]; omega)
    rw [hd, sumF] at hSb
    rw [hd, idxF] at hI
    clear hd
    generalize ws.getD k 0 = x at *
    have hxok : 0 ≤ x ∧ b + x ≤ 1152921504606846976 := by
      have h3 := HSS.out
      have h4 := hSb.out
      split at h4
      · omega
      · omega
    have hSb' : Hid (sumF (b + x) (ws.drop (k + 1)) = sumF 0 ws) := Lib.hid (by have := hSb.out; rwa [if_neg (by omega)] at this)
    obtain ⟨hx3, hx4⟩ := hxok
    clear hSb hx1 hx2
    go_wp2_with fail
    refine (pick1_any gb gr b r x _ hB hR hne hb0 hx3 hx4).mono ?_
    rintro e1 w1 ⟨rfl, rfl⟩
    have hB1 := hB.set 0 (.int .i64 (b + x))
    have hR1 := hR.far (p := ⟨gb, 0, none⟩) hne (.int .i64 (b + x))
    have hc1 := hc.trans (Chg.set gb 0 wr (.int .i64 (b + x)))
    by_cases hlt2 : r < b + x
    · rw [if_pos hlt2] at hI
      rw [decide_eq_true hlt2]
      go_wp2_with fail
      go_ret
      exact ⟨ret_int hI.out, hc1⟩
    · rw [if_neg hlt2] at hI
      rw [decide_eq_false hlt2]
      go_wp2_with fail
      go_roundw
      case rel => exact ⟨k + 1, b + x, by go_num, by omega, by omega, by omega, hB1, hR1, hc1, hSb', Lib.hid (by rw [← hI.out]; simp)⟩
      case measure => simp [intOf]; omega

theorem Chg.past {g gb : Nat} {a b c : World} (h : Chg g a b) (k : Chg gb b c) (hg : a.heap.size ≤ gb) : Chg g a c :=
  ⟨k.os.trans h.os, k.tape.trans h.tape, k.output.trans h.output, Nat.le_trans h.size k.size, fun i hi hne => (World.grownBy.block k i (Nat.lt_of_lt_of_le hi h.size) (by intro e; injection e with e; omega)).trans (World.grownBy.block h i hi hne)⟩

set_option maxRecDepth 100000 in
set_option maxHeartbeats 4000000 in
theorem pick_any (R : Nat → Prop) (g : Nat) (seed : List UInt8) (label : ByteArray) (p : Int) (v : Value) (ws : List Int) (w : World) (h : DiceAt w R g seed label p) (hRl : ∀ k, R k → k < w.heap.size) (hr : Rd w v (vis ws)) (hvg : v.ownBlock ≠ some g) (hvl : ∀ k, v.ownBlock = some k → k < w.heap.size) (hz : ∀ n ∈ ws, inI64 n) (hp : inI64 p) (hl : seed.length ≤ 1000000) (hs : label.size ≤ 1000000) :
    Calls Try.prog 36 #[.pointer (some ⟨g, 0, none⟩), v] w fun e w' =>
      e = .returned (.tuple #[.int .i64 (pickD seed label.data.toList ws p).1, .int .i64 (pickD seed label.data.toList ws p).2.1]) ∧ DiceAt w' R g seed label (pickD seed label.data.toList ws p).2.2 ∧ Chg g w w' := by
  have hsr := sumF_range ws 0 (by omega) (by omega)
  have hgl := h.lt
  obtain ⟨A, c, rfl, h1, h2, -⟩ := id hr
  obtain ⟨-, -, -, hcc⟩ := hr.at
  rw [vis_len] at h1 hcc
  simp only [maxLen] at h2
  obtain ⟨n, hn⟩ : ∃ n, ws.length = n := ⟨_, rfl⟩
  have hcell : Hid (∀ j, j < n → ∃ b off, A = some ⟨b, off, none⟩ ∧ inI64 (ws.getD j 0) ∧ w.cell? ⟨b, off + j, none⟩ = some (.int .i64 (ws.getD j 0))) := Lib.hid (fun j hj => by
    obtain ⟨b, off, hh, hc⟩ := hcc (by omega)
    have hjl : j < ws.length := by omega
    refine ⟨b, off, hh, by have := hz (ws[j]) (by simp); simpa [hjl] using this, hc w (Ext.refl _) j _ (by simp [vis, hjl])⟩)
  have hl' : (vis ws).length = n := by rw [vis_len, hn]
  rw [hl'] at hr hvg hvl ⊢
  have HN := Lib.hid hn
  rw [hn] at h1
  clear hn hl' hcc
  go_enter Try.func36, Try.ntmps36
  go_wp2_with fail
  go_loop [14, 6, 8] (fun i s _ => ∃ (k : Nat) (acc : Int), i = .int .i64 k ∧ s = .int .i64 acc ∧ k ≤ n ∧ 0 ≤ acc ∧ acc ≤ 1152921504606846976 ∧ Hid (sumF acc (ws.drop k) = sumF 0 ws)) (fun i _ _ => n - (intOf i).toNat)
  case atStart => exact ⟨0, 0, rfl, rfl, by omega, by omega, by omega, Lib.hid rfl⟩
  case round =>
    obtain ⟨k, acc, rfl, rfl, hk, ha0, ha1, hS⟩ := hrel
    by_cases hlt : (k : Int) < n
    · obtain ⟨b, off, hAe, ⟨hx1, hx2⟩, hck⟩ := hcell.out k (by omega)
      subst hAe
      have hd := drop_cons ws k (by rw [HN.out]; omega)
      rw [hd, sumF] at hS
      clear hd
      generalize ws.getD k 0 = x at *
      by_cases hbad : x < 0 ∨ 1152921504606846976 - acc < x
      · rw [if_pos hbad] at hS
        have HP : Hid (pickD seed label.data.toList ws p = (0, 1, p)) := Lib.hid (by unfold pickD; rw [if_pos hS.out.symm])
        have hcs : decide (x < 0) = true ∨ (decide (x < 0) = false ∧ decide (1152921504606846976 - acc < x) = true) := by
          simp only [decide_eq_true_eq, decide_eq_false_iff_not]; omega
        clear hbad hS
        rcases hcs with q1 | ⟨q1, q2⟩
        all_goals
          go_wp2
          go_ret2
          rw [HP.out]
          exact ⟨rfl, h, Chg.refl g w⟩
      · rw [if_neg hbad] at hS
        have q1 : decide (x < 0) = false := decide_eq_false (by omega)
        have q2 : decide (1152921504606846976 - acc < x) = false := decide_eq_false (by omega)
        have q3 : 0 ≤ acc + x ∧ acc + x ≤ 1152921504606846976 := by omega
        clear hbad
        go_wp2
        go_round
        case rel => exact ⟨k + 1, acc + x, by go_num, rfl, by omega, q3.1, q3.2, hS⟩
        case measure => simp [intOf]; omega
    · have HR : Hid (acc = sumF 0 ws) := Lib.hid (by rw [← hS.out, List.drop_of_length_le (by rw [HN.out]; omega)]; rfl)
      clear hS hcell hk
      by_cases hS0 : acc = 0
      · have HP : Hid (pickD seed label.data.toList ws p = (0, 1, p)) := Lib.hid (by unfold pickD; rw [← HR.out, if_pos hS0])
        have hsb : (acc == 0) = true := by simpa using hS0
        go_wp2
        go_ret2
        rw [HP.out]
        exact ⟨rfl, h, Chg.refl g w⟩
      · have HP : Hid (pickD seed label.data.toList ws p = if (rollD seed label.data.toList acc p).2.1 = 0 then (idxF (rollD seed label.data.toList acc p).1 0 ws 0, 0, (rollD seed label.data.toList acc p).2.2) else (0, (rollD seed label.data.toList acc p).2.1, (rollD seed label.data.toList acc p).2.2)) := Lib.hid (by unfold pickD; rw [← HR.out, if_neg hS0])
        have hsb : (acc == 0) = false := by simpa using hS0
        go_wp2_with fail
        refine (roll_any R g seed label p acc _ h hp ⟨by omega, by omega⟩ hl hs).mono ?_
        rintro e w1 ⟨rfl, hD, hc1⟩
        have herr := rollD_err seed label.data.toList acc p (by omega)
        have hval := rollD_val seed label.data.toList acc p (by omega)
        generalize (rollD seed label.data.toList acc p).2.2 = q at *
        generalize (rollD seed label.data.toList acc p).2.1 = er at *
        generalize (rollD seed label.data.toList acc p).1 = r at *
        have s1 := hc1.size
        have hr1 := hr.chg hc1 hvg
        rcases herr with rfl | rfl
        · rw [if_pos rfl] at HP
          clear hr hlt
          go_wp2_with fail
          have hb1 := Blk.new (w1.alloc (.cells #[.int .i64 r] 3)) 3 [.int .i64 0]
          rw [show (w1.alloc (.cells #[.int .i64 r] 3)).heap.size = w1.heap.size + 1 by simp] at hb1
          have hb2 := (Blk.new w1 3 [.int .i64 r]).ext ((Ext.refl _).alloc (.cells #[.int .i64 0] 3))
          have hx2 : Ext w1 ((w1.alloc (.cells #[.int .i64 r] 3)).alloc (.cells #[.int .i64 0] 3)) := ((Ext.refl _).alloc _).alloc _
          refine (indexf_any (w1.heap.size + 1) w1.heap.size r _ ws _ hb1 hb2 (by omega) (hr1.ext hx2) (fun e => by have := hvl _ e; omega) hz (by rw [← HR.out]; exact hS0) hval.1 (by rw [← HR.out]; exact hval.2)).mono ?_
          rintro e w2 ⟨rfl, hc2⟩
          go_wp2_with fail
          go_ret2
          rw [HP.out]
          exact ⟨rfl, (hD.ext hx2).chg hc2 (by omega) (fun k hk => by have := hRl k hk; omega), (hc1.trans (Chg.of_ext hx2)).past hc2 (by omega)⟩
        · rw [if_neg (by decide)] at HP
          go_wp2_with fail
          go_ret2
          rw [HP.out]
          exact ⟨rfl, hD.ext ((Ext.refl _).alloc _), hc1.trans (Chg.of_ext ((Ext.refl _).alloc _))⟩
end Go.Proofs.Ytjgpdimhgcacgaa
