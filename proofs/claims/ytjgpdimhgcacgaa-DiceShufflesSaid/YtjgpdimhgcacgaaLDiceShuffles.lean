/- DiceShuffles: the walk of the law. -/
import Derived.Test.YtjgpdimhgcacgaaDw6
namespace Go.Proofs.Ytjgpdimhgcacgaa
open Go.RowKit
set_option linter.unusedVariables false

theorem hit_none (seed label : List UInt8) (den p : Int) (h : 1 ≤ den) : (hitD seed label 0 den p).1 = false := by
  unfold hitD
  rw [if_neg (by omega)]
  have := rollD_val seed label den p h
  have hd : decide ((rollD seed label den p).1 < 0) = false := decide_eq_false (by omega)
  simp [hd]
theorem hit_all (seed label : List UInt8) (den p : Int) (h : 1 ≤ den) : (hitD seed label den den p).1 = ((hitD seed label den den p).2.1 == 0) := by
  unfold hitD
  rw [if_neg (by omega)]
  have := rollD_val seed label den p h
  have hd : decide ((rollD seed label den p).1 < den) = true := decide_eq_true this.2
  simp [hd]
theorem hit_pos (seed label : List UInt8) (num den p : Int) (hp : inI64 p) : inI64 (hitD seed label num den p).2.2 := by
  unfold hitD; split
  · exact hp
  · exact rollD_pos _ _ _ _ hp
theorem pick_pos (seed label : List UInt8) (ws : List Int) (p : Int) (hp : inI64 p) : inI64 (pickD seed label ws p).2.2 := by
  unfold pickD; split
  · exact hp
  · split <;> exact rollD_pos _ _ _ _ hp
theorem shufF_pos (seed label : List UInt8) : ∀ (i : Nat) (l : List Int) (p : Int), inI64 p → inI64 (shufF seed label i l p).2.2
  | 0, l, p, h => h
  | i + 1, l, p, h => by
    rw [shufF]; split
    · exact shufF_pos seed label i _ _ (rollD_pos _ _ _ _ h)
    · exact rollD_pos _ _ _ _ h
theorem shuffle_pos (seed label : List UInt8) (n p : Int) (hp : inI64 p) : inI64 (shuffleD seed label n p).2.2 := by
  unfold shuffleD; split
  · exact hp
  · exact shufF_pos _ _ _ _ _ hp

def fives (z : List Int) (j : Nat) : List Int := (List.range j).map fun t => around (z.getD t 0) 5
theorem fives_len (z : List Int) (j : Nat) : (fives z j).length = j := by simp [fives]
theorem fives_succ (z : List Int) (j : Nat) : fives z (j + 1) = fives z j ++ [around (z.getD j 0) 5] := by simp [fives, List.range_succ]
theorem fives_range (z : List Int) (j : Nat) : ∀ x ∈ fives z j, 0 ≤ x ∧ x ≤ 4 := by
  intro x hx
  obtain ⟨t, _, rfl⟩ := List.mem_map.1 hx
  have := around_range (z.getD t 0) 5 (by omega)
  omega
theorem Own.sliceAt {w : World} {base : Nat} {e : TypeId} {v : Value} {zs : List Int} (h : Own w base e v (vis zs)) (hn : 0 < zs.length) :
    ∃ G cap, v = .slice (some ⟨G, 0, none⟩) zs.length cap ∧ ∀ k, k < zs.length → w.cell? ⟨G, k, none⟩ = some (.int .i64 (zs.getD k 0)) := by
  obtain ⟨A, cap, hv, hA⟩ := h.form'
  rw [vis_len] at hv hA
  obtain ⟨G, rfl⟩ := hA hn
  subst hv
  exact ⟨G, cap, rfl, fun k hk => (Own.cellAt h hk).1⟩

set_option maxRecDepth 100000 in
set_option maxHeartbeats 4000000 in
theorem DiceShuffles_law (w : World) (v0 : Value) (b0 : List UInt8) (h0 : Rd w v0 (vbs b0)) (p : Int) (hp : inI64 p) (n : Int) (hn : inI64 n) (v3 : Value) (z3 : List Int) (h3 : Rd w v3 (vis z3)) (hz3 : ∀ n ∈ z3, inI64 n) :
    Calls Try.prog 9 #[v0, .int .i64 p, .int .i64 n, v3] w fun e w' => e = .returned (.bool true) ∧ Ext w w' := by
  have hbl : (b0.take 20).length ≤ 20 := List.length_take_le _ _
  obtain ⟨i0, hi, hz00, hz01, hz02⟩ := info_parts info_int
  go_enter Try.func9, Try.ntmps9
  go_wp2_with fail
  refine (few_any v0 b0 20 _ h0 (by omega)).mono ?_
  rintro e w1 ⟨va, rfl, ho1, hx1⟩
  obtain ⟨bs, hbs⟩ : ∃ bs, bs = b0.take 20 := ⟨_, rfl⟩
  rw [← hbs] at hbl ho1
  clear hbs
  have s1 := hx1.size
  go_wp2_with fail
  refine (new_any va bs _ _ ho1.rd (by omega)).mono ?_
  rintro e w2 ⟨g, rfl, hg1, hg2, hD, hx2⟩
  have hsl : ({ data := #[98] } : ByteArray).size ≤ 1000000 := by decide
  generalize ({ data := #[98] } : ByteArray) = lab at *
  have hxw := hx1.trans hx2
  have hD : DiceAt w2 (fun k => k < g) g bs lab 0 := hD.mono (fun k hk => hk.2)
  clear ho1 hx1 hx2
  go_wp2_with fail
  refine (seek_any _ g bs _ 0 p _ hD).mono ?_
  rintro e w3 ⟨rfl, hD, hc3⟩
  have hxw := hc3.ext hxw (by omega)
  have s3 := hc3.size
  clear hc3
  go_wp2_with fail
  refine (around_any n 41 _ hn (by omega) (by omega)).mono ?_
  rintro e w4 ⟨rfl, rfl⟩
  have har := around_range n 41 (by omega)
  obtain ⟨k, hk⟩ : ∃ k : Nat, around n 41 = (k : Int) := ⟨(around n 41).toNat, by omega⟩
  rw [hk] at har ⊢
  clear hk
  go_wp2_with fail
  refine (shuffle_any _ g bs lab p k _ hD (fun k hk => by omega) hp ⟨by omega, by omega⟩ (by omega) hsl).mono ?_
  rintro e w4 ⟨vl, rfl, hol, hD, hc4⟩
  have hspec := shuffle_spec bs lab.data.toList k p (by omega)
  have hpp := shuffle_pos bs lab.data.toList k p hp
  have hxw := hc4.ext hxw (by omega)
  have s4 := hc4.size
  clear hc4
  generalize (shuffleD bs lab.data.toList k p).2.2 = q at *
  generalize (shuffleD bs lab.data.toList k p).2.1 = er at *
  generalize (shuffleD bs lab.data.toList k p).1 = L at *
  rcases hspec with ⟨rfl, -⟩ | ⟨rfl, hLl, hLm⟩
  · go_wp2_with fail
    refine (lives04_any _).mono ?_
    rintro e w5 ⟨rfl, hx5⟩
    go_wp2
    go_ret
    exact ⟨rfl, hxw.trans hx5⟩
  · have HLM := Lib.hid hLm
    have hrl := hol.rd
    obtain ⟨Al, cl, rfl, -⟩ := id hrl
    rw [vis_len, hLl] at hrl hol ⊢
    clear hLl hLm hol
    have hq1 : ((k : Int) != (k : Int)) = false := by simp
    go_wp2_with fail
    go_loop [13] (fun i => ∃ j : Nat, i = .int .i64 j ∧ j ≤ k) (fun i => k - (intOf i).toNat)
    case atStart => exact ⟨0, rfl, by omega⟩
    case round =>
      obtain ⟨j, rfl, hj⟩ := hrel
      by_cases hlt : (j : Int) < k
      · go_wp2_with fail
        refine (has_any _ L j _ hrl (HLM.out j (by omega))).mono ?_
        rintro e w5 ⟨rfl, rfl⟩
        go_wp2
        go_round
        case rel => exact ⟨j + 1, by go_num, by omega⟩
        case measure => simp [intOf]; omega
      · clear hrl hj
        obtain ⟨A3, c3, hv3, hc31, hc32, -⟩ := id h3
        rw [vis_len] at hv3 hc31
        subst hv3
        obtain ⟨N, hN⟩ : ∃ N, z3.length = N := ⟨_, rfl⟩
        rw [hN] at h3 hc31 ⊢
        have hcell : Hid (∀ (W : World), Ext w W → ∀ j (hj : j < N), ∃ b off, A3 = some ⟨b, off, none⟩ ∧ inI64 (z3.getD j 0) ∧ W.cell? ⟨b, off + j, none⟩ = some (.int .i64 (z3.getD j 0))) := Lib.hid (fun W hW j hj => by
          obtain ⟨-, -, -, hc⟩ := h3.at
          obtain ⟨b, off, hh, hc⟩ := hc (by omega)
          have hjl : j < z3.length := by omega
          exact ⟨b, off, hh, by have := hz3 (z3[j]) (by simp); simpa [hjl] using this, hc W hW j _ (by simp [vis, hjl])⟩)
        have hNm : N ≤ 9223372036854775807 := by simp only [maxLen] at hc32; omega
        clear hz3 h3 h0 hc32 hc31
        go_wp2_with fail
        clear hlt
        go_loopw [16, 15, 14] (fun i sm out wr => ∃ (j : Nat) (t : Int), i = .int .i64 j ∧ sm = .int .i64 t ∧ 0 ≤ t ∧ t ≤ 4 * j ∧ Hid (t = (fives z3 j).sum) ∧ j ≤ N ∧ j ≤ 8 ∧ Own wr w4.heap.size 3 out (vis (fives z3 j)) ∧ DiceAt wr (fun k => k < g) g bs lab q ∧ Ext w wr ∧ w4.heap.size ≤ wr.heap.size) (fun i _ _ _ => 9 - (intOf i).toNat)
        case atStart => exact ⟨0, 0, rfl, rfl, by omega, by omega, Lib.hid (by simp [fives]), by omega, by omega, Own.nil _ _ _, hD, hxw, by omega⟩
        case round =>
          obtain ⟨j, t, rfl, rfl, ht0, ht1, hT, hjN, hj8, hof, hD, hxw, hsz⟩ := hrel
          by_cases hjc : (j : Int) < N ∧ (j : Int) < 8
          · obtain ⟨q1, q2⟩ := hjc
            obtain ⟨b, off, hAe, hin, hck⟩ := hcell.out wr hxw j (by omega)
            subst hAe
            go_wp2_with fail
            refine (around_any _ 5 _ hin (by omega) (by omega)).mono ?_
            rintro e w5 ⟨rfl, rfl⟩
            have hle : (vis (fives z3 j)).length = j := by rw [vis_len, fives_len]
            have hx5 := around_range (z3.getD j 0) 5 (by omega)
            have HT : Hid (vis (fives z3 j) ++ [.int .i64 (around (z3.getD j 0) 5)] = vis (fives z3 (j + 1))) := Lib.hid (by rw [fives_succ]; simp [vis])
            have HG : Hid ((fives z3 (j + 1)).getD j 0 = around (z3.getD j 0) 5) := Lib.hid (by rw [fives_succ]; simp [fives_len])
            have HSm : Hid ((fives z3 (j + 1)).sum = (fives z3 j).sum + around (z3.getD j 0) 5) := Lib.hid (by rw [fives_succ]; simp)
            generalize around (z3.getD j 0) 5 = x at *
            obtain ⟨hx51, hx52⟩ := hx5
            clear hck hin
            go_wp2_with (at_builtin; refine wpList_app _ rfl (.tmp 69) (.tmp 75) _ rfl w4.heap.size 3 i0 _ 8 Try.underlying29 hi hz00 hz01 hz02 rfl (by omega) _ _ rfl (hof.ext ((Ext.refl _).alloc _)) (some ⟨wr.heap.size, 0, none⟩) 1 1 [.int .i64 x] rfl (Src.one _ _ _) ?_ ?_ ?_ ?_; (simp [Value.oneCell']); (rw [hle]; omega); (simp; omega); intro v1 w10 ho10 hg10 _; rw [HT.out] at ho10; obtain ⟨G, cap, rfl, hcl⟩ := Own.sliceAt ho10 (by rw [fives_len]; omega); have hcl := hcl j (by rw [fives_len]; omega); rw [HG.out] at hcl; rw [fives_len] at ho10 ⊢)
            have hbw : Below w4.heap.size wr w10 := Below.grown (Below.alloc (Below.refl _ _) hsz _) hg10 (by simp; omega) (fun k e => (hof.lt k e).1)
            go_roundw
            case rel => exact ⟨j + 1, t + x, by go_num, rfl, by omega, by omega, Lib.hid (by rw [HSm.out, ← hT.out]), by omega, by omega, ho10, hD.belowD hbw (by omega) (fun k hk => by omega), Below.trans hxw (Below.mono hbw (by omega)), by have := hbw.size; omega⟩
            case measure => simp [intOf]; omega
          · have hcs : ((j : Int) < N ∧ ¬ (j : Int) < 8) ∨ ¬ (j : Int) < N := by omega
            clear hjc hcell
            have hfr := fives_range z3 j
            have hfl := fives_len z3 j
            have HSum : Hid (sumF 0 (fives z3 j) = t) := Lib.hid (by rw [sumF_small _ 0 hfr (by omega) (by omega), hT.out]; omega)
            have hps := pick_spec bs lab.data.toList (fives z3 j) q
            have hpq := pick_pos bs lab.data.toList (fives z3 j) q hpp
            rw [HSum.out] at hps
            have hin : ∀ x ∈ fives z3 j, inI64 x := fun x hx => ⟨by have := hfr x hx; omega, by have := hfr x hx; omega⟩
            have hlo := hof.lt
            obtain ⟨Aw, cw, hvw, hAw⟩ := hof.form'
            rw [vis_len, hfl] at hvw hAw
            subst hvw
            have HC : Hid (∀ W, Own W w4.heap.size 3 (.slice Aw j cw) (vis (fives z3 j)) → ∀ i, i < j → ∃ G, Aw = some ⟨G, 0, none⟩ ∧ W.cell? ⟨G, i, none⟩ = some (.int .i64 ((fives z3 j).getD i 0))) := Lib.hid (fun W hW i hi => by
              obtain ⟨G, hG⟩ := hAw (by omega)
              subst hG
              exact ⟨G, rfl, (Own.cellAt hW (by rw [fives_len]; exact hi)).1⟩)
            clear hAw hfr
            generalize fives z3 j = ws at *
            rcases hcs with ⟨hc1, hc2⟩ | hc1
            all_goals
              go_wp2_with fail
              refine (pick_any _ g bs lab q _ ws _ hD (fun k hk => by omega) hof.rd (fun e => by have := (hlo _ e).1; omega) (fun k hk => (hlo k hk).2) hin hpp (by omega) hsl).mono ?_
              rintro e w5 ⟨rfl, hD, hc5⟩
              have hxw := hc5.ext hxw (by omega)
              have hof := Own.farR hof hc5 (fun k hk => by cases hk; omega)
              have s5 := hc5.size
              clear hc5
              generalize (pickD bs lab.data.toList ws q).2.2 = q5 at *
              generalize (pickD bs lab.data.toList ws q).2.1 = e5 at *
              generalize (pickD bs lab.data.toList ws q).1 = x5 at *
              go_wp2_with fail
              refine (hit_any _ g bs lab q5 0 (k + 1) _ hD hpq (by unfold inI64; omega) (by unfold inI64; omega) (by omega) hsl).mono ?_
              rintro e w6 ⟨rfl, hD, hc6⟩
              have hxw := hc6.ext hxw (by omega)
              have hof := Own.farR hof hc6 (fun k hk => by cases hk; omega)
              have s6 := hc6.size
              clear hc6
              rw [hit_none bs lab.data.toList (k + 1) q5 (by omega)]
              have hhp := hit_pos bs lab.data.toList 0 (k + 1) q5 hpq
              generalize (hitD bs lab.data.toList 0 (k + 1) q5).2.2 = q6 at *
              generalize (hitD bs lab.data.toList 0 (k + 1) q5).2.1 = e6 at *
              go_wp2_with fail
              refine (hit_any _ g bs lab q6 (k + 1) (k + 1) _ hD hhp (by unfold inI64; omega) (by unfold inI64; omega) (by omega) hsl).mono ?_
              rintro e w7 ⟨rfl, hD, hc7⟩
              have hxw := hc7.ext hxw (by omega)
              have hof := Own.farR hof hc7 (fun k hk => by cases hk; omega)
              clear hc7
              rw [hit_all bs lab.data.toList (k + 1) q6 (by omega)]
              generalize (hitD bs lab.data.toList (k + 1) (k + 1) q6).2.1 = e7 at *
              rcases hps with ⟨ht, he⟩ | ⟨ht, he⟩ | ⟨ht, he, j5, y5, hj5, hy5, hy6⟩
              · have htb : (t == 0) = true := by simpa using ht
                subst he
                clear hT ht
                cases h6 : (e6 != 0)
                all_goals
                  cases h7 : (e7 == 0)
                  all_goals
                    have h7' : (e7 != 0) = !(e7 == 0) := rfl
                    rw [h7] at h7'
                    simp only [Bool.not_true, Bool.not_false] at h7'
                    go_wp2_with fail
                    refine (lives04_any _).mono ?_
                    rintro e w8 ⟨rfl, hx8⟩
                    go_wp2
                    go_ret
                    exact ⟨rfl, hxw.trans hx8⟩
              · have htb : (t == 0) = false := by simpa using ht
                subst he
                clear hT ht
                cases h6 : (e6 != 0)
                all_goals
                  cases h7 : (e7 == 0)
                  all_goals
                    have h7' : (e7 != 0) = !(e7 == 0) := rfl
                    rw [h7] at h7'
                    simp only [Bool.not_true, Bool.not_false] at h7'
                    go_wp2_with fail
                    refine (lives04_any _).mono ?_
                    rintro e w8 ⟨rfl, hx8⟩
                    go_wp2
                    go_ret
                    exact ⟨rfl, hxw.trans hx8⟩
              · have htb : (t == 0) = false := by simpa using ht
                have hjl : j5 < j := by
                  have := (List.getElem?_eq_some_iff.1 hy5).1
                  rw [← hfl]; exact this
                subst he hj5
                obtain ⟨G, hAe, hck⟩ := HC.out _ hof j5 hjl
                subst hAe
                rw [show ws.getD j5 0 = y5 by simp [List.getD, hy5]] at hck
                have hyb : (y5 == 0) = false := by simp; omega
                clear hT ht hy5 hfl
                cases h6 : (e6 != 0)
                all_goals
                  cases h7 : (e7 == 0)
                  all_goals
                    have h7' : (e7 != 0) = !(e7 == 0) := rfl
                    rw [h7] at h7'
                    simp only [Bool.not_true, Bool.not_false] at h7'
                    go_wp2_with fail
                    refine (lives04_any _).mono ?_
                    rintro e w8 ⟨rfl, hx8⟩
                    go_wp2
                    go_ret
                    exact ⟨rfl, hxw.trans hx8⟩
end Go.Proofs.Ytjgpdimhgcacgaa
