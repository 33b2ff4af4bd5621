/- the reference of package share: Split: contract. -/
import Derived.Test.YtenencblpoeneaaSs2
import Derived.Test.YtenencblpoeneaaSp4
namespace Go.Proofs.Ytenencblpoeneaa
open Go.RowKit
set_option linter.unusedVariables false

/-- two slices that lie apart -/
def Sep (v v' : Value) : Prop := ∀ k, v.ownBlock = some k → v'.ownBlock ≠ some k
theorem Sep.symm {v v' : Value} (h : Sep v v') : Sep v' v := fun k h1 h2 => h k h2 h1
theorem app_other {w a b : World} {base : Nat} {e : TypeId} {o : Obj} {v v' v2 : Value} {ys : List Value} (hx : Ext w a) (h2 : Own a base e v2 ys) (hg : (a.alloc o).grownBy b v.ownBlock)
    (hv : v'.ownBlock = v.ownBlock ∨ v'.ownBlock = some (a.alloc o).heap.size) (hs : Sep v v2) : Own b base e v2 ys ∧ Sep v' v2 := by
  have ha : Ext a (a.alloc o) := (Ext.refl a).alloc o
  have h3 := h2.ext ha
  refine ⟨h3.of_block fun k hk => World.grownBy.block hg k (h3.lt k hk).2 (fun e' => hs k e'.symm hk), fun k hk hk2 => ?_⟩
  rcases hv with hv | hv
  · exact hs k (hv ▸ hk) hk2
  · rw [hv] at hk
    injection hk with hk
    have := (h3.lt k hk2).2
    omega
theorem sep_nil (v : Value) : Sep (.slice none 0 0) v := fun k h => by simp [Value.ownBlock] at h

theorem own_store {w : World} {base g cap n : Nat} {e : TypeId} {l : List Int} (h : Own w base e (.slice (some ⟨g, 0, none⟩) n cap) (vis l)) (hl : l.length = n) {k : Nat} (hk : k < n) :
    w.cell? ⟨g, k, none⟩ = some (.int .i64 (l.getD k 0)) ∧ w.frozen? ⟨g, k, none⟩ = false ∧ ∀ x, Own (w.setCell ⟨g, k, none⟩ (.int .i64 x)) base e (.slice (some ⟨g, 0, none⟩) n cap) (vis (l.set k x)) := by
  subst hl
  have h' : Own w base e (.slice (some ⟨g, 0, none⟩) (vis l).length cap) (vis l) := by rw [vis_len]; exact h
  obtain ⟨-, h2, h3⟩ := h'.fill (k := k) (by rw [vis_len]; exact hk)
  obtain ⟨g', cap', hv, -, -, hc, -, -⟩ := h'.at (by rw [vis_len]; omega)
  injection hv with e1 _ _
  injection e1 with e1
  injection e1 with e1
  subst e1
  refine ⟨hc w (Ext.refl w) k _ (by simp [vis, hk]), h2, fun x => ?_⟩
  have := h3 (.int .i64 x)
  rw [vis_len, vis_set'] at this
  exact this

set_option maxRecDepth 100000 in
set_option maxHeartbeats 8000000 in
theorem splitR_any (t : Int) (v : Value) (ws : List Int) (w : World) (h : Rd w v (vis ws)) (hws : ∀ x ∈ ws, inI64 x) (hl : ws.length ≤ 19) :
    Calls Try.prog 27 #[.int .i64 t, v] w fun e w' => ∃ v' xs c, e = .returned (.tuple #[v', .int .i64 c]) ∧ SplitAns t ws xs c ∧ Own w' w.heap.size 3 v' (vis xs) ∧ Ext w w' := by
  have HNO := Lib.hid (fun h => splitAns_no (t := t) (ws := ws) h)
  have HOKI := Lib.hid (okS_iff t ws)
  have hh := h
  obtain ⟨A, cp, rfl, _⟩ := h
  obtain ⟨_, a1, a2, a3⟩ := hh.at
  clear hh
  simp only [vis_len, maxLen] at *
  obtain ⟨i0, hi, hz0, hz1, hz2⟩ := info_parts info_int
  go_enter Try.func27, Try.ntmps27
  go_wp2_with fail
  go_loop [6, 7] (fun x6 x7 => ∃ k : Nat, k ≤ ws.length ∧ x7 = .int .i64 k ∧ x6 = .int .i64 (totS (ws.take k)) ∧ Hid (∀ x ∈ ws.take k, 0 ≤ x ∧ x ≤ 1099511627776)) (fun _ x7 => ws.length - (RowKit.intOf x7).toNat)
  case atStart => exact ⟨0, by omega, rfl, rfl, Lib.hid (by simp)⟩
  case round =>
    obtain ⟨k, hk, rfl, rfl, HP⟩ := hrel
    obtain ⟨s0, s1⟩ := take_bound HP.out (by omega) hk
    by_cases hlt : k < ws.length
    · obtain ⟨b, off, rfl, hcx⟩ := a3 (by omega)
      have c1 := hcx w (Ext.refl w) k (.int .i64 ws[k]) (by simp [vis, hlt])
      have hts := Lib.hid (totS_take_succ ws k hlt)
      have HN1 : Hid ((0 ≤ ws[k] ∧ ws[k] ≤ 1099511627776) → ∀ x ∈ ws.take (k + 1), 0 ≤ x ∧ x ≤ 1099511627776) := Lib.hid (fun h x hx => by
        rw [List.take_succ_eq_append_getElem hlt] at hx
        rcases List.mem_append.1 hx with hx | hx
        · exact HP.out x hx
        · simp only [List.mem_singleton] at hx; subst hx; exact h)
      have HBAD : Hid (amtS ws[k] = false → okS t ws = false) := Lib.hid (fun h => by
        rw [← Bool.not_eq_true]
        intro h'
        have := (HOKI.out.1 h').2.1 ws[k] (by simp)
        rw [← amtS_iff, h] at this
        cases this)
      generalize ws[k] = y at *
      generalize totS (ws.take k) = s at *
      clear hcx a3 HP
      go_wp2_with fail
      refine (ramt_any y _).mono ?_
      rintro e w1 ⟨rfl, rfl⟩
      rcases hy : amtS y with _ | _
      · have HR := Lib.hid (HNO.out (HBAD.out hy))
        clear hy
        go_wp2
        go_ret2
        exact ⟨_, [], 1, rfl, HR.out, Own.nil _ _ _, Ext.refl _⟩
      · obtain ⟨y0, y1⟩ := (amtS_iff y).1 hy
        have HN2 := Lib.hid (HN1.out ⟨y0, y1⟩)
        clear hy HBAD HN1
        go_wp2
        go_round
        case rel => exact ⟨k + 1, by omega, by go_num, by rw [hts.out], HN2⟩
        case measure => simp [RowKit.intOf]; omega
    · have hke : ws.take k = ws := List.take_of_length_le (by omega)
      rw [hke] at HP s0 s1
      rw [hke]
      clear hke
      go_wp2_with fail
      refine (ramt_any t _).mono ?_
      rintro e w1 ⟨rfl, rfl⟩
      rcases ht : amtS t with _ | _
      · have HR := Lib.hid (HNO.out (by
          rw [← Bool.not_eq_true]
          intro h'
          have := (HOKI.out.1 h').1
          rw [amtS_not] at ht
          unfold AmtI at this; omega))
        clear ht a3
        go_wp2
        go_ret2
        exact ⟨_, [], 1, rfl, HR.out, Own.nil _ _ _, Ext.refl _⟩
      · obtain ⟨t0, t1⟩ := (amtS_iff t).1 ht
        clear ht
        by_cases hs0 : totS ws = 0
        · have HR := Lib.hid (HNO.out (by
            rw [← Bool.not_eq_true]
            intro h'
            have := (HOKI.out.1 h').2.2
            omega))
          have hs0' : (totS ws == 0) = true := by simp [hs0]
          clear hs0 a3
          go_wp2
          go_ret2
          exact ⟨_, [], 1, rfl, HR.out, Own.nil _ _ _, Ext.refl _⟩
        · have HOK : Hid (okS t ws = true) := Lib.hid (HOKI.out.2 ⟨⟨t0, t1⟩, HP.out, by omega⟩)
          have hs0' : (totS ws == 0) = false := by simp [hs0]
          have hs1 : 1 ≤ totS ws := by omega
          have hn1 : 1 ≤ ws.length := by
            rcases Nat.eq_zero_or_pos ws.length with h | h
            · rw [List.eq_nil_of_length_eq_zero h] at hs1
              simp [totS] at hs1
            · exact h
          obtain ⟨b, off, rfl, hcx⟩ := a3 (by omega)
          have HCX := Lib.hid hcx
          clear hs0 hcx a3 HNO HOKI
          go_wp2_with fail
          have HQB : Hid (∀ j, 0 ≤ (qS t (totS ws) ws).getD j 0 ∧ (qS t (totS ws) ws).getD j 0 ≤ 1099511627776) := Lib.hid (getD_mem0 (P := fun z => 0 ≤ z ∧ z ≤ 1099511627776) (by omega) (fun x hx => by
            obtain ⟨z, hz, rfl⟩ := List.mem_map.1 hx
            have := mul_le_amt t0 (totS_mem (fun x hx => (HP.out x hx).1) z hz) hs1
            have := Int.ediv_nonneg (Int.mul_nonneg t0 (HP.out z hz).1) (show 0 ≤ totS ws by omega)
            omega))
          obtain ⟨q, hq⟩ : ∃ q, q = qS t (totS ws) ws := ⟨_, rfl⟩
          obtain ⟨r, hr⟩ : ∃ r, r = rS t (totS ws) ws := ⟨_, rfl⟩
          rw [← hq] at HQB
          have HQL : Hid (q.length = ws.length) := Lib.hid (by rw [hq, qS_len])
          have HRL : Hid (r.length = ws.length) := Lib.hid (by rw [hr, rS_len])
          have HQK : Hid (∀ k (hk : k < ws.length), q[k]? = some (t * ws[k] / totS ws)) := Lib.hid (fun k hk => by rw [hq]; simp [qS, hk])
          have HRK : Hid (∀ k (hk : k < ws.length), r[k]? = some (t * ws[k] % totS ws)) := Lib.hid (fun k hk => by rw [hr]; simp [rS, hk])
          have HQ := Lib.hid hq
          have HR := Lib.hid hr
          clear hq hr
          go_loopw [10, 11, 12, 13] (fun x10 x11 x12 x13 wr => ∃ k : Nat, k ≤ ws.length ∧ x13 = .int .i64 k ∧ x12 = .int .i64 (t - totS (q.take k)) ∧ Own wr w.heap.size 3 x10 (vis (q.take k)) ∧ Own wr w.heap.size 3 x11 (vis (r.take k)) ∧ Sep x10 x11 ∧ Ext w wr) (fun _ _ _ x13 _ => ws.length - (RowKit.intOf x13).toNat)
          case atStart => exact ⟨0, by omega, rfl, by simp [totS], Own.nil _ _ _, Own.nil _ _ _, sep_nil _, Ext.refl _⟩
          case round =>
            rename_i k0 _ _ _ _ _
            obtain ⟨k, hk, rfl, rfl, ho, hp, hsep, hxr⟩ := hrel
            by_cases hlt : k < ws.length
            · have hltz : (k : Int) < (ws.length : Int) := by omega
              have c1 := (HCX.out wr hxr k (.int .i64 ws[k]) (by simp [vis, hlt]))
              have hy := HP.out ws[k] (by simp)
              have hys := totS_mem (fun x hx => (HP.out x hx).1) ws[k] (by simp)
              have hqk := HQK.out k hlt
              have hrk := HRK.out k hlt
              have hle := mul_le_amt t0 hys hs1
              have hge : 0 ≤ t * ws[k] / totS ws := Int.ediv_nonneg (Int.mul_nonneg t0 hy.1) (by omega)
              have hqkl : k < q.length := by rw [HQL.out]; exact hlt
              have hrkl : k < r.length := by rw [HRL.out]; exact hlt
              have HTS : Hid (totS (q.take (k + 1)) = totS (q.take k) + t * ws[k] / totS ws) := Lib.hid (by
                rw [totS_take_succ _ k hqkl]
                rw [List.getElem?_eq_getElem hqkl] at hqk
                injection hqk with hqk
                rw [hqk])
              have HTQ : Hid (q.take (k + 1) = q.take k ++ [t * ws[k] / totS ws]) := Lib.hid (by
                rw [List.take_succ_eq_append_getElem hqkl]
                rw [List.getElem?_eq_getElem hqkl] at hqk
                injection hqk with hqk
                rw [hqk])
              have HTR : Hid (r.take (k + 1) = r.take k ++ [t * ws[k] % totS ws]) := Lib.hid (by
                rw [List.take_succ_eq_append_getElem hrkl]
                rw [List.getElem?_eq_getElem hrkl] at hrk
                injection hrk with hrk
                rw [hrk])
              have hsum0 : 0 ≤ totS (q.take k) := totS_nonneg (fun x hx => by
                obtain ⟨j, hj, rfl⟩ := List.getElem_of_mem (List.mem_of_mem_take hx)
                have := (HQB.out j).1
                simpa [List.getD_eq_getElem?_getD, hj] using this)
              have hsum1 : totS (q.take k) ≤ k * 1099511627776 := by
                have := totS_le (l := q.take k) (m := 1099511627776) (fun x hx => by
                  obtain ⟨j, hj, rfl⟩ := List.getElem_of_mem (List.mem_of_mem_take hx)
                  have := (HQB.out j).2
                  simpa [List.getD_eq_getElem?_getD, hj] using this)
                rw [List.length_take, Nat.min_eq_left (by omega)] at this
                exact this
              have hl1 : (q.take k).length ≤ 19 := by simp; omega
              have hl2 : (r.take k).length ≤ 19 := by simp; omega
              have HDV := Lib.hid (divR_any t ws[k] (totS ws) wr t0 (by omega) hy.1 (by omega) hs1 (by omega))
              have HDO := Lib.hid (divR_ok (a := t) (b := ws[k]) (d := totS ws) (by omega))
              obtain ⟨y0, y1⟩ := hy
              clear hqk hrk
              generalize totS (q.take k) = sk at *
              go_wp2_with fail
              refine HDV.out.mono ?_
              rintro e w1 ⟨rfl, rfl⟩
              rw [HDO.out]
              clear HDV HDO
              generalize t * ws[k] / totS ws = x at *
              generalize t * ws[k] % totS ws = z at *
              have hsz := hxr.size
              go_upto_region 19 with (at_builtin; refine wpList_app _ rfl (.tmp 72) (.tmp 74) _ rfl w.heap.size 3 i0 _ 8 Try.underlying22 hi hz0 hz1 hz2 rfl (by omega) _ _ rfl (ho.ext ((Ext.refl _).alloc _)) (some ⟨wr.heap.size, 0, none⟩) 1 1 [.int .i64 x] rfl (Src.one _ _ _) ?_ ?_ ?_ ?_; (simp [Value.oneCell']); (rw [vis_len]; omega); (simp; omega); intro v1 w1 ho1 hg1 hv1)
              obtain ⟨hp1, hsep1⟩ := app_other hxr hp hg1 hv1 hsep
              have hx1 : Ext w w1 := Ext.app hxr (Ext.refl w) ho hg1
              have hsz1 := hx1.size
              clear ho hp hsep hg1 hv1
              go_wp2_with (at_builtin; refine wpList_app _ rfl (.tmp 76) (.tmp 78) _ rfl w.heap.size 3 i0 _ 8 Try.underlying22 hi hz0 hz1 hz2 rfl (by omega) _ _ rfl (hp1.ext ((Ext.refl _).alloc _)) (some ⟨w1.heap.size, 0, none⟩) 1 1 [.int .i64 z] rfl (Src.one _ _ _) ?_ ?_ ?_ ?_; (simp [Value.oneCell']); (rw [vis_len]; omega); (simp; omega); intro v2 w2 hp2 hg2 hv2)
              obtain ⟨ho2, hsep2⟩ := app_other hx1 ho1 hg2 hv2 hsep1.symm
              have hx2 : Ext w w2 := Ext.app hx1 (Ext.refl w) hp1 hg2
              have hoN : Own w2 w.heap.size 3 v1 (vis (q.take (k + 1))) := by rw [HTQ.out, vis_app]; exact ho2
              have hpN : Own w2 w.heap.size 3 v2 (vis (r.take (k + 1))) := by rw [HTR.out, vis_app]; exact hp2
              clear ho1 hp1 ho2 hp2 hg2 hv2 hsep1
              go_wp2_with fail
              go_roundw
              case rel => exact ⟨k + 1, by omega, by go_num, congrArg _ (by rw [HTS.out]; omega), hoN, hpN, hsep2.symm, hx2⟩
              case measure => simp [RowKit.intOf]; omega
            · rw [List.take_of_length_le (by rw [HQL.out]; omega)] at ho ⊢
              rw [List.take_of_length_le (by rw [HRL.out]; omega)] at hp
              obtain ⟨L0, L1⟩ := left_range (t := t) (ws := ws) (show 0 < totS ws by omega)
              have hleft : t - totS q = leftS t (totS ws) ws := by rw [HQ.out]; rfl
              obtain ⟨L, hL⟩ : ∃ L : Nat, leftS t (totS ws) ws = (L : Int) := ⟨(leftS t (totS ws) ws).toNat, by omega⟩
              rw [hleft, hL]
              have hLk : L ≤ ws.length := by omega
              have HL := Lib.hid hL
              obtain ⟨A1', cap1, hv1, hA1⟩ := ho.form'
              obtain ⟨A2', cap2, hv2, hA2⟩ := hp.form'
              rw [vis_len, HQL.out] at hv1 hA1
              rw [vis_len, HRL.out] at hv2 hA2
              subst hv1 hv2
              obtain ⟨g1, rfl⟩ := hA1 (by omega)
              obtain ⟨g2, rfl⟩ := hA2 (by omega)
              have d12 : g1 ≠ g2 := fun e => hsep g1 rfl (by rw [e]; rfl)
              have l1 := (ho.lt g1 rfl).1
              have l2 := (hp.lt g2 rfl).1
              obtain ⟨n, hn⟩ : ∃ n, n = ws.length := ⟨_, rfl⟩
              rw [← hn] at HQL HRL hl hn1 hLk ho hp ⊢
              have HN := Lib.hid hn
              have HRN : Hid (∀ x ∈ r, 0 ≤ x) := Lib.hid (fun x hx => by rw [HR.out] at hx; exact (rS_range (show 0 < totS ws by omega) x hx).1)
              have hkz : ¬ (k : Int) < (n : Int) := by omega
              clear hn hleft hL hsep L0 L1 a1 hlt hk HCX HQK HRK
              go_wp2_with fail
              go_loopw [12] (fun x12 wr => ∃ M : List Nat, M.length ≤ L ∧ x12 = .int .i64 ((L : Int) - M.length) ∧ Hid (Picks r M) ∧ Own wr w.heap.size 3 (.slice (some ⟨g1, 0, none⟩) n cap1) (vis (bump q M)) ∧ Own wr w.heap.size 3 (.slice (some ⟨g2, 0, none⟩) n cap2) (vis (marked r M)) ∧ Ext w wr) (fun x12 _ => (RowKit.intOf x12).toNat)
              case atStart => exact ⟨[], by simp, by simp, Lib.hid (Picks.nil r), ho, hp, hxr⟩
              case round =>
                obtain ⟨M, hM, rfl, HPM, hoM, hpM, hxM⟩ := hrel
                obtain ⟨wo, rfl⟩ : ∃ wo : World, wo = wr := ⟨_, rfl⟩
                clear ho hp hxr
                by_cases hlt : M.length < L
                · have hz : (0 : Int) < (L : Int) - M.length := by omega
                  have HML : Hid ((marked r M).length = n) := Lib.hid (by rw [marked_len, HRL.out])
                  have HBL : Hid ((bump q M).length = n) := Lib.hid (by rw [bump_len, HQL.out])
                  go_wp2_with fail
                  go_loopw [17, 18] (fun x17 x18 wi => ∃ b i m : Nat, x17 = .int .i64 b ∧ x18 = .int .i64 i ∧ i ≤ n ∧ Hid (FMax (marked r M) b i) ∧ wi = wo.drewN m) (fun _ x18 _ => n - (RowKit.intOf x18).toNat)
                  case atStart => exact ⟨0, 1, 0, by go_num, by go_num, hn1, Lib.hid (fmax_start _), rfl⟩
                  case round =>
                    obtain ⟨b', i, m, rfl, rfl, hin, HF, rfl⟩ := hrel
                    have hbi := HF.out.1
                    by_cases hi' : i < n
                    · have hiz : (i : Int) < (n : Int) := by omega
                      have hbz : (b' : Int) < (n : Int) := by omega
                      obtain ⟨c1, -, -⟩ := own_store hpM HML.out hi'
                      obtain ⟨c2, -, -⟩ := own_store hpM HML.out (show b' < n by omega)
                      have HUP := Lib.hid (fun h => fmax_up HF.out h)
                      have HST := Lib.hid (fun h => fmax_stay HF.out h)
                      have i0 : (0 : Int) ≤ (i : Int) := by omega
                      have b0 : (0 : Int) ≤ (b' : Int) := by omega
                      generalize (marked r M).getD i 0 = u at *
                      generalize (marked r M).getD b' 0 = u' at *
                      by_cases hc : u' < u
                      · have HN' := Lib.hid (HUP.out hc)
                        go_wp2_with fail
                        go_quiet (fail)
                        go_wp2_with fail
                        go_roundw
                        case rel => exact ⟨i, i + 1, _, rfl, by go_num, by omega, HN', by first | rfl | exact World.drewN_drewN _ _ _⟩
                        case measure => simp [RowKit.intOf]; omega
                      · have HN' := Lib.hid (HST.out hc)
                        go_wp2_with fail
                        go_quiet (fail)
                        go_wp2_with fail
                        go_roundw
                        case rel => exact ⟨b', i + 1, _, rfl, by go_num, by omega, HN', by first | rfl | exact World.drewN_drewN _ _ _⟩
                        case measure => simp [RowKit.intOf]; omega
                    · obtain rfl : i = n := by omega
                      have hiz : ¬ (i : Int) < (i : Int) := by omega
                      obtain ⟨c1, f1, S1⟩ := own_store hoM HBL.out hbi
                      obtain ⟨c2, f2, S2⟩ := own_store hpM HML.out hbi
                      have hbz : (b' : Int) < (i : Int) := by omega
                      have hbat := bump_at q M HPM.out.nd b' (by rw [HQL.out]; exact hbi)
                      have hqb := HQB.out b'
                      have hv0 : 0 ≤ (bump q M).getD b' 0 := by rw [hbat]; split <;> omega
                      have hv1 : (bump q M).getD b' 0 ≤ 1099511627777 := by rw [hbat]; split <;> omega
                      have HPN : Hid (Picks r (M ++ [b'])) := Lib.hid (HPM.out.snoc HRN.out (by rw [HRL.out]; omega) (by rw [HRL.out]; exact HF.out))
                      have HBS := Lib.hid (bump_snoc q M b')
                      have HMS := Lib.hid (marked_snoc r M b')
                      have HO1 : Hid (∀ x y, Own ((wo.setCell ⟨g1, b', none⟩ (.int .i64 x)).setCell ⟨g2, b', none⟩ (.int .i64 y)) w.heap.size 3 (.slice (some ⟨g1, 0, none⟩) i cap1) (vis ((bump q M).set b' x))) :=
                        Lib.hid (fun x y => (S1 x).chg (Chg.set g2 b' _ _) (by simp [Value.ownBlock]; exact d12))
                      have HO2 : Hid (∀ x y, Own ((wo.setCell ⟨g1, b', none⟩ (.int .i64 x)).setCell ⟨g2, b', none⟩ (.int .i64 y)) w.heap.size 3 (.slice (some ⟨g2, 0, none⟩) i cap2) (vis ((marked r M).set b' y))) :=
                        Lib.hid (fun x y => (own_store (hpM.chg (Chg.set g1 b' _ (.int .i64 x)) (by simp [Value.ownBlock]; exact Ne.symm d12)) HML.out hbi).2.2 y)
                      have HX := Lib.hid (fun u v => (hxM.setCell (p := ⟨g1, b', none⟩) l1 u).setCell (p := ⟨g2, b', none⟩) l2 v)
                      clear hbat hqb S1 S2 HF hoM hpM hxM
                      generalize (bump q M).getD b' 0 = z at *
                      generalize (marked r M).getD b' 0 = z2 at *
                      go_wp2_with fail
                      go_roundw
                      case rel => exact ⟨M ++ [b'], by simp; omega, by simp; omega, HPN, by rw [HBS.out]; exact (HO1.out _ _).ext ((Ext.refl _).drewN m), by rw [HMS.out]; exact (HO2.out _ _).ext ((Ext.refl _).drewN m), (HX.out _ _).drewN m⟩
                      case measure => simp [RowKit.intOf]; omega
                · have hz : ¬ (0 : Int) < (L : Int) - M.length := by omega
                  have HF : Hid (SplitAns t ws (bump q M) 0) := Lib.hid ⟨fun _ => ⟨rfl, M, by rw [← HR.out]; exact HPM.out, by rw [HL.out]; omega, by rw [← HQ.out]⟩, fun h => by rw [HOK.out] at h; cases h⟩
                  go_wp2_with fail
                  go_ret2
                  exact ⟨_, _, 0, rfl, HF.out, hoM, hxM⟩
end Go.Proofs.Ytenencblpoeneaa
