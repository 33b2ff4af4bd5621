/- ShareScale: the walk of the law. -/
import Derived.Test.YtenencblpoeneaaSl
import Derived.Test.YtenencblpoeneaaSq
import Derived.Test.YtenencblpoeneaaSr2
namespace Go.Proofs.Ytenencblpoeneaa
open Go.RowKit
set_option linter.unusedVariables false

theorem mem_snoc_le {l : List Int} {x m : Int} (h : ∀ n ∈ l, 0 ≤ n ∧ n ≤ m) (hx : 0 ≤ x ∧ x ≤ m) : ∀ n ∈ l ++ [x], 0 ≤ n ∧ n ≤ m := fun n hn => by
  rcases List.mem_append.1 hn with hn | hn
  · exact h n hn
  · simp only [List.mem_singleton] at hn; subst hn; exact hx
theorem scale_take (k : Int) (ws : List Int) (j : Nat) (hj : j < ws.length) : (scaleS k ws).take (j + 1) = (scaleS k ws).take j ++ [k * ws[j]] := by
  rw [List.take_succ_eq_append_getElem (by simp [scaleS]; exact hj)]
  simp [scaleS]

set_option maxRecDepth 100000 in
set_option maxHeartbeats 8000000 in
theorem ShareScale_law (w : World) (total : Int) (ht : inI64 total) (v1 : Value) (z1 : List Int) (h1 : Rd w v1 (vis z1)) (hz1 : ∀ n ∈ z1, inI64 n) (fa : Int) (hfa : inI64 fa) :
    Calls Try.prog 7 #[.int .i64 total, v1, .int .i64 fa] w fun e w' => e = .returned (.bool true) ∧ Ext w w' := by
  obtain ⟨i0, hi, hz0, hz1', hz2⟩ := info_parts info_int
  have t0 := Int.emod_nonneg total (show (1099511627777 : Int) ≠ 0 by omega)
  have t1 := Int.emod_lt_of_pos total (show (0 : Int) < 1099511627777 by omega)
  have k0 := Int.emod_nonneg fa (show (1000 : Int) ≠ 0 by omega)
  have k1 := Int.emod_lt_of_pos fa (show (0 : Int) < 1000 by omega)
  have hh := h1
  obtain ⟨A, c, rfl, _⟩ := h1
  obtain ⟨_, a1, a2, a3⟩ := hh.at
  clear hh
  simp only [vis_len, maxLen] at *
  go_enter Try.func7, Try.ntmps7
  go_wp2_with fail
  refine (around3_any total 1099511627777 _ ht (by omega) (by omega)).mono ?_
  rintro e w4 ⟨rfl, rfl⟩
  generalize total % 1099511627777 = t at *
  go_wp2_with fail
  refine (around3_any fa 1000 _ hfa (by omega) (by omega)).mono ?_
  rintro e w4 ⟨rfl, rfl⟩
  obtain ⟨kk, hkk⟩ : ∃ kk, kk = 1 + fa % 1000 := ⟨_, rfl⟩
  have hk1 : 1 ≤ kk := by omega
  have hk2 : kk ≤ 1000 := by omega
  have hkr := hkk.symm
  clear hkk
  go_wp2_with fail
  clear k0 k1 hkr
  go_loopw [9, 11] (fun x3 x4 wr => ∃ k : Nat, ∃ os : List Int, k ≤ z1.length ∧ k ≤ 6 ∧ x4 = .int .i64 k ∧ os.length ≤ k ∧ Own wr w.heap.size 3 x3 (vis os) ∧ Ext w wr ∧ Hid (∀ x ∈ os, 0 ≤ x ∧ x ≤ 1048576)) (fun _ x4 _ => z1.length - (intOf x4).toNat)
  case atStart => exact ⟨0, [], by omega, by omega, rfl, by simp, Own.nil _ _ _, Ext.refl _, Lib.hid (by simp)⟩
  case round =>
    obtain ⟨k, os, hk, hk6, rfl, hol, ho, hxr, hP⟩ := hrel
    have hsz := hxr.size
    by_cases hin : k < z1.length ∧ k < 6
    · obtain ⟨h1, h2⟩ := hin
      obtain ⟨b, off, rfl, hcx⟩ := a3 (by omega)
      have c1 := hcx wr hxr k (.int .i64 z1[k]) (by simp [vis, h1])
      have hzi := hz1 z1[k] (by simp)
      have hr0 := Int.emod_nonneg z1[k] (show (1048577 : Int) ≠ 0 by omega)
      have hr1 := Int.emod_lt_of_pos z1[k] (show (0 : Int) < 1048577 by omega)
      have hd1 : decide (k < z1.length) = true := decide_eq_true h1
      have hd2 : decide ((k : Int) < 6) = true := decide_eq_true (by omega)
      generalize z1[k] = z at *
      clear hcx a3 hz1
      go_wp2_with fail
      refine (around3_any z 1048577 _ hzi (by omega) (by omega)).mono ?_
      rintro e w1 ⟨rfl, rfl⟩
      generalize z % 1048577 = q at *
      have HPN := Lib.hid (mem_snoc_le (x := q) hP.out (by omega))
      go_wp2_with (at_builtin; refine wpList_app _ rfl (.tmp 34) (.tmp 40) _ rfl w.heap.size 3 i0 _ 8 Try.underlying22 hi hz0 hz1' hz2 rfl (by omega) _ _ rfl (ho.ext ((Ext.refl _).alloc _)) (some ⟨wr.heap.size, 0, none⟩) 1 1 [.int .i64 q] rfl (Src.one _ _ _) ?_ ?_ ?_ ?_; (simp [Value.oneCell']); (rw [vis_len]; omega); (simp; omega); intro v1 w1 ho1 hg1 _)
      have hon : Own w1 w.heap.size 3 v1 (vis (os ++ [q])) := by rw [vis_app]; exact ho1
      have hxn := Ext.app hxr (Ext.refl w) ho hg1
      clear ho1
      go_roundw
      case rel => exact ⟨k + 1, os ++ [q], by omega, by omega, by go_num, by simp; omega, hon, hxn, HPN⟩
      case measure => simp [intOf]; omega
    · have ho6 : os.length ≤ 6 := by omega
      clear a3 hz1 hk
      by_cases h1 : k < z1.length
      all_goals
        first
          | (have h6 : decide ((k : Int) < 6) = false := decide_eq_false (by omega)
             have h7 : decide (k < z1.length) = true := decide_eq_true h1)
          | (have h7 : decide (k < z1.length) = false := decide_eq_false h1)
        have HPN := Lib.hid (mem_snoc_le (x := 1) hP.out (by omega))
        have HPOS : Hid (0 < totS (os ++ [1])) := Lib.hid (by
          rw [totS_snoc]
          have := totS_nonneg (fun x hx => (hP.out x hx).1)
          omega)
        have HLEN : Hid ((os ++ [1]).length ≤ 7) := Lib.hid (by simp; omega)
        have HLE1 : Hid (1 ≤ (os ++ [1]).length) := Lib.hid (by simp)
        go_wp2_with (at_builtin; refine wpList_app _ rfl (.tmp 42) (.tmp 43) _ rfl w.heap.size 3 i0 _ 8 Try.underlying22 hi hz0 hz1' hz2 rfl (by omega) _ _ rfl (ho.ext ((Ext.refl _).alloc _)) (some ⟨wr.heap.size, 0, none⟩) 1 1 [.int .i64 1] rfl (Src.one _ _ _) ?_ ?_ ?_ ?_; (simp [Value.oneCell']); (rw [vis_len]; omega); (simp; omega); intro v1 w1 ho1 hg1 _)
        have hon : Own w1 w.heap.size 3 v1 (vis (os ++ [1])) := by rw [vis_app]; exact ho1
        have hxn := Ext.app hxr (Ext.refl w) ho hg1
        clear ho1 ho hg1 hxr hP hsz hol ho6
        obtain ⟨ws, hws⟩ : ∃ ws, ws = os ++ [1] := ⟨_, rfl⟩
        rw [← hws] at HPN HPOS HLEN HLE1 hon
        clear hws
        obtain ⟨A1, cap1, hv1, hA1⟩ := hon.form'
        rw [vis_len] at hv1 hA1
        subst hv1
        obtain ⟨g1, rfl⟩ := hA1 (by have := HLE1.out; omega)
        have hlen := HLEN.out
        have hpos := HPOS.out
        have hlg1 := (hon.lt g1 rfl).1
        have HSC : Hid (∀ x ∈ ws, 0 ≤ kk * x ∧ kk * x ≤ 1048576000) := Lib.hid (fun x hx => by
          have := HPN.out x hx
          refine ⟨Int.mul_nonneg (by omega) this.1, ?_⟩
          have := Int.mul_le_mul hk2 this.2 this.1 (by omega)
          omega)
        go_wp2_with fail
        go_loopw [10, 12] (fun x10 x12 wr => ∃ j : Nat, j ≤ ws.length ∧ x12 = .int .i64 j ∧ Own wr w.heap.size 3 x10 (vis ((scaleS kk ws).take j)) ∧ Own wr w.heap.size 3 (.slice (some ⟨g1, 0, none⟩) ws.length cap1) (vis ws) ∧ Sep x10 (.slice (some ⟨g1, 0, none⟩) ws.length cap1) ∧ Ext w wr) (fun _ x12 _ => ws.length - (intOf x12).toNat)
        case atStart => exact ⟨0, by omega, rfl, Own.nil _ _ _, hon, sep_nil _, hxn⟩
        case round =>
          obtain ⟨j, hj, rfl, hov, how, hsep, hxj⟩ := hrel
          clear hon hxn
          have hszj := hxj.size
          by_cases hjl : j < ws.length
          · obtain ⟨cj, -, -⟩ := own_store how rfl hjl
            rw [getD_of hjl] at cj
            have hm := HSC.out ws[j] (by simp)
            obtain ⟨m0, m1⟩ := hm
            have hy := HPN.out ws[j] (by simp)
            have HTK := Lib.hid (scale_take kk ws j hjl)
            have htl : ((scaleS kk ws).take j).length ≤ 7 := by simp; omega
            generalize ws[j] = y at *
            obtain ⟨y0, y1⟩ := hy
            go_wp2_with (at_builtin; refine wpList_app _ rfl (.tmp 51) (.tmp 58) _ rfl w.heap.size 3 i0 _ 8 Try.underlying22 hi hz0 hz1' hz2 rfl (by omega) _ _ rfl (hov.ext ((Ext.refl _).alloc _)) (some ⟨wr.heap.size, 0, none⟩) 1 1 [.int .i64 (kk * y)] rfl (Src.one _ _ _) ?_ ?_ ?_ ?_; (simp [Value.oneCell']); (rw [vis_len]; omega); (simp; omega); intro v2 w2 ho2 hg2 hv2)
            obtain ⟨how2, hsep2⟩ := app_other hxj how hg2 hv2 hsep
            have hon : Own w2 w.heap.size 3 v2 (vis ((scaleS kk ws).take (j + 1))) := by rw [HTK.out, vis_app]; exact ho2
            have hxn := Ext.app hxj (Ext.refl w) hov hg2
            clear ho2 hv2
            go_roundw
            case rel => exact ⟨j + 1, by omega, by go_num, hon, how2, hsep2, hxn⟩
            case measure => simp [intOf]; omega
          · rw [List.take_of_length_le (by simp [scaleS]; omega)] at hov
            have rw1 := how.rd
            have rv1 := hov.rd
            have hsl : (scaleS kk ws).length = ws.length := by simp [scaleS]
            have hsp : 0 < totS (scaleS kk ws) := by rw [scale_sum]; exact Int.mul_pos (by omega) hpos
            have hsa : ∀ x ∈ scaleS kk ws, 0 ≤ x ∧ x ≤ 1099511627776 := fun x hx => by
              obtain ⟨y, hy, rfl⟩ := List.mem_map.1 hx
              have := HSC.out y hy
              omega
            have hwa : ∀ x ∈ ws, 0 ≤ x ∧ x ≤ 1099511627776 := fun x hx => by
              have := HPN.out x hx
              omega
            have HSL := Lib.hid hsl
            have HSP := Lib.hid hsp
            have HSA := Lib.hid hsa
            have HWA := Lib.hid hwa
            have HI1 : Hid (∀ x ∈ ws, inI64 x) := Lib.hid (fun x hx => by have := hwa x hx; unfold inI64; omega)
            have HI2 : Hid (∀ x ∈ scaleS kk ws, inI64 x) := Lib.hid (fun x hx => by have := hsa x hx; unfold inI64; omega)
            clear hov how hsep hsl hsp hsa hwa
            go_wp2_with fail
            refine (split_any t _ ws _ rw1 HI1.out (by omega)).mono ?_
            rintro e w5 ⟨va, xs, c, rfl, hans, hoa, hx5⟩
            obtain ⟨rfl, hsp⟩ := hans.ok t0 (by omega) HWA.out hpos
            obtain ⟨got, hat⟩ := hsp.at hpos
            have HIS := Lib.hid hsp
            have HXL := Lib.hid hsp.len
            have HMONO := Lib.hid (fun i j hi hj h => hat.mono t0 hpos i j hi hj h)
            have ra := hoa.rd
            replace rw1 := rw1.ext hx5
            replace rv1 := rv1.ext hx5
            replace hxj := hxj.trans hx5
            clear hans hsp hat hoa hx5
            go_wp2_with fail
            refine (split_any t _ (scaleS kk ws) _ rv1 HI2.out (by rw [HSL.out]; omega)).mono ?_
            rintro e w6 ⟨vb, ys, c, rfl, hans, hob, hx6⟩
            obtain ⟨rfl, hsp⟩ := hans.ok t0 (by omega) HSA.out HSP.out
            obtain rfl := HIS.out.unique (hsp.scale (by omega))
            have rb := hob.rd
            replace ra := ra.ext hx6
            replace rw1 := rw1.ext hx6
            replace hxj := hxj.trans hx6
            clear hans hsp hob hx6 rv1 HIS
            have ra0 := ra
            obtain ⟨Aa, na, ca, hva⟩ : ∃ A n c, va = .slice A n c := by obtain ⟨A, c, h, _⟩ := id ra; exact ⟨_, _, _, h⟩
            subst hva
            have e2 := ra.at.1
            rw [vis_len, HXL.out] at e2
            subst e2
            go_wp2_with fail
            refine (same3_any _ vb xs xs _ ra0 rb).mono ?_
            rintro e w7 ⟨rfl, hx7⟩
            rw [decide_eq_true rfl]
            replace ra := ra.ext hx7
            replace rw1 := rw1.ext hx7
            replace hxj := hxj.trans hx7
            obtain ⟨bw, ow, hbw, hcw⟩ := rw1.cellAt (by have := HLE1.out; omega)
            injection hbw with hbw
            injection hbw with hb1 hb2
            subst hb1 hb2
            obtain ⟨bx, ox, rfl, hcx⟩ := ra.cellAt (by rw [HXL.out]; have := HLE1.out; omega)
            have HCW := Lib.hid hcw
            have HCX := Lib.hid hcx
            clear hcw hcx ra rb ra0 rw1 hx7
            go_wp2_with fail
            go_loopw [17] (fun i wr => ∃ k : Nat, k ≤ ws.length ∧ i = .int .i64 k ∧ Ext w7 wr) (fun i _ => ws.length - (intOf i).toNat)
            case atStart => exact ⟨0, by omega, rfl, Ext.refl _⟩
            case round =>
              obtain ⟨i, hi', rfl, hxo⟩ := hrel
              obtain ⟨wo, rfl⟩ : ∃ wo : World, wo = wr := ⟨_, rfl⟩
              by_cases hil : i < ws.length
              · have hilz : (i : Int) < (ws.length : Int) := by omega
                go_wp2_with fail
                go_loopw [18] (fun x18 wi => ∃ j : Nat, j ≤ ws.length ∧ x18 = .int .i64 j ∧ Ext w7 wi) (fun x18 _ => ws.length - (intOf x18).toNat)
                case atStart => exact ⟨0, by omega, rfl, hxo⟩
                case round =>
                  obtain ⟨j, hj', rfl, hxS⟩ := hrel
                  by_cases hjl' : j < ws.length
                  · have hjlz : (j : Int) < (ws.length : Int) := by omega
                    have hxi : i < xs.length := by rw [HXL.out]; exact hil
                    have hxj' : j < xs.length := by rw [HXL.out]; exact hjl'
                    have c1 := HCW.out wr hxS i hil
                    have c2 := HCW.out wr hxS j hjl'
                    have c3 := HCX.out wr hxS i hxi
                    have c4 := HCX.out wr hxS j hxj'
                    rw [Nat.zero_add] at c1 c2
                    have HM := Lib.hid (HMONO.out i j hil hjl')
                    rw [getD_of hil, getD_of hjl', getD_of hxi, getD_of hxj'] at HM
                    have i0' : (0 : Int) ≤ (i : Int) := by omega
                    have j0' : (0 : Int) ≤ (j : Int) := by omega
                    generalize ws[i] = p at *
                    generalize ws[j] = q at *
                    generalize xs[i] = u at *
                    generalize xs[j] = z at *
                    by_cases hpq : q < p
                    · have hle := HM.out hpq
                      have hd1 : decide (q < p) = true := decide_eq_true hpq
                      have hd2 : decide (u < z) = false := decide_eq_false (by omega)
                      clear HM
                      go_wp2_with fail
                      go_quiet (fail)
                      go_wp2_with fail
                      go_roundw
                      case rel => exact ⟨j + 1, by omega, by go_num, by first | exact hxS | exact hxS.drew | exact hxS.drewN _⟩
                      case measure => simp [intOf]; omega
                    · have hd1 : decide (q < p) = false := decide_eq_false hpq
                      clear HM
                      go_wp2_with fail
                      go_quiet (fail)
                      go_wp2_with fail
                      go_roundw
                      case rel => exact ⟨j + 1, by omega, by go_num, by first | exact hxS | exact hxS.drew | exact hxS.drewN _⟩
                      case measure => simp [intOf]; omega
                  · go_wp2_with fail
                    go_roundw
                    case rel => exact ⟨i + 1, by omega, by go_num, hxS⟩
                    case measure => simp [intOf]; omega
              · go_wp2_with fail
                refine (lives03_any _).mono ?_
                rintro e w9 ⟨rfl, hx9⟩
                go_wp2
                go_ret
                exact ⟨rfl, (hxj.trans hxo).trans hx9⟩
end Go.Proofs.Ytenencblpoeneaa
