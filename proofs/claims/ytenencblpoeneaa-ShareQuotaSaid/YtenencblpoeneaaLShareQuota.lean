/- ShareQuota: the walk of the law. -/
import Derived.Test.YtenencblpoeneaaSl
import Derived.Test.YtenencblpoeneaaSq
namespace Go.Proofs.Ytenencblpoeneaa
open Go.RowKit
set_option linter.unusedVariables false

set_option maxRecDepth 100000 in
set_option maxHeartbeats 8000000 in
theorem ShareQuota_law (w : World) (total : Int) (ht : inI64 total) (v1 : Value) (z1 : List Int) (h1 : Rd w v1 (vis z1)) (hz1 : ∀ n ∈ z1, inI64 n) :
    Calls Try.prog 6 #[.int .i64 total, v1] w fun e w' => e = .returned (.bool true) ∧ Ext w w' := by
  have t0 := Int.emod_nonneg total (show (1099511627777 : Int) ≠ 0 by omega)
  have t1 := Int.emod_lt_of_pos total (show (0 : Int) < 1099511627777 by omega)
  go_enter Try.func6, Try.ntmps6
  go_wp2_with fail
  refine (around3_any total 1099511627777 _ ht (by omega) (by omega)).mono ?_
  rintro e w4 ⟨rfl, rfl⟩
  generalize total % 1099511627777 = t at *
  go_wp2_with fail
  refine (weights_any _ z1 _ h1 hz1).mono ?_
  rintro e w3 ⟨vw, ws, rfl, how, hwok, hxw⟩
  have rw3 := how.rd
  have HW := Lib.hid hwok
  clear how hwok h1 hz1
  go_wp2_with fail
  refine (sum3_any vw ws _ rw3 HW.out.amt (by have := HW.out.len; omega)).mono ?_
  rintro e w4 ⟨rfl, rfl⟩
  go_wp2_with fail
  refine (split_any t vw ws _ rw3 HW.out.i64 (by have := HW.out.len; omega)).mono ?_
  rintro e w5 ⟨va, xs, c, rfl, hans, hoa, hx5⟩
  obtain ⟨rfl, hsp⟩ := hans.ok t0 (by omega) HW.out.amt HW.out.pos
  obtain ⟨got, hat⟩ := hsp.at HW.out.pos
  have hxl := hsp.len
  have hnn := hat.nonneg hxl t0 (fun x hx => (HW.out.amt x hx).1) HW.out.pos
  have ra := hoa.rd
  replace rw3 := rw3.ext hx5
  replace hxw := hxw.trans hx5
  have hsum := hat.sum
  have HAT := Lib.hid hat
  have HXL := Lib.hid hxl
  have HNN := Lib.hid hnn
  have HSUM := Lib.hid hsum
  clear hans hsp hat hnn hsum hoa hx5
  obtain ⟨Aw, nw, cw, hvw⟩ : ∃ A n c, vw = .slice A n c := by obtain ⟨A, c, h, _⟩ := id rw3; exact ⟨_, _, _, h⟩
  obtain ⟨Aa, na, ca, hva⟩ : ∃ A n c, va = .slice A n c := by obtain ⟨A, c, h, _⟩ := id ra; exact ⟨_, _, _, h⟩
  subst hvw hva
  have e1 := rw3.at.1
  have e2 := ra.at.1
  rw [vis_len] at e1 e2
  rw [hxl] at e2
  subst e1 e2
  clear hxl
  go_wp2_with fail
  refine (sum3_any _ xs _ ra (fun x hx => by have := HNN.out x hx; omega) (by rw [HXL.out]; have := HW.out.len; omega)).mono ?_
  rintro e w6 ⟨rfl, rfl⟩
  rw [HSUM.out]
  have hpos := HW.out.pos
  have hlen := HW.out.len
  have hs1 : totS ws ≤ 1152921504606846976 := by
    have := totS_le (fun x hx => (HW.out.amt x hx).2)
    omega
  obtain ⟨W2, hW2⟩ : ∃ W, W = w5 := ⟨_, rfl⟩
  rw [← hW2] at rw3 ra hxw ⊢
  clear hW2
  have hn1 : 0 < ws.length := by
    rcases Nat.eq_zero_or_pos ws.length with h | h
    · rw [List.eq_nil_of_length_eq_zero h] at hpos
      simp [totS] at hpos
    · exact h
  obtain ⟨bw, ow, rfl, hcw⟩ := rw3.cellAt hn1
  obtain ⟨bx, ox, rfl, hcx⟩ := ra.cellAt (by rw [HXL.out]; exact hn1)
  have HCW := Lib.hid hcw
  have HCX := Lib.hid hcx
  clear hcw hcx rw3 ra
  go_wp2_with fail
  go_loopw [10] (fun i wr => ∃ k : Nat, k ≤ ws.length ∧ i = .int .i64 k ∧ Ext W2 wr) (fun i _ => ws.length - (intOf i).toNat)
  case atStart => exact ⟨0, by omega, rfl, Ext.refl _⟩
  case round =>
    obtain ⟨i, hi, rfl, hxS⟩ := hrel
    by_cases hlt : i < ws.length
    · have hxi : i < xs.length := by rw [HXL.out]; exact hlt
      have cw := HCW.out wr hxS i hlt
      have cx := HCX.out wr hxS i hxi
      have hlo := HAT.out.low i hlt
      have hhi := HAT.out.high i hlt
      rw [getD_of hlt, getD_of hxi] at hlo hhi
      have hy := HW.out.amt ws[i] (by simp)
      have hys := totS_mem (fun x hx => (HW.out.amt x hx).1) ws[i] (by simp)
      have HQP := Lib.hid (quota_part t0 (by omega) hy.1 hys hpos hs1)
      have HQC := Lib.hid (quota_ceil t0 (show t ≤ 1099511627776 by omega) hy.1 hys hpos hs1)
      obtain ⟨hr1, hr2, hr3⟩ := ceilQ_range t0 hy.1 hys hpos
      have hq0 := HQP.out.2.1
      have HCW' := Lib.hid (fun w' h => HCW.out w' h i hlt)
      have HCX' := Lib.hid (fun w' h => HCX.out w' h i hxi)
      have hxn := HNN.out xs[i] (by simp)
      obtain ⟨hx0, hx1⟩ := hxn
      obtain ⟨y0, y1⟩ := hy
      generalize xs[i] = x at *
      generalize ws[i] = y at *
      go_wp2_with fail
      refine (part_any t y (totS ws) _).mono ?_
      rintro e w7 ⟨rfl, hx7⟩
      rw [HQP.out.1]
      replace hxS := hxS.trans hx7
      have cw := HCW'.out w7 hxS
      clear hx7
      go_wp2_with fail
      refine (ceil_any t y (totS ws) _).mono ?_
      rintro e w8 ⟨rfl, hx8⟩
      rw [HQC.out]
      replace hxS := hxS.trans hx8
      have cx := HCX'.out w8 hxS
      clear hx8
      generalize ceilQ (t * y) (totS ws) = u at *
      generalize t * y / totS ws = q at *
      go_wp2_with fail
      go_roundw
      case rel => exact ⟨i + 1, by omega, by go_num, hxS⟩
      case measure => simp [intOf]; omega
    · go_wp2_with fail
      refine (lives03_any _).mono ?_
      rintro e w9 ⟨rfl, hx9⟩
      go_wp2
      go_ret
      exact ⟨rfl, (hxw.trans hxS).trans hx9⟩
end Go.Proofs.Ytenencblpoeneaa
