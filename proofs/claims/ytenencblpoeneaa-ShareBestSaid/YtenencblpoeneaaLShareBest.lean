/- ShareBest: the walk of the law. -/
import Derived.Test.YtenencblpoeneaaSl
import Derived.Test.YtenencblpoeneaaSq
import Derived.Test.YtenencblpoeneaaSr2
namespace Go.Proofs.Ytenencblpoeneaa
open Go.RowKit
set_option linter.unusedVariables false

theorem mem_snoc_le {l : List Int} {x m : Int} (h : ∀ n ∈ l, 0 ≤ n ∧ n ≤ m) (hx : 0 ≤ x ∧ x ≤ m) : ∀ n ∈ l ++ [x], 0 ≤ n ∧ n ≤ m := fun n hn => by
  rcases List.mem_append.1 hn with hn | hn
  · exact h n hn
  · simp only [List.mem_singleton] at hn; subst hn; exact hx

theorem far_any (a b : Int) (w : World) (ha : -1000000000000 ≤ a ∧ a ≤ 1000000000000) (hb : -1000000000000 ≤ b ∧ b ≤ 1000000000000) :
    Calls Try.prog 29 #[.int .i64 a, .int .i64 b] w fun e w' => e = .returned (.int .i64 (farI a b)) ∧ w' = w := by
  obtain ⟨a0, a1⟩ := ha
  obtain ⟨b0, b1⟩ := hb
  by_cases h : a < b
  · have HF : Hid (farI a b = b - a) := Lib.hid (if_pos h)
    go_enter Try.func29, Try.ntmps29
    go_wp2
    go_ret
    exact ⟨by rw [HF.out]; rfl, rfl⟩
  · have HF : Hid (farI a b = a - b) := Lib.hid (if_neg h)
    go_enter Try.func29, Try.ntmps29
    go_wp2
    go_ret
    exact ⟨by rw [HF.out]; rfl, rfl⟩
theorem farI_range {a b : Int} (ha : -1000000000000 ≤ a ∧ a ≤ 1000000000000) (hb : -1000000000000 ≤ b ∧ b ≤ 1000000000000) : 0 ≤ farI a b ∧ farI a b ≤ 2000000000000 := by
  unfold farI; split <;> omega
theorem mul_small {a b A B : Int} (ha0 : 0 ≤ a) (ha1 : a ≤ A) (hb0 : 0 ≤ b) (hb1 : b ≤ B) : 0 ≤ a * b ∧ a * b ≤ A * B :=
  ⟨Int.mul_nonneg ha0 hb0, Int.mul_le_mul ha1 hb1 hb0 (by omega)⟩

set_option maxRecDepth 100000 in
set_option maxHeartbeats 8000000 in
theorem ShareBest_law (w : World) (total : Int) (ht : inI64 total) (v1 : Value) (z1 : List Int) (h1 : Rd w v1 (vis z1)) (hz1 : ∀ n ∈ z1, inI64 n) :
    Calls Try.prog 8 #[.int .i64 total, v1] w fun e w' => e = .returned (.bool true) ∧ Ext w w' := by
  obtain ⟨i0, hi, hz0, hz1', hz2⟩ := info_parts info_int
  have t0 := Int.emod_nonneg total (show (4096 : Int) ≠ 0 by omega)
  have t1 := Int.emod_lt_of_pos total (show (0 : Int) < 4096 by omega)
  have hh := h1
  obtain ⟨A, c, rfl, _⟩ := h1
  obtain ⟨_, a1, a2, a3⟩ := hh.at
  clear hh
  simp only [vis_len, maxLen] at *
  go_enter Try.func8, Try.ntmps8
  go_wp2_with fail
  refine (around3_any total 4096 _ ht (by omega) (by omega)).mono ?_
  rintro e w4 ⟨rfl, rfl⟩
  generalize total % 4096 = t at *
  go_wp2_with fail
  go_loopw [6, 7] (fun x3 x4 wr => ∃ k : Nat, ∃ os : List Int, k ≤ z1.length ∧ k ≤ 6 ∧ x4 = .int .i64 k ∧ os.length ≤ k ∧ Own wr w.heap.size 3 x3 (vis os) ∧ Ext w wr ∧ Hid (∀ x ∈ os, 0 ≤ x ∧ x ≤ 65535)) (fun _ x4 _ => z1.length - (intOf x4).toNat)
  case atStart => exact ⟨0, [], by omega, by omega, rfl, by simp, Own.nil _ _ _, Ext.refl _, Lib.hid (by simp)⟩
  case round =>
    obtain ⟨k, os, hk, hk6, rfl, hol, ho, hxr, hP⟩ := hrel
    have hsz := hxr.size
    by_cases hin : k < z1.length ∧ k < 6
    · obtain ⟨h1, h2⟩ := hin
      obtain ⟨b, off, rfl, hcx⟩ := a3 (by omega)
      have c1 := hcx wr hxr k (.int .i64 z1[k]) (by simp [vis, h1])
      have hzi := hz1 z1[k] (by simp)
      have hr0 := Int.emod_nonneg z1[k] (show (65536 : Int) ≠ 0 by omega)
      have hr1 := Int.emod_lt_of_pos z1[k] (show (0 : Int) < 65536 by omega)
      have hd1 : decide (k < z1.length) = true := decide_eq_true h1
      have hd2 : decide ((k : Int) < 6) = true := decide_eq_true (by omega)
      generalize z1[k] = z at *
      clear hcx a3 hz1
      go_wp2_with fail
      refine (around3_any z 65536 _ hzi (by omega) (by omega)).mono ?_
      rintro e w1 ⟨rfl, rfl⟩
      generalize z % 65536 = q at *
      have HPN := Lib.hid (mem_snoc_le (x := q) hP.out (by omega))
      go_wp2_with (at_builtin; refine wpList_app _ rfl (.tmp 27) (.tmp 33) _ rfl w.heap.size 3 i0 _ 8 Try.underlying22 hi hz0 hz1' hz2 rfl (by omega) _ _ rfl (ho.ext ((Ext.refl _).alloc _)) (some ⟨wr.heap.size, 0, none⟩) 1 1 [.int .i64 q] rfl (Src.one _ _ _) ?_ ?_ ?_ ?_; (simp [Value.oneCell']); (rw [vis_len]; omega); (simp; omega); intro v1 w1 ho1 hg1 _)
      have hon : Own w1 w.heap.size 3 v1 (vis (os ++ [q])) := by rw [vis_app]; exact ho1
      have hxn := Ext.app hxr (Ext.refl w) ho hg1
      clear ho1
      go_roundw
      case rel => exact ⟨k + 1, os ++ [q], by omega, by omega, by go_num, by simp; omega, hon, hxn, HPN⟩
      case measure => simp [intOf]; omega
    · have ho6 : os.length ≤ 6 := by omega
      clear a3 hz1 hk
      by_cases h1 : k < z1.length
      all_goals
        first
          | (have h6 : decide ((k : Int) < 6) = false := decide_eq_false (by omega)
             have h7 : decide (k < z1.length) = true := decide_eq_true h1)
          | (have h7 : decide (k < z1.length) = false := decide_eq_false h1)
        have HPN := Lib.hid (mem_snoc_le (x := 3) hP.out (by omega))
        have HPOS : Hid (0 < totS (os ++ [3])) := Lib.hid (by
          rw [totS_snoc]
          have := totS_nonneg (fun x hx => (hP.out x hx).1)
          omega)
        have HLEN : Hid ((os ++ [3]).length ≤ 7) := Lib.hid (by simp; omega)
        have HLE1 : Hid (1 ≤ (os ++ [3]).length) := Lib.hid (by simp)
        go_wp2_with (at_builtin; refine wpList_app _ rfl (.tmp 35) (.tmp 36) _ rfl w.heap.size 3 i0 _ 8 Try.underlying22 hi hz0 hz1' hz2 rfl (by omega) _ _ rfl (ho.ext ((Ext.refl _).alloc _)) (some ⟨wr.heap.size, 0, none⟩) 1 1 [.int .i64 3] rfl (Src.one _ _ _) ?_ ?_ ?_ ?_; (simp [Value.oneCell']); (rw [vis_len]; omega); (simp; omega); intro v1 w1 ho1 hg1 _)
        have hon : Own w1 w.heap.size 3 v1 (vis (os ++ [3])) := by rw [vis_app]; exact ho1
        have hxn := Ext.app hxr (Ext.refl w) ho hg1
        clear ho1 ho hg1 hxr hP hsz hol ho6
        obtain ⟨ws, hws⟩ : ∃ ws, ws = os ++ [3] := ⟨_, rfl⟩
        rw [← hws] at HPN HPOS HLEN HLE1 hon
        clear hws
        obtain ⟨A1, cap1, hv1, hA1⟩ := hon.form'
        rw [vis_len] at hv1 hA1
        subst hv1
        obtain ⟨g1, rfl⟩ := hA1 (by have := HLE1.out; omega)
        have hlen := HLEN.out
        have hpos := HPOS.out
        have hlg1 := (hon.lt g1 rfl).1
        have hwa : ∀ x ∈ ws, 0 ≤ x ∧ x ≤ 1099511627776 := fun x hx => by
          have := HPN.out x hx
          omega
        have HWA := Lib.hid hwa
        have HI1 : Hid (∀ x ∈ ws, inI64 x) := Lib.hid (fun x hx => by have := hwa x hx; unfold inI64; omega)
        have hs1 : totS ws ≤ 458745 := by
          have := totS_le (fun x hx => (HPN.out x hx).2)
          omega
        have rw1 := hon.rd
        clear hon hwa
        go_wp2_with fail
        refine (sum3_any _ ws _ rw1 HWA.out (by omega)).mono ?_
        rintro e w4 ⟨rfl, rfl⟩
        go_wp2_with fail
        refine (split_any t _ ws _ rw1 HI1.out (by omega)).mono ?_
        rintro e w5 ⟨va, xs, c, rfl, hans, hoa, hx5⟩
        obtain ⟨rfl, hsp⟩ := hans.ok t0 (by omega) HWA.out hpos
        obtain ⟨got, hat⟩ := hsp.at hpos
        have HXL := Lib.hid hsp.len
        have HNN := Lib.hid (hat.nonneg hsp.len t0 (fun x hx => (HWA.out x hx).1) hpos)
        have HBEST := Lib.hid (fun i j hi hj => hat.best hpos i j hi hj)
        have ra := hoa.rd
        replace rw1 := rw1.ext hx5
        have hxj := hxn.trans hx5
        clear hans hsp hat hoa hx5 hxn
        obtain ⟨Aa, na, ca, hva⟩ : ∃ A n c, va = .slice A n c := by obtain ⟨A, c, h, _⟩ := id ra; exact ⟨_, _, _, h⟩
        subst hva
        have e2 := ra.at.1
        rw [vis_len, HXL.out] at e2
        subst e2
        obtain ⟨bw, ow, hbw, hcw⟩ := rw1.cellAt (by have := HLE1.out; omega)
        injection hbw with hbw
        injection hbw with hb1 hb2
        subst hb1 hb2
        obtain ⟨bx, ox, rfl, hcx⟩ := ra.cellAt (by rw [HXL.out]; have := HLE1.out; omega)
        have HCW := Lib.hid hcw
        have HCX := Lib.hid hcx
        clear hcw hcx ra rw1
        go_wp2_with fail
        go_loopw [11] (fun i wr => ∃ k : Nat, k ≤ ws.length ∧ i = .int .i64 k ∧ Ext w5 wr) (fun i _ => ws.length - (intOf i).toNat)
        case atStart => exact ⟨0, by omega, rfl, Ext.refl _⟩
        case round =>
          obtain ⟨i, hi', rfl, hxo⟩ := hrel
          obtain ⟨wo, rfl⟩ : ∃ wo : World, wo = wr := ⟨_, rfl⟩
          by_cases hil : i < ws.length
          · have hilz : (i : Int) < (ws.length : Int) := by omega
            go_wp2_with fail
            go_loopw [12] (fun x18 wi => ∃ j : Nat, j ≤ ws.length ∧ x18 = .int .i64 j ∧ Ext w5 wi) (fun x18 _ => ws.length - (intOf x18).toNat)
            case atStart => exact ⟨0, by omega, rfl, hxo⟩
            case round =>
              obtain ⟨j, hj', rfl, hxS⟩ := hrel
              by_cases hjl' : j < ws.length
              · have hjlz : (j : Int) < (ws.length : Int) := by omega
                by_cases hij : i = j
                · have hij' : ((i : Int) == (j : Int)) = true := by simp [hij]
                  clear hij
                  go_wp2_with fail
                  go_roundw
                  case rel => exact ⟨j + 1, by omega, by go_num, hxS⟩
                  case measure => simp [intOf]; omega
                · have hij' : ((i : Int) == (j : Int)) = false := by simp; omega
                  have hxi : i < xs.length := by rw [HXL.out]; exact hil
                  have hxj' : j < xs.length := by rw [HXL.out]; exact hjl'
                  have c1 := HCW.out wr hxS i hil
                  have c2 := HCW.out wr hxS j hjl'
                  have c3 := HCX.out wr hxS i hxi
                  have c4 := HCX.out wr hxS j hxj'
                  rw [Nat.zero_add] at c1 c2
                  have HC4 := Lib.hid (fun w' h => And.intro (HCW.out w' h i hil) (And.intro (HCW.out w' h j hjl') (And.intro (HCX.out w' h i hxi) (HCX.out w' h j hxj'))))
                  have hm := HBEST.out i j hil hjl'
                  rw [getD_of hil, getD_of hjl', getD_of hxi, getD_of hxj'] at hm
                  have hu := HNN.out xs[i] (by simp)
                  have hz := HNN.out xs[j] (by simp)
                  have hp := HPN.out ws[i] (by simp)
                  have hq := HPN.out ws[j] (by simp)
                  have i0' : (0 : Int) ≤ (i : Int) := by omega
                  have j0' : (0 : Int) ≤ (j : Int) := by omega
                  clear hij
                  generalize ws[i] = p at *
                  generalize ws[j] = q at *
                  generalize xs[i] = u at *
                  generalize xs[j] = z at *
                  generalize totS ws = s at *
                  obtain ⟨m1, m2⟩ := mul_small (A := 4095) (B := 458745) hu.1 (by omega) (show 0 ≤ s by omega) hs1
                  obtain ⟨m3, m4⟩ := mul_small (A := 4095) (B := 458745) hz.1 (by omega) (show 0 ≤ s by omega) hs1
                  obtain ⟨m5, m6⟩ := mul_small (A := 4095) (B := 65535) t0 (by omega) hp.1 hp.2
                  obtain ⟨m7, m8⟩ := mul_small (A := 4095) (B := 65535) t0 (by omega) hq.1 hq.2
                  have e1 : (u - 1) * s = u * s - s := by rw [Int.sub_mul, Int.one_mul]
                  have e2 : (z + 1) * s = z * s + s := by rw [Int.add_mul, Int.one_mul]
                  have b1 : -1000000000000 ≤ u * s ∧ u * s ≤ 1000000000000 := by omega
                  have b2 : -1000000000000 ≤ z * s ∧ z * s ≤ 1000000000000 := by omega
                  have b3 : -1000000000000 ≤ t * p ∧ t * p ≤ 1000000000000 := by omega
                  have b4 : -1000000000000 ≤ t * q ∧ t * q ≤ 1000000000000 := by omega
                  have b5 : -1000000000000 ≤ (u - 1) * s ∧ (u - 1) * s ≤ 1000000000000 := by omega
                  have b6 : -1000000000000 ≤ (z + 1) * s ∧ (z + 1) * s ≤ 1000000000000 := by omega
                  have f1 := farI_range b1 b3
                  have f2 := farI_range b2 b4
                  have f3 := farI_range b5 b3
                  have f4 := farI_range b6 b4
                  have hw : ∀ x : Int, -9000000000000000000 ≤ x → x ≤ 9000000000000000000 → IntKind.i64.wrap x = x := fun x h1 h2 => by rw [IntKind.wrap_i64]; omega
                  have W1 := Lib.hid (hw (u * s) (by omega) (by omega))
                  have W2 := Lib.hid (hw (z * s) (by omega) (by omega))
                  have W3 := Lib.hid (hw (t * p) (by omega) (by omega))
                  have W4 := Lib.hid (hw (t * q) (by omega) (by omega))
                  have W5 := Lib.hid (hw ((u - 1) * s) (by omega) (by omega))
                  have W6 := Lib.hid (hw ((z + 1) * s) (by omega) (by omega))
                  have W7 := Lib.hid (hw (u - 1) (by omega) (by omega))
                  have W8 := Lib.hid (hw (z + 1) (by omega) (by omega))
                  have W9 := Lib.hid (hw (farI (u * s) (t * p) + farI (z * s) (t * q)) (by omega) (by omega))
                  have W10 := Lib.hid (hw (farI ((u - 1) * s) (t * p) + farI ((z + 1) * s) (t * q)) (by omega) (by omega))
                  have F1 : Hid (∀ W, Calls Try.prog 29 #[.int .i64 (IntKind.i64.wrap (u * s)), .int .i64 (IntKind.i64.wrap (t * p))] W fun e w' => e = .returned (.int .i64 (farI (u * s) (t * p))) ∧ w' = W) := Lib.hid (fun W => by rw [W1.out, W3.out]; exact far_any (u * s) (t * p) W b1 b3)
                  have F2 : Hid (∀ W, Calls Try.prog 29 #[.int .i64 (IntKind.i64.wrap (z * s)), .int .i64 (IntKind.i64.wrap (t * q))] W fun e w' => e = .returned (.int .i64 (farI (z * s) (t * q))) ∧ w' = W) := Lib.hid (fun W => by rw [W2.out, W4.out]; exact far_any (z * s) (t * q) W b2 b4)
                  have F3 : Hid (∀ W, Calls Try.prog 29 #[.int .i64 (IntKind.i64.wrap (IntKind.i64.wrap (u - 1) * s)), .int .i64 (IntKind.i64.wrap (t * p))] W fun e w' => e = .returned (.int .i64 (farI ((u - 1) * s) (t * p))) ∧ w' = W) := Lib.hid (fun W => by rw [W7.out, W5.out, W3.out]; exact far_any ((u - 1) * s) (t * p) W b5 b3)
                  have F4 : Hid (∀ W, Calls Try.prog 29 #[.int .i64 (IntKind.i64.wrap (IntKind.i64.wrap (z + 1) * s)), .int .i64 (IntKind.i64.wrap (t * q))] W fun e w' => e = .returned (.int .i64 (farI ((z + 1) * s) (t * q))) ∧ w' = W) := Lib.hid (fun W => by rw [W8.out, W6.out, W4.out]; exact far_any ((z + 1) * s) (t * q) W b6 b4)
                  have HD : Hid (decide (IntKind.i64.wrap (farI ((u - 1) * s) (t * p) + farI ((z + 1) * s) (t * q)) < IntKind.i64.wrap (farI (u * s) (t * p) + farI (z * s) (t * q))) = false) := Lib.hid (decide_eq_false (by rw [W9.out, W10.out]; omega))
                  clear hw hm b1 b2 b3 b4 b5 b6 e1 e2 f1 f2 f3 f4 m1 m2 m3 m4 m5 m6 m7 m8 hu hz hp hq W1 W2 W3 W4 W5 W6 W7 W8 W9 W10 HBEST HCW HCX HNN HWA HI1 HPN HPOS HLEN HLE1 hs1
                  generalize farI (u * s) (t * p) = D1 at *
                  generalize farI (z * s) (t * q) = D2 at *
                  generalize farI ((u - 1) * s) (t * p) = D3 at *
                  generalize farI ((z + 1) * s) (t * q) = D4 at *
                  go_wp2_with fail
                  go_quiet (first | (go_at_call 29; with_reducible exact Calls.quiet_of_same (F1.out _)) | (go_at_call 29; with_reducible exact Calls.quiet_of_same (F2.out _)))
                  obtain ⟨wq, hwq⟩ : ∃ wq, wq = wr.drewN nq := ⟨_, rfl⟩
                  rw [← hwq]
                  have hxq : Ext w5 wq := hwq ▸ hxS.drewN nq
                  obtain ⟨c1', c2', c3', c4'⟩ := HC4.out wq hxq
                  rw [Nat.zero_add] at c1' c2'
                  clear hwq F1 F2 c1 c2 c3 c4 HC4
                  go_wp2_with fail
                  go_quiet (first | (go_at_call 29; with_reducible exact Calls.quiet_of_same (F3.out _)) | (go_at_call 29; with_reducible exact Calls.quiet_of_same (F4.out _)))
                  have hd := HD.out
                  clear F3 F4
                  go_wp2_with fail
                  go_roundw
                  case rel => exact ⟨j + 1, by omega, by go_num, hxq.drewN _⟩
                  case measure => simp [intOf]; omega
              · go_wp2_with fail
                go_roundw
                case rel => exact ⟨i + 1, by omega, by go_num, hxS⟩
                case measure => simp [intOf]; omega
          · go_wp2_with fail
            refine (lives03_any _).mono ?_
            rintro e w9 ⟨rfl, hx9⟩
            go_wp2
            go_ret
            exact ⟨rfl, (hxj.trans hxo).trans hx9⟩
end Go.Proofs.Ytenencblpoeneaa
