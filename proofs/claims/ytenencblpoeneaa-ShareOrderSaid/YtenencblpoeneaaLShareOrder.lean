/- ShareOrder: the walk of the law. -/
import Derived.Test.YtenencblpoeneaaSl
import Derived.Test.YtenencblpoeneaaSr2
import Derived.Test.YtenencblpoeneaaSk2
import Derived.Test.YtenencblpoeneaaSq
namespace Go.Proofs.Ytenencblpoeneaa
open Go.RowKit
set_option linter.unusedVariables false

theorem mem_snoc_in {l : List Int} {x m M : Int} (h : ∀ n ∈ l, m ≤ n ∧ n ≤ M) (hx : m ≤ x ∧ x ≤ M) : ∀ n ∈ l ++ [x], m ≤ n ∧ n ≤ M := fun n hn => by
  rcases List.mem_append.1 hn with hn | hn
  · exact h n hn
  · simp only [List.mem_singleton] at hn; subst hn; exact hx
theorem cmp_val (a b c d : Int) : cmpQ a b c d = -1 ∨ cmpQ a b c d = 0 ∨ cmpQ a b c d = 1 := by
  rcases Int.lt_trichotomy (a * d) (c * b) with k | k | k
  · exact .inl (cmpQ_lt k)
  · exact .inr (.inl (cmpQ_eq k))
  · exact .inr (.inr (cmpQ_gt k))
theorem cmp_args {a b c d : Int} (ha : 0 ≤ a ∧ a ≤ 1152921504606846976) (hb : 1 ≤ b ∧ b ≤ 1152921504606846976) (hc : 0 ≤ c ∧ c ≤ 1152921504606846976) (hd : 1 ≤ d ∧ d ≤ 1152921504606846976) : cmpP a b c d = (cmpQ a b c d, 0) := by
  apply cmpP_ok
  rw [argsC_iff]
  refine ⟨fun x hx => ?_, by omega, by omega⟩
  simp only [List.mem_cons, List.not_mem_nil, or_false] at hx
  rw [lrgS_iff]
  omega
/-- what the law compares: x, y, z the signs of a - b, b - c, a - c -/
theorem order_law {n0 d0 n1 d1 n2 d2 : Int} (h0 : 1 ≤ d0) (h1 : 1 ≤ d1) (h2 : 1 ≤ d2) :
    ¬ (cmpQ n0 d0 n1 d1 ≤ 0 ∧ cmpQ n1 d1 n2 d2 ≤ 0 ∧ 0 < cmpQ n0 d0 n2 d2) ∧ ¬ (0 ≤ cmpQ n0 d0 n1 d1 ∧ 0 ≤ cmpQ n1 d1 n2 d2 ∧ cmpQ n0 d0 n2 d2 < 0) := by
  constructor
  · rintro ⟨a, b, c⟩
    rw [cmpQ_le_iff] at a b
    have := (cmpQ_le_iff n0 d0 n2 d2).2 (cmpQ_trans (by omega) (by omega) (by omega) a b)
    omega
  · rintro ⟨a, b, c⟩
    rw [cmpQ_ge_iff] at a b
    have := (cmpQ_ge_iff n0 d0 n2 d2).2 (cmpQ_trans (by omega) (by omega) (by omega) b a)
    omega

set_option maxRecDepth 100000 in
set_option maxHeartbeats 8000000 in
theorem ShareOrder_law (w : World) (v1 : Value) (z1 : List Int) (h1 : Rd w v1 (vis z1)) (hz1 : ∀ n ∈ z1, inI64 n) (fa : Int) (hfa : inI64 fa) :
    Calls Try.prog 11 #[v1, .int .i64 fa] w fun e w' => e = .returned (.bool true) ∧ Ext w w' := by
  obtain ⟨i0, hi, hz0, hz1', hz2⟩ := info_parts info_int
  have hh := h1
  obtain ⟨A, c, rfl, _⟩ := h1
  obtain ⟨_, a1, a2, a3⟩ := hh.at
  clear hh
  simp only [vis_len, maxLen] at *
  go_enter Try.func11, Try.ntmps11
  go_wp2_with fail
  go_loopw [5, 6, 7] (fun x5 x6 x7 wr => ∃ k : Nat, ∃ ns ds : List Int, k ≤ 3 ∧ x7 = .int .i64 k ∧ ns.length = k ∧ ds.length = k ∧ Own wr w.heap.size 3 x5 (vis ns) ∧ Own wr w.heap.size 3 x6 (vis ds) ∧ Sep x5 x6 ∧ Ext w wr ∧ Hid (∀ x ∈ ns, 0 ≤ x ∧ x ≤ 1073741824) ∧ Hid (∀ x ∈ ds, 1 ≤ x ∧ x ≤ 1073741824)) (fun _ _ x7 _ => 3 - (intOf x7).toNat)
  case atStart => exact ⟨0, [], [], by omega, rfl, rfl, rfl, Own.nil _ _ _, Own.nil _ _ _, sep_nil _, Ext.refl _, Lib.hid (by simp), Lib.hid (by simp)⟩
  case round =>
    obtain ⟨k, ns, ds, hk, rfl, hnl, hdl, ho, hp, hsep, hxr, hN, hD⟩ := hrel
    by_cases hk3 : k < 3
    · have hkz : (k : Int) < 3 := by omega
      obtain ⟨x, y, hx, hy, hrun⟩ : ∃ x y : Int, inI64 x ∧ inI64 y ∧ ((2 * k + 1 < z1.length ∧ ∃ b off, A = some ⟨b, off, none⟩ ∧ wr.cell? ⟨b, off + 2 * k, none⟩ = some (.int .i64 x) ∧ wr.cell? ⟨b, off + (2 * k + 1), none⟩ = some (.int .i64 y)) ∨ (¬ 2 * k + 1 < z1.length ∧ x = 0 ∧ y = 0)) := by
        by_cases hin : 2 * k + 1 < z1.length
        · obtain ⟨b, off, hA, hcx⟩ := a3 (by omega)
          refine ⟨z1[2 * k], z1[2 * k + 1], hz1 _ (by simp), hz1 _ (by simp), .inl ⟨hin, b, off, hA, hcx wr hxr (2 * k) _ (by simp [vis, show 2 * k < z1.length by omega]), hcx wr hxr (2 * k + 1) _ (by simp [vis, hin])⟩⟩
        · exact ⟨0, 0, by unfold inI64; omega, by unfold inI64; omega, .inr ⟨hin, rfl, rfl⟩⟩
      have x0 := Int.emod_nonneg x (show (1073741824 : Int) ≠ 0 by omega)
      have x1 := Int.emod_lt_of_pos x (show (0 : Int) < 1073741824 by omega)
      have y0 := Int.emod_nonneg y (show (1073741824 : Int) ≠ 0 by omega)
      have y1 := Int.emod_lt_of_pos y (show (0 : Int) < 1073741824 by omega)
      have HNL := Lib.hid hnl
      have HDL := Lib.hid hdl
      have hsz := hxr.size
      have hnl' : ns.length ≤ 3 := by omega
      have hdl' : ds.length ≤ 3 := by omega
      clear a3 hz1 hnl hdl
      have HX := Lib.hid hx
      have HY := Lib.hid hy
      clear hx hy
      rcases hrun with ⟨hin, b, off, rfl, cx, cy⟩ | ⟨hin, hx0, hy0⟩
      all_goals
        first
          | (have hinz : 2 * (k : Int) + 1 < (z1.length : Int) := by omega
             have k0 : (0 : Int) ≤ 2 * (k : Int) := by omega
             have k1 : (0 : Int) ≤ 2 * (k : Int) + 1 := by omega
             have k2 : 2 * (k : Int) < (z1.length : Int) := by omega
             have k3 : (2 * (k : Int)).toNat = 2 * k := by omega
             have k4 : (2 * (k : Int) + 1).toNat = 2 * k + 1 := by omega)
          | (have hinz : ¬ 2 * (k : Int) + 1 < (z1.length : Int) := by omega
             have HX0 := Lib.hid hx0
             have HY0 := Lib.hid hy0
             clear hx0 hy0)
        go_wp2_with fail
        first
          | with_reducible refine (around3_any x 1073741824 _ HX.out (by omega) (by omega)).mono ?_
          | refine (around3_any 0 1073741824 _ (by unfold inI64; omega) (by omega) (by omega)).mono ?_
        rintro e w1 ⟨rfl, rfl⟩
        first
          | rw [show (0 : Int) % 1073741824 = x % 1073741824 by rw [HX0.out]]
          | skip
        have HPN := Lib.hid (mem_snoc_in hN.out (x := x % 1073741824) ⟨x0, by omega⟩)
        have HPD := Lib.hid (mem_snoc_in hD.out (x := 1 + y % 1073741824) ⟨by omega, by omega⟩)
        generalize x % 1073741824 = p at *
        go_upto_region 10 with (at_builtin; refine wpList_app _ rfl (.tmp 42) (.tmp 45) _ rfl w.heap.size 3 i0 _ 8 Try.underlying22 hi hz0 hz1' hz2 rfl (by omega) _ _ rfl (ho.ext ((Ext.refl _).alloc _)) (some ⟨wr.heap.size, 0, none⟩) 1 1 [.int .i64 p] rfl (Src.one _ _ _) ?_ ?_ ?_ ?_; (simp [Value.oneCell']); (rw [vis_len]; omega); (simp; omega); intro v1 w1 ho1 hg1 hv1)
        obtain ⟨hp1, hsep1⟩ := app_other hxr hp hg1 hv1 hsep
        have hx1' : Ext w w1 := Ext.app hxr (Ext.refl w) ho hg1
        have hsz1 := hx1'.size
        clear ho hp hsep hg1 hv1
        go_wp2_with fail
        first
          | with_reducible refine (around3_any y 1073741824 _ HY.out (by omega) (by omega)).mono ?_
          | refine (around3_any 0 1073741824 _ (by unfold inI64; omega) (by omega) (by omega)).mono ?_
        rintro e w2 ⟨rfl, rfl⟩
        first
          | rw [show (0 : Int) % 1073741824 = y % 1073741824 by rw [HY0.out]]
          | skip
        generalize y % 1073741824 = q at *
        go_wp2_with (at_builtin; refine wpList_app _ rfl (.tmp 47) (.tmp 51) _ rfl w.heap.size 3 i0 _ 8 Try.underlying22 hi hz0 hz1' hz2 rfl (by omega) _ _ rfl (hp1.ext ((Ext.refl _).alloc _)) (some ⟨w1.heap.size, 0, none⟩) 1 1 [.int .i64 (1 + q)] rfl (Src.one _ _ _) ?_ ?_ ?_ ?_; (simp [Value.oneCell']); (rw [vis_len]; omega); (simp; omega); intro v2 w2 hp2 hg2 hv2)
        obtain ⟨ho2, hsep2⟩ := app_other hx1' ho1 hg2 hv2 hsep1.symm
        have hx2' : Ext w w2 := Ext.app hx1' (Ext.refl w) hp1 hg2
        have hoN : Own w2 w.heap.size 3 v1 (vis (ns ++ [p])) := by rw [vis_app]; exact ho2
        have hpN : Own w2 w.heap.size 3 v2 (vis (ds ++ [1 + q])) := by rw [vis_app]; exact hp2
        clear ho1 hp1 ho2 hp2 hg2 hv2 hsep1
        go_roundw
        case rel => exact ⟨k + 1, ns ++ [p], ds ++ [1 + q], by omega, by go_num, by simp [HNL.out], by simp [HDL.out], hoN, hpN, hsep2.symm, hx2', HPN, HPD⟩
        case measure => simp [intOf]; omega
    · obtain rfl : k = 3 := by omega
      obtain ⟨A1, cap1, hv1, hA1⟩ := ho.form'
      obtain ⟨A2, cap2, hv2, hA2⟩ := hp.form'
      rw [vis_len, hnl] at hv1 hA1
      rw [vis_len, hdl] at hv2 hA2
      subst hv1 hv2
      obtain ⟨g1, rfl⟩ := hA1 (by omega)
      obtain ⟨g2, rfl⟩ := hA2 (by omega)
      obtain ⟨n0, n1, n2, rfl⟩ : ∃ a b c, ns = [a, b, c] := by
        match ns, hnl with
        | [a, b, c], _ => exact ⟨a, b, c, rfl⟩
      obtain ⟨d0, d1, d2, rfl⟩ : ∃ a b c, ds = [a, b, c] := by
        match ds, hdl with
        | [a, b, c], _ => exact ⟨a, b, c, rfl⟩
      have cn0 := (own_store ho rfl (show 0 < 3 by omega)).1
      have cn1 := (own_store ho rfl (show 1 < 3 by omega)).1
      have cn2 := (own_store ho rfl (show 2 < 3 by omega)).1
      have cd0 := (own_store hp rfl (show 0 < 3 by omega)).1
      have cd1 := (own_store hp rfl (show 1 < 3 by omega)).1
      have cd2 := (own_store hp rfl (show 2 < 3 by omega)).1
      simp only [List.getD_cons_zero, List.getD_cons_succ] at cn0 cn1 cn2 cd0 cd1 cd2
      obtain ⟨W2, hW2⟩ : ∃ W, W = wr := ⟨_, rfl⟩
      rw [← hW2] at cn0 cn1 cn2 cd0 cd1 cd2 hxr ⊢
      have HC : Hid (∀ W', Ext W2 W' → W'.cell? ⟨g1, 0, none⟩ = some (.int .i64 n0) ∧ W'.cell? ⟨g1, 1, none⟩ = some (.int .i64 n1) ∧ W'.cell? ⟨g1, 2, none⟩ = some (.int .i64 n2) ∧ W'.cell? ⟨g2, 0, none⟩ = some (.int .i64 d0) ∧ W'.cell? ⟨g2, 1, none⟩ = some (.int .i64 d1) ∧ W'.cell? ⟨g2, 2, none⟩ = some (.int .i64 d2)) :=
        Lib.hid (fun W' h => ⟨h.cell cn0, h.cell cn1, h.cell cn2, h.cell cd0, h.cell cd1, h.cell cd2⟩)
      have bn0 := hN.out n0 (by simp)
      have bn1 := hN.out n1 (by simp)
      have bn2 := hN.out n2 (by simp)
      have bd0 := hD.out d0 (by simp)
      have bd1 := hD.out d1 (by simp)
      have bd2 := hD.out d2 (by simp)
      have k0 := Int.emod_nonneg fa (show (1000 : Int) ≠ 0 by omega)
      have k1 := Int.emod_lt_of_pos fa (show (0 : Int) < 1000 by omega)
      clear hW2 cn0 cn1 cn2 cd0 cd1 cd2 ho hp hsep hnl hdl hN hD a3 hz1
      go_wp2_with fail
      refine (around3_any fa 1000 _ hfa (by omega) (by omega)).mono ?_
      rintro e w1 ⟨rfl, rfl⟩
      obtain ⟨kk, hkk⟩ : ∃ kk, kk = 1 + fa % 1000 := ⟨_, rfl⟩
      have hk1 : 1 ≤ kk := by omega
      have hk2 : kk ≤ 1000 := by omega
      have hm1 : 0 ≤ kk * n0 ∧ kk * n0 ≤ 1073741824000 := ⟨Int.mul_nonneg (by omega) bn0.1, by have := Int.mul_le_mul hk2 bn0.2 bn0.1 (by omega); omega⟩
      have hm2 : 1 ≤ kk * d0 ∧ kk * d0 ≤ 1073741824000 := ⟨by have := Int.mul_pos (show 0 < kk by omega) (show 0 < d0 by omega); omega, by have := Int.mul_le_mul hk2 bd0.2 (by omega) (by omega); omega⟩
      have w1' : Hid (IntKind.i64.wrap (kk * n0) = kk * n0) := Lib.hid (by rw [IntKind.wrap_i64]; omega)
      have w2' : Hid (IntKind.i64.wrap (kk * d0) = kk * d0) := Lib.hid (by rw [IntKind.wrap_i64]; omega)
      have F1 := Lib.hid (cmp_args (a := n0) (b := d0) (c := n1) (d := d1) (by omega) (by omega) (by omega) (by omega))
      have F2 := Lib.hid (cmp_args (a := n1) (b := d1) (c := n2) (d := d2) (by omega) (by omega) (by omega) (by omega))
      have F3 := Lib.hid (cmp_args (a := n0) (b := d0) (c := n2) (d := d2) (by omega) (by omega) (by omega) (by omega))
      have F4 := Lib.hid (cmp_args (a := n1) (b := d1) (c := n0) (d := d0) (by omega) (by omega) (by omega) (by omega))
      have F5 := Lib.hid (cmp_args (a := n0) (b := d0) (c := kk * n0) (d := kk * d0) (by omega) (by omega) (by omega) (by omega))
      have HOL := Lib.hid (order_law (n0 := n0) (d0 := d0) (n1 := n1) (d1 := d1) (n2 := n2) (d2 := d2) bd0.1 bd1.1 bd2.1)
      have hkr := hkk.symm
      clear hkk k0 k1 bn0 bn1 bn2 bd0 bd1 bd2 hm1 hm2
      go_wp2_with fail
      clear hkr
      have C5 : Hid (∀ W, Calls Try.prog 30 #[.int .i64 n0, .int .i64 d0, .int .i64 (IntKind.i64.wrap (kk * n0)), .int .i64 (IntKind.i64.wrap (kk * d0))] W fun e w' => e = .returned (.tuple #[.int .i64 (cmpQ n0 d0 (kk * n0) (kk * d0)), .int .i64 0]) ∧ Ext W w') := Lib.hid (fun W => by
        have h := compare_any n0 d0 (kk * n0) (kk * d0) W
        rw [F5.out] at h
        rw [w1'.out, w2'.out]
        exact h)
      have hxS : Ext W2 W2 := Ext.refl _
      go_region_held3 (fun w' => w'.cell? ⟨g1, 0, none⟩ = some (.int .i64 n0) ∧ w'.cell? ⟨g1, 1, none⟩ = some (.int .i64 n1) ∧ w'.cell? ⟨g1, 2, none⟩ = some (.int .i64 n2) ∧ w'.cell? ⟨g2, 0, none⟩ = some (.int .i64 d0) ∧ w'.cell? ⟨g2, 1, none⟩ = some (.int .i64 d1) ∧ w'.cell? ⟨g2, 2, none⟩ = some (.int .i64 d2)) (exact HC.out _ (by first | exact hxS | exact hxS.drew | exact hxS.drewN _))
        ((go_at_call 30; with_reducible refine (compare_any n0 d0 n1 d1 _).mono ?_; rintro e w3 ⟨rfl, hx3⟩; rw [F1.out]; replace hxS : Ext W2 w3 := Ext.trans (by first | exact hxS | exact hxS.drew) hx3))
      clear hx3
      go_wp2_with fail
      go_region_held3 (fun w' => w'.cell? ⟨g1, 0, none⟩ = some (.int .i64 n0) ∧ w'.cell? ⟨g1, 1, none⟩ = some (.int .i64 n1) ∧ w'.cell? ⟨g1, 2, none⟩ = some (.int .i64 n2) ∧ w'.cell? ⟨g2, 0, none⟩ = some (.int .i64 d0) ∧ w'.cell? ⟨g2, 1, none⟩ = some (.int .i64 d1) ∧ w'.cell? ⟨g2, 2, none⟩ = some (.int .i64 d2)) (exact HC.out _ (by first | exact hxS | exact hxS.drew | exact hxS.drewN _))
        ((go_at_call 30; with_reducible refine (compare_any n1 d1 n2 d2 _).mono ?_; rintro e w4 ⟨rfl, hx4⟩; rw [F2.out]; replace hxS : Ext W2 w4 := Ext.trans (by first | exact hxS | exact hxS.drew) hx4))
      clear hx4
      go_wp2_with fail
      go_region_held3 (fun w' => w'.cell? ⟨g1, 0, none⟩ = some (.int .i64 n0) ∧ w'.cell? ⟨g1, 1, none⟩ = some (.int .i64 n1) ∧ w'.cell? ⟨g1, 2, none⟩ = some (.int .i64 n2) ∧ w'.cell? ⟨g2, 0, none⟩ = some (.int .i64 d0) ∧ w'.cell? ⟨g2, 1, none⟩ = some (.int .i64 d1) ∧ w'.cell? ⟨g2, 2, none⟩ = some (.int .i64 d2)) (exact HC.out _ (by first | exact hxS | exact hxS.drew | exact hxS.drewN _))
        ((go_at_call 30; with_reducible refine (compare_any n0 d0 n2 d2 _).mono ?_; rintro e w5 ⟨rfl, hx5⟩; rw [F3.out]; replace hxS : Ext W2 w5 := Ext.trans (by first | exact hxS | exact hxS.drew) hx5))
      clear hx5
      go_wp2_with fail
      go_region_held3 (fun w' => w'.cell? ⟨g1, 0, none⟩ = some (.int .i64 n0) ∧ w'.cell? ⟨g1, 1, none⟩ = some (.int .i64 n1) ∧ w'.cell? ⟨g1, 2, none⟩ = some (.int .i64 n2) ∧ w'.cell? ⟨g2, 0, none⟩ = some (.int .i64 d0) ∧ w'.cell? ⟨g2, 1, none⟩ = some (.int .i64 d1) ∧ w'.cell? ⟨g2, 2, none⟩ = some (.int .i64 d2)) (exact HC.out _ (by first | exact hxS | exact hxS.drew | exact hxS.drewN _))
        ((go_at_call 30; with_reducible refine (compare_any n1 d1 n0 d0 _).mono ?_; rintro e w6 ⟨rfl, hx6⟩; rw [F4.out]; replace hxS : Ext W2 w6 := Ext.trans (by first | exact hxS | exact hxS.drew) hx6))
      clear hx6
      go_wp2_with fail
      go_region_held3 (fun w' => w'.cell? ⟨g1, 0, none⟩ = some (.int .i64 n0) ∧ w'.cell? ⟨g1, 1, none⟩ = some (.int .i64 n1) ∧ w'.cell? ⟨g1, 2, none⟩ = some (.int .i64 n2) ∧ w'.cell? ⟨g2, 0, none⟩ = some (.int .i64 d0) ∧ w'.cell? ⟨g2, 1, none⟩ = some (.int .i64 d1) ∧ w'.cell? ⟨g2, 2, none⟩ = some (.int .i64 d2)) (exact HC.out _ (by first | exact hxS | exact hxS.drew | exact hxS.drewN _))
        ((go_at_call 30; with_reducible refine (C5.out _).mono ?_; rintro e w7 ⟨rfl, hx7⟩; replace hxS : Ext W2 w7 := Ext.trans (by first | exact hxS | exact hxS.drew) hx7))
      clear hx7
      have e4 : cmpQ n1 d1 n0 d0 = - cmpQ n0 d0 n1 d1 := cmpQ_swap n1 d1 n0 d0
      have e5 := cmpQ_same n0 d0 kk
      rw [e4, e5]
      obtain ⟨o1, o2⟩ := HOL.out
      have vx := cmp_val n0 d0 n1 d1
      have vy := cmp_val n1 d1 n2 d2
      have vz := cmp_val n0 d0 n2 d2
      clear e4 e5 HOL F1 F2 F3 F4 F5 C5 HC w1' w2'
      generalize cmpQ n0 d0 n1 d1 = x at *
      generalize cmpQ n1 d1 n2 d2 = y at *
      generalize cmpQ n0 d0 n2 d2 = z at *
      have hxF := hxr.trans hxS
      rcases vx with rfl | rfl | rfl <;> rcases vy with rfl | rfl | rfl <;> rcases vz with rfl | rfl | rfl
      all_goals first
        | (exfalso; omega)
        | (clear o1 o2
           go_wp2_with fail
           refine (lives03_any _).mono ?_
           rintro e w9 ⟨rfl, hx9⟩
           go_wp2
           go_ret
           exact ⟨rfl, hxF.trans hx9⟩)
end Go.Proofs.Ytenencblpoeneaa
