/- package bag: the reference's Most; the laws' bags. -/
import Derived.Test.YtbcjikiakanncaaBc5
namespace Go.Proofs.Ytbcjikiakanncaa
open Go.RowKit
set_option linter.unusedVariables false

theorem most_cap (x y : Int) (hx : 0 ≤ x) (hy : 0 < y) : ¬ (x < x / y * y) := by
  have := Int.mul_ediv_add_emod x y
  have h2 := Int.emod_nonneg x (show y ≠ 0 by omega)
  rw [Int.mul_comm] at this
  omega
theorem most_lt (x y K : Int) (hy : 0 < y) (h : x < K * y) : x / y < K := Int.ediv_lt_of_lt_mul hy h
theorem most_ge (x y K : Int) (hy : 0 < y) (h : ¬ (x < K * y)) : K ≤ x / y := Int.le_ediv_of_mul_le hy (by omega)

set_option maxRecDepth 100000 in
set_option maxHeartbeats 4000000 in
theorem mostR_any (v1 v2 : Value) (a b : List Int) (w : World) (h1 : Rd w v1 (vis a)) (h2 : Rd w v2 (vis b)) :
    Calls Try.prog 28 #[v1, v2] w fun e w' => e = .returned (.int .i64 (mostB a b)) ∧ Ext w w' := by
  have HA : Hid (mostB a b = if fitB a b then (a.zip b).foldl mostStep 1048576 else 0) := Lib.hid rfl
  have hh1 := h1
  have hh2 := h2
  obtain ⟨A, c, rfl, _⟩ := h1
  obtain ⟨B, d, rfl, _⟩ := h2
  obtain ⟨_, a1, a2, a3⟩ := hh1.at
  obtain ⟨_, b1, b2, b3⟩ := hh2.at
  simp only [vis_len, maxLen] at *
  go_enter Try.func28, Try.ntmps28
  go_wp2_with fail
  refine (fitR_any _ _ a b _ hh1 hh2).mono ?_
  rintro e w1 ⟨rfl, rfl⟩
  rcases hc : fitB a b with _ | _
  · have HC := Lib.hid hc
    clear hc
    go_wp2
    go_ret
    exact ⟨by rw [HA.out, HC.out]; rfl, Ext.refl _⟩
  · have HC := Lib.hid hc
    obtain ⟨ha, hb, hl⟩ := (fitB_iff a b).1 hc
    clear hc
    obtain ⟨N, hN⟩ : ∃ N, a.length = N := ⟨_, rfl⟩
    have hNb : b.length = N := by omega
    rw [hN] at a1 a3 ⊢
    rw [hNb] at b1 b3 ⊢
    have HN := Lib.hid hN
    have HNb := Lib.hid hNb
    have HAB := Lib.hid (And.intro ha hb)
    clear hN hNb hl ha hb hh1 hh2
    go_wp2_with fail
    go_loopw [7, 6] (fun i m wr => ∃ k : Nat, k ≤ N ∧ i = .int .i64 k ∧ m = .int .i64 (((a.zip b).take k).foldl mostStep 1048576) ∧ Ext w wr) (fun i _ _ => N - (intOf i).toNat)
    case atStart => exact ⟨0, by omega, rfl, by simp, Ext.refl _⟩
    case round =>
      obtain ⟨k, hk, rfl, rfl, hxr⟩ := hrel
      obtain ⟨wo, rfl⟩ : ∃ wo : World, wo = wr := ⟨_, rfl⟩
      by_cases hlt : k < N
      · have hka : k < a.length := by rw [HN.out]; exact hlt
        have hkb : k < b.length := by rw [HNb.out]; exact hlt
        obtain ⟨ba, oa, rfl, hca⟩ := a3 (by omega)
        obtain ⟨bb, ob, rfl, hcb⟩ := b3 (by omega)
        have ca0 := hca w (Ext.refl _) k (.int .i64 a[k]) (by simp [vis, hka])
        have cb0 := hcb w (Ext.refl _) k (.int .i64 b[k]) (by simp [vis, hkb])
        obtain ⟨hx0, hx1⟩ := isB_get HAB.out.1 k hka
        obtain ⟨hy0, hy1⟩ := isB_get HAB.out.2 k hkb
        have HZ := Lib.hid (zip_take_fold a b k hka hkb 1048576)
        obtain ⟨hm0, hm1⟩ := most_take_range a b k HAB.out.1
        generalize a[k] = x at *
        generalize b[k] = y at *
        obtain ⟨M, hM⟩ : ∃ M, List.foldl mostStep 1048576 (List.take k (a.zip b)) = M := ⟨_, rfl⟩
        rw [hM] at HZ hm0 hm1 ⊢
        have hk0 : (0 : Int) ≤ (k : Int) := by omega
        have hk1 : (k : Int) < (N : Int) := by omega
        have CA := Lib.hid ca0
        have CB := Lib.hid cb0
        clear hca hcb a3 b3 hka hkb hM ca0 cb0
        go_wp2_with fail
        go_loopw [6] (fun m wi => ∃ q : Int, m = .int .i64 q ∧ (q = M ∨ (0 < y ∧ x < M * y ∧ q = x / y)) ∧ Ext wo wi) (fun m _ => (intOf m).toNat)
        case atStart => exact ⟨M, rfl, .inl rfl, Ext.refl _⟩
        case round =>
          obtain ⟨q, rfl, hq, hxi⟩ := hrel
          have hxw := hxr.trans hxi
          have ca := hxw.cell CA.out
          have cb := hxw.cell CB.out
          have hd0 : 0 ≤ x / y := Int.ediv_nonneg hx0 hy0
          have hd1 := Int.ediv_le_self y hx0
          by_cases hy : 0 < y
          · have hcase : (q = M ∧ x < M * y) ∨ ¬ (x < q * y) := by
              rcases hq with rfl | ⟨-, h1, rfl⟩
              · by_cases h : x < q * y
                · exact .inl ⟨rfl, h⟩
                · exact .inr h
              · exact .inr (most_cap x y hx0 hy)
            have hqr : 0 ≤ q ∧ q ≤ 1048576 := by
              rcases hq with rfl | ⟨-, h1, rfl⟩
              · omega
              · have := most_lt x y M hy h1; omega
            obtain ⟨hq0, hq1⟩ := hqr
            have hmb := mul_k_bound hy0 hy1 hq0 hq1
            rw [Int.mul_comm] at hmb
            obtain ⟨hmb0, hmb1⟩ := hmb
            have hw : IntKind.i64.wrap (q * y) = q * y := by rw [IntKind.wrap_i64]; omega
            rcases hcase with ⟨rfl, hlt2⟩ | hge
            · have HL := Lib.hid hlt2
              have hm := most_lt x y q hy hlt2
              clear hq
              go_wp2_with fail
              go_quiet (fail)
              go_wp2_with fail
              have hxn : Ext wo (wr.drewN nq) := hxi.drewN _
              generalize wr.drewN nq = wq at *
              have ca := (hxr.trans hxn).cell CA.out
              have cb := (hxr.trans hxn).cell CB.out
              go_quiet (fail)
              go_wp2_with fail
              have hxn2 : Ext wo (wq.drewN nq) := hxn.drewN _
              clear ca cb hw
              go_roundw
              case rel => exact ⟨x / y, rfl, .inr ⟨hy, HL.out, rfl⟩, hxn2⟩
              case measure => simp [intOf]; omega
            · have HE : Hid (mostStep M (x, y) = q) := Lib.hid (by
                unfold mostStep
                rw [if_pos hy]
                rcases hq with rfl | ⟨-, h1, rfl⟩
                · have := most_ge x y q hy hge
                  show min q (x / y) = q
                  omega
                · have := most_lt x y M hy h1
                  show min M (x / y) = x / y
                  omega)
              have hge' : decide (x < q * y) = false := decide_eq_false hge
              clear hq
              go_wp2_with fail
              go_quiet (fail)
              go_wp2_with fail
              have hxn : Ext w (wr.drewN nq) := hxw.drewN _
              clear ca cb hw
              go_roundw
              case rel => exact ⟨k + 1, by omega, by go_num, by rw [HZ.out, HE.out], hxn⟩
              case measure => simp [intOf]; omega
          · have hqM : q = M := by
              rcases hq with h | ⟨h, -⟩
              · exact h
              · omega
            subst hqM
            have HE : Hid (mostStep q (x, y) = q) := Lib.hid (by unfold mostStep; rw [if_neg hy])
            have hy' : decide (0 < y) = false := decide_eq_false hy
            clear hq
            go_wp2_with fail
            go_quiet (fail)
            go_wp2_with fail
            have hxn : Ext w (wr.drewN nq) := hxw.drewN _
            clear ca cb
            go_roundw
            case rel => exact ⟨k + 1, by omega, by go_num, by rw [HZ.out, HE.out], hxn⟩
            case measure => simp [intOf]; omega
      · have hke : k = N := by omega
        rw [List.take_of_length_le (by simp; rw [HN.out, HNb.out]; omega)]
        clear a3 b3
        go_wp2
        go_ret
        exact ⟨by rw [HA.out, HC.out]; rfl, hxr⟩
end Go.Proofs.Ytbcjikiakanncaa
