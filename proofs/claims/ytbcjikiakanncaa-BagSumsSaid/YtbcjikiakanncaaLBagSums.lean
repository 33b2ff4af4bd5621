/- BagSums: the walk of the law. -/
import Derived.Test.YtbcjikiakanncaaBl
namespace Go.Proofs.Ytbcjikiakanncaa
open Go.RowKit
set_option linter.unusedVariables false

set_option maxRecDepth 100000 in
set_option maxHeartbeats 16000000 in
theorem BagSums_law (w : World) (n : Int) (hn : inI64 n) (v1 : Value) (z1 : List Int) (h1 : Rd w v1 (vis z1)) (hz1 : ∀ n ∈ z1, inI64 n) (at_ : Int) (hat : inI64 at_) (by_ : Int) (hby : inI64 by_) :
    Calls Try.prog 10 #[.int .i64 n, v1, .int .i64 at_, .int .i64 by_] w fun e w' => e = .returned (.bool true) ∧ Ext w w' := by
  go_enter Try.func10, Try.ntmps10
  go_wp2_with fail
  refine (bags_any n v1 z1 at_ by_ _ hn h1 hz1 hat hby).mono ?_
  rintro e w1 ⟨vb, L, rfl, hB, hok, hx1⟩
  clear h1 hz1
  obtain ⟨g, f, rfl, hc⟩ := hB
  have hxw : Ext w w1 := hx1
  have HC := Lib.hid hc
  clear hc hx1 hok
  obtain ⟨W2, hW2⟩ : ∃ W, W = w1 := ⟨_, rfl⟩
  rw [← hW2] at HC hxw ⊢
  clear hW2
  go_wp2_with fail
  go_loopw [10] (fun i wr => ∃ k : Nat, k ≤ 3 ∧ i = .int .i64 k ∧ Ext W2 wr) (fun i _ => 3 - (intOf i).toNat)
  case atStart => exact ⟨0, by omega, rfl, Ext.refl _⟩
  case round =>
    obtain ⟨i, hi, rfl, hxo⟩ := hrel
    obtain ⟨wo, rfl⟩ : ∃ wo : World, wo = wr := ⟨_, rfl⟩
    by_cases hi3 : i < 3
    · have i1 : (i : Int) < 3 := by omega
      go_wp2_with fail
      go_loopw [11] (fun j wi => ∃ k : Nat, k ≤ 3 ∧ j = .int .i64 k ∧ Ext W2 wi) (fun j _ => 3 - (intOf j).toNat)
      case atStart => exact ⟨0, by omega, rfl, hxo⟩
      case round =>
        obtain ⟨k, hk, rfl, hxS⟩ := hrel
        by_cases hk3 : k < 3
        · obtain ⟨ci, hri⟩ := HC.out i hi3
          obtain ⟨ck, hrk⟩ := HC.out k hk3
          have ei := hxS.cell ci
          have ek := hxS.cell ck
          have i0 : (0 : Int) ≤ (i : Int) := by omega
          have k0 : (0 : Int) ≤ (k : Int) := by omega
          have k1 : (k : Int) < 3 := by omega
          generalize f i = va at *
          generalize f k = vk at *
          generalize L i = a at *
          generalize L k = b at *
          have HCV : Hid (coversB a b = ((subB a b).2 == 0)) := Lib.hid (by unfold coversB; rfl)
          go_wp2_with fail
          go_region_held3 (fun w' => w'.cell? ⟨g, i, none⟩ = some va ∧ w'.cell? ⟨g, k, none⟩ = some vk)
            (first
              | go_keep
              | (go_split_ands
                 exact ⟨hxS.cell ci, hxS.cell ck⟩))
            (first
              | (go_at_call 17; refine (add_any va vk a b _ (hri.ext (by first | exact hxS | exact hxS.drew)) (hrk.ext (by first | exact hxS | exact hxS.drew))).mono ?_; rintro e w3 ⟨x1, rfl, ho3, hx3⟩; have hxS : Ext W2 w3 := Ext.trans (by first | exact hxS | exact hxS.drew) hx3; have q1 := ho3.rd; clear ho3))
          have ei := hxS.cell ci
          have ek := hxS.cell ck
          go_wp2_with fail
          go_region_held3 (fun w' => w'.cell? ⟨g, i, none⟩ = some va ∧ w'.cell? ⟨g, k, none⟩ = some vk)
            (first
              | go_keep
              | (go_split_ands
                 exact ⟨hxS.cell ci, hxS.cell ck⟩))
            (first
              | (go_at_call 42; refine (addR_any va vk a b _ (hri.ext (by first | exact hxS | exact hxS.drew)) (hrk.ext (by first | exact hxS | exact hxS.drew))).mono ?_; rintro e w3 ⟨x2, rfl, ho3, hx3⟩; have hxS : Ext W2 w3 := Ext.trans (by first | exact hxS | exact hxS.drew) hx3; replace q1 := (q1.ext (by first | exact Ext.refl _ | exact (Ext.refl _).drew)).ext hx3; have q2 := ho3.rd; clear ho3))
          have ei := hxS.cell ci
          have ek := hxS.cell ck
          go_wp2_with fail
          go_region_held3 (fun w' => w'.cell? ⟨g, i, none⟩ = some va ∧ w'.cell? ⟨g, k, none⟩ = some vk)
            (first
              | go_keep
              | (go_split_ands
                 exact ⟨hxS.cell ci, hxS.cell ck⟩))
            (first
              | (go_at_call 41; refine (sub_any va vk a b _ (hri.ext (by first | exact hxS | exact hxS.drew)) (hrk.ext (by first | exact hxS | exact hxS.drew))).mono ?_; rintro e w3 ⟨x3, rfl, ho3, hx3⟩; have hxS : Ext W2 w3 := Ext.trans (by first | exact hxS | exact hxS.drew) hx3; replace q1 := (q1.ext (by first | exact Ext.refl _ | exact (Ext.refl _).drew)).ext hx3; replace q2 := (q2.ext (by first | exact Ext.refl _ | exact (Ext.refl _).drew)).ext hx3; have q3 := ho3.rd; clear ho3))
          have ei := hxS.cell ci
          have ek := hxS.cell ck
          go_wp2_with fail
          go_region_held3 (fun w' => w'.cell? ⟨g, i, none⟩ = some va ∧ w'.cell? ⟨g, k, none⟩ = some vk)
            (first
              | go_keep
              | (go_split_ands
                 exact ⟨hxS.cell ci, hxS.cell ck⟩))
            (first
              | (go_at_call 43; refine (subR_any va vk a b _ (hri.ext (by first | exact hxS | exact hxS.drew)) (hrk.ext (by first | exact hxS | exact hxS.drew))).mono ?_; rintro e w3 ⟨x4, rfl, ho3, hx3⟩; have hxS : Ext W2 w3 := Ext.trans (by first | exact hxS | exact hxS.drew) hx3; replace q1 := (q1.ext (by first | exact Ext.refl _ | exact (Ext.refl _).drew)).ext hx3; replace q2 := (q2.ext (by first | exact Ext.refl _ | exact (Ext.refl _).drew)).ext hx3; replace q3 := (q3.ext (by first | exact Ext.refl _ | exact (Ext.refl _).drew)).ext hx3; have q4 := ho3.rd; clear ho3))
          have ei := hxS.cell ci
          have ek := hxS.cell ck
          generalize addB a b = A at *
          generalize subB a b = B at *
          obtain ⟨r, r2⟩ := A
          obtain ⟨s, s2⟩ := B
          simp only at q1 q2 q3 q4 HCV
          go_wp2_with fail
          go_region_held3 (fun w' => w'.cell? ⟨g, i, none⟩ = some va ∧ w'.cell? ⟨g, k, none⟩ = some vk)
            (first
              | go_keep
              | (go_split_ands
                 exact ⟨hxS.cell ci, hxS.cell ck⟩))
            (first
              | (go_at_call 21; refine (same3_any x1 x2 _ _ _ (q1.ext (by first | exact Ext.refl _ | exact (Ext.refl _).drew)) (q2.ext (by first | exact Ext.refl _ | exact (Ext.refl _).drew))).mono ?_; rintro e w3 ⟨rfl, hx3⟩; have hxS : Ext W2 w3 := Ext.trans (by first | exact hxS | exact hxS.drew) hx3; rw [decide_eq_true rfl]; clear q1 q2; replace q3 := (q3.ext (by first | exact Ext.refl _ | exact (Ext.refl _).drew)).ext hx3; replace q4 := (q4.ext (by first | exact Ext.refl _ | exact (Ext.refl _).drew)).ext hx3)
              | (go_at_call 21; refine (same3_any x3 x4 _ _ _ (q3.ext (by first | exact Ext.refl _ | exact (Ext.refl _).drew)) (q4.ext (by first | exact Ext.refl _ | exact (Ext.refl _).drew))).mono ?_; rintro e w3 ⟨rfl, hx3⟩; have hxS : Ext W2 w3 := Ext.trans (by first | exact hxS | exact hxS.drew) hx3; rw [decide_eq_true rfl]; clear q3 q4)
              | (go_at_call 38; refine (covers_any va vk a b _ (hri.ext (by first | exact hxS | exact hxS.drew)) (hrk.ext (by first | exact hxS | exact hxS.drew))).mono ?_; rintro e w3 ⟨rfl, hx3⟩; have hxS : Ext W2 w3 := Ext.trans (by first | exact hxS | exact hxS.drew) hx3; rw [HCV.out]))
          have ei := hxS.cell ci
          have ek := hxS.cell ck
          go_wp2_with fail
          go_region_held3 (fun w' => w'.cell? ⟨g, i, none⟩ = some va ∧ w'.cell? ⟨g, k, none⟩ = some vk)
            (first
              | go_keep
              | (go_split_ands
                 exact ⟨hxS.cell ci, hxS.cell ck⟩))
            (first
              | (go_at_call 39; refine (join_any va vk a b _ (hri.ext (by first | exact hxS | exact hxS.drew)) (hrk.ext (by first | exact hxS | exact hxS.drew))).mono ?_; rintro e w3 ⟨x5, rfl, ho3, hx3⟩; have hxS : Ext W2 w3 := Ext.trans (by first | exact hxS | exact hxS.drew) hx3; have q5 := ho3.rd; clear ho3)
              | (go_at_call 44; refine (joinR_any va vk a b _ (hri.ext (by first | exact hxS | exact hxS.drew)) (hrk.ext (by first | exact hxS | exact hxS.drew))).mono ?_; rintro e w3 ⟨x6, rfl, ho3, hx3⟩; have hxS : Ext W2 w3 := Ext.trans (by first | exact hxS | exact hxS.drew) hx3; replace q5 := (q5.ext (by first | exact Ext.refl _ | exact (Ext.refl _).drew)).ext hx3; have q6 := ho3.rd; clear ho3)
              | (go_at_call 21; refine (same3_any x5 x6 _ _ _ (q5.ext (by first | exact Ext.refl _ | exact (Ext.refl _).drew)) (q6.ext (by first | exact Ext.refl _ | exact (Ext.refl _).drew))).mono ?_; rintro e w3 ⟨rfl, hx3⟩; have hxS : Ext W2 w3 := Ext.trans (by first | exact hxS | exact hxS.drew) hx3; rw [decide_eq_true rfl]; clear q5 q6)
              | (go_at_call 40; refine (meet_any va vk a b _ (hri.ext (by first | exact hxS | exact hxS.drew)) (hrk.ext (by first | exact hxS | exact hxS.drew))).mono ?_; rintro e w3 ⟨x7, rfl, ho3, hx3⟩; have hxS : Ext W2 w3 := Ext.trans (by first | exact hxS | exact hxS.drew) hx3; have q7 := ho3.rd; clear ho3)
              | (go_at_call 45; refine (meetR_any va vk a b _ (hri.ext (by first | exact hxS | exact hxS.drew)) (hrk.ext (by first | exact hxS | exact hxS.drew))).mono ?_; rintro e w3 ⟨x8, rfl, ho3, hx3⟩; have hxS : Ext W2 w3 := Ext.trans (by first | exact hxS | exact hxS.drew) hx3; replace q7 := (q7.ext (by first | exact Ext.refl _ | exact (Ext.refl _).drew)).ext hx3; have q8 := ho3.rd; clear ho3)
              | (go_at_call 21; refine (same3_any x7 x8 _ _ _ (q7.ext (by first | exact Ext.refl _ | exact (Ext.refl _).drew)) (q8.ext (by first | exact Ext.refl _ | exact (Ext.refl _).drew))).mono ?_; rintro e w3 ⟨rfl, hx3⟩; have hxS : Ext W2 w3 := Ext.trans (by first | exact hxS | exact hxS.drew) hx3; rw [decide_eq_true rfl]; clear q7 q8))
          have ei := hxS.cell ci
          have ek := hxS.cell ck
          go_wp2_with fail
          go_roundw
          case rel => exact ⟨k + 1, by omega, by go_num, by first | exact hxS | exact hxS.drew | exact hxS.drewN _⟩
          case measure => simp [intOf]; omega
        · have k2 : ¬ ((k : Int) < 3) := by omega
          go_wp2_with fail
          go_roundw
          case rel => exact ⟨i + 1, by omega, by go_num, by first | exact hxS | exact hxS.drew | exact hxS.drewN _⟩
          case measure => simp [intOf]; omega
    · have i2 : ¬ ((i : Int) < 3) := by omega
      go_wp2_with fail
      refine (lives13_any _).mono ?_
      rintro e w9 ⟨rfl, hx9⟩
      go_wp2
      go_ret
      exact ⟨rfl, (hxw.trans (by first | exact hxo | exact hxo.drew)).trans hx9⟩
end Go.Proofs.Ytbcjikiakanncaa
