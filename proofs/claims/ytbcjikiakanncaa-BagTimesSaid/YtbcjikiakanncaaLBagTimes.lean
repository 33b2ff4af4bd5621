/- BagTimes: the walk of the law. -/
import Derived.Test.YtbcjikiakanncaaBl
namespace Go.Proofs.Ytbcjikiakanncaa
open Go.RowKit
set_option linter.unusedVariables false

theorem emod_in (n m : Int) (hm : 0 < m) (h : m ≤ 4611686018427387904) : inI64 (n % m) := by
  have h1 := Int.emod_nonneg n (show m ≠ 0 by omega)
  have h2 := Int.emod_lt_of_pos n hm
  unfold inI64; omega

set_option maxRecDepth 100000 in
set_option maxHeartbeats 8000000 in
theorem BagTimes_law (w : World) (n : Int) (hn : inI64 n) (v1 : Value) (z1 : List Int) (h1 : Rd w v1 (vis z1)) (hz1 : ∀ n ∈ z1, inI64 n) (at_ : Int) (hat : inI64 at_) (by_ : Int) (hby : inI64 by_) (fa : Int) (hfa : inI64 fa) :
    Calls Try.prog 4 #[.int .i64 n, v1, .int .i64 at_, .int .i64 by_, .int .i64 fa] w fun e w' => e = .returned (.bool true) ∧ Ext w w' := by
  go_enter Try.func4, Try.ntmps4
  go_wp2_with fail
  refine (bags_any n v1 z1 at_ by_ _ hn h1 hz1 hat hby).mono ?_
  rintro e w1 ⟨vb, L, rfl, hB, hok, hx1⟩
  clear h1 hz1
  go_wp2_with fail
  refine (around3_any fa 1048577 _ hfa (by omega) (by omega)).mono ?_
  rintro e w2 ⟨rfl, rfl⟩
  go_wp2_with fail
  refine (around3_any fa 20 _ hfa (by omega) (by omega)).mono ?_
  rintro e w2 ⟨rfl, rfl⟩
  have hq1 := emod_in fa 1048577 (by omega) (by omega)
  have hq2 := emod_in fa 20 (by omega) (by omega)
  generalize fa % 1048577 = q1 at *
  generalize fa % 20 = q2 at *
  have hfs : ∀ k, k < 3 → ∃ q, (w1.alloc (.cells #[.int .i64 fa, .int .i64 q1, .int .i64 q2] 3)).cell? ⟨w1.heap.size, k, none⟩ = some (.int .i64 q) ∧ inI64 q := fun k hk => by
    have hb := Blk.new w1 3 [.int .i64 fa, .int .i64 q1, .int .i64 q2]
    have h3 : k = 0 ∨ k = 1 ∨ k = 2 := by omega
    rcases h3 with rfl | rfl | rfl
    · exact ⟨fa, hb.cell 0, hfa⟩
    · exact ⟨q1, hb.cell 1, hq1⟩
    · exact ⟨q2, hb.cell 2, hq2⟩
  obtain ⟨g, f, rfl, hc⟩ := hB.ext ((Ext.refl w1).alloc (.cells #[.int .i64 fa, .int .i64 q1, .int .i64 q2] 3))
  have hxw : Ext w (w1.alloc (.cells #[.int .i64 fa, .int .i64 q1, .int .i64 q2] 3)) := hx1.alloc _
  have HFS := Lib.hid hfs
  have HC := Lib.hid hc
  have HOK := Lib.hid hok
  clear hfs hc hok hB hq1 hq2
  go_wp2_with fail
  obtain ⟨W2, hW2⟩ : ∃ W, W = w1.alloc (.cells #[.int .i64 fa, .int .i64 q1, .int .i64 q2] 3) := ⟨_, rfl⟩
  rw [← hW2] at HFS HC hxw ⊢
  clear hW2
  go_loopw [13] (fun i wr => ∃ k : Nat, k ≤ 3 ∧ i = .int .i64 k ∧ Ext W2 wr) (fun i _ => 3 - (intOf i).toNat)
  case atStart => exact ⟨0, by omega, rfl, Ext.refl _⟩
  case round =>
    obtain ⟨i, hi, rfl, hxo⟩ := hrel
    obtain ⟨wo, rfl⟩ : ∃ wo : World, wo = wr := ⟨_, rfl⟩
    by_cases hi3 : i < 3
    · have i1 : (i : Int) < 3 := by omega
      go_wp2_with fail
      go_loopw [14] (fun j wi => ∃ k : Nat, k ≤ 3 ∧ j = .int .i64 k ∧ Ext W2 wi) (fun j _ => 3 - (intOf j).toNat)
      case atStart => exact ⟨0, by omega, rfl, hxo⟩
      case round =>
        obtain ⟨k, hk, rfl, hxS⟩ := hrel
        by_cases hk3 : k < 3
        · obtain ⟨ci, hri⟩ := HC.out i hi3
          obtain ⟨ck, hrk⟩ := HC.out k hk3
          obtain ⟨q, cq, hq⟩ := HFS.out k hk3
          obtain ⟨hai, -⟩ := HOK.out i hi3
          have ei := hxS.cell ci
          have ek := hxS.cell ck
          have eq := hxS.cell cq
          have i0 : (0 : Int) ≤ (i : Int) := by omega
          have k0 : (0 : Int) ≤ (k : Int) := by omega
          have k1 : (k : Int) < 3 := by omega
          generalize f i = va at *
          generalize f k = vk at *
          generalize L i = a at *
          generalize L k = b at *
          have HAI := Lib.hid hai
          clear hai
          go_wp2_with fail
          go_region_held3 (fun w' => w'.cell? ⟨g, i, none⟩ = some va ∧ w'.cell? ⟨w1.heap.size, k, none⟩ = some (.int .i64 q))
            (first
              | go_keep
              | (go_split_ands
                 exact ⟨hxS.cell ci, hxS.cell cq⟩))
            ((go_at_call 25; refine (times_any va a q _ (hri.ext hxS.drew) hq).mono ?_; rintro e w3 ⟨v3, rfl, ho3, hx3⟩; have hxS : Ext W2 w3 := hxS.drew.trans hx3))
          have hr3 := ho3.rd
          have ei := hxS.cell ci
          have ek := hxS.cell ck
          have eq := hxS.cell cq
          clear ho3 hx3
          go_wp2_with fail
          obtain ⟨wy, hwy⟩ : ∃ y : World, y = w3 := ⟨_, rfl⟩
          go_region_held3 (fun w' => w'.cell? ⟨g, i, none⟩ = some va ∧ w'.cell? ⟨w1.heap.size, k, none⟩ = some (.int .i64 q))
            (first
              | go_keep
              | (go_split_ands
                 exact ⟨hxS.cell ci, hxS.cell cq⟩))
            ((go_at_call 26; refine (timesR_any va a q _ (hri.ext hxS.drew) hq).mono ?_; rintro e w4 ⟨v4, rfl, ho4, hx4⟩; have hxS : Ext W2 w4 := hxS.drew.trans hx4; have hr3 := (hr3.ext ((Ext.refl _).drew)).ext hx4))
          have hr4 := ho4.rd
          have ei := hxS.cell ci
          have ek := hxS.cell ck
          have eq := hxS.cell cq
          clear ho4 hx4
          generalize (timesB a q).1 = r at *
          generalize (timesB a q).2 = r2 at *
          go_wp2_with fail
          go_region_held3 (fun w' => w'.cell? ⟨g, i, none⟩ = some va ∧ w'.cell? ⟨g, k, none⟩ = some vk)
            (first
              | go_keep
              | (go_split_ands
                 exact ⟨hxS.cell ci, hxS.cell ck⟩))
            (first
              | (go_at_call 21; refine (same3_any v3 v4 r r _ (hr3.ext (Ext.drew (Ext.refl _))) (hr4.ext (Ext.drew (Ext.refl _)))).mono ?_; rintro e w5 ⟨rfl, hx5⟩; have hxS : Ext W2 w5 := hxS.drew.trans hx5; rw [decide_eq_true rfl])
              | (go_at_call 27; refine (most_any va vk a b _ (hri.ext (by first | exact hxS | exact hxS.drew)) (hrk.ext (by first | exact hxS | exact hxS.drew))).mono ?_; rintro e w6 ⟨rfl, hw6⟩; have hxS : Ext W2 w6 := by { rw [← hw6]; first | exact hxS | exact hxS.drew })
              | (go_at_call 28; refine (mostR_any va vk a b _ (hri.ext (by first | exact hxS | exact hxS.drew)) (hrk.ext (by first | exact hxS | exact hxS.drew))).mono ?_; rintro e w7 ⟨rfl, hx7⟩; have hxS : Ext W2 w7 := Ext.trans (by first | exact hxS | exact hxS.drew) hx7))
          go_wp2_with fail
          go_roundw
          case rel => exact ⟨k + 1, by omega, by go_num, by first | exact hxS | exact hxS.drew | exact hxS.drewN _⟩
          case measure => simp [intOf]; omega
        · have k2 : ¬ ((k : Int) < 3) := by omega
          go_wp2_with fail
          go_roundw
          case rel => exact ⟨i + 1, by omega, by go_num, by first | exact hxS | exact hxS.drew | exact hxS.drewN _⟩
          case measure => simp [intOf]; omega
    · have i2 : ¬ ((i : Int) < 3) := by omega
      go_wp2_with fail
      refine (lives13_any _).mono ?_
      rintro e w9 ⟨rfl, hx9⟩
      go_wp2
      go_ret
      exact ⟨rfl, (hxw.trans (by first | exact hxo | exact hxo.drew)).trans hx9⟩
end Go.Proofs.Ytbcjikiakanncaa
