/- BagAmounts: the walk of the law. -/
import Derived.Test.YtbcjikiakanncaaBl
import Derived.Test.YtbcjikiakanncaaBo4
namespace Go.Proofs.Ytbcjikiakanncaa
open Go.RowKit
set_option linter.unusedVariables false
set_option linter.unusedSimpArgs false

set_option maxRecDepth 100000 in
set_option maxHeartbeats 8000000 in
theorem BagAmounts_law (w : World) (n : Int) (hn : inI64 n) (v1 : Value) (raw : List Amt) (h1 : RdA w v1 raw) (hraw : AmtsOk raw) (v2 : Value) (z2 : List Int) (h2 : Rd w v2 (vis z2)) (hz2 : ∀ n ∈ z2, inI64 n) :
    Calls Try.prog 5 #[.int .i64 n, v1, v2] w fun e w' => e = .returned (.bool true) ∧ Ext w w' := by
  go_enter Try.func5, Try.ntmps5
  go_wp2_with fail
  refine (around3_any n 66 _ hn (by omega) (by omega)).mono ?_
  rintro e w2 ⟨rfl, rfl⟩
  have hr0 := Int.emod_nonneg n (show (66 : Int) ≠ 0 by omega)
  have hr1 := Int.emod_lt_of_pos n (show (0 : Int) < 66 by omega)
  have hq1 : inI64 (n % 66) := ⟨by omega, by omega⟩
  generalize n % 66 = q1 at *
  have hfs : ∀ k, k < 2 → ∃ q, (w.alloc (.cells #[.int .i64 n, .int .i64 q1] 3)).cell? ⟨w.heap.size, k, none⟩ = some (.int .i64 q) ∧ inI64 q := fun k hk => by
    have hb := Blk.new w 3 [.int .i64 n, .int .i64 q1]
    have h3 : k = 0 ∨ k = 1 := by omega
    rcases h3 with rfl | rfl
    · exact ⟨n, hb.cell 0, hn⟩
    · exact ⟨q1, hb.cell 1, hq1⟩
  have hxw : Ext w (w.alloc (.cells #[.int .i64 n, .int .i64 q1] 3)) := (Ext.refl w).alloc _
  have hra := h1.ext hxw
  have hrz := h2.ext hxw
  have HFS := Lib.hid hfs
  clear hfs hr0 hr1 hq1 h1 h2
  go_wp2_with fail
  obtain ⟨W2, hW2⟩ : ∃ W, W = w.alloc (.cells #[.int .i64 n, .int .i64 q1] 3) := ⟨_, rfl⟩
  obtain ⟨G, hG⟩ : ∃ G, G = w.heap.size := ⟨_, rfl⟩
  rw [← hW2] at HFS hxw hra hrz ⊢
  rw [← hG] at HFS ⊢
  clear hW2 hG
  go_loopw [8] (fun x8 wr => ∃ k : Nat, k ≤ 2 ∧ x8 = .int .i64 k ∧ Ext W2 wr) (fun x8 _ => 2 - (intOf x8).toNat)
  case atStart => exact ⟨0, by omega, rfl, Ext.refl _⟩
  case round =>
    obtain ⟨k, hk, rfl, hxo⟩ := hrel
    obtain ⟨wo, rfl⟩ : ∃ wo : World, wo = wr := ⟨_, rfl⟩
    by_cases hk2 : k < 2
    · obtain ⟨q, cq0, hq⟩ := HFS.out k hk2
      have cq1 := hxo.cell cq0
      have k0 : (0 : Int) ≤ (k : Int) := by omega
      have k1 : (k : Int) < 2 := by omega
      have HQ := Lib.hid hq
      clear hq cq0
      go_wp2_with fail
      refine (amounts3_any v1 raw v2 z2 q _ HQ.out (hra.ext hxo) hraw (hrz.ext hxo) hz2).mono ?_
      rintro e wa ⟨vb, L, rfl, hB, hok, hxa⟩
      obtain ⟨g, f, rfl, hc⟩ := hB
      have HC := Lib.hid hc
      have HOK := Lib.hid hok
      have cq := hxa.cell cq1
      have hxoa := hxo.trans hxa
      clear hc hok cq1 hxa
      go_wp2_with fail
      obtain ⟨Wa, hWa⟩ : ∃ W : World, W = wa := ⟨_, rfl⟩
      rw [← hWa] at HC cq hxoa ⊢
      clear hWa
      go_loopw [10] (fun j wi => ∃ i : Nat, i ≤ 3 ∧ j = .int .i64 i ∧ Ext Wa wi) (fun j _ => 3 - (intOf j).toNat)
      case atStart => exact ⟨0, by omega, rfl, Ext.refl _⟩
      case round =>
        obtain ⟨i, hi, rfl, hxS⟩ := hrel
        by_cases hi3 : i < 3
        · obtain ⟨ci, hri⟩ := HC.out i hi3
          have hai := HOK.out i hi3
          have ei := hxS.cell ci
          have eq := hxS.cell cq
          have i0 : (0 : Int) ≤ (i : Int) := by omega
          have i1 : (i : Int) < 3 := by omega
          generalize f i = va at *
          generalize L i = a at *
          have HAI := Lib.hid hai
          clear hai
          go_wp2_with fail
          go_region_held3 (fun w' => w'.cell? ⟨g, i, none⟩ = some va ∧ w'.cell? ⟨G, k, none⟩ = some (.int .i64 q))
            (first
              | go_keep
              | (go_split_ands
                 exact ⟨hxS.cell ci, hxS.cell cq⟩))
            ((go_at_call 30; refine (of_any q va a _ HQ.out (hri.ext hxS.drew) HAI.out).mono ?_; rintro e w3 ⟨v3, rfl, ho3, hx3⟩; have hxS : Ext Wa w3 := hxS.drew.trans hx3))
          have hr3 := ho3.rd
          have ei := hxS.cell ci
          have eq := hxS.cell cq
          clear ho3 hx3
          go_wp2_with fail
          obtain ⟨wy, hwy⟩ : ∃ y : World, y = w3 := ⟨_, rfl⟩
          go_region_held3 (fun w' => w'.cell? ⟨g, i, none⟩ = some va ∧ w'.cell? ⟨G, k, none⟩ = some (.int .i64 q))
            (first
              | go_keep
              | (go_split_ands
                 exact ⟨hxS.cell ci, hxS.cell cq⟩))
            ((go_at_call 31; refine (ofR_any q va a _ HQ.out (hri.ext hxS.drew) HAI.out).mono ?_; rintro e w4 ⟨v4, rfl, ho4, hx4⟩; have hxS : Ext Wa w4 := hxS.drew.trans hx4; have hr3 := (hr3.ext ((Ext.refl _).drew)).ext hx4))
          have hr4 := ho4.rd
          have ei := hxS.cell ci
          have eq := hxS.cell cq
          clear ho4 hx4
          generalize (ofB q a).1 = r at *
          generalize (ofB q a).2 = r2 at *
          go_wp2_with fail
          go_region_held3 (fun w' => w'.cell? ⟨g, i, none⟩ = some va ∧ w'.cell? ⟨G, k, none⟩ = some (.int .i64 q))
            (first
              | go_keep
              | (go_split_ands
                 exact ⟨hxS.cell ci, hxS.cell cq⟩))
            (first
              | (go_at_call 21; refine (same3_any v3 v4 r r _ (hr3.ext (Ext.drew (Ext.refl _))) (hr4.ext (Ext.drew (Ext.refl _)))).mono ?_; rintro e w5 ⟨rfl, hx5⟩; have hxS : Ext Wa w5 := hxS.drew.trans hx5; rw [decide_eq_true rfl])
              | (go_at_call 32; refine (valid_any q va a _ HQ.out (hri.ext (by first | exact hxS | exact hxS.drew)) HAI.out).mono ?_; rintro e w6 ⟨rfl, hx6⟩; have hxS : Ext Wa w6 := Ext.trans (by first | exact hxS | exact hxS.drew) hx6)
              | (go_at_call 33; refine (sortedR_any q va a _ HQ.out (hri.ext (by first | exact hxS | exact hxS.drew)) HAI.out).mono ?_; rintro e w7 ⟨rfl, hx7⟩; have hxS : Ext Wa w7 := Ext.trans (by first | exact hxS | exact hxS.drew) hx7))
          go_wp2_with fail
          go_roundw
          case rel => exact ⟨i + 1, by omega, by go_num, by first | exact hxS | exact hxS.drew | exact hxS.drewN _⟩
          case measure => simp [intOf]; omega
        · have i2 : ¬ ((i : Int) < 3) := by omega
          go_wp2_with fail
          go_roundw
          case rel => exact ⟨k + 1, by omega, by go_num, hxoa.trans (by first | exact hxS | exact hxS.drew | exact hxS.drewN _)⟩
          case measure => simp [intOf]; omega
    · have k2 : ¬ ((k : Int) < 2) := by omega
      go_wp2_with fail
      refine (lives13_any _).mono ?_
      rintro e w9 ⟨rfl, hx9⟩
      go_wp2
      go_ret
      exact ⟨rfl, (hxw.trans (by first | exact hxo | exact hxo.drew)).trans hx9⟩
end Go.Proofs.Ytbcjikiakanncaa
