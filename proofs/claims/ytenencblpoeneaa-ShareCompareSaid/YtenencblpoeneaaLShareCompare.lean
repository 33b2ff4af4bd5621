/- ShareCompare: the walk of the law. -/
import Derived.Test.YtenencblpoeneaaSl
import Derived.Test.YtenencblpoeneaaSr2
import Derived.Test.YtenencblpoeneaaSk2
import Derived.Test.YtenencblpoeneaaSq
namespace Go.Proofs.Ytenencblpoeneaa
open Go.RowKit
set_option linter.unusedVariables false

theorem cell_al {W : World} {o : Obj} {p : Addr} {v : Value} (h : W.cell? p = some v) : (W.alloc o).cell? p = some v := ((Ext.refl W).alloc o).cell h
theorem cell_dr {W : World} {p : Addr} {v : Value} (h : W.cell? p = some v) : W.drew.cell? p = some v := h
def Ints4 (W : World) (b : Nat) : Prop := ∀ j, j < 4 → ∃ x : Int, W.cell? ⟨b, j, none⟩ = some (.int .i64 x)
theorem Ints4.ext {W W' : World} {b : Nat} (h : Ints4 W b) (hx : Ext W W') : Ints4 W' b := fun j hj => by
  obtain ⟨x, hc⟩ := h j hj
  exact ⟨x, hx.cell hc⟩
theorem ints4_blk {W : World} {b : Nat} {t : TypeId} {x0 x1 x2 x3 : Int} (h : Blk W b t [.int .i64 x0, .int .i64 x1, .int .i64 x2, .int .i64 x3]) : Ints4 W b := fun j hj => by
  have : j = 0 ∨ j = 1 ∨ j = 2 ∨ j = 3 := by omega
  rcases this with rfl | rfl | rfl | rfl
  · exact ⟨x0, h.cell 0⟩
  · exact ⟨x1, h.cell 1⟩
  · exact ⟨x2, h.cell 2⟩
  · exact ⟨x3, h.cell 3⟩
def Five (W : World) (v : Value) : Prop :=
  ∃ g, v = .slice (some ⟨g, 0, none⟩) 5 5 ∧ ∀ i, i < 5 → ∃ b c, 4 ≤ c ∧ W.cell? ⟨g, i, none⟩ = some (.slice (some ⟨b, 0, none⟩) 4 c) ∧ Ints4 W b
theorem five_mk {W : World} {g : Nat} {t : TypeId} {b0 b1 b2 b3 b4 c0 c1 c2 c3 c4 : Nat} (h : Blk W g t [.slice (some ⟨b0, 0, none⟩) 4 c0, .slice (some ⟨b1, 0, none⟩) 4 c1, .slice (some ⟨b2, 0, none⟩) 4 c2, .slice (some ⟨b3, 0, none⟩) 4 c3, .slice (some ⟨b4, 0, none⟩) 4 c4])
    (h0 : Ints4 W b0) (h1 : Ints4 W b1) (h2 : Ints4 W b2) (h3 : Ints4 W b3) (h4 : Ints4 W b4) (k0 : 4 ≤ c0) (k1 : 4 ≤ c1) (k2 : 4 ≤ c2) (k3 : 4 ≤ c3) (k4 : 4 ≤ c4) : Five W (.slice (some ⟨g, 0, none⟩) 5 5) := by
  refine ⟨g, rfl, fun i hi => ?_⟩
  have : i = 0 ∨ i = 1 ∨ i = 2 ∨ i = 3 ∨ i = 4 := by omega
  rcases this with rfl | rfl | rfl | rfl | rfl
  · exact ⟨b0, c0, k0, h.cell 0, h0⟩
  · exact ⟨b1, c1, k1, h.cell 1, h1⟩
  · exact ⟨b2, c2, k2, h.cell 2, h2⟩
  · exact ⟨b3, c3, k3, h.cell 3, h3⟩
  · exact ⟨b4, c4, k4, h.cell 4, h4⟩
theorem own_cap {w : World} {base g n cap : Nat} {e : TypeId} {xs : List Value} (h : Own w base e (.slice (some ⟨g, 0, none⟩) n cap) xs) : n ≤ cap := by
  rcases h.2 with ⟨h0, -⟩ | ⟨g', cap', cur, hv, h1, h2, h3, h4⟩
  · cases h0
  · injection hv with e1 e2 e3
    subst e2 e3
    exact h3
theorem ints4_own {w : World} {base g cap : Nat} {e : TypeId} {l : List Int} (h : Own w base e (.slice (some ⟨g, 0, none⟩) 4 cap) (vis l)) (hl : l.length = 4) : Ints4 w g := fun j hj => ⟨_, (own_store h hl hj).1⟩

set_option maxRecDepth 100000 in
set_option maxHeartbeats 8000000 in
theorem ShareCompare_law (w : World) (a : Int) (ha : inI64 a) (b : Int) (hb : inI64 b) (c : Int) (hc : inI64 c) (d : Int) (hd : inI64 d) :
    Calls Try.prog 10 #[.int .i64 a, .int .i64 b, .int .i64 c, .int .i64 d] w fun e w' => e = .returned (.bool true) ∧ Ext w w' := by
  obtain ⟨i0, hi, hz0, hz1', hz2⟩ := info_parts info_int
  obtain ⟨W, hW⟩ : ∃ W, W = w.alloc (.cells #[.int .i64 a, .int .i64 b, .int .i64 c, .int .i64 d] 3) := ⟨_, rfl⟩
  have hB : Blk W w.heap.size 3 [.int .i64 a, .int .i64 b, .int .i64 c, .int .i64 d] := by rw [hW]; exact Blk.new w 3 _
  have hxw : Ext w W := by rw [hW]; exact (Ext.refl w).alloc _
  have HC : Hid (∀ k, k < 4 → ∃ x, W.cell? ⟨w.heap.size, k, none⟩ = some (.int .i64 x) ∧ inI64 x) := Lib.hid (fun j hj => by
    have : j = 0 ∨ j = 1 ∨ j = 2 ∨ j = 3 := by omega
    rcases this with rfl | rfl | rfl | rfl
    · exact ⟨a, hB.cell 0, ha⟩
    · exact ⟨b, hB.cell 1, hb⟩
    · exact ⟨c, hB.cell 2, hc⟩
    · exact ⟨d, hB.cell 3, hd⟩)
  have HI4 := Lib.hid (ints4_blk hB)
  clear hB
  go_enter Try.func10, Try.ntmps10
  go_wp2_with fail
  rw [← hW]
  clear hW
  go_loopw [10, 11, 12] (fun x5 x6 x7 wr => ∃ k : Nat, ∃ ns ds : List Int, k ≤ 4 ∧ x7 = .int .i64 k ∧ ns.length = k ∧ ds.length = k ∧ Own wr W.heap.size 3 x5 (vis ns) ∧ Own wr W.heap.size 3 x6 (vis ds) ∧ Sep x5 x6 ∧ Ext W wr) (fun _ _ x7 _ => 4 - (intOf x7).toNat)
  case atStart => exact ⟨0, [], [], by omega, rfl, rfl, rfl, Own.nil _ _ _, Own.nil _ _ _, sep_nil _, Ext.refl _⟩
  case round =>
    obtain ⟨k, ns, ds, hk, rfl, hnl, hdl, ho, hp, hsep, hxr⟩ := hrel
    by_cases hk3 : k < 4
    · have hkz : (k : Int) < 4 := by omega
      have k0 : (0 : Int) ≤ (k : Int) := by omega
      obtain ⟨x, cx, hx⟩ := HC.out k hk3
      have ex := hxr.cell cx
      have x0 := Int.emod_nonneg x (show (1152921504606846977 : Int) ≠ 0 by omega)
      have x1 := Int.emod_lt_of_pos x (show (0 : Int) < 1152921504606846977 by omega)
      have HNL := Lib.hid hnl
      have HDL := Lib.hid hdl
      have hsz := hxr.size
      have hnl' : ns.length ≤ 4 := by omega
      have hdl' : ds.length ≤ 4 := by omega
      clear hnl hdl
      go_wp2_with fail
      refine (around3_any x 1152921504606846977 _ hx (by omega) (by omega)).mono ?_
      rintro e w1 ⟨rfl, rfl⟩
      generalize x % 1152921504606846977 = p at *
      go_upto_region 8 with (at_builtin; refine wpList_app _ rfl (.tmp 34) (.tmp 36) _ rfl W.heap.size 3 i0 _ 8 Try.underlying22 hi hz0 hz1' hz2 rfl (by omega) _ _ rfl (ho.ext ((Ext.refl _).alloc _)) (some ⟨wr.heap.size, 0, none⟩) 1 1 [.int .i64 p] rfl (Src.one _ _ _) ?_ ?_ ?_ ?_; (simp [Value.oneCell']); (rw [vis_len]; omega); (simp; omega); intro v1 w1 ho1 hg1 hv1)
      obtain ⟨hp1, hsep1⟩ := app_other hxr hp hg1 hv1 hsep
      have hx1' : Ext W w1 := Ext.app hxr (Ext.refl W) ho hg1
      have hsz1 := hx1'.size
      clear ho hp hsep hg1 hv1
      go_wp2_with (at_builtin; refine wpList_app _ rfl (.tmp 38) (.tmp 41) _ rfl W.heap.size 3 i0 _ 8 Try.underlying22 hi hz0 hz1' hz2 rfl (by omega) _ _ rfl (hp1.ext ((Ext.refl _).alloc _)) (some ⟨w1.heap.size, 0, none⟩) 1 1 [.int .i64 (p % 7)] rfl (Src.one _ _ _) ?_ ?_ ?_ ?_; (simp [Value.oneCell']); (rw [vis_len]; omega); (simp; omega); intro v2 w2 hp2 hg2 hv2)
      obtain ⟨ho2, hsep2⟩ := app_other hx1' ho1 hg2 hv2 hsep1.symm
      have hx2' : Ext W w2 := Ext.app hx1' (Ext.refl W) hp1 hg2
      have hoN : Own w2 W.heap.size 3 v1 (vis (ns ++ [p])) := by rw [vis_app]; exact ho2
      have hpN : Own w2 W.heap.size 3 v2 (vis (ds ++ [p % 7])) := by rw [vis_app]; exact hp2
      clear ho1 hp1 ho2 hp2 hg2 hv2 hsep1
      go_roundw
      case rel => exact ⟨k + 1, ns ++ [p], ds ++ [p % 7], by omega, by go_num, by simp [HNL.out], by simp [HDL.out], hoN, hpN, hsep2.symm, hx2'⟩
      case measure => simp [intOf]; omega
    · have hk4 : k = 4 := by omega
      have hkz : ¬ (k : Int) < 4 := by omega
      rw [hk4] at hnl hdl
      have HK4 := Lib.hid hk4
      clear hk4
      obtain ⟨A1, cap1, hv1, hA1⟩ := ho.form'
      obtain ⟨A2, cap2, hv2, hA2⟩ := hp.form'
      rw [vis_len, hnl] at hv1 hA1
      rw [vis_len, hdl] at hv2 hA2
      subst hv1 hv2
      obtain ⟨g1, rfl⟩ := hA1 (by omega)
      obtain ⟨g2, rfl⟩ := hA2 (by omega)
      have m0 := (own_store ho hnl (show 0 < 4 by omega)).1
      have m1 := (own_store ho hnl (show 1 < 4 by omega)).1
      have HM := Lib.hid (ints4_own ho hnl)
      have HS := Lib.hid (ints4_own hp hdl)
      have HC1 := Lib.hid (own_cap ho)
      have HC2 := Lib.hid (own_cap hp)
      generalize ns.getD 0 0 = p0 at *
      generalize ns.getD 1 0 = p1 at *
      clear ho hp hsep hnl hdl HC
      go_upto_region 9 with fail
      go_cut [14] (fun v14 wx => Five wx v14 ∧ Ext W wx)
      case first =>
        go_region_held3 (fun w' => w'.cell? ⟨g1, 0, none⟩ = some (.int .i64 p0) ∧ w'.cell? ⟨g1, 1, none⟩ = some (.int .i64 p1)) (refine ⟨?_, ?_⟩ <;> (repeat (first | exact m0 | exact m1 | apply cell_al | apply cell_dr))) (fail)
        all_goals
          go_wp2_with fail
          go_meet
          refine And.intro (five_mk (t := 22) (blk_drew (blk_new (by simp) rfl)) ?_ ?_ ?_ ?_ ?_ ?_ ?_ ?_ ?_ ?_) ?_
          · exact HI4.out.ext ((((hxr.alloc _).alloc _).alloc _).drew)
          · exact HM.out.ext (((((Ext.refl wr).alloc _).alloc _).alloc _).drew)
          · exact HS.out.ext (((((Ext.refl wr).alloc _).alloc _).alloc _).drew)
          · apply ints4_blk (t := 3)
            repeat (first | (refine blk_new ?_ rfl; simp; done) | apply blk_old | apply blk_drew)
          · apply ints4_blk (t := 3)
            repeat (first | (refine blk_new ?_ rfl; simp; done) | apply blk_old | apply blk_drew)
          · omega
          · exact HC1.out
          · exact HC2.out
          · omega
          · omega
          · exact (((hxr.alloc _).alloc _).alloc _).drew
      case rest =>
        obtain ⟨⟨g, rfl, hfive⟩, hxc⟩ := hcut
        have HF := Lib.hid hfive
        clear hfive HI4 HM HS HC1 HC2 m0 m1 hxr
        obtain ⟨W2, hW2⟩ : ∃ W, W = wc := ⟨_, rfl⟩
        rw [← hW2] at HF hxc ⊢
        clear hW2
        go_wp2_with fail
        go_loopw [15] (fun i wr => ∃ k : Nat, k ≤ 5 ∧ i = .int .i64 k ∧ Ext W2 wr) (fun i _ => 5 - (intOf i).toNat)
        case atStart => exact ⟨0, by omega, rfl, Ext.refl _⟩
        case round =>
          obtain ⟨i, hi', rfl, hxS⟩ := hrel
          by_cases hi5 : i < 5
          · have i1 : (i : Int) < 5 := by omega
            have i0' : (0 : Int) ≤ (i : Int) := by omega
            obtain ⟨bb, cc, hcc, ci, hints⟩ := HF.out i hi5
            obtain ⟨x0, q0⟩ := hints 0 (by omega)
            obtain ⟨x1, q1⟩ := hints 1 (by omega)
            obtain ⟨x2, q2⟩ := hints 2 (by omega)
            obtain ⟨x3, q3⟩ := hints 3 (by omega)
            have HCC : Hid (∀ W', Ext W2 W' → W'.cell? ⟨g, i, none⟩ = some (.slice (some ⟨bb, 0, none⟩) 4 cc) ∧ W'.cell? ⟨bb, 0, none⟩ = some (.int .i64 x0) ∧ W'.cell? ⟨bb, 1, none⟩ = some (.int .i64 x1) ∧ W'.cell? ⟨bb, 2, none⟩ = some (.int .i64 x2) ∧ W'.cell? ⟨bb, 3, none⟩ = some (.int .i64 x3)) :=
              Lib.hid (fun W' h => ⟨h.cell ci, h.cell q0, h.cell q1, h.cell q2, h.cell q3⟩)
            clear ci hints q0 q1 q2 q3
            go_wp2_with fail
            go_region_held3 (fun w' => w'.cell? ⟨g, i, none⟩ = some (.slice (some ⟨bb, 0, none⟩) 4 cc) ∧ w'.cell? ⟨bb, 0, none⟩ = some (.int .i64 x0) ∧ w'.cell? ⟨bb, 1, none⟩ = some (.int .i64 x1) ∧ w'.cell? ⟨bb, 2, none⟩ = some (.int .i64 x2) ∧ w'.cell? ⟨bb, 3, none⟩ = some (.int .i64 x3)) (exact HCC.out _ (by first | exact hxS | exact hxS.drew | exact hxS.drewN _))
              ((go_at_call 30; with_reducible refine (compare_any x0 x1 x2 x3 _).mono ?_; rintro e w3 ⟨rfl, hx3⟩; replace hxS : Ext W2 w3 := Ext.trans (by first | exact hxS | exact hxS.drew) hx3))
            clear hx3
            go_wp2_with fail
            go_region_held3 (fun w' => w'.cell? ⟨g, i, none⟩ = some (.slice (some ⟨bb, 0, none⟩) 4 cc) ∧ w'.cell? ⟨bb, 0, none⟩ = some (.int .i64 x0) ∧ w'.cell? ⟨bb, 1, none⟩ = some (.int .i64 x1) ∧ w'.cell? ⟨bb, 2, none⟩ = some (.int .i64 x2) ∧ w'.cell? ⟨bb, 3, none⟩ = some (.int .i64 x3)) (exact HCC.out _ (by first | exact hxS | exact hxS.drew | exact hxS.drewN _))
              ((go_at_call 31; with_reducible refine (compareR_any x0 x1 x2 x3 _).mono ?_; rintro e w4 ⟨rfl, hx4⟩; replace hxS : Ext W2 w4 := Ext.trans (by first | exact hxS | exact hxS.drew) hx4))
            clear hx4
            generalize (cmpP x0 x1 x2 x3).1 = p at *
            generalize (cmpP x0 x1 x2 x3).2 = q at *
            go_wp2_with fail
            go_roundw
            case rel => exact ⟨i + 1, by omega, by go_num, by first | exact hxS | exact hxS.drew | exact hxS.drewN _⟩
            case measure => simp [intOf]; omega
          · have i2 : ¬ ((i : Int) < 5) := by omega
            go_wp2_with fail
            refine (lives03_any _).mono ?_
            rintro e w9 ⟨rfl, hx9⟩
            go_wp2
            go_ret
            exact ⟨rfl, ((hxw.trans hxc).trans hxS).trans hx9⟩
end Go.Proofs.Ytenencblpoeneaa
