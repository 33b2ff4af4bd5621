/- DiceRolls: the walk of the law. -/
import Derived.Test.YtjgpdimhgcacgaaDw6
import Derived.Deep.RegionWith
import Derived.Deep.RegionHeld3
namespace Go.Proofs.Ytjgpdimhgcacgaa
open Go.RowKit
set_option linter.unusedVariables false

theorem Rd.drop {w : World} {b off n c : Nat} {xs : List Value} (h : Rd w (.slice (some ⟨b, off, none⟩) n c) xs) (j : Nat) (hj : j ≤ n) : Rd w (.slice (some ⟨b, off + j, none⟩) (n - j) (c - j)) (xs.drop j) := by
  obtain ⟨A, c', hv, h1, h2, h3⟩ := h
  injection hv with e1 e2 e3
  subst e3
  refine ⟨_, _, by rw [List.length_drop, e2], by rw [List.length_drop]; omega, by simp only [maxLen] at *; omega, ?_⟩
  rcases h3 with h3 | ⟨b', o', hA, hc⟩
  · exact .inl (by rw [h3]; simp)
  · rw [← e1] at hA
    injection hA with hA
    injection hA with ha hb
    subst ha hb
    refine .inr ⟨b, off + j, rfl, fun i u hu => ?_⟩
    have := hc (j + i) u (by rw [List.getElem?_drop] at hu; exact hu)
    rwa [Nat.add_assoc]
theorem vis_drop (zs : List Int) (j : Nat) : vis (zs.drop j) = (vis zs).drop j := by simp [vis, List.map_drop]
theorem cell_al' {W : World} {o : Obj} {p : Addr} {v : Value} (h : W.cell? p = some v) : (W.alloc o).cell? p = some v := ((Ext.refl W).alloc o).cell h
theorem cell_dr' {W : World} {p : Addr} {v : Value} (h : W.cell? p = some v) : W.drew.cell? p = some v := h
theorem hit_pos (seed label : List UInt8) (num den p : Int) (hp : inI64 p) : inI64 (hitD seed label num den p).2.2 := by
  unfold hitD; split
  · exact hp
  · exact rollD_pos _ _ _ _ hp
theorem pick_pos (seed label : List UInt8) (ws : List Int) (p : Int) (hp : inI64 p) : inI64 (pickD seed label ws p).2.2 := by
  unfold pickD; split
  · exact hp
  · split <;> exact rollD_pos _ _ _ _ hp
theorem shufF_pos (seed label : List UInt8) : ∀ (i : Nat) (l : List Int) (p : Int), inI64 p → inI64 (shufF seed label i l p).2.2
  | 0, l, p, h => h
  | i + 1, l, p, h => by
    rw [shufF]; split
    · exact shufF_pos seed label i _ _ (rollD_pos _ _ _ _ h)
    · exact rollD_pos _ _ _ _ h
theorem shuffle_pos (seed label : List UInt8) (n p : Int) (hp : inI64 p) : inI64 (shuffleD seed label n p).2.2 := by
  unfold shuffleD; split
  · exact hp
  · exact shufF_pos _ _ _ _ _ hp

set_option maxRecDepth 100000 in
set_option maxHeartbeats 8000000 in
theorem DiceRolls_law (w : World) (v0 : Value) (b0 : List UInt8) (h0 : Rd w v0 (vbs b0)) (s1 : ByteArray) (hs1 : s1.size ≤ maxLen) (v2 : Value) (z2 : List Int) (h2 : Rd w v2 (vis z2)) (hz2 : ∀ n ∈ z2, inI64 n) :
    Calls Try.prog 8 #[v0, .string s1, v2] w fun e w' => e = .returned (.bool true) ∧ Ext w w' := by
  have hbl : (b0.take 20).length ≤ 20 := List.length_take_le _ _
  go_enter Try.func8, Try.ntmps8
  go_wp2_with fail
  refine (few_any v0 b0 20 _ h0 (by omega)).mono ?_
  rintro e w1 ⟨va, rfl, ho1, hx1⟩
  obtain ⟨bs, hbs⟩ : ∃ bs, bs = b0.take 20 := ⟨_, rfl⟩
  rw [← hbs] at hbl ho1
  clear hbs h0
  have s1' := hx1.size
  have hlt1 := ho1.lt
  go_wp2_with fail
  refine (short_any s1 10 _ hs1 (by omega)).mono ?_
  rintro e w2 ⟨lab, rfl, hs, rfl⟩
  have hsl : lab.size ≤ 1000000 := by
    have : lab.data.toList.length ≤ 10 := by rw [hs]; exact List.length_take_le _ _
    have : lab.size ≤ 10 := by simpa using this
    omega
  clear hs
  go_wp2_with fail
  refine (new_any va bs _ _ ho1.rd (by omega)).mono ?_
  rintro e w2 ⟨g, rfl, hg1, hg2, hD, hx2⟩
  have s2 := hx2.size
  have hr2 := (ho1.ext hx2).rd
  have hxw := hx1.trans hx2
  obtain ⟨Aa, ca, rfl, -⟩ := id hr2
  clear ho1 hx1 hx2
  have hD3 := hD.ext ((Ext.refl w2).alloc (.cells #[.slice Aa (vbs bs).length ca, .string lab, .int .i64 0] 54))
  have hM3 : RDAt (w2.alloc (.cells #[.slice Aa (vbs bs).length ca, .string lab, .int .i64 0] 54)) (fun k => k < w1.heap.size) w2.heap.size bs lab 0 :=
    ⟨_, Blk.new w2 _ _, hr2.ext ((Ext.refl w2).alloc _), fun k hk => ⟨by have := (hlt1 k hk).2; omega, (hlt1 k hk).2⟩⟩
  have hx3 := hxw.alloc (.cells #[.slice Aa (vbs bs).length ca, .string lab, .int .i64 0] 54)
  have s3 : (w2.alloc (.cells #[.slice Aa (vbs bs).length ca, .string lab, .int .i64 0] 54)).heap.size = w2.heap.size + 1 := by simp
  clear hD hxw hr2
  go_wp2_with fail
  generalize hw3 : w2.alloc (.cells #[.slice Aa (vbs bs).length ca, .string lab, .int .i64 0] 54) = w3 at *
  clear hw3
  obtain ⟨A2, c2, hv2, hc21, hc22, -⟩ := id h2
  rw [vis_len] at hv2 hc21
  subst hv2
  obtain ⟨N, hN⟩ : ∃ N, z2.length = N := ⟨_, rfl⟩
  rw [hN] at h2 hc21 ⊢
  have hcell : Hid (∀ (W : World), Ext w W → ∀ j (hj : j < N), ∃ b off, A2 = some ⟨b, off, none⟩ ∧ inI64 (z2.getD j 0) ∧ W.cell? ⟨b, off + j, none⟩ = some (.int .i64 (z2.getD j 0))) := Lib.hid (fun W hW j hj => by
    obtain ⟨-, -, -, hc⟩ := h2.at
    obtain ⟨b, off, hh, hc⟩ := hc (by omega)
    have hjl : j < z2.length := by omega
    exact ⟨b, off, hh, by have := hz2 (z2[j]) (by simp); simpa [hjl] using this, hc W hW j _ (by simp [vis, hjl])⟩)
  have hNm : N ≤ 9223372036854775807 := by simp only [maxLen] at hc22; omega
  clear hc22
  go_loopw [11] (fun i wr => ∃ (k : Nat) (q : Int), i = .int .i64 k ∧ k ≤ 62 ∧ inI64 q ∧ DiceAt wr (fun k => w1.heap.size ≤ k ∧ k < g) g bs lab q ∧ RDAt wr (fun k => k < w1.heap.size) w2.heap.size bs lab q ∧ Ext w wr ∧ w3.heap.size ≤ wr.heap.size) (fun i _ => 70 - (intOf i).toNat)
  case atStart => exact ⟨0, 0, rfl, by omega, by unfold inI64; omega, hD3, hM3, hx3, by omega⟩
  case round =>
    obtain ⟨k, q, rfl, hk, hq, hD, hM, hxw, hsz⟩ := hrel
    by_cases hkc : (k : Int) + 2 < N ∧ (k : Int) < 60
    · obtain ⟨hk1, hk2⟩ := hkc
      obtain ⟨b, off, hAe, hin, hck⟩ := hcell.out wr hxw k (by omega)
      subst hAe
      have hin1 : inI64 (z2.getD (k + 1) 0) := by obtain ⟨_, _, _, h, _⟩ := hcell.out wr hxw (k + 1) (by omega); exact h
      have hin2 : inI64 (z2.getD (k + 2) 0) := by obtain ⟨_, _, _, h, _⟩ := hcell.out wr hxw (k + 2) (by omega); exact h
      have HC1 : Hid (∀ W, Ext w W → W.cell? ⟨b, off + (k + 1), none⟩ = some (.int .i64 (z2.getD (k + 1) 0))) := Lib.hid (fun W hW => by
        obtain ⟨b', off', hh, _, h⟩ := hcell.out W hW (k + 1) (by omega)
        injection hh with hh; injection hh with e1 e2; subst e1 e2; exact h)
      have HC2 : Hid (∀ W, Ext w W → W.cell? ⟨b, off + (k + 2), none⟩ = some (.int .i64 (z2.getD (k + 2) 0))) := Lib.hid (fun W hW => by
        obtain ⟨b', off', hh, _, h⟩ := hcell.out W hW (k + 2) (by omega)
        injection hh with hh; injection hh with e1 e2; subst e1 e2; exact h)
      go_wp2_with fail
      refine (around_any _ 6 _ hin (by omega) (by omega)).mono ?_
      rintro e w4 ⟨rfl, rfl⟩
      have har := around_range (z2.getD k 0) 6 (by omega)
      clear hin hck
      obtain ⟨a, ha⟩ : ∃ a, a = around (z2.getD k 0) 6 := ⟨_, rfl⟩
      rw [← ha] at har ⊢
      clear ha
      have hacs : a = 0 ∨ a = 1 ∨ a = 2 ∨ a = 3 ∨ a = 4 ∨ a = 5 := by omega
      clear har
      rcases hacs with rfl | rfl | rfl | rfl | rfl | rfl
      · as_aux_lemma =>
          have hck1 := HC1.out wr hxw
          go_wp2_with fail
          refine (sides_any _ _ hin1).mono ?_
          rintro e w4 ⟨rfl, rfl⟩
          have hsr := sides_range (z2.getD (k + 1) 0)
          generalize sidesD (z2.getD (k + 1) 0) = sd at *
          clear hck1
          go_wp2_with fail

          refine (roll_any _ g bs lab q sd _ hD hq ⟨by omega, hsr.2⟩ (by omega) hsl).mono ?_
          rintro e w4 ⟨rfl, hD, hc4⟩
          have hM := hM.chg hc4 (by omega) (fun k hk => by omega)
          have hxw := hc4.ext hxw (by omega)
          have s4 := hc4.size
          clear hc4
          go_wp2_with fail
          refine (rroll_any _ _ bs lab q sd _ hM hq ⟨by omega, hsr.2⟩ (by omega) hsl).mono ?_
          rintro e w5 ⟨rfl, hM, hc5⟩
          have hD := hD.chg hc5 (by omega) (fun k hk => by omega)
          have hxw := hc5.ext hxw (by omega)
          have s5 := hc5.size
          clear hc5
          have hq' := rollD_pos bs lab.data.toList sd q hq
          have t1 : ((rollD bs lab.data.toList sd q).1 == (rollD bs lab.data.toList sd q).1) = true := by simp
          have t2 : ((rollD bs lab.data.toList sd q).2.1 == (rollD bs lab.data.toList sd q).2.1) = true := by simp
          generalize (rollD bs lab.data.toList sd q).2.2 = q' at *
          generalize (rollD bs lab.data.toList sd q).2.1 = er at *
          generalize (rollD bs lab.data.toList sd q).1 = r at *

          obtain ⟨vm, hbm, hrm, hfm⟩ := id hM
          have d2 : ∀ x : ExtW w5, x.w.cell? ⟨w2.heap.size, 2, none⟩ = some (.int .i64 q') := fun x => (hbm.ext x.ext).cell 2
          have t3 : (q' != q') = false := by simp
          clear hbm hrm hfm
          go_wp2_with fail
          refine wp_region_ext w5 (Ext.refl _) (by kernel_rfl) (by kernel_rfl) ?_
          repeat (go_big_quiet_step ((go_at_call 23; exact calls_ext_same (at_any _ g bs _ _ _ (hD.ext (ExtW.ext _))))))
          refine wpQuiet_nil ?_
          intro _ hw'
          obtain ⟨x1, rfl⟩ := hw'
          have hx6 := x1.ext
          have hs6 := hx6.size
          generalize x1.w = w6 at *
          go_wp2_with fail
          go_roundw
          case rel => exact ⟨k + 3, q', by go_num, by omega, hq', hD.ext hx6, hM.ext hx6, hxw.trans hx6, by omega⟩
          case measure => simp [intOf]; omega
      · as_aux_lemma =>
          have hck1 := HC1.out wr hxw
          obtain ⟨sd, hsd⟩ : ∃ sd, sd = z2.getD (k + 1) 0 := ⟨_, rfl⟩
          rw [← hsd] at hin1 hck1 HC1
          clear hsd
          go_wp2_with fail

          refine (roll_any _ g bs lab q sd _ hD hq hin1 (by omega) hsl).mono ?_
          rintro e w4 ⟨rfl, hD, hc4⟩
          have hM := hM.chg hc4 (by omega) (fun k hk => by omega)
          have hxw := hc4.ext hxw (by omega)
          have s4 := hc4.size
          clear hc4
          have hck1 := HC1.out _ hxw
          go_wp2_with fail
          refine (rroll_any _ _ bs lab q sd _ hM hq hin1 (by omega) hsl).mono ?_
          rintro e w5 ⟨rfl, hM, hc5⟩
          have hD := hD.chg hc5 (by omega) (fun k hk => by omega)
          have hxw := hc5.ext hxw (by omega)
          have s5 := hc5.size
          clear hc5
          have hq' := rollD_pos bs lab.data.toList sd q hq
          have t1 : ((rollD bs lab.data.toList sd q).1 == (rollD bs lab.data.toList sd q).1) = true := by simp
          have t2 : ((rollD bs lab.data.toList sd q).2.1 == (rollD bs lab.data.toList sd q).2.1) = true := by simp
          generalize (rollD bs lab.data.toList sd q).2.2 = q' at *
          generalize (rollD bs lab.data.toList sd q).2.1 = er at *
          generalize (rollD bs lab.data.toList sd q).1 = r at *
          clear hck1

          obtain ⟨vm, hbm, hrm, hfm⟩ := id hM
          have d2 : ∀ x : ExtW w5, x.w.cell? ⟨w2.heap.size, 2, none⟩ = some (.int .i64 q') := fun x => (hbm.ext x.ext).cell 2
          have t3 : (q' != q') = false := by simp
          clear hbm hrm hfm
          go_wp2_with fail
          refine wp_region_ext w5 (Ext.refl _) (by kernel_rfl) (by kernel_rfl) ?_
          repeat (go_big_quiet_step ((go_at_call 23; exact calls_ext_same (at_any _ g bs _ _ _ (hD.ext (ExtW.ext _))))))
          refine wpQuiet_nil ?_
          intro _ hw'
          obtain ⟨x1, rfl⟩ := hw'
          have hx6 := x1.ext
          have hs6 := hx6.size
          generalize x1.w = w6 at *
          go_wp2_with fail
          go_roundw
          case rel => exact ⟨k + 3, q', by go_num, by omega, hq', hD.ext hx6, hM.ext hx6, hxw.trans hx6, by omega⟩
          case measure => simp [intOf]; omega
      · as_aux_lemma =>
          have hck1 := HC1.out wr hxw
          have hck2 := HC2.out wr hxw
          go_wp2_with fail
          refine (around_any _ 12 _ hin1 (by omega) (by omega)).mono ?_
          rintro e w4 ⟨rfl, rfl⟩
          have hr1 := around_range (z2.getD (k + 1) 0) 12 (by omega)
          generalize around (z2.getD (k + 1) 0) 12 = nu at *
          go_wp2_with fail
          refine (around_any _ 12 _ hin2 (by omega) (by omega)).mono ?_
          rintro e w4 ⟨rfl, rfl⟩
          have hr2 := around_range (z2.getD (k + 2) 0) 12 (by omega)
          generalize around (z2.getD (k + 2) 0) 12 = de at *
          clear hck1 hck2
          go_wp2_with fail

          refine (hit_any _ g bs lab q (nu - 1) de _ hD hq ⟨by omega, by omega⟩ ⟨by omega, by omega⟩ (by omega) hsl).mono ?_
          rintro e w4 ⟨rfl, hD, hc4⟩
          have hM := hM.chg hc4 (by omega) (fun k hk => by omega)
          have hxw := hc4.ext hxw (by omega)
          have s4 := hc4.size
          clear hc4
          go_wp2_with fail
          refine (rhit_any _ _ bs lab q (nu - 1) de _ hM hq ⟨by omega, by omega⟩ ⟨by omega, by omega⟩ (by omega) hsl).mono ?_
          rintro e w5 ⟨rfl, hM, hc5⟩
          have hD := hD.chg hc5 (by omega) (fun k hk => by omega)
          have hxw := hc5.ext hxw (by omega)
          have s5 := hc5.size
          clear hc5
          have hq' := hit_pos bs lab.data.toList (nu - 1) de q hq
          have t1 : ((hitD bs lab.data.toList (nu - 1) de q).1 == (hitD bs lab.data.toList (nu - 1) de q).1) = true := by simp
          have t2 : ((hitD bs lab.data.toList (nu - 1) de q).2.1 == (hitD bs lab.data.toList (nu - 1) de q).2.1) = true := by simp
          generalize (hitD bs lab.data.toList (nu - 1) de q).2.2 = q' at *
          generalize (hitD bs lab.data.toList (nu - 1) de q).2.1 = er at *
          generalize (hitD bs lab.data.toList (nu - 1) de q).1 = r at *

          obtain ⟨vm, hbm, hrm, hfm⟩ := id hM
          have d2 : ∀ x : ExtW w5, x.w.cell? ⟨w2.heap.size, 2, none⟩ = some (.int .i64 q') := fun x => (hbm.ext x.ext).cell 2
          have t3 : (q' != q') = false := by simp
          clear hbm hrm hfm
          go_wp2_with fail
          refine wp_region_ext w5 (Ext.refl _) (by kernel_rfl) (by kernel_rfl) ?_
          repeat (go_big_quiet_step ((go_at_call 23; exact calls_ext_same (at_any _ g bs _ _ _ (hD.ext (ExtW.ext _))))))
          refine wpQuiet_nil ?_
          intro _ hw'
          obtain ⟨x1, rfl⟩ := hw'
          have hx6 := x1.ext
          have hs6 := hx6.size
          generalize x1.w = w6 at *
          go_wp2_with fail
          go_roundw
          case rel => exact ⟨k + 3, q', by go_num, by omega, hq', hD.ext hx6, hM.ext hx6, hxw.trans hx6, by omega⟩
          case measure => simp [intOf]; omega
      · as_aux_lemma =>
          have hck2 := HC2.out wr hxw
          have hdr := Rd.drop (h2.ext hxw) (k + 1) (by omega)
          rw [← vis_drop] at hdr
          go_wp2_with fail
          refine (ints_any _ (z2.drop (k + 1)) 3 _ hdr (by omega)).mono ?_
          rintro e w3' ⟨vw, rfl, how, hxv⟩
          have hD := hD.ext hxv
          have hM := hM.ext hxv
          have hxw := hxw.trans hxv
          have s3'' := hxv.size
          have hlw := how.lt
          have hinw : ∀ x ∈ (z2.drop (k + 1)).take 3, inI64 x := fun x hx => hz2 x (List.mem_of_mem_drop (List.mem_of_mem_take hx))
          have hrw := how.rd
          have hck1 := HC1.out _ hxw
          have hck2 := HC2.out _ hxw
          generalize (z2.drop (k + 1)).take 3 = ws at *
          obtain ⟨x2, hx2⟩ : ∃ x, x = z2.getD (k + 2) 0 := ⟨_, rfl⟩
          obtain ⟨x1, hx1⟩ : ∃ x, x = z2.getD (k + 1) 0 := ⟨_, rfl⟩
          rw [← hx1] at hin1 hck1 HC1
          rw [← hx2] at hin2 hck2 HC2
          clear hx1 hx2 hdr hxv how
          cases hb4 : (x2.tmod 4 != 0)
          · go_wp2_with fail
            clear hck1 hck2
            refine (pick_any _ g bs lab q vw ws _ hD (fun k hk => by omega) hrw (fun e => by have := (hlw _ e).1; omega) (fun k hk => (hlw k hk).2) hinw hq (by omega) hsl).mono ?_
            rintro e w4 ⟨rfl, hD, hc4⟩
            have hM := hM.chg hc4 (by omega) (fun k hk => by omega)
            have hxw := hc4.ext hxw (by omega)
            have hwr := hrw.chg hc4 (fun e => by have := (hlw _ e).1; omega)
            have s4 := hc4.size
            clear hc4
            go_wp2_with fail
            refine (rpick_any _ _ bs lab q vw ws _ hM hwr (fun e => by have := (hlw _ e).1; omega) hinw hq (by omega) hsl).mono ?_
            rintro e w5 ⟨rfl, hM, hc5⟩
            have hD := hD.chg hc5 (by omega) (fun k hk => by omega)
            have hxw := hc5.ext hxw (by omega)
            have s5 := hc5.size
            clear hc5 hwr
            have hq' := pick_pos bs lab.data.toList ws q hq
            have t1 : ((pickD bs lab.data.toList ws q).1 == (pickD bs lab.data.toList ws q).1) = true := by simp
            have t2 : ((pickD bs lab.data.toList ws q).2.1 == (pickD bs lab.data.toList ws q).2.1) = true := by simp
            generalize (pickD bs lab.data.toList ws q).2.2 = q' at *
            generalize (pickD bs lab.data.toList ws q).2.1 = er at *
            generalize (pickD bs lab.data.toList ws q).1 = r at *

            obtain ⟨vm, hbm, hrm, hfm⟩ := id hM
            have d2 : ∀ x : ExtW w5, x.w.cell? ⟨w2.heap.size, 2, none⟩ = some (.int .i64 q') := fun x => (hbm.ext x.ext).cell 2
            have t3 : (q' != q') = false := by simp
            clear hbm hrm hfm
            go_wp2_with fail
            refine wp_region_ext w5 (Ext.refl _) (by kernel_rfl) (by kernel_rfl) ?_
            repeat (go_big_quiet_step ((go_at_call 23; exact calls_ext_same (at_any _ g bs _ _ _ (hD.ext (ExtW.ext _))))))
            refine wpQuiet_nil ?_
            intro _ hw'
            obtain ⟨x1, rfl⟩ := hw'
            have hx6 := x1.ext
            have hs6 := hx6.size
            generalize x1.w = w6 at *
            go_wp2_with fail
            go_roundw
            case rel => exact ⟨k + 3, q', by go_num, by omega, hq', hD.ext hx6, hM.ext hx6, hxw.trans hx6, by omega⟩
            case measure => simp [intOf]; omega

          · go_wp2_with fail
            have j9 : (1 : Int) ≤ 9 ∧ (9 : Int) ≤ 9223372036854775807 := by omega
            have jb1 : 0 ≤ (k : Int) + 1 ∧ (k : Int) + 1 < (N : Int) := by omega
            have jb2 : 0 ≤ (k : Int) + 2 ∧ (k : Int) + 2 < (N : Int) := by omega
            have j2 : (1 : Int) ≤ 2 ∧ (2 : Int) ≤ 9223372036854775807 := by omega
            have j1000 : (1 : Int) ≤ 1000 ∧ (1000 : Int) ≤ 9223372036854775807 := by omega
            have n1 : (0 : Int) ≤ (k : Int) + 1 := by omega
            have n2 : (k : Int) + 1 < (N : Int) := by omega
            have n3 : (0 : Int) ≤ (k : Int) + 2 := by omega
            have n4 : (k : Int) + 2 < (N : Int) := by omega
            have n5 : ((k : Int) + 1).toNat = k + 1 := by omega
            have n6 : ((k : Int) + 2).toNat = k + 2 := by omega
            have A1 := Lib.hid (fun W => around_any x1 9 W hin1 j9.1 j9.2)
            have A2 := Lib.hid (fun W => around_any x2 1000 W hin2 j1000.1 j1000.2)
            have A3 := Lib.hid (fun W => around_any x1 2 W hin1 j2.1 j2.2)
            have r1 := around_range x1 9 (by omega)
            have r2 := around_range x2 1000 (by omega)
            have r3 := around_range x1 2 (by omega)
            have HR := Lib.hid (And.intro r1 (And.intro r2 r3))
            have e1 : IntKind.i64.wrap ((k : Int) + 1) = (k : Int) + 1 := by rw [IntKind.wrap_i64]; omega
            have E2 : Hid (IntKind.i64.wrap ((k : Int) + 2) = (k : Int) + 2) := Lib.hid (by rw [IntKind.wrap_i64]; omega)
            have e2 := E2.out
            clear r1 r2 r3 j9 jb1 jb2 j2 j1000 hrw hlw hinw
            go_region_held3 (fun w' => w'.cell? ⟨b, off + (k + 1), none⟩ = some (.int .i64 x1) ∧ w'.cell? ⟨b, off + (k + 2), none⟩ = some (.int .i64 x2))
              (refine ⟨?_, ?_⟩ <;> (repeat (first | exact hck1 | exact hck2 | apply cell_al' | apply cell_dr')))
              (first | (go_at_call 19; with_reducible refine (A1.out _).mono ?_; rintro e w9 ⟨rfl, rfl⟩) | (go_at_call 19; with_reducible refine (A2.out _).mono ?_; rintro e w9 ⟨rfl, rfl⟩) | (go_at_call 19; with_reducible refine (A3.out _).mono ?_; rintro e w9 ⟨rfl, rfl⟩))
            all_goals
              clear e1 e2
              obtain ⟨y1, hy1⟩ : ∃ y, y = around x1 9 := ⟨_, rfl⟩
              obtain ⟨y2, hy2⟩ : ∃ y, y = around x2 1000 := ⟨_, rfl⟩
              obtain ⟨y3, hy3⟩ : ∃ y, y = around x1 2 := ⟨_, rfl⟩
              have hrr := HR.out
              rw [← hy1, ← hy2, ← hy3] at hrr ⊢
              obtain ⟨⟨r1, r2⟩, ⟨r3, r4⟩, ⟨r5, r6⟩⟩ := hrr
              clear hy1 hy2 hy3 HR A1 A2 A3 hck1 hck2
              obtain ⟨w9, hw9⟩ : ∃ W, W = (w3'.alloc (.cells #[.int .i64 y1, .int .i64 0, .int .i64 y2, .int .i64 y3] 3)).drew := ⟨_, rfl⟩
              have hlit : Rd w9 (.slice (some ⟨w3'.heap.size, 0, none⟩) 4 4) (vis [y1, 0, y2, y3]) := by rw [hw9]; exact (Rd.lit w3' (vis [y1, 0, y2, y3]) 3 (by simp [vis])).ext ((Ext.refl _).drew)
              have hx9 : Ext w3' w9 := by rw [hw9]; exact ((Ext.refl w3').alloc _).drew
              have s9 : w9.heap.size = w3'.heap.size + 1 := by rw [hw9]; simp [World.drew]
              rw [← hw9]
              clear hw9
              have hD := hD.ext hx9
              have hM := hM.ext hx9
              have hxw := hxw.trans hx9
              have HIN : Hid (∀ x ∈ [y1, 0, y2, y3], inI64 x) := Lib.hid (fun x hx => by
                simp only [List.mem_cons, List.not_mem_nil, or_false] at hx
                unfold inI64; omega)
              clear hx9
              go_wp2_with fail
              refine (pick_any _ g bs lab q (.slice (some ⟨w3'.heap.size, 0, none⟩) 4 4) [y1, 0, y2, y3] _ hD (fun k hk => by omega) hlit (fun e => by injection e with e; dsimp only at e; omega) (fun k hk => by injection hk with hk; dsimp only at hk; omega) HIN.out hq (by omega) hsl).mono ?_
              rintro e w4 ⟨rfl, hD, hc4⟩
              have hM := hM.chg hc4 (by omega) (fun k hk => by omega)
              have hxw := hc4.ext hxw (by omega)
              have hwr := hlit.chg hc4 (fun e => by injection e with e; dsimp only at e; omega)
              have s4 := hc4.size
              clear hc4
              go_wp2_with fail
              refine (rpick_any _ _ bs lab q (.slice (some ⟨w3'.heap.size, 0, none⟩) 4 4) [y1, 0, y2, y3] _ hM hwr (fun e => by injection e with e; dsimp only at e; omega) HIN.out hq (by omega) hsl).mono ?_
              rintro e w5 ⟨rfl, hM, hc5⟩
              have hD := hD.chg hc5 (by omega) (fun k hk => by omega)
              have hxw := hc5.ext hxw (by omega)
              have s5 := hc5.size
              clear hc5 hwr
              have hq' := pick_pos bs lab.data.toList [y1, 0, y2, y3] q hq
              have t1 : ((pickD bs lab.data.toList [y1, 0, y2, y3] q).1 == (pickD bs lab.data.toList [y1, 0, y2, y3] q).1) = true := by simp
              have t2 : ((pickD bs lab.data.toList [y1, 0, y2, y3] q).2.1 == (pickD bs lab.data.toList [y1, 0, y2, y3] q).2.1) = true := by simp
              generalize (pickD bs lab.data.toList [y1, 0, y2, y3] q).2.2 = q' at *
              generalize (pickD bs lab.data.toList [y1, 0, y2, y3] q).2.1 = er at *
              generalize (pickD bs lab.data.toList [y1, 0, y2, y3] q).1 = r at *

              obtain ⟨vm, hbm, hrm, hfm⟩ := id hM
              have d2 : ∀ x : ExtW w5, x.w.cell? ⟨w2.heap.size, 2, none⟩ = some (.int .i64 q') := fun x => (hbm.ext x.ext).cell 2
              have t3 : (q' != q') = false := by simp
              clear hbm hrm hfm
              go_wp2_with fail
              refine wp_region_ext w5 (Ext.refl _) (by kernel_rfl) (by kernel_rfl) ?_
              repeat (go_big_quiet_step ((go_at_call 23; exact calls_ext_same (at_any _ g bs _ _ _ (hD.ext (ExtW.ext _))))))
              refine wpQuiet_nil ?_
              intro _ hw'
              obtain ⟨x1, rfl⟩ := hw'
              have hx6 := x1.ext
              have hs6 := hx6.size
              generalize x1.w = w6 at *
              go_wp2_with fail
              go_roundw
              case rel => exact ⟨k + 3, q', by go_num, by omega, hq', hD.ext hx6, hM.ext hx6, hxw.trans hx6, by omega⟩
              case measure => simp [intOf]; omega
      · as_aux_lemma =>
          have hck1 := HC1.out wr hxw
          have hck2 := HC2.out wr hxw
          go_wp2_with fail
          refine (around_any _ 30 _ hin1 (by omega) (by omega)).mono ?_
          rintro e w4 ⟨rfl, rfl⟩
          have hr1 := around_range (z2.getD (k + 1) 0) 30 (by omega)
          generalize around (z2.getD (k + 1) 0) 30 = nu at *
          obtain ⟨x1, hx1⟩ : ∃ x, x = z2.getD (k + 1) 0 := ⟨_, rfl⟩
          obtain ⟨x2, hx2⟩ : ∃ x, x = z2.getD (k + 2) 0 := ⟨_, rfl⟩
          rw [← hx1] at hin1 hck1 HC1
          rw [← hx2] at hin2 hck2 HC2
          clear hx1 hx2
          obtain ⟨hi11, hi12⟩ := hin1
          obtain ⟨hi21, hi22⟩ := hin2
          cases hb16 : (x2.tmod 16 == 0)
          · go_wp2_with fail
            refine (shuffle_any _ g bs lab q (nu - 2) _ hD (fun k hk => by omega) hq ⟨by omega, by omega⟩ (by omega) hsl).mono ?_
            rintro e w4 ⟨vs, rfl, hos, hD, hc4⟩
            have hM := hM.chg hc4 (by omega) (fun k hk => by omega)
            have hxw := hc4.ext hxw (by omega)
            have s4 := hc4.size
            clear hc4
            have hck1 := HC1.out _ hxw
            have hck2 := HC2.out _ hxw
            go_wp2_with fail
            refine (rshuffle_any _ _ bs lab q (nu - 2) _ hM (fun k hk => by omega) hq ⟨by omega, by omega⟩ (by omega) hsl).mono ?_
            rintro e w5 ⟨vt, rfl, hot, hM, hc5⟩
            have hos := Own.farR hos hc5 (fun k hk => by cases hk; omega)
            have hD := hD.chg hc5 (by omega) (fun k hk => by omega)
            have hxw := hc5.ext hxw (by omega)
            have s5 := hc5.size
            clear hc5
            have hq' := shuffle_pos bs lab.data.toList (nu - 2) q hq
            have t2 : ((shuffleD bs lab.data.toList (nu - 2) q).2.1 == (shuffleD bs lab.data.toList (nu - 2) q).2.1) = true := by simp
            generalize (shuffleD bs lab.data.toList (nu - 2) q).2.2 = q' at *
            generalize (shuffleD bs lab.data.toList (nu - 2) q).2.1 = er at *
            generalize (shuffleD bs lab.data.toList (nu - 2) q).1 = sl at *
            clear hck1 hck2
            go_wp2_with fail
            refine (sameInts_any _ _ sl sl _ hos.rd hot.rd).mono ?_
            rintro e w6 ⟨rfl, hx6⟩
            rw [show decide (sl = sl) = true by simp]
            have hD := hD.ext hx6
            have hM := hM.ext hx6
            have hxw := hxw.trans hx6
            have s6 := hx6.size
            clear hos hot hx6
            generalize w6 = w5 at *

            obtain ⟨vm, hbm, hrm, hfm⟩ := id hM
            have d2 : ∀ x : ExtW w5, x.w.cell? ⟨w2.heap.size, 2, none⟩ = some (.int .i64 q') := fun x => (hbm.ext x.ext).cell 2
            have t3 : (q' != q') = false := by simp
            clear hbm hrm hfm
            go_wp2_with fail
            refine wp_region_ext w5 (Ext.refl _) (by kernel_rfl) (by kernel_rfl) ?_
            repeat (go_big_quiet_step ((go_at_call 23; exact calls_ext_same (at_any _ g bs _ _ _ (hD.ext (ExtW.ext _))))))
            refine wpQuiet_nil ?_
            intro _ hw'
            obtain ⟨x1, rfl⟩ := hw'
            have hx6 := x1.ext
            have hs6 := hx6.size
            generalize x1.w = w6 at *
            go_wp2_with fail
            go_roundw
            case rel => exact ⟨k + 3, q', by go_num, by omega, hq', hD.ext hx6, hM.ext hx6, hxw.trans hx6, by omega⟩
            case measure => simp [intOf]; omega

          · by_cases h5 : 5000 < x1
            · go_wp2_with fail
              refine (shuffle_any _ g bs lab q 5000 _ hD (fun k hk => by omega) hq ⟨by omega, by omega⟩ (by omega) hsl).mono ?_
              rintro e w4 ⟨vs, rfl, hos, hD, hc4⟩
              have hM := hM.chg hc4 (by omega) (fun k hk => by omega)
              have hxw := hc4.ext hxw (by omega)
              have s4 := hc4.size
              clear hc4
              have hck1 := HC1.out _ hxw
              have hck2 := HC2.out _ hxw
              go_wp2_with fail
              refine (rshuffle_any _ _ bs lab q 5000 _ hM (fun k hk => by omega) hq ⟨by omega, by omega⟩ (by omega) hsl).mono ?_
              rintro e w5 ⟨vt, rfl, hot, hM, hc5⟩
              have hos := Own.farR hos hc5 (fun k hk => by cases hk; omega)
              have hD := hD.chg hc5 (by omega) (fun k hk => by omega)
              have hxw := hc5.ext hxw (by omega)
              have s5 := hc5.size
              clear hc5
              have hq' := shuffle_pos bs lab.data.toList 5000 q hq
              have t2 : ((shuffleD bs lab.data.toList 5000 q).2.1 == (shuffleD bs lab.data.toList 5000 q).2.1) = true := by simp
              generalize (shuffleD bs lab.data.toList 5000 q).2.2 = q' at *
              generalize (shuffleD bs lab.data.toList 5000 q).2.1 = er at *
              generalize (shuffleD bs lab.data.toList 5000 q).1 = sl at *
              clear hck1 hck2
              go_wp2_with fail
              refine (sameInts_any _ _ sl sl _ hos.rd hot.rd).mono ?_
              rintro e w6 ⟨rfl, hx6⟩
              rw [show decide (sl = sl) = true by simp]
              have hD := hD.ext hx6
              have hM := hM.ext hx6
              have hxw := hxw.trans hx6
              have s6 := hx6.size
              clear hos hot hx6
              generalize w6 = w5 at *

              obtain ⟨vm, hbm, hrm, hfm⟩ := id hM
              have d2 : ∀ x : ExtW w5, x.w.cell? ⟨w2.heap.size, 2, none⟩ = some (.int .i64 q') := fun x => (hbm.ext x.ext).cell 2
              have t3 : (q' != q') = false := by simp
              clear hbm hrm hfm
              go_wp2_with fail
              refine wp_region_ext w5 (Ext.refl _) (by kernel_rfl) (by kernel_rfl) ?_
              repeat (go_big_quiet_step ((go_at_call 23; exact calls_ext_same (at_any _ g bs _ _ _ (hD.ext (ExtW.ext _))))))
              refine wpQuiet_nil ?_
              intro _ hw'
              obtain ⟨x1, rfl⟩ := hw'
              have hx6 := x1.ext
              have hs6 := hx6.size
              generalize x1.w = w6 at *
              go_wp2_with fail
              go_roundw
              case rel => exact ⟨k + 3, q', by go_num, by omega, hq', hD.ext hx6, hM.ext hx6, hxw.trans hx6, by omega⟩
              case measure => simp [intOf]; omega

            · go_wp2_with fail
              refine (shuffle_any _ g bs lab q x1 _ hD (fun k hk => by omega) hq ⟨by omega, by omega⟩ (by omega) hsl).mono ?_
              rintro e w4 ⟨vs, rfl, hos, hD, hc4⟩
              have hM := hM.chg hc4 (by omega) (fun k hk => by omega)
              have hxw := hc4.ext hxw (by omega)
              have s4 := hc4.size
              clear hc4
              have hck1 := HC1.out _ hxw
              have hck2 := HC2.out _ hxw
              go_wp2_with fail
              refine (rshuffle_any _ _ bs lab q x1 _ hM (fun k hk => by omega) hq ⟨by omega, by omega⟩ (by omega) hsl).mono ?_
              rintro e w5 ⟨vt, rfl, hot, hM, hc5⟩
              have hos := Own.farR hos hc5 (fun k hk => by cases hk; omega)
              have hD := hD.chg hc5 (by omega) (fun k hk => by omega)
              have hxw := hc5.ext hxw (by omega)
              have s5 := hc5.size
              clear hc5
              have hq' := shuffle_pos bs lab.data.toList x1 q hq
              have t2 : ((shuffleD bs lab.data.toList x1 q).2.1 == (shuffleD bs lab.data.toList x1 q).2.1) = true := by simp
              generalize (shuffleD bs lab.data.toList x1 q).2.2 = q' at *
              generalize (shuffleD bs lab.data.toList x1 q).2.1 = er at *
              generalize (shuffleD bs lab.data.toList x1 q).1 = sl at *
              clear hck1 hck2
              go_wp2_with fail
              refine (sameInts_any _ _ sl sl _ hos.rd hot.rd).mono ?_
              rintro e w6 ⟨rfl, hx6⟩
              rw [show decide (sl = sl) = true by simp]
              have hD := hD.ext hx6
              have hM := hM.ext hx6
              have hxw := hxw.trans hx6
              have s6 := hx6.size
              clear hos hot hx6
              generalize w6 = w5 at *

              obtain ⟨vm, hbm, hrm, hfm⟩ := id hM
              have d2 : ∀ x : ExtW w5, x.w.cell? ⟨w2.heap.size, 2, none⟩ = some (.int .i64 q') := fun x => (hbm.ext x.ext).cell 2
              have t3 : (q' != q') = false := by simp
              clear hbm hrm hfm
              go_wp2_with fail
              refine wp_region_ext w5 (Ext.refl _) (by kernel_rfl) (by kernel_rfl) ?_
              repeat (go_big_quiet_step ((go_at_call 23; exact calls_ext_same (at_any _ g bs _ _ _ (hD.ext (ExtW.ext _))))))
              refine wpQuiet_nil ?_
              intro _ hw'
              obtain ⟨x1, rfl⟩ := hw'
              have hx6 := x1.ext
              have hs6 := hx6.size
              generalize x1.w = w6 at *
              go_wp2_with fail
              go_roundw
              case rel => exact ⟨k + 3, q', by go_num, by omega, hq', hD.ext hx6, hM.ext hx6, hxw.trans hx6, by omega⟩
              case measure => simp [intOf]; omega
      · as_aux_lemma =>
          have hck1 := HC1.out wr hxw
          obtain ⟨q', hsd⟩ : ∃ sd, sd = z2.getD (k + 1) 0 := ⟨_, rfl⟩
          rw [← hsd] at hin1 hck1 HC1
          have hq' := hin1
          clear hsd
          go_wp2_with fail
          refine (seek_any _ g bs lab q q' _ hD).mono ?_
          rintro e w4 ⟨rfl, hD, hc4⟩
          have hM := hM.chg hc4 (by omega) (fun k hk => by omega)
          have hxw := hc4.ext hxw (by omega)
          have s4 := hc4.size
          clear hc4
          have hck1 := HC1.out _ hxw
          obtain ⟨vm, hbm, hrm, hfm⟩ := id hM
          have cm := hbm.cell 2
          have fm := hbm.frozen 2
          simp only [List.getElem?_cons_succ, List.getElem?_cons_zero] at cm
          have hM : RDAt (w4.setCell ⟨w2.heap.size, 2, none⟩ (.int .i64 q')) (fun k => k < w1.heap.size) w2.heap.size bs lab q' := ⟨vm, hbm.set 2 _, hrm.chg (Chg.set _ 2 w4 _) hfm.ne, hfm⟩
          have hD := hD.chg (Chg.set w2.heap.size 2 w4 (.int .i64 q')) (by omega) (fun k hk => by omega)
          have hxw := hxw.setCell (p := ⟨w2.heap.size, 2, none⟩) (by simp; omega) (.int .i64 q')
          have s5 : (w4.setCell ⟨w2.heap.size, 2, none⟩ (.int .i64 q')).heap.size = w4.heap.size := by simp [World.setCell]
          obtain ⟨w5, hw5⟩ : ∃ w5, w5 = w4.setCell ⟨w2.heap.size, 2, none⟩ (.int .i64 q') := ⟨_, rfl⟩
          rw [← hw5] at hM hD hxw s5
          have HW5 := Lib.hid hw5
          clear hw5 hbm hrm hfm

          obtain ⟨vm, hbm, hrm, hfm⟩ := id hM
          have d2 : ∀ x : ExtW w5, x.w.cell? ⟨w2.heap.size, 2, none⟩ = some (.int .i64 q') := fun x => (hbm.ext x.ext).cell 2
          have t3 : (q' != q') = false := by simp
          clear hbm hrm hfm
          go_wp2_with fail
          rw [← HW5.out]
          clear cm fm hck1
          refine wp_region_ext w5 (Ext.refl _) (by kernel_rfl) (by kernel_rfl) ?_
          repeat (go_big_quiet_step ((go_at_call 23; exact calls_ext_same (at_any _ g bs _ _ _ (hD.ext (ExtW.ext _))))))
          refine wpQuiet_nil ?_
          intro _ hw'
          obtain ⟨x1, rfl⟩ := hw'
          have hx6 := x1.ext
          have hs6 := hx6.size
          generalize x1.w = w6 at *
          go_wp2_with fail
          go_roundw
          case rel => exact ⟨k + 3, q', by go_num, by omega, hq', hD.ext hx6, hM.ext hx6, hxw.trans hx6, by omega⟩
          case measure => simp [intOf]; omega
    · have hcs : ((k : Int) + 2 < N ∧ ¬ (k : Int) < 60) ∨ ¬ ((k : Int) + 2 < N) := by omega
      clear hkc hcell
      rcases hcs with ⟨hc1, hc2⟩ | hc1
      all_goals
        go_wp2_with fail
        refine (lives04_any _).mono ?_
        rintro e w10 ⟨rfl, hx10⟩
        go_wp2
        go_ret
        exact ⟨rfl, hxw.trans hx10⟩
end Go.Proofs.Ytjgpdimhgcacgaa

