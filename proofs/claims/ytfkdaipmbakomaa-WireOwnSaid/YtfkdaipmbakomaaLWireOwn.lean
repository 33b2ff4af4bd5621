/- WireOwn: the walk of the law. -/
import Derived.Test.YtfkdaipmbakomaaWl
import Derived.Test.YtfkdaipmbakomaaWo
namespace Go.Proofs.Ytfkdaipmbakomaa
open Go.RowKit
set_option linter.unusedVariables false

set_option maxHeartbeats 4000000 in
theorem WireOwn_law (w : World) (v0 : Value) (b0 : List UInt8) (h0 : Rd w v0 (vbs b0)) (v1 : Value) (z1 : List Int) (h1 : Rd w v1 (vis z1)) (hz1 : ∀ n ∈ z1, inI64 n) :
    Calls Try.prog 5 #[v0, v1] w fun e w' => e = .returned (.bool true) ∧ Ext w w' := by
  obtain ⟨i0, hi, hz00, hz01, hz02⟩ := info_parts info_u8
  have hbl : (b0.take 30).length ≤ 30 := List.length_take_le _ _
  have hzl : (z1.take 10).length ≤ 10 := List.length_take_le _ _
  have hzr : ∀ n ∈ z1.take 10, inI64 n := fun n hn => hz1 n (List.mem_of_mem_take hn)
  go_enter Try.func5, Try.ntmps5
  go_wp2_with fail
  refine (few_any v0 b0 30 _ h0 (by omega)).mono ?_
  rintro e w1 ⟨va, rfl, ho1, hx1⟩
  obtain ⟨bs, hbs⟩ : ∃ bs, bs = b0.take 30 := ⟨_, rfl⟩
  rw [← hbs] at hbl ho1
  clear hbs
  go_wp2_with fail
  refine (ints_any v1 z1 10 _ (h1.ext hx1) (by omega)).mono ?_
  rintro e w2 ⟨vb, rfl, ho2, hx2⟩
  obtain ⟨zs, hzs⟩ : ∃ zs, zs = z1.take 10 := ⟨_, rfl⟩
  rw [← hzs] at hzl hzr ho2
  have HZ := Lib.hid hzs
  clear hzs
  have hr1 := (ho1.ext hx2).rd
  have hr2 := ho2.rd
  have hlt1 := ho1.lt
  have hlt2 := ho2.lt
  have s1 := hx1.size
  have s2 := hx2.size
  go_wp2_with fail
  refine (wraw_any w2.heap.size w2.heap.size [] va bs _ (WAt.new w2) (by simp) (hr1.ext ((Ext.refl _).alloc _)) (by omega)).mono ?_
  rintro e w3 ⟨rfl, hw3, hx3⟩
  rw [List.nil_append] at hw3
  have hx3' : Ext w2 w3 := Below.trans ((Ext.refl w2).alloc _) hx3
  clear hx3
  have hrl : (rawW bs).length ≤ 40 := by have := uvar_len10 bs.length (by omega); simp [rawW]; omega
  go_wp2_with fail
  refine (wints_any w2.heap.size w2.heap.size _ vb zs _ hw3 (by omega) (hr2.ext hx3') hzr (fun k hk => (hlt2 k hk).2)).mono ?_
  rintro e w4 ⟨rfl, hw4, hx4⟩
  have hx4' : Ext w2 w4 := Below.trans hx3' hx4
  clear hx4 hw3
  have s4 := hx4'.size
  have hil : (intsW zs).length ≤ 110 := by have := uvar_len10 zs.length (by omega); have := itemsW_len zs hzr; simp [intsW]; omega
  obtain ⟨fs, hfs⟩ : ∃ fs, fs = rawW bs ++ intsW zs := ⟨_, rfl⟩
  have hfl : fs.length ≤ 150 := by rw [hfs]; simp; omega
  rw [← hfs] at hw4
  have HF := Lib.hid hfs
  clear hfs hrl hil
  go_wp2_with fail
  refine (wdone_any _ _ _ _ hw4 (by omega)).mono ?_
  rintro e w5 ⟨vf, rfl, ho5, hx5⟩
  have s5 := hx5.size
  have hlt5 := ho5.lt
  have hr5 := ho5.rd
  obtain ⟨A5, c5, rfl, -⟩ := id hr5
  have hsrc := Src.rd hr5
  go_wp2_with (at_builtin; refine wpList_app _ rfl (.tmp 27) (.tmp 28) _ rfl w5.heap.size 5 i0 _ 1 Try.underlying24 hi hz00 hz01 hz02 rfl (by omega) _ [] rfl (Own.lit0 w5 5) A5 (vbs fs).length c5 (vbs fs) rfl (hsrc.ext ((Ext.refl w5).alloc _)) ?_ ?_ ?_ ?_; exact vbs_one fs; (simp [vbs_len]; omega); (simp); intro v6 w6 ho6 hg6 _)
  have hx6 : Ext w5 w6 := ((Ext.refl w5).alloc _).grown hg6 (fun k e => ((Own.lit0 w5 5).lt k e).1)
  rw [List.nil_append] at ho6
  have s6 := hx6.size
  have hlt6 := ho6.lt
  have hx26 := (hx4'.trans hx5).trans hx6
  have a1 := (ho1.ext hx2).ext hx26
  have a2 := ho2.ext hx26
  have a5 := ho5.ext hx6
  have hxw : Ext w w6 := (hx1.trans hx2).trans hx26
  have hsp : Span w2.heap.size w4.heap.size w4 w6 := (hx5.trans hx6).span (Nat.le_refl _)
  obtain ⟨n12, hn12⟩ : ∃ n, (vbs fs).length = n := ⟨_, rfl⟩
  have hn12f : n12 = fs.length := by rw [← hn12, vbs_len]
  obtain ⟨y12, hy12⟩ : ∃ y, y = vbs fs := ⟨_, rfl⟩
  rw [hn12] at a5 hlt5 ⊢
  rw [← hy12] at a5 hn12
  obtain ⟨y10, hy10⟩ : ∃ y, y = vbs bs := ⟨_, rfl⟩
  obtain ⟨n10, hn10⟩ : ∃ n, y10.length = n := ⟨_, rfl⟩
  rw [← hy10] at a1
  obtain ⟨y11, hy11⟩ : ∃ y, y = vis zs := ⟨_, rfl⟩
  obtain ⟨n11, hn11⟩ : ∃ n, y11.length = n := ⟨_, rfl⟩
  rw [← hy11] at a2
  have hb10 : n10 ≤ 200 := by rw [← hn10, hy10, vbs_len]; omega
  have hb11 : n11 ≤ 200 := by rw [← hn11, hy11, vis_len]; omega
  have hb12 : n12 ≤ 200 := by omega
  clear hy10 hy11 hy12 ho1 ho2 ho5 hr1 hr2 hr5 hsrc hx1 hx2 hx3' hx4' hx26 hx5 hg6
  obtain ⟨A10, cap10, hv10, hA10⟩ := a1.form'
  have hlw10 := a1.lt
  rw [hn10] at hv10 hA10
  first | subst hv10 | (injection hv10 with e1 e2 e3; have e1 := e1.symm; have e3 := e3.symm; subst e1; subst e3; clear e2)
  go_wp2_with fail
  go_loopw [10] (fun i wr => ∃ (k : Nat) (ys : List Value), i = .int .i64 k ∧ k ≤ n10 ∧ Hid (ys.length = n10) ∧ Own wr w.heap.size 5 (.slice A10 n10 cap10) ys ∧ w6.grownBy wr (Value.ownBlock (.slice A10 n10 cap10))) (fun i _ => n10 - (intOf i).toNat)
  case atStart => exact ⟨0, y10, rfl, by omega, Lib.hid hn10, a1, World.grownBy.refl _ _⟩
  case round =>
    obtain ⟨k10, ys10, rfl, hk10, hyl10, hoy10, hcr10⟩ := hrel
    by_cases hlt10 : (k10 : Int) < n10
    · obtain ⟨gg, hAe⟩ := hA10 (by omega)
      subst hAe
      obtain ⟨⟨u, hcu⟩, hfu, hset⟩ := Own.fill (xs := ys10) (by rw [hyl10.out]; exact hoy10) (k := k10) (by rw [hyl10.out]; omega)
      have hset := hset (.int .u8 7)
      rw [hyl10.out] at hset
      clear hoy10
      go_wp2_with fail
      go_roundw
      case rel => exact ⟨k10 + 1, ys10.set k10 (.int .u8 7), by go_num, by omega, Lib.hid (by rw [List.length_set]; exact hyl10.out), hset, hcr10.trans (Chg.set gg k10 _ _)⟩
      case measure => simp [intOf]; omega
    · clear hyl10 hA10 hoy10 hn10 a1
      have a2 := a2.farR hcr10 (fun k hk => (hlw10 k hk).2 |> fun _ => by have := hlt1 k hk; omega)
      have a5 := a5.farR hcr10 (fun k hk => by have := hlt1 k hk; omega)
      have ho6 := ho6.farR hcr10 (fun k hk => by have := hlt1 k hk; omega)
      have hsp := hsp.trans (spanR hcr10 (by omega) (fun k hk => by have := hlt1 k hk; omega))
      have hxw := hxw.grown hcr10 (fun k hk => by have := hlt1 k hk; omega)
      have s7 := World.grownBy.size hcr10
      clear hcr10 hlw10
      generalize wr = w7 at *
      obtain ⟨A11, cap11, hv11, hA11⟩ := a2.form'
      have hlw11 := a2.lt
      rw [hn11] at hv11 hA11
      first | subst hv11 | (injection hv11 with e1 e2 e3; have e1 := e1.symm; have e3 := e3.symm; subst e1; subst e3; clear e2)
      go_wp2_with fail
      go_loopw [11] (fun i wr => ∃ (k : Nat) (ys : List Value), i = .int .i64 k ∧ k ≤ n11 ∧ Hid (ys.length = n11) ∧ Own wr w1.heap.size 3 (.slice A11 n11 cap11) ys ∧ w7.grownBy wr (Value.ownBlock (.slice A11 n11 cap11))) (fun i _ => n11 - (intOf i).toNat)
      case atStart => exact ⟨0, y11, rfl, by omega, Lib.hid hn11, a2, World.grownBy.refl _ _⟩
      case round =>
        obtain ⟨k11, ys11, rfl, hk11, hyl11, hoy11, hcr11⟩ := hrel
        by_cases hlt11 : (k11 : Int) < n11
        · obtain ⟨gg, hAe⟩ := hA11 (by omega)
          subst hAe
          obtain ⟨⟨u, hcu⟩, hfu, hset⟩ := Own.fill (xs := ys11) (by rw [hyl11.out]; exact hoy11) (k := k11) (by rw [hyl11.out]; omega)
          have hset := hset (.int .i64 7)
          rw [hyl11.out] at hset
          clear hoy11
          go_wp2_with fail
          go_roundw
          case rel => exact ⟨k11 + 1, ys11.set k11 (.int .i64 7), by go_num, by omega, Lib.hid (by rw [List.length_set]; exact hyl11.out), hset, hcr11.trans (Chg.set gg k11 _ _)⟩
          case measure => simp [intOf]; omega
        · clear hyl11 hA11 hoy11 hn11 a2
          have a5 := a5.farR hcr11 (fun k hk => by have := hlt2 k hk; omega)
          have ho6 := ho6.farR hcr11 (fun k hk => by have := hlt2 k hk; omega)
          have hsp := hsp.trans (spanR hcr11 (by omega) (fun k hk => by have := hlt2 k hk; omega))
          have hxw := hxw.grown hcr11 (fun k hk => by have := hlt2 k hk; omega)
          have s8 := World.grownBy.size hcr11
          clear hcr11 hlw11
          generalize wr = w8 at *
          obtain ⟨A12, cap12, hv12, hA12⟩ := a5.form'
          have hlw12 := a5.lt
          rw [hn12] at hv12 hA12
          first | subst hv12 | (injection hv12 with e1 e2 e3; have e1 := e1.symm; have e3 := e3.symm; subst e1; subst e3; clear e2)
          go_wp2_with fail
          go_loopw [12] (fun i wr => ∃ (k : Nat) (ys : List Value), i = .int .i64 k ∧ k ≤ n12 ∧ Hid (ys.length = n12) ∧ Own wr w4.heap.size 5 (.slice A12 n12 cap12) ys ∧ w8.grownBy wr (Value.ownBlock (.slice A12 n12 cap12))) (fun i _ => n12 - (intOf i).toNat)
          case atStart => exact ⟨0, y12, rfl, by omega, Lib.hid hn12, a5, World.grownBy.refl _ _⟩
          case round =>
            obtain ⟨k12, ys12, rfl, hk12, hyl12, hoy12, hcr12⟩ := hrel
            by_cases hlt12 : (k12 : Int) < n12
            · obtain ⟨gg, hAe⟩ := hA12 (by omega)
              subst hAe
              obtain ⟨⟨u, hcu⟩, hfu, hset⟩ := Own.fill (xs := ys12) (by rw [hyl12.out]; exact hoy12) (k := k12) (by rw [hyl12.out]; omega)
              have hset := hset (.int .u8 9)
              rw [hyl12.out] at hset
              clear hoy12
              go_wp2_with fail
              go_roundw
              case rel => exact ⟨k12 + 1, ys12.set k12 (.int .u8 9), by go_num, by omega, Lib.hid (by rw [List.length_set]; exact hyl12.out), hset, hcr12.trans (Chg.set gg k12 _ _)⟩
              case measure => simp [intOf]; omega
            · clear hyl12 hA12 hoy12 hn12 a5
              have ho6 := ho6.farR hcr12 (fun k hk => by have := hlt5 k hk; omega)
              have hsp := hsp.trans (spanR hcr12 (by omega) (fun k hk => by have := hlt5 k hk; omega))
              have hxw := hxw.grown hcr12 (fun k hk => by have := hlt5 k hk; omega)
              have s9 := World.grownBy.size hcr12
              clear hcr12 hlw12
              generalize wr = w9 at *
              have hw9 := hw4.span hsp
              clear hw4 hsp
              go_wp2_with fail
              refine (wdone_any _ _ _ _ hw9 (by omega)).mono ?_
              rintro e w10 ⟨v10, rfl, ho10, hx10⟩
              have ho6 := ho6.ext hx10
              go_wp2_with fail
              refine (sameBytes_any _ _ fs fs _ ho10.rd ho6.rd).mono ?_
              rintro e w11 ⟨rfl, hx11⟩
              rw [show decide (fs = fs) = true by simp]
              have ho6 := ho6.ext hx11
              have hxw := hxw.trans (hx10.trans hx11)
              have s11 := (hx10.trans hx11).size
              clear hw9 ho10 hx10 hx11
              have hr6 := ho6.rd
              obtain ⟨A6, c6, rfl, -⟩ := id hr6
              have hsrc := Src.rd hr6
              go_wp2_with (at_builtin; refine wpList_app _ rfl (.tmp 61) (.tmp 62) _ rfl w11.heap.size 5 i0 _ 1 Try.underlying24 hi hz00 hz01 hz02 rfl (by omega) _ [] rfl (Own.lit0 w11 5) A6 (vbs fs).length c6 (vbs fs) rfl (hsrc.ext ((Ext.refl w11).alloc _)) ?_ ?_ ?_ ?_; exact vbs_one fs; (simp [vbs_len]; omega); (simp); intro v13 w13 ho13 hg13 _)
              have hx13 : Ext w11 w13 := ((Ext.refl w11).alloc _).grown hg13 (fun k e => ((Own.lit0 w11 5).lt k e).1)
              rw [List.nil_append] at ho13
              have hxw := hxw.trans hx13
              have s13 := hx13.size
              have hlt13 := ho13.lt
              clear hg13 hx13 hsrc hr6 ho6
              go_wp2_with fail
              refine (read_any _ fs _ ho13.rd (by omega)).mono ?_
              rintro e w14 ⟨g, rfl, hg1, hg2, hR, hx14⟩
              have a15 := ho13.ext hx14
              have hxw := hxw.trans hx14
              clear ho13 hx14
              obtain ⟨n15, hn15⟩ : ∃ n, (vbs fs).length = n := ⟨_, rfl⟩
              have hb15 : n15 ≤ 200 := by rw [← hn15, vbs_len]; omega
              obtain ⟨y15, hy15⟩ : ∃ y, y = vbs fs := ⟨_, rfl⟩
              rw [← hy15] at a15 hn15
              clear hy15
              obtain ⟨A15, cap15, hv15, hA15⟩ := a15.form'
              have hlw15 := a15.lt
              rw [hn15] at hv15 hA15
              first | subst hv15 | (injection hv15 with e1 e2 e3; have e1 := e1.symm; have e3 := e3.symm; subst e1; subst e3; clear e2)
              go_wp2_with fail
              go_loopw [15] (fun i wr => ∃ (k : Nat) (ys : List Value), i = .int .i64 k ∧ k ≤ n15 ∧ Hid (ys.length = n15) ∧ Own wr w11.heap.size 5 (.slice A15 n15 cap15) ys ∧ w14.grownBy wr (Value.ownBlock (.slice A15 n15 cap15))) (fun i _ => n15 - (intOf i).toNat)
              case atStart => exact ⟨0, y15, rfl, by omega, Lib.hid hn15, a15, World.grownBy.refl _ _⟩
              case round =>
                obtain ⟨k15, ys15, rfl, hk15, hyl15, hoy15, hcr15⟩ := hrel
                by_cases hlt15 : (k15 : Int) < n15
                · obtain ⟨gg, hAe⟩ := hA15 (by omega)
                  subst hAe
                  obtain ⟨⟨u, hcu⟩, hfu, hset⟩ := Own.fill (xs := ys15) (by rw [hyl15.out]; exact hoy15) (k := k15) (by rw [hyl15.out]; omega)
                  have hset := hset (.int .u8 255)
                  rw [hyl15.out] at hset
                  clear hoy15
                  go_wp2_with fail
                  go_roundw
                  case rel => exact ⟨k15 + 1, ys15.set k15 (.int .u8 255), by go_num, by omega, Lib.hid (by rw [List.length_set]; exact hyl15.out), hset, hcr15.trans (Chg.set gg k15 _ _)⟩
                  case measure => simp [intOf]; omega
                · clear hyl15 hA15 hoy15 hn15 a15
                  have hR := hR.grownR hcr15 (fun k hk => by have := hlt13 k hk; exact ⟨by omega, by omega⟩)
                  have hxw := hxw.grown hcr15 (fun k hk => by have := hlt13 k hk; omega)
                  have s15 := World.grownBy.size hcr15
                  clear hcr15 hlw15
                  generalize wr = w15 at *
                  rw [HF.out] at hR
                  have hlz : (zs.length : Int) ≤ 18446744073709551615 := by omega
                  have hlb : (bs.length : Int) ≤ 18446744073709551615 := by omega
                  have E1 := Lib.hid (rawR_rawW bs (intsW zs) hlb)
                  have E2 := Lib.hid (lenR_rawW bs (intsW zs) hlb)
                  have hl2 : (bs ++ intsW zs).length ≤ 200 := by
                    have := congrArg List.length HF.out
                    simp [rawW] at this ⊢; omega
                  go_wp2_with fail
                  refine (rraw_any _ g _ _ hR (fun k hk => by omega) (fun l hl => by rw [E2.out] at hl; cases hl; omega)).mono ?_
                  rintro e w16 ⟨v16, rfl, ho16, hR2, hc16⟩
                  rw [E1.out] at ho16 hR2
                  simp only at ho16 hR2
                  have hxw := hc16.ext hxw (by omega)
                  have s16 := hc16.size
                  have hlt16 := ho16.lt
                  clear E1 E2 hR hc16
                  obtain ⟨n17, hn17⟩ : ∃ n, (vbs bs).length = n := ⟨_, rfl⟩
                  have hb17 : n17 ≤ 200 := by rw [← hn17, vbs_len]; omega
                  obtain ⟨y17, hy17⟩ : ∃ y, y = vbs bs := ⟨_, rfl⟩
                  have a17 := ho16
                  rw [← hy17] at a17 hn17
                  clear hy17 ho16
                  obtain ⟨A17, cap17, hv17, hA17⟩ := a17.form'
                  have hlw17 := a17.lt
                  rw [hn17] at hv17 hA17
                  first | subst hv17 | (injection hv17 with e1 e2 e3; have e1 := e1.symm; have e3 := e3.symm; subst e1; subst e3; clear e2)
                  go_wp2_with fail
                  go_loopw [17] (fun i wr => ∃ (k : Nat) (ys : List Value), i = .int .i64 k ∧ k ≤ n17 ∧ Hid (ys.length = n17) ∧ Own wr w15.heap.size 5 (.slice A17 n17 cap17) ys ∧ w16.grownBy wr (Value.ownBlock (.slice A17 n17 cap17))) (fun i _ => n17 - (intOf i).toNat)
                  case atStart => exact ⟨0, y17, rfl, by omega, Lib.hid hn17, a17, World.grownBy.refl _ _⟩
                  case round =>
                    obtain ⟨k17, ys17, rfl, hk17, hyl17, hoy17, hcr17⟩ := hrel
                    by_cases hlt17 : (k17 : Int) < n17
                    · obtain ⟨gg, hAe⟩ := hA17 (by omega)
                      subst hAe
                      obtain ⟨⟨u, hcu⟩, hfu, hset⟩ := Own.fill (xs := ys17) (by rw [hyl17.out]; exact hoy17) (k := k17) (by rw [hyl17.out]; omega)
                      have hset := hset (.int .u8 1)
                      rw [hyl17.out] at hset
                      clear hoy17
                      go_wp2_with fail
                      go_roundw
                      case rel => exact ⟨k17 + 1, ys17.set k17 (.int .u8 1), by go_num, by omega, Lib.hid (by rw [List.length_set]; exact hyl17.out), hset, hcr17.trans (Chg.set gg k17 _ _)⟩
                      case measure => simp [intOf]; omega
                    · clear hyl17 hA17 hoy17 hn17 a17
                      have hR := hR2.grownR hcr17 (fun k hk => by have := hlt16 k hk; exact ⟨by omega, by omega⟩)
                      have hxw := hxw.grown hcr17 (fun k hk => by have := hlt16 k hk; omega)
                      have s17 := World.grownBy.size hcr17
                      clear hcr17 hlw17 hR2
                      generalize wr = w17 at *
                      rw [show intsW zs = intsW zs ++ [] by simp] at hR
                      have E1 := Lib.hid (intsR_intsW zs [] hlz hzr)
                      have E2 := Lib.hid (lenR_intsW zs [] hlz)
                      have hl3 : (itemsW zs ++ []).length ≤ 200 := by simp [intsW] at hl2 ⊢; omega
                      go_wp2_with fail
                      refine (rints_any _ g _ _ hR (fun k hk => by omega) (fun l hl => by rw [E2.out] at hl; cases hl; omega)).mono ?_
                      rintro e w18 ⟨v18, rfl, ho18, hR3, hc18⟩
                      rw [E1.out] at ho18 hR3
                      simp only at ho18 hR3
                      have hxw := hc18.ext hxw (by omega)
                      go_wp2_with fail
                      refine (ints_any v1 z1 10 _ (h1.ext hxw) (by omega)).mono ?_
                      rintro e w19 ⟨v19, rfl, ho19, hx19⟩
                      rw [← HZ.out] at ho19
                      go_wp2_with fail
                      refine (sameInts_any _ _ zs zs _ (ho18.ext hx19).rd ho19.rd).mono ?_
                      rintro e w20 ⟨rfl, hx20⟩
                      rw [show decide (zs = zs) = true by simp]
                      have hR4 := hR3.ext (hx19.trans hx20)
                      go_wp2_with fail
                      refine (rend_any _ g _ _ hR4).mono ?_
                      rintro e w21 ⟨rfl, rfl⟩
                      rw [show endR (.ok []) = 0 by rfl]
                      go_wp2_with fail
                      refine (lives02_any _).mono ?_
                      rintro e w22 ⟨rfl, hx22⟩
                      go_wp2
                      go_ret
                      exact ⟨rfl, hxw.trans ((hx19.trans hx20).trans hx22)⟩

end Go.Proofs.Ytfkdaipmbakomaa
