/- DiceReplay: the walk of the law. -/
import Derived.Test.YtjgpdimhgcacgaaDl
namespace Go.Proofs.Ytjgpdimhgcacgaa
open Go.RowKit
set_option linter.unusedVariables false

theorem vbs_set (bs : List UInt8) (k : Nat) (b : UInt8) : vbs (bs.set k b) = (vbs bs).set k (.int .u8 b.toNat) := by simp [vbs, List.map_set]

set_option maxRecDepth 100000 in
set_option maxHeartbeats 4000000 in
theorem DiceReplay_law (w : World) (v0 : Value) (b0 : List UInt8) (h0 : Rd w v0 (vbs b0)) (p : Int) (hp : inI64 p) (v2 : Value) (z2 : List Int) (h2 : Rd w v2 (vis z2)) (hz2 : ∀ n ∈ z2, inI64 n) :
    Calls Try.prog 5 #[v0, .int .i64 p, v2] w fun e w' => e = .returned (.bool true) ∧ Ext w w' := by
  have hbl : (b0.take 20).length ≤ 20 := List.length_take_le _ _
  go_enter Try.func5, Try.ntmps5
  go_wp2_with fail
  refine (few_any v0 b0 20 _ h0 (by omega)).mono ?_
  rintro e w1 ⟨va, rfl, ho1, hx1⟩
  go_wp2_with fail
  refine (few_any v0 b0 20 _ (h0.ext hx1) (by omega)).mono ?_
  rintro e w2 ⟨vb, rfl, ho2, hx2⟩
  obtain ⟨bs, hbs⟩ : ∃ bs, bs = b0.take 20 := ⟨_, rfl⟩
  rw [← hbs] at hbl ho1 ho2
  clear hbs
  have s1 := hx1.size
  have s2 := hx2.size
  have hlt1 := ho1.lt
  have hlt2 := ho2.lt
  have ho1 := ho1.ext hx2
  go_wp2_with fail
  refine (new_any va bs _ _ ho1.rd (by omega)).mono ?_
  rintro e w3 ⟨gd, rfl, hgd1, hgd2, hD, hx3⟩
  have s3 := hx3.size
  go_wp2_with fail
  refine (new_any vb bs _ _ (ho2.ext hx3).rd (by omega)).mono ?_
  rintro e w4 ⟨gc, rfl, hgc1, hgc2, hC, hx4⟩
  have s4 := hx4.size
  have hD := hD.ext hx4
  have ho1 := ho1.ext (hx3.trans hx4)
  have hxw : Ext w w4 := (hx1.trans hx2).trans (hx3.trans hx4)
  have hsl : ({ data := #[97] } : ByteArray).size ≤ 1000000 := by decide
  generalize ({ data := #[97] } : ByteArray) = lab at *
  clear hx1 hx2 hx3 hx4 ho2
  obtain ⟨n, hn⟩ : ∃ n, bs.length = n := ⟨_, rfl⟩
  obtain ⟨A, cap, hv, hA⟩ := ho1.form'
  rw [vbs_len, hn] at hv hA
  subst hv
  go_wp2_with fail
  go_loopw [11] (fun i wr => ∃ (k : Nat) (ys : List UInt8), i = .int .i64 k ∧ k ≤ n ∧ Hid (ys.length = n) ∧ Own wr w.heap.size 5 (.slice A n cap) (vbs ys) ∧ w4.grownBy wr (Value.ownBlock (.slice A n cap))) (fun i _ => n - (intOf i).toNat)
  case atStart => exact ⟨0, bs, rfl, by omega, Lib.hid hn, ho1, World.grownBy.refl _ _⟩
  case round =>
    obtain ⟨k, ys, rfl, hk, hyl, hoy, hcr⟩ := hrel
    by_cases hlt : (k : Int) < n
    · obtain ⟨gg, hAe⟩ := hA (by omega)
      subst hAe
      have hky : k < ys.length := by rw [hyl.out]; omega
      obtain ⟨⟨u, hcu⟩, hfu, hset⟩ := Own.fill (xs := vbs ys) (by rw [vbs_len, hyl.out]; exact hoy) (k := k) (by rw [vbs_len]; exact hky)
      have hce : wr.cell? ⟨gg, k, none⟩ = some (.int .u8 (ys[k]).toNat) := by
        have h := hoy.rd
        obtain ⟨-, -, -, hc⟩ := h.at
        obtain ⟨b, off, hh, hc⟩ := hc (by omega)
        injection hh with hh
        injection hh with e1 e2
        subst e1 e2
        have := hc wr (Ext.refl _) k _ (by simp [vbs, hky]; rfl)
        simpa using this
      clear hcu
      have HS : Hid (∀ W, W = wr.setCell ⟨gg, k, none⟩ (.int .u8 (((ys[k]).toNat + 1) % 256)) → Own W w.heap.size 5 (.slice (some ⟨gg, 0, none⟩) n cap) (vbs (ys.set k (ys[k] + 1)))) := Lib.hid (fun W hW => by
        have h := hset (.int .u8 (((ys[k]).toNat + 1) % 256))
        rw [vbs_len, hyl.out] at h
        rw [hW, vbs_set]
        exact h)
      clear hset hoy
      go_wp2_with fail
      go_roundw
      case rel => exact ⟨k + 1, ys.set k (ys[k] + 1), by go_num, by omega, Lib.hid (by rw [List.length_set]; exact hyl.out), HS.out _ rfl, hcr.trans (Chg.set gg k _ _)⟩
      case measure => simp [intOf]; omega
    · clear hyl hoy hA ho1 hn
      have hD := hD.grownR hcr (fun k hk => by have := hlt1 k hk; exact ⟨by omega, by omega⟩)
      have hC := hC.grownR hcr (fun k hk => by have := hlt1 k hk; exact ⟨by omega, by omega⟩)
      have hxw := hxw.grown hcr (fun k hk => by have := hlt1 k hk; omega)
      have s5 := World.grownBy.size hcr
      clear hcr
      generalize wr = w5 at *
      go_wp2_with fail
      refine (seek_any _ gd bs _ 0 p _ hD).mono ?_
      rintro e w6 ⟨rfl, hD, hc6⟩
      have hC := hC.chg hc6 (by omega) (fun k hk => by omega)
      have hxw := hc6.ext hxw (by omega)
      have s6 := hc6.size
      go_wp2_with fail
      refine (seek_any _ gc bs _ 0 p _ hC).mono ?_
      rintro e w7 ⟨rfl, hC, hc7⟩
      have hD := hD.chg hc7 (by omega) (fun k hk => by omega)
      have hxw := hc7.ext hxw (by omega)
      have s7 := hc7.size
      clear hc6 hc7
      obtain ⟨A2, c2, hv2, hc21, hc22, -⟩ := id h2
      rw [vis_len] at hv2 hc21
      subst hv2
      obtain ⟨N, hN⟩ : ∃ N, z2.length = N := ⟨_, rfl⟩
      rw [hN] at h2 hc21 ⊢
      have hcell : Hid (∀ (W : World), Ext w W → ∀ j (hj : j < N), ∃ b off, A2 = some ⟨b, off, none⟩ ∧ W.cell? ⟨b, off + j, none⟩ = some (.int .i64 (z2.getD j 0))) := Lib.hid (fun W hW j hj => by
        obtain ⟨-, -, -, hc⟩ := h2.at
        obtain ⟨b, off, hh, hc⟩ := hc (by omega)
        refine ⟨b, off, hh, hc W hW j _ ?_⟩
        have : j < z2.length := by omega
        simp [vis, this])
      have hzr : Hid (∀ j, inI64 (z2.getD j 0)) := Lib.hid (fun j => by
        rcases Nat.lt_or_ge j z2.length with h | h
        · have := hz2 (z2[j]) (by simp); simpa [h] using this
        · simp [h, inI64])
      have hNm : N ≤ 9223372036854775807 := by simp only [maxLen] at hc22; omega
      clear hz2 h2 h0 hc22 hc21
      obtain ⟨i0, hi, hz00, hz01, hz02⟩ := info_parts info_int
      go_wp2_with fail
      go_loopw [13, 12] (fun i out wr => ∃ (k : Nat), i = .int .i64 k ∧ k ≤ N ∧ k ≤ 12 ∧ Own wr w7.heap.size 3 out (vis ((List.range k).map (valR bs lab.data.toList z2 p))) ∧ DiceAt wr (fun k => w2.heap.size ≤ k ∧ k < gd) gd bs lab (posR bs lab.data.toList z2 p k) ∧ DiceAt wr (fun k => w3.heap.size ≤ k ∧ k < gc) gc bs lab p ∧ Ext w wr ∧ w7.heap.size ≤ wr.heap.size) (fun i _ _ => 13 - (intOf i).toNat)
      case atStart => exact ⟨0, rfl, by omega, by omega, Own.nil _ _ _, hD, hC, hxw, by omega⟩
      case round =>
        obtain ⟨k, rfl, hkN, hk12, hof, hD, hC, hxw, s8⟩ := hrel
        by_cases hkc : (k : Int) < N ∧ (k : Int) < 12
        · obtain ⟨hk1, hk2⟩ := hkc
          obtain ⟨b, off, hAe, hck⟩ := hcell.out wr hxw k (by omega)
          subst hAe
          have hir := hzr.out k
          have hsr := sides_range (z2.getD k 0)
          go_wp2_with fail
          refine (sides_any _ _ hir).mono ?_
          rintro e w8 ⟨rfl, rfl⟩
          have hpr := posR_range bs lab.data.toList z2 p hp k
          go_wp2_with fail
          refine (roll_any _ gd bs lab _ _ _ hD hpr ⟨by omega, hsr.2⟩ (by omega) hsl).mono ?_
          rintro e w9 ⟨rfl, hD, hc9⟩
          have herr := rollD_err bs lab.data.toList (sidesD (z2.getD k 0)) (posR bs lab.data.toList z2 p k) hsr.1
          have hv1 : (rollD bs lab.data.toList (sidesD (z2.getD k 0)) (posR bs lab.data.toList z2 p k)).1 = valR bs lab.data.toList z2 p k := rfl
          have hv2 : (rollD bs lab.data.toList (sidesD (z2.getD k 0)) (posR bs lab.data.toList z2 p k)).2.2 = posR bs lab.data.toList z2 p (k + 1) := rfl
          rw [hv2] at hD
          rw [hv1]
          generalize (rollD bs lab.data.toList (sidesD (z2.getD k 0)) (posR bs lab.data.toList z2 p k)).2.1 = er at *
          clear hv1 hv2 hsr hir hpr
          have hC := hC.chg hc9 (by omega) (fun k hk => by omega)
          have hxw := hc9.ext hxw (by omega)
          have hof := Own.farR hof hc9 (fun k hk => by cases hk; omega)
          have s9 := hc9.size
          clear hc9 hck
          have hle : (vis ((List.range k).map (valR bs lab.data.toList z2 p))).length = k := by simp [vis]
          have HT : Hid (vis ((List.range k).map (valR bs lab.data.toList z2 p)) ++ [.int .i64 (valR bs lab.data.toList z2 p k)] = vis ((List.range (k + 1)).map (valR bs lab.data.toList z2 p))) := Lib.hid (by rw [List.range_succ]; simp [vis])
          generalize valR bs lab.data.toList z2 p k = val at *
          generalize hF : vis ((List.range k).map (valR bs lab.data.toList z2 p)) = F at *
          clear hF
          have hsz9 : w7.heap.size ≤ w9.heap.size := by omega
          rcases herr with rfl | rfl
          all_goals
            go_wp2_with (at_builtin; refine wpList_app _ rfl (.tmp 82) (.tmp 84) _ rfl w7.heap.size 3 i0 _ 8 Try.underlying29 hi hz00 hz01 hz02 rfl (by omega) _ _ rfl (hof.ext ((Ext.refl _).alloc _)) (some ⟨w9.heap.size, 0, none⟩) 1 1 [.int .i64 val] rfl (Src.one _ _ _) ?_ ?_ ?_ ?_; (simp [Value.oneCell']); (rw [hle]; omega); (simp; omega); intro v1 w10 ho10 hg10 _)
            have hbw : Below w7.heap.size w9 w10 := Below.grown (Below.alloc (Below.refl _ _) hsz9 _) hg10 (by simp; omega) (fun k e => (hof.lt k e).1)
            go_roundw
            case rel => exact ⟨k + 1, by go_num, by omega, by omega, by rw [← HT.out]; exact ho10, hD.belowD hbw (by omega) (fun k hk => by omega), hC.belowD hbw (by omega) (fun k hk => by omega), Below.trans hxw (Below.mono hbw (by omega)), by have := hbw.size; omega⟩
            case measure => simp [intOf]; omega
        · have hs0 : ({ data := #[] } : ByteArray).size = 0 := rfl
          obtain ⟨Af, cf, hvf, hAf⟩ := hof.form'
          rw [show (vis ((List.range k).map (valR bs lab.data.toList z2 p))).length = k by simp [vis]] at hvf hAf
          subst hvf
          have hfc : Hid (∀ (W : World), Own W w7.heap.size 3 (.slice Af k cf) (vis ((List.range k).map (valR bs lab.data.toList z2 p))) → ∀ j, j < k → ∃ g, Af = some ⟨g, 0, none⟩ ∧ W.cell? ⟨g, j, none⟩ = some (.int .i64 (valR bs lab.data.toList z2 p j))) := Lib.hid (fun W hW j hj => by
            obtain ⟨g, hg⟩ := hAf (by omega)
            subst hg
            have h := hW.rd
            obtain ⟨-, -, -, hc⟩ := h.at
            obtain ⟨b, off, hh, hc⟩ := hc (by omega)
            injection hh with hh
            injection hh with e1 e2
            subst e1 e2
            have := hc W (Ext.refl _) j (.int .i64 (valR bs lab.data.toList z2 p j)) (by simp [vis, hj])
            exact ⟨_, rfl, by simpa using this⟩)
          clear hAf
          have hcs : ((k : Int) < N ∧ ¬ (k : Int) < 12) ∨ ¬ (k : Int) < N := by omega
          clear hkc
          rcases hcs with ⟨hk1, hk2⟩ | hk1
          all_goals
            go_wp2_with fail
            refine (at_any _ gd bs _ _ _ hD).mono ?_
            rintro e w8 ⟨rfl, rfl⟩
            go_wp2_with fail
            refine (seek_any _ gd bs _ _ p _ hD).mono ?_
            rintro e w8 ⟨rfl, hD, hc8⟩
            have hC := hC.chg hc8 (by omega) (fun k hk => by omega)
            have hxw := hc8.ext hxw (by omega)
            have hof := Own.farR hof hc8 (fun k hk => by cases hk; omega)
            have s9 := hc8.size
            have hsz8 : w7.heap.size ≤ w8.heap.size := by omega
            clear hc8 s8 s9
            try clear hk1 hk2
            try clear hk1
            go_wp2_with fail
            go_loopw [17] (fun i wr => ∃ (j : Nat), i = .int .i64 j ∧ j ≤ k ∧ DiceAt wr (fun k => w2.heap.size ≤ k ∧ k < gd) gd bs lab (posR bs lab.data.toList z2 p j) ∧ DiceAt wr (fun k => w3.heap.size ≤ k ∧ k < gc) gc bs lab (posR bs lab.data.toList z2 p j) ∧ Own wr w7.heap.size 3 (.slice Af k cf) (vis ((List.range k).map (valR bs lab.data.toList z2 p))) ∧ Ext w wr ∧ w7.heap.size ≤ wr.heap.size) (fun i _ => k - (intOf i).toNat)
            case atStart => exact ⟨0, rfl, by omega, hD, hC, hof, hxw, hsz8⟩
            case round =>
              obtain ⟨j, rfl, hjk, hD, hC, hof, hxw, s8⟩ := hrel
              by_cases hlt : (j : Int) < k
              · obtain ⟨b, off, hAe, hck⟩ := hcell.out wr hxw j (by omega)
                subst hAe
                have hir := hzr.out j
                have hsr := sides_range (z2.getD j 0)
                go_wp2_with fail
                refine (sides_any _ _ hir).mono ?_
                rintro e w9 ⟨rfl, rfl⟩
                have hpr := posR_range bs lab.data.toList z2 p hp j
                go_wp2_with fail
                refine (roll_any _ gd bs lab _ _ _ hD hpr ⟨by omega, hsr.2⟩ (by omega) hsl).mono ?_
                rintro e w9 ⟨rfl, hD, hc9⟩
                have hv1 : (rollD bs lab.data.toList (sidesD (z2.getD j 0)) (posR bs lab.data.toList z2 p j)).1 = valR bs lab.data.toList z2 p j := rfl
                have hv2 : (rollD bs lab.data.toList (sidesD (z2.getD j 0)) (posR bs lab.data.toList z2 p j)).2.2 = posR bs lab.data.toList z2 p (j + 1) := rfl
                rw [hv2] at hD
                rw [hv1]
                generalize (rollD bs lab.data.toList (sidesD (z2.getD j 0)) (posR bs lab.data.toList z2 p j)).2.1 = er at *
                clear hv1 hv2
                have hC := hC.chg hc9 (by omega) (fun k hk => by omega)
                have hxw := hc9.ext hxw (by omega)
                have hof := Own.farR hof hc9 (fun k hk => by cases hk; omega)
                have s9 := hc9.size
                clear hc9 hck
                obtain ⟨b', off', hAe, hck⟩ := hcell.out w9 hxw j (by omega)
                injection hAe with hAe
                injection hAe with e1 e2
                subst e1 e2
                go_wp2_with fail
                refine (sides_any _ _ hir).mono ?_
                rintro e w10 ⟨rfl, rfl⟩
                go_wp2_with fail
                refine (roll_any _ gc bs lab _ _ _ hC hpr ⟨by omega, hsr.2⟩ (by omega) hsl).mono ?_
                rintro e w10 ⟨rfl, hC, hc10⟩
                have hv1 : (rollD bs lab.data.toList (sidesD (z2.getD j 0)) (posR bs lab.data.toList z2 p j)).1 = valR bs lab.data.toList z2 p j := rfl
                have hv2 : (rollD bs lab.data.toList (sidesD (z2.getD j 0)) (posR bs lab.data.toList z2 p j)).2.2 = posR bs lab.data.toList z2 p (j + 1) := rfl
                rw [hv2] at hC
                rw [hv1]
                generalize (rollD bs lab.data.toList (sidesD (z2.getD j 0)) (posR bs lab.data.toList z2 p j)).2.1 = er2 at *
                clear hv1 hv2 hsr hir hpr hck
                have hD := hD.chg hc10 (by omega) (fun k hk => by omega)
                have hxw := hc10.ext hxw (by omega)
                have hof := Own.farR hof hc10 (fun k hk => by cases hk; omega)
                have s10 := hc10.size
                clear hc10
                obtain ⟨gf, hAe, hck⟩ := hfc.out _ hof j (by omega)
                subst hAe
                have hne : (valR bs lab.data.toList z2 p j != valR bs lab.data.toList z2 p j) = false := by simp
                generalize valR bs lab.data.toList z2 p j = val at *
                go_wp2_with fail
                go_roundw
                case rel => exact ⟨j + 1, by go_num, by omega, hD, hC, hof, hxw, by omega⟩
                case measure => simp [intOf]; omega
              · have hjk' : j = k := by omega
                rw [hjk'] at hD hC
                clear hjk hjk'
                go_wp2_with fail
                refine (at_any _ gd bs _ _ _ hD).mono ?_
                rintro e w9 ⟨rfl, rfl⟩
                have hq : (posR bs lab.data.toList z2 p k == posR bs lab.data.toList z2 p k) = true := by simp
                go_wp2_with fail
                refine (at_any _ gc bs _ _ _ hC).mono ?_
                rintro e w9 ⟨rfl, rfl⟩
                go_wp2_with fail
                refine (lives04_any _).mono ?_
                rintro e w10 ⟨rfl, hx10⟩
                go_wp2
                go_ret
                exact ⟨rfl, hxw.trans hx10⟩
end Go.Proofs.Ytjgpdimhgcacgaa
