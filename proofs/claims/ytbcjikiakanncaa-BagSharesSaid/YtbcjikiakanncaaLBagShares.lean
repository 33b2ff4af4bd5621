/- BagShares: the walk of the law. -/
import Derived.Test.YtbcjikiakanncaaBs1
import Derived.Test.YtbcjikiakanncaaBb1
import Derived.Test.YtbcjikiakanncaaHc4
import Derived.Deep.RegionHeld3
namespace Go.Proofs.Ytbcjikiakanncaa
open Go.RowKit
set_option linter.unusedVariables false

theorem own_cellAt {w : World} {base g n cap : Nat} {e : TypeId} {vs : List Value} (h : Own w base e (.slice (some ⟨g, 0, none⟩) n cap) vs) (w' : World) (hx : Ext w w') (p : Nat) (v : Value) (hp : vs[p]? = some v) : w'.cell? ⟨g, p, none⟩ = some v := by
  have hn : n = vs.length := by
    rcases h.2 with ⟨h0, -⟩ | ⟨g', cap', cur, hv, -⟩
    · cases h0
    · injection hv with _ e2 _
  subst hn
  have hl : 0 < vs.length := by
    cases vs with
    | nil => simp at hp
    | cons => simp
  obtain ⟨g', cap', hv, -, -, hc, -, -⟩ := h.at hl
  injection hv with e1 _ _
  injection e1 with e1
  injection e1 with e1
  subst e1
  exact hc w' hx p v hp
theorem intR_bag {l : List Int} (h : isB l = true) : (intR (.ok (bagW l))).1 = l.length := by
  unfold bagW
  rw [if_pos h, intR_uvar _ _ (by have := isB_len h; unfold inI64; omega)]
theorem intR_bag' {l : List Int} {k : Nat} (h : isB l = true) (hl : l.length = k) : (intR (.ok (bagW l))).1 = (k : Int) := by rw [intR_bag h, hl]

theorem bagW_lenS (b : List Int) : (bagW b).length ≤ 1400 := by
  unfold bagW
  split
  · rename_i h
    have hl := isB_len h
    have h1 := uvar_len10 (zig b.length) (zig_range _ (by unfold inI64; omega)).2
    have h2 := amtsB_len b
    have h3 := uvar_len10 (zig (amtsB b).length) (zig_range _ (by unfold inI64; omega)).2
    have h4 := pairsW_len (amtsB b) (amtsB_ok b)
    simp only [List.length_append]
    omega
  · simp

set_option maxRecDepth 100000 in
set_option maxHeartbeats 16000000 in
theorem BagShares_law (w : World) (n : Int) (hn : inI64 n) (v1 : Value) (z1 : List Int) (h1 : Rd w v1 (vis z1)) (hz1 : ∀ n ∈ z1, inI64 n) (v2 : Value) (z2 : List Int) (h2 : Rd w v2 (vis z2)) (hz2 : ∀ n ∈ z2, inI64 n) (turn : Int) (hturn : inI64 turn) :
    Calls Try.prog 3 #[.int .i64 n, v1, v2, .int .i64 turn] w fun e w' => e = .returned (.bool true) ∧ Ext w w' := by
  obtain ⟨j0, hj, hy0, hy1, hy2⟩ := info_parts info_isl
  have k0 := Int.emod_nonneg n (show (6 : Int) ≠ 0 by omega)
  have k1 := Int.emod_lt_of_pos n (show (0 : Int) < 6 by omega)
  obtain ⟨kk, hkk⟩ : ∃ kk : Nat, 1 + n % 6 = (kk : Int) := ⟨(1 + n % 6).toNat, by omega⟩
  have hkk1 : 1 ≤ kk := by omega
  have hkk6 : kk ≤ 6 := by omega
  go_enter Try.func3, Try.ntmps3
  go_wp2_with fail
  refine (around3_any n 6 _ hn (by omega) (by omega)).mono ?_
  rintro e w1 ⟨rfl, rfl⟩
  go_wp2_with fail
  clear k0 k1 hkk
  refine (bag_any kk v1 z1 0 _ (by omega) h1 hz1 (by omega)).mono ?_
  rintro e w1 ⟨va, a, rfl, hoa, hal, hab, hx1⟩
  go_wp2_with fail
  refine (weights_any v2 z2 _ (h2.ext hx1) hz2).mono ?_
  rintro e w2 ⟨vw, ws, rfl, how, hwok, hx2⟩
  have ra := hoa.rd.ext hx2
  have rw2 := how.rd
  have hxw := hx1.trans hx2
  have HAL := Lib.hid hal
  have HAB := Lib.hid hab
  have HW := Lib.hid hwok
  have hP1 : 1 ≤ ws.length := by
    rcases Nat.eq_zero_or_pos ws.length with h | h
    · have := hwok.pos
      rw [List.eq_nil_of_length_eq_zero h] at this
      simp [totS] at this
    · exact h
  have hP7 := hwok.len
  clear hoa how hwok hal hab hx1 hx2 h1 hz1 h2 hz2
  obtain ⟨Aw, cw, hvw, -⟩ := id rw2
  rw [vis_len] at hvw
  subst hvw
  obtain ⟨Aa, ca, hva, -⟩ := id ra
  rw [vis_len, HAL.out] at hva
  subst hva
  obtain ⟨W2, hW2⟩ : ∃ W, W = w2 := ⟨_, rfl⟩
  rw [← hW2] at ra rw2 hxw ⊢
  clear hW2
  go_wp2_with fail
  go_loopw [12, 13] (fun x12 x13 wr => ∃ (p : Nat) (vs : List Value), p ≤ ws.length ∧ x13 = .int .i64 p ∧ vs.length = p ∧ Mat wr W2.heap.size kk x12 vs (fun _ => List.replicate kk 0) ∧ Ext W2 wr) (fun _ x13 _ => ws.length - (intOf x13).toNat)
  case atStart => exact ⟨0, [], by omega, rfl, rfl, Mat.nil _ _ _ _, Ext.refl _⟩
  case round =>
    obtain ⟨p, vs, hp, rfl, hvl, hm, hxr⟩ := hrel
    have hsz := hxr.size
    by_cases hlt : p < ws.length
    · have hpz : (p : Int) < (ws.length : Int) := by omega
      have HVL := Lib.hid hvl
      have hvl7 : vs.length ≤ 7 := by omega
      clear hvl
      go_wp2_with fail
      refine (zero_any kk _ (by omega)).mono ?_
      rintro e w3 ⟨nv, rfl, hon, hx3⟩
      obtain ⟨An, cn, hvn, hAn⟩ := hon.form'
      rw [vis_len, List.length_replicate] at hvn hAn
      subst hvn
      obtain ⟨gn, rfl⟩ := hAn (by omega)
      have hm3 := hm.ext hx3
      have hs3 := hx3.size
      go_wp2_with (at_builtin; refine wpList_app _ rfl (.tmp 37) (.tmp 40) _ rfl W2.heap.size 22 j0 _ 24 Try.underlying26 hj hy0 hy1 hy2 rfl (by omega) _ vs rfl (hm3.own.ext ((Ext.refl _).alloc _)) (some ⟨w3.heap.size, 0, none⟩) 1 1 [.slice (some ⟨gn, 0, none⟩) kk cn] rfl (Src.one _ _ _) ?_ ?_ ?_ ?_; (simp [Value.oneCell']); (omega); (simp; omega); intro v3 w4 ho4 hg4 hv4)
      have hmn := Mat.snoc hm3 hx3 hsz hm hon ⟨_, _, rfl⟩ (by simp) hg4 hv4 ho4
      have hxn : Ext W2 w4 := Ext.app (hxr.trans hx3) (Ext.refl W2) hm3.own hg4
      clear hm hm3 hon hg4 hv4 ho4
      go_roundw
      case rel => exact ⟨p + 1, _, by omega, by go_num, by simp [HVL.out], hmn, hxn⟩
      case measure => simp [intOf]; omega
    · have hpe : p = ws.length := by omega
      have hpz : ¬ (p : Int) < (ws.length : Int) := by omega
      rw [hpe] at hvl
      have HVL := Lib.hid hvl
      have hm2 := hm.congr (M' := rowM [] kk) (fun q _ => rowM_nil kk q)
      obtain ⟨Ap, cp, hvp, hAp⟩ := hm2.own.form'
      rw [hvl] at hvp hAp
      subst hvp
      obtain ⟨gp, rfl⟩ := hAp (by omega)
      obtain ⟨ba, oa, rfl, hca⟩ := ra.cellAt (by rw [HAL.out]; omega)
      have HCA := Lib.hid hca
      have HX0 : Hid (GoodX a ws.length []) := Lib.hid (fun j x h => by simp at h)
      clear hm hvl hpe hca hlt hp
      go_wp2_with fail
      go_loopw [14] (fun x14 wr => ∃ (i : Nat) (Xs : List (List Int)), i ≤ kk ∧ x14 = .int .i64 i ∧ Xs.length = i ∧ Hid (GoodX a ws.length Xs) ∧ Mat wr W2.heap.size kk (.slice (some ⟨gp, 0, none⟩) ws.length cp) vs (rowM Xs kk) ∧ Ext W2 wr) (fun x14 _ => kk - (intOf x14).toNat)
      case atStart => exact ⟨0, [], by omega, rfl, rfl, HX0, hm2, hxr⟩
      case round =>
        obtain ⟨i, Xs, hi, rfl, hXl, HG, hmi, hxi⟩ := hrel
        obtain ⟨wo, rfl⟩ : ∃ wo : World, wo = wr := ⟨_, rfl⟩
        clear hm2 hxr HX0
        have HXL := Lib.hid hXl
        by_cases hik : i < kk
        · have hiz : (i : Int) < (kk : Int) := by omega
          have hia : i < a.length := by rw [HAL.out]; exact hik
          have ci := HCA.out wo hxi i hia
          have hai := isB_get HAB.out i hia
          have HGD : Hid (a[i] = a.getD i 0) := Lib.hid (getD_of hia).symm
          obtain ⟨ai0, ai1⟩ := hai
          generalize a[i] = y at *
          go_wp2_with fail
          refine (split_any y _ ws _ (rw2.ext hxi) HW.out.i64 (by omega)).mono ?_
          rintro e w5 ⟨vx, x, c, rfl, hans, hox, hx5⟩
          obtain ⟨rfl, hsp⟩ := hans.ok ai0 ai1 HW.out.amt HW.out.pos
          obtain ⟨got, hat⟩ := hsp.at HW.out.pos
          have hxl := hsp.len
          have hnn := hat.nonneg hxl ai0 (fun z hz => (HW.out.amt z hz).1) HW.out.pos
          have HGN : Hid (GoodX a ws.length (Xs ++ [x])) := Lib.hid (HG.out.snoc hxl (fun z hz => (hnn z hz).1) (by rw [hat.sum, HGD.out, HXL.out]))
          have HXLEN := Lib.hid hxl
          have HLT : Hid (∀ (q : Nat) (v : Value), vs[q]? = some v → ∀ g, v.ownBlock = some g → g < wo.heap.size) := Lib.hid (fun q v hq g hg => ((hmi.row q v hq).2.1.lt g hg).2)
          have hrx := hox.rd
          have hm5 := hmi.ext hx5
          have hxi5 := hxi.trans hx5
          obtain ⟨Ax, cx, hvx, -⟩ := id hrx
          rw [vis_len, hxl] at hvx
          subst hvx
          obtain ⟨bx, ox, rfl, hcx⟩ := hrx.cellAt (by rw [hxl]; omega)
          have hbx := hox.lt bx rfl
          have HCX := Lib.hid hcx
          clear hans hsp hat hnn hxl hox hx5 hrx hcx hmi hxi
          obtain ⟨W5, hW5⟩ : ∃ W, W = w5 := ⟨_, rfl⟩
          rw [← hW5] at hm5 hxi5 HCX hbx ⊢
          clear hW5
          go_wp2_with fail
          go_loopw [17] (fun x17 wr => ∃ p : Nat, p ≤ ws.length ∧ x17 = .int .i64 p ∧ Mat wr W2.heap.size kk (.slice (some ⟨gp, 0, none⟩) ws.length cp) vs (fun q => if q < p then rowM (Xs ++ [x]) kk q else rowM Xs kk q) ∧ Ext W2 wr ∧ Span wo.heap.size W5.heap.size W5 wr) (fun x17 _ => ws.length - (intOf x17).toNat)
          case atStart => exact ⟨0, by omega, rfl, hm5.congr (fun q _ => by rw [if_neg (by omega)]), hxi5, fun _ _ _ => rfl⟩
          case round =>
            obtain ⟨p, hp, rfl, hmp, hxp, hsp⟩ := hrel
            clear hm5 hxi5
            by_cases hpl : p < ws.length
            · have hpz : (p : Int) < (ws.length : Int) := by omega
              have hpx : p < x.length := by rw [HXLEN.out]; exact hpl
              obtain ⟨v, hv⟩ : ∃ v, vs[p]? = some v := ⟨vs[p]'(by rw [HVL.out]; exact hpl), List.getElem?_eq_getElem _⟩
              obtain ⟨⟨g, cg, rfl⟩, -, -⟩ := hmp.row p v hv
              have c1 := own_cellAt hmp.own wr (Ext.refl _) p _ hv
              have cx0 := HCX.out W5 (Ext.refl _) p hpx
              have c2 : wr.cell? ⟨bx, ox + p, none⟩ = some (.int .i64 x[p]) := (World.cell?_of_block (hsp bx hbx.1 hbx.2)).trans cx0
              have hgl := HLT.out p _ hv g rfl
              obtain ⟨⟨u, c3⟩, f3, hg2, hst⟩ := hmp.store (y := x[p]) hv hik
              have hgb : g ≠ bx := by omega
              have hmn : Mat (wr.setCell ⟨g, i, none⟩ (.int .i64 x[p])) W2.heap.size kk (.slice (some ⟨gp, 0, none⟩) ws.length cp) vs (fun q => if q < p + 1 then rowM (Xs ++ [x]) kk q else rowM Xs kk q) := hst.congr (fun q hq => by
                by_cases e : q = p
                · subst e
                  rw [if_pos (by omega), if_pos rfl, if_neg (by omega), ← rowM_set Xs x kk q (by rw [HXL.out]; exact hik), HXL.out, getD_of hpx]
                · rw [if_neg e]
                  by_cases e2 : q < p
                  · rw [if_pos e2, if_pos (by omega)]
                  · rw [if_neg e2, if_neg (by omega)])
              have HMN := Lib.hid hmn
              have HXN := Lib.hid (hxp.setCell (p := ⟨g, i, none⟩) hg2 (.int .i64 x[p]))
              have HSN : Hid (Span wo.heap.size W5.heap.size W5 (wr.setCell ⟨g, i, none⟩ (.int .i64 x[p]))) := Lib.hid (hsp.trans (fun k hk1 hk2 => Below.heap_setCell wr _ _ k (by simp; omega)))
              have i0 : (0 : Int) ≤ (i : Int) := by omega
              have p0 : (0 : Int) ≤ (p : Int) := by omega
              clear hmn hst hmp hxp hsp cx0
              generalize x[p] = y at *
              go_wp2_with fail
              go_region
              all_goals
                go_wp2_with fail
                go_roundw
                case rel => exact ⟨p + 1, by omega, by go_num, by first | exact HMN.out | exact HMN.out.ext ((Ext.refl _).drew) | exact HMN.out.ext ((Ext.refl _).drewN _), by first | exact HXN.out | exact HXN.out.drew | exact HXN.out.drewN _, HSN.out⟩
                case measure => simp [intOf]; omega
            · have hmf := hmp.congr (M' := rowM (Xs ++ [x]) kk) (fun q hq => by rw [if_pos (by rw [HVL.out] at hq; omega)])
              clear hmp
              go_wp2_with fail
              go_roundw
              case rel => exact ⟨i + 1, Xs ++ [x], by omega, by go_num, by simp [HXL.out], HGN, hmf, hxp⟩
              case measure => simp [intOf]; omega
        · have hie : i = kk := by omega
          have hXf : Xs.length = kk := by omega
          have hXa : Xs.length = a.length := by rw [HAL.out]; exact hXf
          have HXF := Lib.hid hXf
          have HXA := Lib.hid hXa
          have hiz : ¬ (i : Int) < (kk : Int) := by omega
          clear hXl hXf hXa hie hik hi
          go_wp2_with fail
          refine (zero_any kk _ (by omega)).mono ?_
          rintro e w6 ⟨vz, rfl, hoz, hx6⟩
          have rz := hoz.rd
          have hm6 := hmi.ext hx6
          have hxi6 := hxi.trans hx6
          have hz0 : (0 : Int) ≤ turn % (ws.length : Int) := Int.emod_nonneg _ (by omega)
          have hz1 : turn % (ws.length : Int) < (ws.length : Int) := Int.emod_lt_of_pos _ (by omega)
          obtain ⟨tn, htn⟩ : ∃ tn : Nat, turn % (ws.length : Int) = (tn : Int) := ⟨(turn % (ws.length : Int)).toNat, by omega⟩
          have htl : tn < ws.length := by omega
          have HTN := Lib.hid htn
          rw [← HXF.out, ← partS_zero Xs tn] at rz
          clear htn hz0 hz1 hoz hx6 hmi hxi
          go_wp2_with fail
          go_loopw [18, 19] (fun x18 x19 wr => ∃ p : Nat, p ≤ ws.length ∧ x19 = .int .i64 p ∧ Rd wr x18 (vis (partS Xs tn p)) ∧ Ext w6 wr) (fun _ x19 _ => ws.length - (intOf x19).toNat)
          case atStart => exact ⟨0, by omega, rfl, rz, Ext.refl _⟩
          case round =>
            obtain ⟨p, hp, rfl, hrs, hxp⟩ := hrel
            clear rz
            by_cases hpl : p < ws.length
            · have hpz : (p : Int) < (ws.length : Int) := by omega
              have hmod : ((p : Int) + (tn : Int)) % (ws.length : Int) = (((p + tn) % ws.length : Nat) : Int) := by rw [Int.natCast_emod, Int.natCast_add]
              have hrl : (p + tn) % ws.length < ws.length := Nat.mod_lt _ (by omega)
              obtain ⟨v, hv⟩ : ∃ v, vs[(p + tn) % ws.length]? = some v := ⟨vs[(p + tn) % ws.length]'(by rw [HVL.out]; exact hrl), List.getElem?_eq_getElem _⟩
              obtain ⟨v', hv'⟩ : ∃ v, vs[p]? = some v := ⟨vs[p]'(by rw [HVL.out]; exact hpl), List.getElem?_eq_getElem _⟩
              have hmr := hm6.ext hxp
              have c1 := own_cellAt hmr.own wr (Ext.refl _) _ _ hv
              have rv := (hmr.row _ v hv).2.1.rd
              have rv' := (hmr.row _ v' hv').2.1.rd
              rw [rowM_full _ _ _ HXF.out] at rv rv'
              have HAD := Lib.hid (add_parts HG.out HAB.out HXA.out tn p htl hpl)
              have HRB := Lib.hid (row_bag HG.out HAB.out HXA.out p)
              have HCP := Lib.hid (fun W' h => own_cellAt hm6.own W' h _ _ hv')
              have HMOD := Lib.hid hmod
              have hrz : (((p + tn) % ws.length : Nat) : Int) < (ws.length : Int) := by omega
              have hr0 : (0 : Int) ≤ (((p + tn) % ws.length : Nat) : Int) := by omega
              have htn0 : (0 : Int) ≤ (tn : Int) := by omega
              clear hmr hv hv' hmod
              go_wp2_with fail
              refine (around3_any turn ws.length _ hturn (by omega) (by omega)).mono ?_
              rintro e w7 ⟨rfl, rfl⟩
              rw [HTN.out]
              have hmod := HMOD.out
              generalize (p + tn) % ws.length = r at *
              go_wp2_with fail
              refine (add_any _ v _ _ _ hrs rv).mono ?_
              rintro e w7 ⟨vn, rfl, hon, hx7⟩
              rw [HAD.out] at hon ⊢
              have rn := hon.rd
              have hxp7 := hxp.trans hx7
              have rv7 := rv'.ext hx7
              have c7 := HCP.out w7 hxp7
              clear hon hx7 c1 rv rv' hrs HAD hmod HMOD
              go_wp2_with fail
              refine (encodeB_any v' _ _ rv7).mono ?_
              rintro e w8 ⟨ve, rfl, hoe, hx8⟩
              have re := hoe.rd
              have rn8 := rn.ext hx8
              have hxp8 := hxp7.trans hx8
              clear hoe hx8 rn rv7 c7 hxp7
              go_wp2_with fail
              refine (read_any ve _ _ re (by have := bagW_lenS (List.map (fun x => x.getD p 0) Xs); omega)).mono ?_
              rintro e w9 ⟨g, rfl, hg1, hg2, hrd, hx9⟩
              clear re
              go_wp2_with fail
              refine (rint_any _ g _ _ hrd).mono ?_
              rintro e w10 ⟨rfl, -, hc10⟩
              rw [intR_bag' HRB.out (show (List.map (fun x => x.getD p 0) Xs).length = kk by rw [List.length_map, HXF.out])]
              have hx810 : Ext w8 w10 := hc10.ext hx9 hg1
              have rn10 := rn8.ext hx810
              have hxp10 := hxp8.trans hx810
              clear hrd hx9 hc10 hx810 rn8 hxp8
              go_wp2_with fail
              go_roundw
              case rel => exact ⟨p + 1, by omega, by go_num, rn10, hxp10⟩
              case measure => simp [intOf]; omega
            · have hpe : p = ws.length := by omega
              have hpz : ¬ (p : Int) < (ws.length : Int) := by omega
              rw [hpe, partS_end HG.out HXA.out tn] at hrs
              have HPE := Lib.hid hpe
              have raF := ra.ext ((hxi6).trans hxp)
              have hxF := (hxw.trans hxi6).trans hxp
              clear hpe hp hpl
              go_wp2_with fail
              refine (same3_any _ _ a a _ hrs raF).mono ?_
              rintro e w7 ⟨rfl, hx7⟩
              rw [decide_eq_true rfl]
              replace hrs := hrs.ext hx7
              replace raF := raF.ext hx7
              replace hxF := hxF.trans hx7
              clear hx7
              go_wp2_with fail
              refine (encodeB_any _ a _ hrs).mono ?_
              rintro e w8 ⟨ve, rfl, hoe, hx8⟩
              have re := hoe.rd
              replace raF := raF.ext hx8
              replace hxF := hxF.trans hx8
              clear hoe hx8 hrs
              go_wp2_with fail
              refine (bytes_any _ ve (bagW a) _ (by decide) re (by have := bagW_lenS a; omega)).mono ?_
              rintro e w9 ⟨rfl, hx9⟩
              replace raF := raF.ext hx9
              replace hxF := hxF.trans hx9
              clear hx9 re
              go_wp2_with fail
              refine (encodeB_any _ a _ raF).mono ?_
              rintro e w10 ⟨vf, rfl, hof, hx10⟩
              have rf := hof.rd
              replace hxF := hxF.trans hx10
              clear hof hx10 raF
              go_wp2_with fail
              refine (bytes_any _ vf (bagW a) _ (by decide) rf (by have := bagW_lenS a; omega)).mono ?_
              rintro e w11 ⟨rfl, hx11⟩
              replace hxF := hxF.trans hx11
              clear hx11 rf
              generalize bytesI _ (bagW a) = hh at *
              go_wp2_with fail
              refine (lives13_any _).mono ?_
              rintro e w12 ⟨rfl, hx12⟩
              go_wp2
              go_ret
              exact ⟨rfl, hxF.trans hx12⟩
end Go.Proofs.Ytbcjikiakanncaa
