/- the law's lists of amounts: contract. -/
import Derived.Test.YtbcjikiakanncaaBo3
import Derived.Deep.RegionHeld3
import Derived.Deep.DeepCutAuto
namespace Go.Proofs.Ytbcjikiakanncaa
open Go.RowKit
set_option linter.unusedVariables false

set_option maxRecDepth 100000 in
set_option maxHeartbeats 8000000 in
theorem amounts3_any (v0 : Value) (raw : List Amt) (v : Value) (zs : List Int) (n : Int) (w : World) (hn : inI64 n) (h0 : RdA w v0 raw) (hr0 : AmtsOk raw) (h : Rd w v (vis zs)) (hz : ∀ z ∈ zs, inI64 z) :
    Calls Try.prog 29 #[v0, v, .int .i64 n] w fun e w' => ∃ v' L, e = .returned v' ∧ Mats w' v' L ∧ (∀ i, i < 3 → AmtsOk (L i)) ∧ Ext w w' := by
  obtain ⟨mx, hmx1, hmx2, hmx⟩ : ∃ mx : Int, 1 ≤ mx ∧ mx ≤ 9223372036854775807 ∧ (if n < 1 then (1 : Int) else n) = mx := ⟨_, by split <;> omega, by obtain ⟨_, hn2⟩ := hn; split <;> omega, rfl⟩
  obtain ⟨A, c, rfl, a1, a2, a3⟩ := h0.form
  obtain ⟨mn, hmn1, hmn2, hmn⟩ : ∃ mn : Nat, mn ≤ raw.length ∧ mn ≤ 6 ∧ (if (6 : Int) < (raw.length : Int) then (6 : Int) else (raw.length : Int)) = (mn : Int) := by
    by_cases hh : (6 : Int) < (raw.length : Int)
    · exact ⟨6, by omega, by omega, by rw [if_pos hh]; rfl⟩
    · exact ⟨raw.length, by omega, by omega, by rw [if_neg hh]⟩
  have hsrc := h0.srcTake hmn1
  have hfl : AmtsOk (raw.take mn) := amtsOk_take hr0 mn
  have hmc : (mn : Int) ≤ (c : Int) := by omega
  have hm0 : (0 : Int) ≤ (mn : Int) := by omega
  obtain ⟨B, d, rfl, -⟩ := id h
  obtain ⟨-, b1, b2, b3⟩ := h.at
  simp only [vis_len, maxLen] at *
  generalize raw.take mn = few at *
  have hnone : A = none → raw.length = 0 := fun hA => by
    rcases Nat.eq_zero_or_pos raw.length with h' | h'
    · exact h'
    · obtain ⟨bb, off, he, -⟩ := a3 h'
      rw [hA] at he; cases he
  have hmz : A = none → mn = 0 := fun hA => by have := hnone hA; omega
  clear h0 hr0 a3 hmn1
  go_enter Try.func29, Try.ntmps29
  rcases A with _ | ad
  case' none =>
    have hl0 := hnone rfl
    have hm00 := hmz rfl
    subst hm00
    clear hnone hmz
  case' some => clear hnone hmz
  all_goals
    go_wp2_with (at_builtin; refine wpList_appA2 _ rfl (.tmp 12) (.tmp 17) rfl w.heap.size _ [] rfl (OwnA.nil _ _) _ _ _ few rfl hsrc ?_ (Nat.le_refl _) ?_; (simp <;> omega); intro v7 w1 ho7 hg7 _)
    rw [List.nil_append] at ho7
    have hx1 : Ext w w1 := (Ext.refl w).grown hg7 (fun k e => by cases e)
    have hr7 := ho7.rd
    have hs1 := hx1.size
    obtain ⟨A7, m7, c7, rfl⟩ : ∃ A m c, v7 = .slice A m c := by obtain ⟨A, c, h, -⟩ := hr7; exact ⟨_, _, _, h⟩
    clear ho7 hg7 hsrc
    go_wp2_with fail
    go_loopw [8, 9, 10] (fun x8 x9 x10 wr => ∃ (i : Nat) (M T : List Amt), x10 = .int .i64 i ∧ i ≤ 13 ∧ M.length ≤ i ∧ T.length ≤ i ∧ OwnA wr w1.heap.size x8 M ∧ OwnA wr w1.heap.size x9 T ∧ Hid (AmtsOk M) ∧ Hid (AmtsOk T) ∧ SepA x8 x9 ∧ Ext w1 wr) (fun _ _ x10 _ => 14 - (intOf x10).toNat)
    case atStart => exact ⟨0, [], [], rfl, by omega, by simp, by simp, OwnA.nil _ _, OwnA.nil _ _, Lib.hid (by intro p hp; cases hp), Lib.hid (by intro p hp; cases hp), sepA_nil _, Ext.refl _⟩
    case round =>
      obtain ⟨i, M, T, rfl, hi13, hMl, hTl, hM, hT, HM, HT, hsep, hxr⟩ := hrel
      have hsz := hxr.size
      by_cases hin : i + 1 < zs.length ∧ i < 12
      · obtain ⟨hin1, hin2⟩ := hin
        obtain ⟨b, off, rfl, hc⟩ := b3 (by omega)
        have c1 := hc wr (hx1.trans hxr) i (.int .i64 zs[i]) (by simp [vis] <;> omega)
        have c2 := hc wr (hx1.trans hxr) (i + 1) (.int .i64 zs[i + 1]) (by simp [vis] <;> omega)
        have hz1 := hz zs[i] (by simp)
        have hz2 := hz zs[i + 1] (by simp)
        generalize zs[i] = p at *
        generalize zs[i + 1] = q at *
        have i0 : (0 : Int) ≤ i := by omega
        have i1 : (i : Int) + 1 < zs.length := by omega
        have i2 : (i : Int) < 12 := by omega
        have d1 : decide ((i : Int) + 1 < zs.length) = true := decide_eq_true i1
        have d2 : decide ((i : Int) < 12) = true := decide_eq_true i2
        clear hc b3 hz
        go_upto_region 6 with fail
        have i3 : (i : Int) < (zs.length : Int) := by omega
        have hwj0 : IntKind.i64.wrap ((i : Int) + 1) = ((i + 1 : Nat) : Int) := by rw [IntKind.wrap_i64] <;> omega
        obtain ⟨j, hj⟩ : ∃ j : Nat, j = i + 1 := ⟨_, rfl⟩
        rw [← hj] at c2 hwj0
        have j0 : (0 : Int) ≤ (j : Int) := by omega
        have j1 : (j : Int) < (zs.length : Int) := by omega
        have HJ := Lib.hid hj
        clear hj i1 d1 d2
        have hqb0 := Int.emod_nonneg q (show (1099511627776 : Int) ≠ 0 by omega)
        have hqb1 := Int.emod_lt_of_pos q (show (0 : Int) < 1099511627776 by omega)
        have hpb0 := Int.emod_nonneg p (show mx ≠ 0 by omega)
        have hpb1 := Int.emod_lt_of_pos p (show 0 < mx by omega)
        obtain ⟨gx, hgx⟩ : ∃ gx, gx = wr.heap.size := ⟨_, rfl⟩
        go_cut [11] (fun x11 wx => x11 = .pointer (some ⟨gx, 0, none⟩) ∧ Blk wx gx 75 [.int .i64 (p % mx), .int .i64 (IntKind.i64.wrap (1 + q % 1099511627776))] ∧ Ext wr wx)
        case first =>
          go_region_held3 (fun w' => w'.cell? ⟨b, off + i, none⟩ = some (.int .i64 p) ∧ w'.cell? ⟨b, off + j, none⟩ = some (.int .i64 q))
            (first
              | go_keep)
            (first
              | (go_at_call 12; with_reducible refine (around3w_any p mx _ hz1 hmx1 hmx2).mono ?_; rintro e w5 ⟨rfl, rfl⟩)
              | (go_at_call 12; with_reducible refine (around3w_any q 1099511627776 _ hz2 (by omega) (by omega)).mono ?_; rintro e w5 ⟨rfl, rfl⟩))
          all_goals
            go_wp2_with fail
            go_meet
            exact ⟨by rw [hgx], by rw [hgx]; first | exact (Blk.new wr _ _).ext (Ext.refl _).drew | exact Blk.new wr _ _, by first | exact ((Ext.refl wr).alloc _).drew | exact (Ext.refl wr).alloc _⟩
        case rest =>
          obtain ⟨rfl, hbx, hxx⟩ := hcut
          have hP : inI64 (p % mx) := ⟨by omega, by omega⟩
          have hY : inI64 (IntKind.i64.wrap (1 + q % 1099511627776)) := by rw [IntKind.wrap_i64]; exact ⟨by omega, by omega⟩
          generalize p % mx = P at *
          generalize IntKind.i64.wrap (1 + q % 1099511627776) = Y at *
          have c2 := hxx.cell c2
          have hxy := hxr.trans hxx
          have hM1 := hM.ext hxx
          have hT1 := hT.ext hxx
          have hN8 : Hid (∀ k, u8.ownBlock = some k → k < gx) := Lib.hid (fun k hk => by have := (hM.lt k hk).2; omega)
          have hN9 : Hid (∀ k, u9.ownBlock = some k → k < gx) := Lib.hid (fun k hk => by have := (hT.lt k hk).2; omega)
          have hqt1 : -3 < q.tmod 3 := by have := Int.tmod_lt_of_pos (-q) (show (0 : Int) < 3 by omega); rw [Int.neg_tmod] at this; omega
          have hqt2 : q.tmod 3 < 3 := Int.tmod_lt_of_pos q (by omega)
          have f1 := hbx.frozen 1
          have cw1 := hbx.cell 1
          simp only [List.getElem?_cons_succ, List.getElem?_cons_zero] at cw1
          have hgx1 : w1.heap.size ≤ gx := by omega
          have hgx2 := hbx.lt
          have HP := Lib.hid hP
          clear hM hT hgx hxx c1 hP
          by_cases h3 : q.tmod 3 = 0
          case' pos =>
            have h3b : (q.tmod 3 == 0) = true := by simp [h3]
            have hq90 := Int.emod_nonneg q (show (9 : Int) ≠ 0 by omega)
            have hq91 := Int.emod_lt_of_pos q (show (0 : Int) < 9 by omega)
            go_upto_region 9 with ((with_reducible refine (around3w_any q 9 _ hz2 (by omega) (by omega)).mono ?_); rintro e w5 ⟨rfl, rfl⟩)
            have hby := hbx.set 1 (.int .i64 (1 + q % 9))
            have hxz : Ext w1 (wc.setCell ⟨gx, 1, none⟩ (.int .i64 (1 + q % 9))) := hxy.setCell (p := ⟨gx, 1, none⟩) hgx1 _
            have hM2 : OwnA (wc.setCell ⟨gx, 1, none⟩ (.int .i64 (1 + q % 9))) w1.heap.size u8 M := World.ownsRow.kept hM1 (Chg.set gx 1 _ _) (by
              cases hv : u8.ownBlock with
              | none => exact .inl rfl
              | some k => exact .inr (fun e => by injection e with e; have := hN8.out k hv; omega))
            have hT2 : OwnA (wc.setCell ⟨gx, 1, none⟩ (.int .i64 (1 + q % 9))) w1.heap.size u9 T := World.ownsRow.kept hT1 (Chg.set gx 1 _ _) (by
              cases hv : u9.ownBlock with
              | none => exact .inl rfl
              | some k => exact .inr (fun e => by injection e with e; have := hN9.out k hv; omega))
            simp only [List.set_cons_succ, List.set_cons_zero] at hby
            have hYY : inI64 (1 + q % 9) := ⟨by omega, by omega⟩
            have hgx3 : gx < (wc.setCell ⟨gx, 1, none⟩ (.int .i64 (1 + q % 9))).heap.size := hby.lt
            clear hbx hxy hM1 hT1 hY hgx2 f1 cw1 c2 Y
            generalize wc.setCell ⟨gx, 1, none⟩ (.int .i64 (1 + q % 9)) = wy at *
            generalize 1 + q % 9 = Y at *
            clear hq90 hq91
          case' neg =>
            have h3b : (q.tmod 3 == 0) = false := by simp [h3]
            go_upto_region 9 with fail
            have hby := hbx
            have hxz := hxy
            have hM2 := hM1
            have hT2 := hT1
            have hYY := hY
            have hgx3 := hgx2
            clear hbx hxy hM1 hT1 hY hgx2 f1 cw1 c2
            generalize wc = wy at *
          all_goals
            have HYY := Lib.hid hYY
            have cb0 := hby.cell 0
            have cb1 := hby.cell 1
            simp only [List.getElem?_cons_succ, List.getElem?_cons_zero] at cb0 cb1
            clear h3 h3b hqt1 hqt2 hYY
            go_upto_region 10 with (at_builtin; refine wpList_appA2 _ rfl (.tmp 60) (.tmp 62) rfl w1.heap.size _ M rfl (hM2.ext ((Ext.refl _).alloc _)) _ 1 1 [(P, Y)] rfl ⟨rfl, .inr ⟨_, rfl, newsA wy _ rfl [(P, Y)] _⟩⟩ ?_ ?_ ?_; (omega); (simp; have := hxz.size; omega); intro v8 wz hoM hg8 hv8)
            have hxa : Ext wy (wy.alloc (.cells (cells2 [(P, Y)]).toArray 75)) := (Ext.refl wy).alloc _
            have hTa := (hT2.ext hxa).of_grown hg8 hsep
            have hsep8 := sepA_grown (hT2.ext hxa) hv8 hsep
            have hbz : Blk wz gx 75 [.int .i64 P, .int .i64 Y] := (World.grownBy.block hg8 gx (hby.ext hxa).lt (fun e => by have := hN8.out gx e.symm; omega)).trans (hby.ext hxa)
            have hxzz : Ext w1 wz := (hxz.trans hxa).grown hg8 (fun k e => (hM2.lt k e).1)
            have hMs : (M ++ [(P, Y)]).length ≤ i + 1 := by simp; omega
            have HMN : Hid (AmtsOk (M ++ [(P, Y)])) := Lib.hid (amtsOk_snoc HM.out HP.out HYY.out)
            have HTN : Hid (AmtsOk (T ++ [(P, Y)])) := Lib.hid (amtsOk_snoc HT.out HP.out HYY.out)
            clear hby cb0 cb1 hxz hM2 hT2 hxa hg8 hv8 hsep HM
            have cb0 := hbz.cell 0
            have cb1 := hbz.cell 1
            simp only [List.getElem?_cons_succ, List.getElem?_cons_zero] at cb0 cb1
            go_cut [78] (fun x78 wx => (∃ t : Bool, x78 = .bool t) ∧ Ext wz wx)
            case first =>
              obtain ⟨A9, c9, rfl, t1, t2, t3⟩ := hTa.rd.form
              by_cases ht : T.length = 0
              · have htb : ((T.length : Int) == 0) = true := by simp [ht]
                clear t3 ht
                go_wp2
                go_quiet (fail)
                go_wp2_with fail
                go_meet
                exact ⟨⟨_, rfl⟩, by first | exact (Ext.refl _).drew | exact (Ext.refl _).drewN _⟩
              · have htb : ((T.length : Int) == 0) = false := beq_eq_false_iff_ne.2 (by omega)
                obtain ⟨b9, off9, rfl, hc9⟩ := t3 (by omega)
                obtain ⟨m9, hm9⟩ : ∃ m : Nat, T.length = m + 1 := ⟨T.length - 1, by omega⟩
                obtain ⟨e1, -⟩ := hc9 wz (Ext.refl _) m9 (by omega)
                have hw9 : IntKind.i64.wrap ((T.length : Int) - 1) = (m9 : Int) := by rw [IntKind.wrap_i64]; omega
                have m90 : (0 : Int) ≤ (m9 : Int) := by omega
                have m91 : (m9 : Int) < (T.length : Int) := by omega
                generalize (T[m9]'(by omega)).1 = z at *
                clear hc9 t3 ht hm9
                go_wp2
                go_quiet (fail)
                go_wp2_with fail
                go_meet
                exact ⟨⟨_, rfl⟩, by first | exact (Ext.refl _).drew | exact (Ext.refl _).drewN _⟩
            case rest =>
              obtain ⟨⟨t, rfl⟩, hxq⟩ := hcut
              have hoM := hoM.ext hxq
              have hTa := hTa.ext hxq
              have cb0 := hxq.cell cb0
              have cb1 := hxq.cell cb1
              have hxzz := hxzz.trans hxq
              clear hxq hbz
              cases t with
              | false =>
                go_wp2_with fail
                go_roundw
                case rel => exact ⟨i + 2, _, T, by go_num, by omega, by omega, by omega, hoM, hTa, HMN, HT, hsep8, hxzz⟩
                case measure => simp [intOf]; omega
              | true =>
                obtain ⟨wq, hwq⟩ : ∃ W : World, W = wc := ⟨_, rfl⟩
                rw [← hwq] at hoM hTa cb0 cb1 hxzz ⊢
                clear hwq
                go_wp2_with (at_builtin; refine wpList_appA2 _ rfl (.tmp 79) (.tmp 81) rfl w1.heap.size _ T rfl (hTa.ext ((Ext.refl _).alloc _)) _ 1 1 [(P, Y)] rfl ⟨rfl, .inr ⟨_, rfl, newsA wq _ rfl [(P, Y)] _⟩⟩ ?_ ?_ ?_; (omega); (simp; have := hxzz.size; omega); intro v9 wv hoT hg9 hv9)
                have hxa : Ext wq (wq.alloc (.cells (cells2 [(P, Y)]).toArray 75)) := (Ext.refl wq).alloc _
                have hMa := (hoM.ext hxa).of_grown hg9 hsep8.symm
                have hsep9 := (sepA_grown (hoM.ext hxa) hv9 hsep8.symm).symm
                have hxv : Ext w1 wv := (hxzz.trans hxa).grown hg9 (fun k e => (hTa.lt k e).1)
                clear hg9 hv9 hoM hTa hxa hsep8
                go_roundw
                case rel => exact ⟨i + 2, _, _, by go_num, by omega, by omega, (by simp; omega), hMa, hoT, HMN, HTN, hsep9, hxv⟩
                case measure => simp [intOf]; omega
      · have hr8 := hM.rd
        have hr9 := hT.rd
        obtain ⟨A8, m8, c8, rfl⟩ : ∃ A m c, u8 = .slice A m c := by obtain ⟨A, c, h, -⟩ := hr8; exact ⟨_, _, _, h⟩
        obtain ⟨A9, m9, c9, rfl⟩ : ∃ A m c, u9 = .slice A m c := by obtain ⟨A, c, h, -⟩ := hr9; exact ⟨_, _, _, h⟩
        have HMT := Lib.hid (Mats.mk wr few M T _ _ _ (hr7.ext hxr) hr8 hr9)
        have HOK := Lib.hid (matsOk hfl HM.out HT.out)
        have hxF := (hx1.trans hxr).alloc (.cells #[.slice A7 m7 c7, .slice A8 m8 c8, .slice A9 m9 c9] 46)
        have hcases : (i + 1 < zs.length ∧ ¬ (i : Int) < 12) ∨ ¬ i + 1 < zs.length := by omega
        clear hin b3 hM hT hr8 hr9 hz hsep
        rcases hcases with ⟨q1, q2⟩ | q1
        · have i1 : (i : Int) + 1 < zs.length := by omega
          have d1 : decide ((i : Int) + 1 < zs.length) = true := decide_eq_true i1
          have d2 : decide ((i : Int) < 12) = false := decide_eq_false q2
          go_wp2
          go_ret
          exact ⟨_, rfl, _, HMT.out, HOK.out, hxF⟩
        · have i1 : ¬ (i : Int) + 1 < zs.length := by omega
          have d1 : decide ((i : Int) + 1 < zs.length) = false := decide_eq_false i1
          go_wp2
          go_ret
          exact ⟨_, rfl, _, HMT.out, HOK.out, hxF⟩
end Go.Proofs.Ytbcjikiakanncaa
