/- DiceTickets: the walk of the law. -/
import Derived.Test.YtjgpdimhgcacgaaDt
import Derived.Test.YtjgpdimhgcacgaaDl
import Derived.Test.YtjgpdimhgcacgaaWq
import Derived.Test.YtjgpdimhgcacgaaWd4
import Derived.Test.YtjgpdimhgcacgaaWc2
namespace Go.Proofs.Ytjgpdimhgcacgaa
open Go.RowKit
set_option linter.unusedVariables false

theorem verify_own (seed label : List UInt8) (p n : Int) : verifyD (commitD seed) seed label p n (rollD seed label n p).1 = ((rollD seed label n p).2.1 == 0) := by
  unfold verifyD; simp
def tik : ByteArray := ⟨#[116, 105, 99, 107, 101, 116]⟩

set_option maxRecDepth 100000 in
set_option maxHeartbeats 8000000 in
theorem DiceTickets_law (w : World) (v1 : Value) (S : List (List UInt8)) (h1 : RdR w v1 S) (at_ : Int) (hat : inI64 at_) (n : Int) (hn : inI64 n) :
    Calls Try.prog 10 #[v1, .int .i64 at_, .int .i64 n] w fun e w' => e = .returned (.bool true) ∧ Ext w w' := by
  obtain ⟨j0, hj, hy0, hy1, hy2⟩ := info_parts info_bslD
  obtain ⟨A, c, rfl, a1, a2, a3⟩ := h1.form
  simp only [maxLen] at a2
  go_enter Try.func10, Try.ntmps10
  go_wp2_with fail
  go_loopw [7, 8] (fun x13 x14 wr => ∃ (k : Nat) (vs : List Value) (Ls : List (List UInt8)), k ≤ S.length ∧ k ≤ 4 ∧ x14 = .int .i64 k ∧ vs.length = k ∧ Bld wr w.heap.size x13 vs Ls ∧ Hid (∀ bs ∈ Ls, bs.length ≤ 12) ∧ Ext w wr) (fun _ x14 _ => S.length - (intOf x14).toNat)
  case atStart => exact ⟨0, [], [], by omega, by omega, rfl, rfl, Bld.nil _ _, Lib.hid (by simp), Ext.refl _⟩
  case round =>
    obtain ⟨k, vs, Ls, hk, hk4, rfl, hvl, hB, HL, hxr⟩ := hrel
    have hsz := hxr.size
    by_cases hin : k < S.length ∧ k < 4
    · obtain ⟨h1', h2'⟩ := hin
      obtain ⟨b, off, rfl, hc⟩ := a3 (by omega)
      obtain ⟨u, cu, ru⟩ := hc wr (hxr) k h1'
      have hd1 : decide (k < S.length) = true := decide_eq_true h1'
      have hd2 : decide ((k : Int) < 4) = true := decide_eq_true (by omega)
      have HVL := Lib.hid hvl
      have hvl4 : vs.length ≤ 4 := by omega
      clear hc hvl
      go_wp2_with fail
      refine (few_any u S[k] 12 _ ru (by omega)).mono ?_
      rintro e w3 ⟨nv, rfl, hon, hx3⟩
      obtain ⟨An, cn, hvn, -⟩ := hon.form'
      rw [vbs_len] at hvn
      subst hvn
      have HLN : Hid (∀ bs ∈ Ls ++ [List.take 12 S[k]], bs.length ≤ 12) := Lib.hid (fun bs hbs => by
        rcases List.mem_append.1 hbs with hbs | hbs
        · exact HL.out bs hbs
        · simp only [List.mem_singleton] at hbs; subst hbs; exact List.length_take_le _ _)
      have hs3 := hx3.size
      have hB3 := hB.ext hx3
      generalize List.take 12 S[k] = nb at *
      go_wp2_with (at_builtin; refine wpList_app _ rfl (.tmp 28) (.tmp 34) _ rfl w.heap.size 22 j0 _ 24 Try.underlying47 hj hy0 hy1 hy2 rfl (by omega) _ vs rfl (hB3.own.ext ((Ext.refl _).alloc _)) (some ⟨w3.heap.size, 0, none⟩) 1 1 [.slice An nb.length cn] rfl (Src.one _ _ _) ?_ ?_ ?_ ?_; (simp [Value.oneCell']); (omega); (simp; omega); intro v3 w4 ho4 hg4 hv4)
      have hBN := Bld.snoc hB hx3 hsz hon hg4 hv4 ho4
      have hxn : Ext w w4 := Ext.app (hxr.trans hx3) (Ext.refl w) hB3.own hg4
      clear hB hB3 hon hg4 hv4 ho4
      go_roundw
      case rel => exact ⟨k + 1, _, _, by omega, by omega, by go_num, by simp [HVL.out], hBN, HLN, hxn⟩
      case measure => simp [intOf]; omega
    · have hLl : Ls.length ≤ 4 := by rw [← hB.len]; omega
      have rl := hB.rdr
      have HLB : Hid (∀ bs ∈ Ls, bs.length ≤ 1000000) := Lib.hid (fun bs hbs => by have := HL.out bs hbs; omega)
      clear hB hvl a3 HL
      have hcases : (k < S.length ∧ ¬ (k : Int) < 4) ∨ ¬ k < S.length := by omega
      clear hin
      rcases hcases with ⟨q1, q2⟩ | q1
      all_goals
        first
          | (have h6 : decide ((k : Int) < 4) = false := decide_eq_false q2
             have h7 : decide (k < S.length) = true := decide_eq_true q1)
          | (have h7 : decide (k < S.length) = false := decide_eq_false q1)
        go_wp2_with fail
        refine (join_any _ Ls _ rl HLB.out (by omega)).mono ?_
        rintro e w6 ⟨vj, rfl, hoj, hx6⟩
        have hxF := hxr.trans hx6
        have hs6 := hx6.size
        have hjl : (joinD Ls).length = 8 := bytesK_len _ _
        generalize joinD Ls = s at *
        have rs := hoj.rd
        clear hoj hx6 rl HLB hxr
        obtain ⟨As, cS, hvs, -⟩ := id rs
        rw [vbs_len] at hvs
        rw [hjl] at hvs
        subst hvs
        go_wp2_with fail
        refine (wraw_any w6.heap.size w6.heap.size [] _ s _ (WAt.new w6) (by simp) (rs.ext ((Ext.refl _).alloc _)) (by omega)).mono ?_
        rintro e w7 ⟨rfl, hW, hb7⟩
        rw [List.nil_append] at hW
        have hx7 : Ext w6 w7 := Below.trans ((Ext.refl w6).alloc _) hb7
        clear hb7
        have hrwl : (rawW s).length ≤ 100 := by
          have := uvar_len10 s.length (by omega)
          unfold rawW; rw [List.length_append]; omega
        go_wp2_with fail
        refine (wint_any _ _ _ at_ _ hat hW (by omega)).mono ?_
        rintro e w8 ⟨rfl, hW, hb8⟩
        have hx8 : Ext w6 w8 := Below.trans hx7 hb8
        clear hb8 hx7
        have hul := uvar_len10 (zig at_) (zig_range at_ hat).2
        go_wp2_with fail
        refine (wdone_any _ _ _ _ hW (by rw [List.length_append]; omega)).mono ?_
        rintro e w9 ⟨vd, rfl, hod, hx9⟩
        have rd := hod.rd
        replace rs := rs.ext (hx8.trans hx9)
        replace hxF := hxF.trans (hx8.trans hx9)
        clear hW hod hx8 hx9
        go_wp2_with fail
        refine (read_any vd _ _ rd (by rw [List.length_append]; omega)).mono ?_
        rintro e w10 ⟨g, rfl, hg1, hg2, hR, hx10⟩
        clear rd
        have hlR := lenR_rawW s (uvar (zig at_)) (by omega)
        have hrR := rawR_rawW s (uvar (zig at_)) (by omega)
        have hiR := intR_uvar at_ [] hat
        rw [List.append_nil] at hiR
        have rs10 := rs.ext hx10
        clear rs10
        go_wp2_with fail
        refine (rraw_any _ g _ _ hR (fun k hk => Nat.lt_trans hk.2 hg2) (fun bs h => by rw [hlR] at h; injection h with h; subst h; rw [List.length_append]; omega)).mono ?_
        rintro e w11 ⟨vt, rfl, hot, hR, hc11⟩
        rw [hrR] at hot hR
        have hx11 : Ext w9 w11 := hc11.ext hx10 hg1
        clear hlR hrR hx10
        go_wp2_with fail
        refine (rint_any _ g _ _ hR).mono ?_
        rintro e w12 ⟨rfl, hR, hc12⟩
        rw [hiR] at hR ⊢
        have hot := hot.chg hc12 (fun e => by have := (hot.lt _ e).1; omega)
        have hx12 : Ext w9 w12 := hc12.ext hx11 hg1
        have rt := hot.rd
        clear hot hiR hx11 hc11 hc12
        go_wp2_with fail
        refine (new_any vt s tik _ rt (by omega)).mono ?_
        rintro e w13 ⟨gd, rfl, hd1, hd2, hD, hx13⟩
        have hR13 := hR.ext hx13
        clear hR
        go_wp2_with fail
        refine (rend_any _ g _ _ hR13).mono ?_
        rintro e w14 ⟨rfl, rfl⟩
        clear hR13
        go_wp2_with fail
        refine (seek_any _ gd s tik 0 at_ _ hD).mono ?_
        rintro e w14 ⟨rfl, hD, hc14⟩
        have hx14 : Ext w12 w14 := hc14.ext hx13 hd1
        clear hx13 hc14
        go_wp2_with fail
        refine (around_any n 1000 _ hn (by omega) (by omega)).mono ?_
        rintro e w15 ⟨rfl, rfl⟩
        have har := around_range n 1000 (by omega)
        generalize around n 1000 = m at *
        go_wp2_with fail
        refine (roll_any _ gd s tik at_ (1 + m) _ hD hat ⟨by omega, by omega⟩ (by omega) (by decide)).mono ?_
        rintro e w15 ⟨rfl, -, hc15⟩
        have hx15 : Ext w12 w15 := hc15.ext hx14 hd1
        clear hx14 hc15 hD
        have hV := verify_own s tik.data.toList at_ (1 + m)
        have hE := rollD_err s tik.data.toList (1 + m) at_ (by omega)
        have hVa := rollD_val s tik.data.toList (1 + m) at_ (by omega)
        generalize (rollD s tik.data.toList (1 + m) at_).1 = x at *
        generalize (rollD s tik.data.toList (1 + m) at_).2.1 = er at *
        have rt := rt.ext hx15
        have rs := rs.ext (hx12.trans hx15)
        replace hxF := hxF.trans (hx12.trans hx15)
        clear hx12 hx15
        rcases hE with rfl | rfl
        · have HV := Lib.hid hV
          clear hV
          go_wp2_with fail
          refine (bytes_any _ _ s _ (by decide) rs (by omega)).mono ?_
          rintro e w16 ⟨rfl, hx16⟩
          have rt := rt.ext hx16
          have rs := rs.ext hx16
          have hxF := hxF.trans hx16
          go_wp2_with fail
          refine (verify_any _ _ s tik at_ (1 + m) x _ rs hat ⟨by omega, by omega⟩ (by omega) (by decide)).mono ?_
          rintro e w17 ⟨rfl, hx17⟩
          rw [show verifyD (bytesI [115, 101, 101, 100] s) s tik.data.toList at_ (1 + m) x = true from HV.out]
          have rt := rt.ext hx17
          have rs := rs.ext hx17
          have hxF := hxF.trans hx17
          clear hx16 hx17
          go_wp2_with fail
          refine (bytes_any _ _ s _ (by decide) rs (by omega)).mono ?_
          rintro e w18 ⟨rfl, hx18⟩
          have rt := rt.ext hx18
          have hxF := hxF.trans hx18
          clear hx18
          go_wp2_with fail
          refine (opens_any _ vt s _ rt (by omega)).mono ?_
          rintro e w19 ⟨rfl, hx19⟩
          rw [show (commitD s == bytesI [115, 101, 101, 100] s) = true from beq_self_eq_true _]
          have hxF := hxF.trans hx19
          clear hx19
          go_wp2_with fail
          refine (lives04_any _).mono ?_
          rintro e w20 ⟨rfl, hx20⟩
          go_wp2
          go_ret
          exact ⟨rfl, hxF.trans hx20⟩
        · go_wp2_with fail
          refine (lives04_any _).mono ?_
          rintro e w16 ⟨rfl, hx16⟩
          go_wp2
          go_ret
          exact ⟨rfl, hxF.trans hx16⟩
end Go.Proofs.Ytjgpdimhgcacgaa
