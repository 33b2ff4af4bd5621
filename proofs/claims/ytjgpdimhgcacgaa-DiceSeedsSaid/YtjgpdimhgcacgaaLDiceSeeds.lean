/- DiceSeeds: the walk of the law. -/
import Derived.Test.YtjgpdimhgcacgaaDt
namespace Go.Proofs.Ytjgpdimhgcacgaa
open Go.RowKit
set_option linter.unusedVariables false

theorem vbs_at {bs : List UInt8} {k : Nat} (h : k < bs.length) : (vbs bs)[k]? = some (.int .u8 (bs[k].toNat : Int)) := by simp [vbs, h]
theorem xor_u8 (a b : UInt8) : bits BinOp.xor IntKind.u8 (a.toNat : Int) (b.toNat : Int) = ((a ^^^ b).toNat : Int) := by
  have := u8_xor_nat a.toNat b.toNat (by have := a.toNat_lt; omega) (by have := b.toNat_lt; omega)
  rw [this]
  simp
theorem u8_xor_self (a b : UInt8) : a ^^^ b = a ↔ b = 0 := by
  constructor
  · intro h
    have : a ^^^ (a ^^^ b) = a ^^^ a := by rw [h]
    rwa [← UInt8.xor_assoc, UInt8.xor_self, UInt8.zero_xor] at this
  · rintro rfl; exact UInt8.xor_zero
theorem commit_one (s : List UInt8) (k : Nat) (y : UInt8) (hk : k < s.length) (hl : s.length ≤ 1000000) : (commitD (s.set k (s[k] ^^^ y)) == commitD s) = (y == 0) := by
  have hsb : SameBut (k / 8) (s.set k (s[k] ^^^ y)) s := ⟨by simp, fun j hj => by
    rw [List.getElem?_set_ne (by rintro rfl; exact hj rfl)]⟩
  have h := bytesI_group [115, 101, 101, 100] hsb (by simp; exact hl)
  rw [Bool.eq_iff_iff, beq_iff_eq, beq_iff_eq]
  unfold commitD
  rw [h, ← u8_xor_self s[k] y]
  constructor
  · intro e
    have := congrArg (fun l => l[k]?) e
    simp [hk] at this
    exact this
  · intro e
    rw [e, List.set_getElem_self]

set_option maxRecDepth 100000 in
set_option maxHeartbeats 8000000 in
theorem DiceSeeds_law (w : World) (v0 : Value) (b0 : List UInt8) (h0 : Rd w v0 (vbs b0)) (v1 : Value) (S : List (List UInt8)) (h1 : RdR w v1 S) (cm : Int) (hcm : 0 ≤ cm ∧ cm ≤ 18446744073709551615) (at_ : Int) (hat : inI64 at_) (by_ : UInt8) :
    Calls Try.prog 7 #[v0, v1, .int .u64 cm, .int .i64 at_, .int .u8 (by_.toNat : Int)] w fun e w' => e = .returned (.bool true) ∧ Ext w w' := by
  obtain ⟨j0, hj, hy0, hy1, hy2⟩ := info_parts info_bslD
  have hbl : (b0.take 40).length ≤ 40 := List.length_take_le _ _
  obtain ⟨A, c, rfl, a1, a2, a3⟩ := h1.form
  simp only [maxLen] at a2
  go_enter Try.func7, Try.ntmps7
  go_wp2_with fail
  refine (few_any v0 b0 40 _ h0 (by omega)).mono ?_
  rintro e w1 ⟨va, rfl, ho1, hx1⟩
  generalize b0.take 40 = s at *
  have rs := ho1.rd
  clear ho1 h0
  go_wp2_with fail
  refine (rcommit_any va s _ rs (by omega)).mono ?_
  rintro e w2 ⟨rfl, hx2⟩
  replace rs := rs.ext hx2
  have hxw := hx1.trans hx2
  clear hx1 hx2
  obtain ⟨W2, hW2⟩ : ∃ W, W = w2 := ⟨_, rfl⟩
  rw [← hW2] at rs hxw ⊢
  clear hW2
  go_wp2_with fail
  go_loopw [13, 14] (fun x13 x14 wr => ∃ (k : Nat) (vs : List Value) (Ls : List (List UInt8)), k ≤ S.length ∧ k ≤ 4 ∧ x14 = .int .i64 k ∧ vs.length = k ∧ Bld wr W2.heap.size x13 vs Ls ∧ Hid (∀ bs ∈ Ls, bs.length ≤ 20) ∧ Ext W2 wr) (fun _ x14 _ => S.length - (intOf x14).toNat)
  case atStart => exact ⟨0, [], [], by omega, by omega, rfl, rfl, Bld.nil _ _, Lib.hid (by simp), Ext.refl _⟩
  case round =>
    obtain ⟨k, vs, Ls, hk, hk4, rfl, hvl, hB, HL, hxr⟩ := hrel
    have hsz := hxr.size
    by_cases hin : k < S.length ∧ k < 4
    · obtain ⟨h1', h2'⟩ := hin
      obtain ⟨b, off, rfl, hc⟩ := a3 (by omega)
      obtain ⟨u, cu, ru⟩ := hc wr (hxw.trans hxr) k h1'
      have hd1 : decide (k < S.length) = true := decide_eq_true h1'
      have hd2 : decide ((k : Int) < 4) = true := decide_eq_true (by omega)
      have HVL := Lib.hid hvl
      have hvl4 : vs.length ≤ 4 := by omega
      clear hc hvl
      go_wp2_with fail
      refine (few_any u S[k] 20 _ ru (by omega)).mono ?_
      rintro e w3 ⟨nv, rfl, hon, hx3⟩
      obtain ⟨An, cn, hvn, -⟩ := hon.form'
      rw [vbs_len] at hvn
      subst hvn
      have HLN : Hid (∀ bs ∈ Ls ++ [List.take 20 S[k]], bs.length ≤ 20) := Lib.hid (fun bs hbs => by
        rcases List.mem_append.1 hbs with hbs | hbs
        · exact HL.out bs hbs
        · simp only [List.mem_singleton] at hbs; subst hbs; exact List.length_take_le _ _)
      have hs3 := hx3.size
      have hB3 := hB.ext hx3
      generalize List.take 20 S[k] = nb at *
      go_wp2_with (at_builtin; refine wpList_app _ rfl (.tmp 31) (.tmp 37) _ rfl W2.heap.size 22 j0 _ 24 Try.underlying47 hj hy0 hy1 hy2 rfl (by omega) _ vs rfl (hB3.own.ext ((Ext.refl _).alloc _)) (some ⟨w3.heap.size, 0, none⟩) 1 1 [.slice An nb.length cn] rfl (Src.one _ _ _) ?_ ?_ ?_ ?_; (simp [Value.oneCell']); (omega); (simp; omega); intro v3 w4 ho4 hg4 hv4)
      have hBN := Bld.snoc hB hx3 hsz hon hg4 hv4 ho4
      have hxn : Ext W2 w4 := Ext.app (hxr.trans hx3) (Ext.refl W2) hB3.own hg4
      clear hB hB3 hon hg4 hv4 ho4
      go_roundw
      case rel => exact ⟨k + 1, _, _, by omega, by omega, by go_num, by simp [HVL.out], hBN, HLN, hxn⟩
      case measure => simp [intOf]; omega
    · have hLl : Ls.length ≤ 4 := by rw [← hB.len]; omega
      have rl := hB.rdr
      have HLB : Hid (∀ bs ∈ Ls, bs.length ≤ 1000000) := Lib.hid (fun bs hbs => by have := HL.out bs hbs; omega)
      replace rs := rs.ext hxr
      have hxF := hxw.trans hxr
      clear hB hvl a3 HL
      have hcases : (k < S.length ∧ ¬ (k : Int) < 4) ∨ ¬ k < S.length := by omega
      clear hin
      rcases hcases with ⟨q1, q2⟩ | q1
      all_goals
        first
          | (have h6 : decide ((k : Int) < 4) = false := decide_eq_false q2
             have h7 : decide (k < S.length) = true := decide_eq_true q1)
          | (have h7 : decide (k < S.length) = false := decide_eq_false q1)
        go_wp2_with fail
        refine (commit_any va s _ rs (by omega)).mono ?_
        rintro e w3 ⟨rfl, hx3⟩
        replace rs := rs.ext hx3
        replace rl := rl.ext hx3
        replace hxF := hxF.trans hx3
        clear hx3
        have hcr := commitD_range s
        obtain ⟨cs, hcs⟩ : ∃ c, c = commitD s := ⟨_, rfl⟩
        rw [← hcs] at hcr ⊢
        have HCS := Lib.hid hcs
        clear hcs
        go_wp2_with fail
        refine (opens_any cs va s _ rs (by omega)).mono ?_
        rintro e w4 ⟨rfl, hx4⟩
        rw [← HCS.out]
        replace rs := rs.ext hx4
        replace rl := rl.ext hx4
        replace hxF := hxF.trans hx4
        clear hx4
        go_wp2_with fail
        refine (opens_any cm va s _ rs (by omega)).mono ?_
        rintro e w5 ⟨rfl, hx5⟩
        rw [← HCS.out]
        replace rs := rs.ext hx5
        replace rl := rl.ext hx5
        replace hxF := hxF.trans hx5
        clear hx5
        have hcc : (cs == cm) = (cm == cs) := by rw [Bool.eq_iff_iff, beq_iff_eq, beq_iff_eq]; exact eq_comm
        rw [hcc]
        clear hcc
        generalize hcv : (cm == cs) = cv
        go_wp2_with fail
        refine (join_any _ Ls _ rl HLB.out (by omega)).mono ?_
        rintro e w6 ⟨vj, rfl, hoj, hx6⟩
        have rj := hoj.rd
        replace rs := rs.ext hx6
        replace rl := rl.ext hx6
        replace hxF := hxF.trans hx6
        clear hx6 hoj
        go_wp2_with fail
        refine (rjoin_any _ Ls _ rl HLB.out (by omega)).mono ?_
        rintro e w7 ⟨vk, rfl, hok, hx7⟩
        have rk := hok.rd
        replace rj := rj.ext hx7
        replace rs := rs.ext hx7
        replace hxF := hxF.trans hx7
        clear hx7 hok rl
        go_wp2_with fail
        refine (sameBytes_any vj vk _ _ _ rj rk).mono ?_
        rintro e w8 ⟨rfl, hx8⟩
        rw [decide_eq_true rfl]
        replace rs := rs.ext hx8
        replace hxF := hxF.trans hx8
        clear hx8 rj rk hcv
        have rs0 := rs
        obtain ⟨As, cS, hvs, -⟩ := id rs
        rw [vbs_len] at hvs
        subst hvs
        by_cases hz : s.length = 0
        · have hz' : ((s.length : Int) == 0) = true := by simp [hz]
          clear hz
          go_wp2_with fail
          refine (lives04_any _).mono ?_
          rintro e w9 ⟨rfl, hx9⟩
          go_wp2
          go_ret
          exact ⟨rfl, hxF.trans hx9⟩
        · have hz' : ((s.length : Int) == 0) = false := beq_eq_false_iff_ne.2 (by omega)
          have hsp : 0 < s.length := by omega
          clear hz
          go_wp2_with fail
          refine (few_any _ s 40 _ rs0 (by omega)).mono ?_
          rintro e w9 ⟨vo, rfl, hoo, hx9⟩
          rw [List.take_of_length_le (by omega)] at hoo
          have hxF8 := hxF
          replace hxF := hxF.trans hx9
          have har := around_range at_ s.length (by omega)
          go_wp2_with fail
          refine (around_any at_ s.length _ hat (by omega) (by omega)).mono ?_
          rintro e w10 ⟨rfl, rfl⟩
          obtain ⟨k2, hk2⟩ : ∃ k2 : Nat, around at_ (s.length : Int) = (k2 : Int) := ⟨(around at_ (s.length : Int)).toNat, by omega⟩
          rw [hk2] at har ⊢
          have hk2l : k2 < s.length := by omega
          have hk2z : (k2 : Int) < (s.length : Int) := by omega
          have hk20 : (0 : Int) ≤ (k2 : Int) := by omega
          obtain ⟨Ao, co, hvo, hAo⟩ := hoo.form'
          rw [vbs_len] at hvo hAo
          subst hvo
          obtain ⟨go, rfl⟩ := hAo hsp
          have hoo' : Own w9 w8.heap.size 5 (.slice (some ⟨go, 0, none⟩) (vbs s).length co) (vbs s) := by rw [vbs_len]; exact hoo
          obtain ⟨-, f1, hset⟩ := hoo'.fill (k := k2) (by rw [vbs_len]; exact hk2l)
          obtain ⟨g', cap', hv', -, -, hcell, -, -⟩ := hoo'.at (by rw [vbs_len]; omega)
          injection hv' with e1 _ e2
          injection e1 with e1
          injection e1 with e1
          subst e1 e2
          have c1 := hcell w9 (Ext.refl _) k2 _ (vbs_at hk2l)
          have hset := hset (.int .u8 ((s[k2] ^^^ by_).toNat : Int))
          have hgl := (hoo.lt go rfl).1
          have HC1 := Lib.hid (commit_one s k2 by_ hk2l (by omega))
          rw [vbs_len, show (vbs s).set k2 (.int .u8 ((s[k2] ^^^ by_).toNat : Int)) = vbs (s.set k2 (s[k2] ^^^ by_)) by simp [vbs, List.map_set], UInt8.toNat_xor] at hset
          have hx9w : Ext w8 (w9.setCell ⟨go, k2, none⟩ (.int .u8 ((s[k2].toNat ^^^ by_.toNat : Nat) : Int))) := hx9.setCell (p := ⟨go, k2, none⟩) hgl _
          have HRO := Lib.hid hset.rd
          have HXN := Lib.hid hx9w
          have hb0 := by_.toNat_lt
          have hs0 := s[k2].toNat_lt
          have hbv : ((by_.toNat : Int) == 0) = (by_ == 0) := by
            rw [Bool.eq_iff_iff, beq_iff_eq, beq_iff_eq]
            constructor
            · intro h; exact UInt8.toNat_inj.1 (by simp; omega)
            · rintro rfl; rfl
          have HLS : Hid ((s.set k2 (s[k2] ^^^ by_)).length ≤ 1000000) := Lib.hid (by rw [List.length_set]; omega)
          clear hset hx9w hoo hoo' hcell hk2 har
          generalize hsk : s[k2] = sk at *
          go_wp2_with fail
          rw [show bits BinOp.xor IntKind.u8 (sk.toNat : Int) (by_.toNat : Int) = ((sk.toNat ^^^ by_.toNat : Nat) : Int) by rw [xor_u8, UInt8.toNat_xor]]
          refine (opens_any cs _ (s.set k2 (sk ^^^ by_)) _ HRO.out HLS.out).mono ?_
          rintro e w11 ⟨rfl, hx11⟩
          rw [HCS.out, HC1.out]
          have hxE := (hxF8.trans HXN.out).trans hx11
          clear hx11 c1
          go_wp2_with fail
          refine (lives04_any _).mono ?_
          rintro e w12 ⟨rfl, hx12⟩
          go_wp2
          go_ret
          exact ⟨rfl, hxE.trans hx12⟩
end Go.Proofs.Ytjgpdimhgcacgaa
