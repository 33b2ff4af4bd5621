/- package dice: Join of both: contracts. -/
import Derived.Test.YtjgpdimhgcacgaaDw6
import Derived.Laws.MakeOwn
namespace Go.Proofs.Ytjgpdimhgcacgaa
open Go.RowKit
set_option linter.unusedVariables false

theorem info_bslD : (Try.prog.info? 22).map (fun i => (i.zero, i.size, i.bytes)) = some (some (.slice none 0 0), 1, 24) := by kernel_rfl

/-- v is a slice of slices of bytes that reads as Ls -/
def RdR (w : World) (v : Value) (Ls : List (List UInt8)) : Prop :=
  ∃ vs, Rd w v vs ∧ vs.length = Ls.length ∧ ∀ (i : Nat) (u : Value) (bs : List UInt8), vs[i]? = some u → Ls[i]? = some bs → Rd w u (vbs bs)
theorem RdR.ext {w w' : World} {v : Value} {Ls : List (List UInt8)} (h : RdR w v Ls) (hx : Ext w w') : RdR w' v Ls := by
  obtain ⟨vs, h1, h2, h3⟩ := h
  exact ⟨vs, h1.ext hx, h2, fun i u bs a b => (h3 i u bs a b).ext hx⟩
theorem RdR.form {w : World} {v : Value} {Ls : List (List UInt8)} (h : RdR w v Ls) : ∃ A c, v = .slice A Ls.length c ∧ Ls.length ≤ c ∧ c ≤ maxLen ∧
    (0 < Ls.length → ∃ b off, A = some ⟨b, off, none⟩ ∧ ∀ (w' : World), Ext w w' → ∀ (i : Nat) (hi : i < Ls.length), ∃ u, w'.cell? ⟨b, off + i, none⟩ = some u ∧ Rd w' u (vbs Ls[i])) := by
  obtain ⟨vs, h1, h2, h3⟩ := h
  have h10 := h1
  obtain ⟨A, c, rfl, -⟩ := h1
  obtain ⟨-, a1, a2, a3⟩ := h10.at
  refine ⟨A, c, by rw [h2], by rw [← h2]; exact a1, a2, fun hl => ?_⟩
  obtain ⟨b, off, hA, hc⟩ := a3 (by omega)
  refine ⟨b, off, hA, fun w' hx i hi => ?_⟩
  have hiv : i < vs.length := by omega
  exact ⟨vs[i], hc w' hx i _ (List.getElem?_eq_getElem hiv), (h3 i _ _ (List.getElem?_eq_getElem hiv) (List.getElem?_eq_getElem hi)).ext hx⟩

/-- the number that Join makes -/
def joinF (s : Int) (Ls : List (List UInt8)) : Int := Ls.foldl (fun s bs => pairI s (bytesI [112, 97, 114, 116] bs)) s
def joinS (Ls : List (List UInt8)) : Int := joinF (sumI [115, 101, 101, 100, 115] [(Ls.length : Int)]) Ls
theorem joinF_snoc (s : Int) (Ls : List (List UInt8)) (b : List UInt8) : joinF s (Ls ++ [b]) = pairI (joinF s Ls) (bytesI [112, 97, 114, 116] b) := by simp [joinF, List.foldl_append]
theorem joinF_range {s : Int} (h : 0 ≤ s ∧ s ≤ 18446744073709551615) (Ls : List (List UInt8)) : 0 ≤ joinF s Ls ∧ joinF s Ls ≤ 18446744073709551615 := by
  unfold joinF
  induction Ls generalizing s with
  | nil => exact h
  | cons b Ls ih => exact ih (sumI_range _ _)
/-- its i-th byte -/
def byteK (s : Int) (i : Nat) : UInt8 := UInt8.ofNat ((s / 256 ^ i) % 256).toNat
def bytesK (s : Int) (n : Nat) : List UInt8 := (List.range n).map (byteK s)
theorem bytesK_len (s : Int) (n : Nat) : (bytesK s n).length = n := by simp [bytesK]
theorem bytesK_succ (s : Int) (n : Nat) : bytesK s (n + 1) = bytesK s n ++ [byteK s n] := by simp [bytesK, List.range_succ]
def joinD (Ls : List (List UInt8)) : List UInt8 := bytesK (joinS Ls) 8
theorem byteK_val (s : Int) (i : Nat) : ((byteK s i).toNat : Int) = s / 256 ^ i % 256 := by
  unfold byteK
  have h1 := Int.emod_nonneg (s / 256 ^ i) (show (256 : Int) ≠ 0 by omega)
  have h2 := Int.emod_lt_of_pos (s / 256 ^ i) (show (0 : Int) < 256 by omega)
  simp
  omega
theorem pow_256 (k : Nat) : (2 : Int) ^ (8 * k) = 256 ^ k := by rw [Int.pow_mul]; rfl

theorem run_mk8 (W : World) : (Instr.makeSlice 22 (.int .i64 8) (.int .i64 8)).run Try.prog W = .ok (.slice (some ⟨W.heap.size, 0, none⟩) 8 8) (W.alloc (.cells (vbs (List.replicate 8 0)).toArray 5)) := by
  obtain ⟨i0, hi, hz0, hz1, hz2⟩ := info_parts info_u8
  have h := run_make (P := Try.prog) W 22 5 i0 (.int .u8 0) Try.underlying22 hi hz0 .i64 .i64 8 8 (by omega) (by omega) (by rw [hz2]; omega) (by omega)
  rw [hz1] at h
  have e : madeCells (Value.int IntKind.u8 0).cells ((8 : Int).toNat * 1) = (vbs (List.replicate 8 0)).toArray := by
    first | rfl | kernel_rfl
  rw [e] at h
  exact h
theorem vbs_setD (l : List UInt8) (k : Nat) (x : UInt8) : (vbs l).set k (.int .u8 (x.toNat : Int)) = vbs (l.set k x) := by simp [vbs, List.map_set]
theorem fill8 (s : Int) (k : Nat) (hk : k < 8) : (bytesK s k ++ List.replicate (8 - k) 0).set k (byteK s k) = bytesK s (k + 1) ++ List.replicate (8 - (k + 1)) 0 := by
  rw [List.set_append_right _ _ (by rw [bytesK_len]; omega), bytesK_len, Nat.sub_self, show 8 - k = (8 - (k + 1)) + 1 by omega, List.replicate_succ, List.set_cons_zero, bytesK_succ, List.append_assoc]
  rfl

set_option maxRecDepth 100000 in
set_option maxHeartbeats 4000000 in
theorem join_any (v : Value) (Ls : List (List UInt8)) (w : World) (h : RdR w v Ls) (hb : ∀ bs ∈ Ls, bs.length ≤ 1000000) (hn : Ls.length ≤ 1000) :
    Calls Try.prog 30 #[v] w fun e w' => ∃ v', e = .returned v' ∧ Own w' w.heap.size 5 v' (vbs (joinD Ls)) ∧ Ext w w' := by
  obtain ⟨A, c, rfl, a1, a2, a3⟩ := h.form
  simp only [maxLen] at a2
  have hmk := Lib.hid run_mk8
  go_enter Try.func30, Try.ntmps30
  go_wp2_with fail
  have hl := Rd.lit w (vis [(Ls.length : Int)]) 3 (by simp [vis])
  refine (sum_any _ _ [(Ls.length : Int)] _ (by decide) hl (by simp)).mono ?_
  rintro e w1 ⟨rfl, hx1⟩
  have hxw : Ext w w1 := ((Ext.refl w).alloc _).trans hx1
  generalize hs0 : sumI _ [(Ls.length : Int)] = s0
  have HS0 : Hid (s0 = sumI [115, 101, 101, 100, 115] [(Ls.length : Int)]) := Lib.hid hs0.symm
  have hs0r : 0 ≤ s0 ∧ s0 ≤ 18446744073709551615 := by rw [HS0.out]; exact sumI_range _ _
  have HS0R := Lib.hid hs0r
  clear hs0 hs0r hl hx1
  go_wp2_with fail
  go_loopw [3, 14] (fun x3 x14 wr => ∃ k : Nat, k ≤ Ls.length ∧ x14 = .int .i64 k ∧ x3 = .int .u64 (joinF s0 (Ls.take k)) ∧ Ext w wr) (fun _ x14 _ => Ls.length - (intOf x14).toNat)
  case atStart => exact ⟨0, by omega, rfl, rfl, hxw⟩
  case round =>
    obtain ⟨k, hk, rfl, rfl, hxr⟩ := hrel
    clear hxw
    by_cases hlt : k < Ls.length
    · obtain ⟨b, off, rfl, hc⟩ := a3 (by omega)
      obtain ⟨u, c1, ru⟩ := hc wr hxr k hlt
      have hbl := hb Ls[k] (by simp)
      have HJ : Hid (joinF s0 (Ls.take (k + 1)) = pairI (joinF s0 (Ls.take k)) (bytesI [112, 97, 114, 116] Ls[k])) := Lib.hid (by rw [List.take_succ_eq_append_getElem hlt, joinF_snoc])
      have HBL := Lib.hid hbl
      generalize joinF s0 (Ls.take k) = s at *
      clear hc hbl
      go_wp2_with fail
      refine (bytes_any _ u Ls[k] _ (by decide) ru HBL.out).mono ?_
      rintro e w2 ⟨rfl, hx2⟩
      go_wp2_with fail
      refine (pair_any s _ _).mono ?_
      rintro e w3 ⟨rfl, hx3⟩
      have hxn := hxr.trans (hx2.trans hx3)
      clear hx2 hx3
      go_wp2_with fail
      go_roundw
      case rel => exact ⟨k + 1, by omega, by go_num, by rw [HJ.out], hxn⟩
      case measure => simp [intOf]; omega
    · rw [List.take_of_length_le (by omega)]
      have hsr := joinF_range HS0R.out Ls
      have HJD : Hid (joinD Ls = bytesK (joinF s0 Ls) 8) := Lib.hid (by unfold joinD joinS; rw [HS0.out])
      obtain ⟨hs1, hs2⟩ := hsr
      generalize joinF s0 Ls = s at *
      obtain ⟨wo, rfl⟩ : ∃ wo : World, wo = wr := ⟨_, rfl⟩
      have hmk' := hmk.out
      have hkz : ¬ (k : Int) < (Ls.length : Int) := by omega
      have hBk := Blk.new wo 5 (vbs (List.replicate 8 0))
      obtain ⟨C, hC⟩ : ∃ C, C = (vbs (List.replicate 8 0)).toArray := ⟨_, rfl⟩
      rw [← hC] at hmk' hBk
      have HB0 : Hid (Blk (wo.alloc (.cells C 5)) wo.heap.size 5 (vbs (bytesK s 0 ++ List.replicate (8 - 0) 0))) := Lib.hid hBk
      have hx0 : Ext wo (wo.alloc (.cells C 5)) := (Ext.refl wo).alloc _
      obtain ⟨wm, hwm⟩ : ∃ W, W = wo.alloc (.cells C 5) := ⟨_, rfl⟩
      rw [← hwm] at HB0 hx0
      clear hC hBk a3 hlt hk
      go_wp2_with fail
      rw [← hwm]
      clear hwm hmk'
      go_loopw [26] (fun x26 wi => ∃ j : Nat, j ≤ 8 ∧ x26 = .int .i64 j ∧ Blk wi wo.heap.size 5 (vbs (bytesK s j ++ List.replicate (8 - j) 0)) ∧ Ext wo wi) (fun x26 _ => 8 - (intOf x26).toNat)
      case atStart => exact ⟨0, by omega, rfl, HB0.out, hx0⟩
      case round =>
        obtain ⟨j, hj, rfl, hbj, hxj⟩ := hrel
        clear HB0 hx0
        by_cases hj8 : j < 8
        · have hjz : (j : Int) < 8 := by omega
          have hj0 : (0 : Int) ≤ (j : Int) := by omega
          have hlen : (vbs (bytesK s j ++ List.replicate (8 - j) 0)).length = 8 := by rw [vbs_len, List.length_append, bytesK_len, List.length_replicate]; omega
          have c1 := hbj.cell j
          rw [List.getElem?_eq_getElem (by omega)] at c1
          have f1 := hbj.frozen j
          have HBN := Lib.hid (hbj.set j (.int .u8 ((byteK s j).toNat : Int)))
          have HF := Lib.hid (fill8 s j hj8)
          have HV := Lib.hid (byteK_val s j)
          have HXN := Lib.hid (hxj.setCell (p := ⟨wo.heap.size, j, none⟩) (Nat.le_refl _) (.int .u8 ((byteK s j).toNat : Int)))
          generalize (vbs (bytesK s j ++ List.replicate (8 - j) 0))[j]'(by omega) = cj at *
          go_wp2_with fail
          have e : s / 2 ^ (8 * j) % 256 = ((byteK s j).toNat : Int) := by rw [pow_256, HV.out]
          rw [e]
          clear e
          go_roundw
          case rel => exact ⟨j + 1, by omega, by go_num, by have := HBN.out; rw [vbs_setD, HF.out] at this; exact this, HXN.out⟩
          case measure => simp [intOf]; omega
        · have hje : j = 8 := by omega
          have hjz : ¬ (j : Int) < 8 := by omega
          rw [hje, Nat.sub_self, List.replicate_zero, List.append_nil] at hbj
          have HOW : Hid (Own wr w.heap.size 5 (.slice (some ⟨wo.heap.size, 0, none⟩) 8 8) (vbs (bytesK s 8))) := Lib.hid ⟨by rw [vbs_len, bytesK_len], .inr ⟨wo.heap.size, 8, _, by rw [vbs_len, bytesK_len], hxr.size, hbj, by rw [vbs_len, bytesK_len]; omega, by simp [maxLen], by simp [bytesK_len, vbs_len], by simp [bytesK_len, vbs_len]; exact List.take_of_length_le (by rw [vbs_len, bytesK_len]; omega)⟩⟩
          clear hbj hje
          go_wp2_with fail
          go_ret
          exact ⟨_, rfl, by rw [HJD.out]; exact HOW.out, hxr.trans hxj⟩

set_option maxRecDepth 100000 in
set_option maxHeartbeats 4000000 in
theorem rjoin_any (v : Value) (Ls : List (List UInt8)) (w : World) (h : RdR w v Ls) (hb : ∀ bs ∈ Ls, bs.length ≤ 1000000) (hn : Ls.length ≤ 1000) :
    Calls Try.prog 31 #[v] w fun e w' => ∃ v', e = .returned v' ∧ Own w' w.heap.size 5 v' (vbs (joinD Ls)) ∧ Ext w w' := by
  obtain ⟨A, c, rfl, a1, a2, a3⟩ := h.form
  obtain ⟨i0, hi, hz0, hz1, hz2⟩ := info_parts info_u8
  simp only [maxLen] at a2
  go_enter Try.func31, Try.ntmps31
  go_wp2_with fail
  have hl := Rd.lit w (vis [(Ls.length : Int)]) 3 (by simp [vis])
  refine (rsum_any _ _ [(Ls.length : Int)] _ (by decide) hl (by simp)).mono ?_
  rintro e w1 ⟨rfl, hx1⟩
  have hxw : Ext w w1 := ((Ext.refl w).alloc _).trans hx1
  generalize hs0 : sumI _ [(Ls.length : Int)] = s0
  have HS0 : Hid (s0 = sumI [115, 101, 101, 100, 115] [(Ls.length : Int)]) := Lib.hid hs0.symm
  have hs0r : 0 ≤ s0 ∧ s0 ≤ 18446744073709551615 := by rw [HS0.out]; exact sumI_range _ _
  have HS0R := Lib.hid hs0r
  clear hs0 hs0r hl hx1
  go_wp2_with fail
  go_loopw [3, 4] (fun x3 x14 wr => ∃ k : Nat, k ≤ Ls.length ∧ x14 = .int .i64 k ∧ x3 = .int .u64 (joinF s0 (Ls.take k)) ∧ Ext w wr) (fun _ x14 _ => Ls.length - (intOf x14).toNat)
  case atStart => exact ⟨0, by omega, rfl, rfl, hxw⟩
  case round =>
    obtain ⟨k, hk, rfl, rfl, hxr⟩ := hrel
    clear hxw
    by_cases hlt : k < Ls.length
    · obtain ⟨b, off, rfl, hc⟩ := a3 (by omega)
      obtain ⟨u, c1, ru⟩ := hc wr hxr k hlt
      have hbl := hb Ls[k] (by simp)
      have HJ : Hid (joinF s0 (Ls.take (k + 1)) = pairI (joinF s0 (Ls.take k)) (bytesI [112, 97, 114, 116] Ls[k])) := Lib.hid (by rw [List.take_succ_eq_append_getElem hlt, joinF_snoc])
      have HBL := Lib.hid hbl
      generalize joinF s0 (Ls.take k) = s at *
      clear hc hbl
      go_wp2_with fail
      refine (rbytes_any _ u Ls[k] _ (by decide) ru HBL.out).mono ?_
      rintro e w2 ⟨rfl, hx2⟩
      go_wp2_with fail
      refine (rpair_any s _ _).mono ?_
      rintro e w3 ⟨rfl, hx3⟩
      have hxn := hxr.trans (hx2.trans hx3)
      clear hx2 hx3
      go_wp2_with fail
      go_roundw
      case rel => exact ⟨k + 1, by omega, by go_num, by rw [HJ.out], hxn⟩
      case measure => simp [intOf]; omega
    · rw [List.take_of_length_le (by omega)]
      have hsr := joinF_range HS0R.out Ls
      have HJD : Hid (joinD Ls = bytesK (joinF s0 Ls) 8) := Lib.hid (by unfold joinD joinS; rw [HS0.out])
      obtain ⟨hs1, hs2⟩ := hsr
      generalize joinF s0 Ls = s at *
      have hkz : ¬ (k : Int) < (Ls.length : Int) := by omega
      obtain ⟨wo, rfl⟩ : ∃ wo : World, wo = wr := ⟨_, rfl⟩
      have hszo := hxr.size
      clear a3 hlt hk
      go_wp2_with fail
      go_loopw [3, 5, 6] (fun x3 x5 x6 wi => ∃ (j : Nat) (q : Int), j ≤ 8 ∧ x6 = .int .i64 j ∧ x3 = .int .u64 q ∧ (0 ≤ q ∧ q ≤ 18446744073709551615) ∧ Hid (q = s / 256 ^ j) ∧ Own wi wo.heap.size 5 x5 (vbs (bytesK s j)) ∧ Ext wo wi) (fun _ _ x6 _ => 8 - (intOf x6).toNat)
      case atStart => exact ⟨0, s, by omega, rfl, rfl, ⟨hs1, hs2⟩, Lib.hid (by simp), Own.nil _ _ _, Ext.refl _⟩
      case round =>
        obtain ⟨j, q, hj, rfl, rfl, ⟨q0, q1⟩, HQ, hoj, hxj⟩ := hrel
        have hszj := hxj.size
        by_cases hj8 : j < 8
        · have hjz : (j : Int) < 8 := by omega
          have HV : Hid (q % 256 = ((byteK s j).toNat : Int)) := Lib.hid (by rw [HQ.out, byteK_val])
          have HQN : Hid (q / 256 = s / 256 ^ (j + 1)) := Lib.hid (by rw [HQ.out, Int.pow_succ, Int.ediv_ediv_of_nonneg (Int.pow_nonneg (by omega))])
          have hbl : (bytesK s j).length ≤ 8 := by rw [bytesK_len]; exact hj
          go_wp2_with (at_builtin; refine wpList_app _ rfl (.tmp 28) (.tmp 32) _ rfl wo.heap.size 5 i0 _ 1 Try.underlying22 hi hz0 hz1 hz2 rfl (by omega) _ _ rfl (hoj.ext ((Ext.refl _).alloc _)) (some ⟨wr.heap.size, 0, none⟩) 1 1 [.int .u8 (q % 256)] rfl (Src.one _ _ _) ?_ ?_ ?_ ?_; (simp [Value.oneCell']); (rw [vbs_len]; omega); (simp; omega); intro v1 w4 ho4 hg4 _)
          have hon : Own w4 wo.heap.size 5 v1 (vbs (bytesK s (j + 1))) := by
            rw [bytesK_succ, vbs_app]
            rw [HV.out] at ho4
            exact ho4
          have hxn := Ext.app hxj (Ext.refl wo) hoj hg4
          clear ho4
          go_roundw
          case rel => exact ⟨j + 1, q / 256, by omega, by go_num, rfl, ⟨by omega, by omega⟩, HQN, hon, hxn⟩
          case measure => simp [intOf]; omega
        · have hje : j = 8 := by omega
          have hjz : ¬ (j : Int) < 8 := by omega
          rw [hje] at hoj
          clear hje
          go_wp2_with fail
          go_ret
          exact ⟨_, rfl, by rw [HJD.out]; exact hoj.mono hszo, hxr.trans hxj⟩
end Go.Proofs.Ytjgpdimhgcacgaa
