/- HashOneGroup: the walk of the law. -/
import Derived.Test.YtmeomkkbgppfkaaHc8
import Derived.Test.YtmeomkkbgppfkaaHq
import Derived.Test.YtmeomkkbgppfkaaEx
namespace Go.Proofs.Ytmeomkkbgppfkaa
open Go.RowKit
set_option linter.unusedVariables false

/-- one byte turned by a number -/
def xorB (b : UInt8) (n : Int) : UInt8 := UInt8.ofNat (b.toNat ^^^ n.toNat)
theorem xorB_val (b : UInt8) (n : Int) (h : 0 ≤ n ∧ n ≤ 255) : bits BinOp.xor IntKind.u8 (b.toNat : Int) n = ((xorB b n).toNat : Int) := by
  have hb := u8_lt b
  rw [u8_xor _ _ (by omega) (by omega) (by omega) (by omega)]
  unfold xorB
  have hx : b.toNat ^^^ n.toNat < 256 := Nat.xor_lt_two_pow (n := 8) hb (by omega)
  rw [UInt8.toNat_ofNat', Nat.mod_eq_of_lt hx, Int.toNat_natCast]

theorem set_same_but {x : List UInt8} (k : Nat) (u : UInt8) (q : Nat) (hq : k / 8 = q) : SameBut q x (x.set k u) := by
  refine ⟨by simp, fun j hj => ?_⟩
  rw [List.getElem?_set_ne (by rintro rfl; exact hj hq)]
theorem SameBut.set {q : Nat} {x y : List UInt8} (h : SameBut q x y) (k : Nat) (u : UInt8) (hq : k / 8 = q) : SameBut q x (y.set k u) := by
  refine ⟨by rw [List.length_set]; exact h.1, fun j hj => ?_⟩
  rw [List.getElem?_set_ne (by rintro rfl; exact hj hq)]
  exact h.2 j hj

set_option maxHeartbeats 1000000 in
theorem HashOneGroup_law (w : World) (s0 : ByteArray) (hs0 : s0.size ≤ maxLen) (v1 : Value) (b1 : List UInt8) (h1 : Rd w v1 (vbs b1)) (at0 : Int) (hat : inI64 at0) (one : Int) (hone : 0 ≤ one ∧ one ≤ 255) (two : Int) (htwo : 0 ≤ two ∧ two ≤ 255) :
    Calls Try.prog 6 #[.string s0, v1, .int .i64 at0, .int .u8 one, .int .u8 two] w fun e w' => e = .returned (.bool true) ∧ Ext w w' := by
  obtain ⟨i0, hi, hz0, hz1', hz2⟩ := info_parts info_u8
  go_enter Try.func6, Try.ntmps6
  go_wp2_with fail
  refine (short_any s0 20 _ hs0 (by omega)).mono ?_
  rintro e w1 ⟨s, rfl, hs, rfl⟩
  have hsl : s.size ≤ 20 := by
    have : s.data.toList.length ≤ 20 := by rw [hs]; exact List.length_take_le _ _
    simpa using this
  have HS := Lib.hid hs
  clear hs
  go_wp2_with fail
  refine (few_any v1 b1 39 _ h1 (by omega)).mono ?_
  rintro e w1 ⟨va, rfl, hoa, hx1⟩
  have hzl : (b1.take 39).length ≤ 39 := List.length_take_le _ _
  go_wp2_with (at_builtin; refine wpList_app _ rfl (.tmp 18) (.tmp 19) _ rfl w.heap.size 5 i0 _ 1 Try.underlying30 hi hz0 hz1' hz2 rfl (by omega) _ _ rfl (hoa.ext ((Ext.refl _).alloc _)) (some ⟨w1.heap.size, 0, none⟩) 1 1 [.int .u8 65] rfl (Src.one _ _ _) ?_ ?_ ?_ ?_; (simp [Value.oneCell']); (rw [vbs_len]; omega); (have := hx1.size; simp; omega); intro v2 w2 hoa2 hg2 _; go_wp2_with fail)
  have hx2 : Ext w w2 := (hx1).app (Ext.refl _) hoa hg2
  obtain ⟨za, hza⟩ : ∃ za, za = b1.take 39 ++ [65] := ⟨_, rfl⟩
  have hoa2' : Own w2 w.heap.size 5 v2 (vbs za) := by rw [hza, vbs_app]; exact hoa2
  have hzal : za.length ≤ 40 := by rw [hza]; simp; omega
  have hza1 : 0 < za.length := by rw [hza]; simp
  clear hza hoa hoa2 hg2 hx1
  refine (few_any v2 za 40 _ hoa2'.rd (by omega)).mono ?_
  rintro e w3 ⟨v3, rfl, hob, hx3⟩
  rw [List.take_of_length_le hzal] at hob
  obtain ⟨gb, cb, rfl, hgb, hgb2, hcb, hfb, hsb⟩ := hob.at (by rw [vbs_len]; exact hza1)
  have hra := hoa2'.rd
  obtain ⟨Aa, ca, rfl, _⟩ := hoa2'.rd
  simp only [vbs_len] at *
  go_wp2_with fail
  have hk := around_range at0 za.length (by omega)
  obtain ⟨k, hke⟩ := Int.eq_ofNat_of_zero_le hk.1
  refine (around_any at0 za.length _ hat (by omega) (by omega)).mono ?_
  rintro e w4 ⟨rfl, rfl⟩
  rw [hke]
  have hkl : k < za.length := by omega
  clear hke hk
  have c1 : w3.cell? ⟨gb, k, none⟩ = some (.int .u8 za[k].toNat) := hcb w3 (Ext.refl _) k _ (by simp [vbs, hkl])
  have f1 := hfb k
  have hxv := xorB_val za[k] one hone
  obtain ⟨u, hu⟩ : ∃ u, u = xorB za[k] one := ⟨_, rfl⟩
  rw [← hu] at hxv
  clear hu
  have hob2 := hsb k (.int .u8 u.toNat)
  rw [show (vbs za).set k (.int .u8 u.toNat) = vbs (za.set k u) by simp [vbs, List.map_set]] at hob2
  obtain ⟨gb', cb', hv2, -, -, hcb2, hfb2, hsb2⟩ := hob2.at (by rw [vbs_len, List.length_set]; exact hza1)
  injection hv2 with e1 e2 e3
  injection e1 with e1
  injection e1 with e1
  subst e1 e3
  have hra3 : ∀ x : World, Ext w2 x → Rd x (.slice Aa za.length ca) (vbs za) := fun x hx => hra.ext hx
  have hx5 : Ext w2 (w3.setCell ⟨gb, k, none⟩ (.int .u8 u.toNat)) := hx3.setCell hgb _
  simp only [vbs_len, List.length_set] at *
  have hsame : SameBut (k / 8) za (za.set k u) := set_same_but k u _ rfl
  by_cases h2 : k + 1 < za.length ∧ (k + 1) % 8 ≠ 0
  · obtain ⟨h2a, h2b⟩ := h2
    have t1 : decide ((k : Int) + 1 < za.length) = true := by simp; omega
    have t2 : (((k : Int) + 1) % 8 != 0) = true := by simp; omega
    have c2 : (w3.setCell ⟨gb, k, none⟩ (.int .u8 u.toNat)).cell? ⟨gb, k + 1, none⟩ = some (.int .u8 za[k + 1].toNat) := hcb2 _ (Ext.refl _) (k + 1) _ (by simp [vbs, h2a])
    have f2 := hfb2 (k + 1)
    have hxv2 := xorB_val za[k + 1] two htwo
    obtain ⟨u2, hu2⟩ : ∃ u2, u2 = xorB za[k + 1] two := ⟨_, rfl⟩
    rw [← hu2] at hxv2
    clear hu2
    have hob3 := hsb2 (k + 1) (.int .u8 u2.toNat)
    rw [show (vbs (za.set k u)).set (k + 1) (.int .u8 u2.toNat) = vbs ((za.set k u).set (k + 1) u2) by simp [vbs, List.map_set]] at hob3
    have hrb := hob3.rd
    have hx6 : Ext w2 ((w3.setCell ⟨gb, k, none⟩ (.int .u8 u.toNat)).setCell ⟨gb, k + 1, none⟩ (.int .u8 u2.toNat)) := hx5.setCell hgb _
    have hsame2 := hsame.set (k + 1) u2 (by omega)
    have hgrp := bytesI_group s.data.toList hsame2 (by omega)
    have hcond : ((bytesI s.data.toList za == bytesI s.data.toList ((za.set k u).set (k + 1) u2)) == decide (za = (za.set k u).set (k + 1) u2)) = true := by
      rw [beq_iff_eq, Bool.eq_iff_iff, beq_iff_eq, decide_eq_true_iff]; exact hgrp
    have hyl : ((za.set k u).set (k + 1) u2).length ≤ 40 := by simp; omega
    clear hgrp hsame hsame2 hsb hsb2 hob hob2 hob3 hoa2' hfb hfb2 hcb hcb2
    go_wp2_with fail
    refine (bytes_any s _ za _ (by omega) (hra3 _ hx6) (by omega)).mono ?_
    rintro e w7 ⟨rfl, hx7⟩
    go_wp2_with fail
    refine (bytes_any s _ ((za.set k u).set (k + 1) u2) _ (by omega) (hrb.ext hx7) (by omega)).mono ?_
    rintro e w8 ⟨rfl, hx8⟩
    go_wp2_with fail
    refine (sameBytes_any _ _ za ((za.set k u).set (k + 1) u2) _ (hra3 _ (hx6.trans hx7 |>.trans hx8)) (hrb.ext (hx7.trans hx8))).mono ?_
    rintro e w9 ⟨rfl, hx9⟩
    go_wp2_with fail
    refine (lives01_any _).mono ?_
    rintro e w10 ⟨rfl, hx10⟩
    go_wp2
    go_ret
    exact ⟨rfl, hx2.trans hx6 |>.trans hx7 |>.trans hx8 |>.trans hx9 |>.trans hx10⟩
  · have hx6 := hx5
    have hrb := hob2.rd
    have hgrp := bytesI_group s.data.toList hsame (by omega)
    have hcond : ((bytesI s.data.toList za == bytesI s.data.toList (za.set k u)) == decide (za = za.set k u)) = true := by
      rw [beq_iff_eq, Bool.eq_iff_iff, beq_iff_eq, decide_eq_true_iff]; exact hgrp
    have hyl : (za.set k u).length ≤ 40 := by simp; omega
    clear hgrp hsame hsb hsb2 hob hob2 hoa2' hfb hfb2 hcb hcb2
    by_cases h3 : k + 1 < za.length
    · have t2 : (((k : Int) + 1) % 8 != 0) = false := by simp; omega
      clear h2
      go_wp2_with fail
      refine (bytes_any s _ za _ (by omega) (hra3 _ hx6) (by omega)).mono ?_
      rintro e w7 ⟨rfl, hx7⟩
      go_wp2_with fail
      refine (bytes_any s _ (za.set k u) _ (by omega) (hrb.ext hx7) (by omega)).mono ?_
      rintro e w8 ⟨rfl, hx8⟩
      go_wp2_with fail
      refine (sameBytes_any _ _ za (za.set k u) _ (hra3 _ (hx6.trans hx7 |>.trans hx8)) (hrb.ext (hx7.trans hx8))).mono ?_
      rintro e w9 ⟨rfl, hx9⟩
      go_wp2_with fail
      refine (lives01_any _).mono ?_
      rintro e w10 ⟨rfl, hx10⟩
      go_wp2
      go_ret
      exact ⟨rfl, hx2.trans hx6 |>.trans hx7 |>.trans hx8 |>.trans hx9 |>.trans hx10⟩
    · have t1 : decide ((k : Int) + 1 < za.length) = false := by simp; omega
      clear h2
      go_wp2_with fail
      refine (bytes_any s _ za _ (by omega) (hra3 _ hx6) (by omega)).mono ?_
      rintro e w7 ⟨rfl, hx7⟩
      go_wp2_with fail
      refine (bytes_any s _ (za.set k u) _ (by omega) (hrb.ext hx7) (by omega)).mono ?_
      rintro e w8 ⟨rfl, hx8⟩
      go_wp2_with fail
      refine (sameBytes_any _ _ za (za.set k u) _ (hra3 _ (hx6.trans hx7 |>.trans hx8)) (hrb.ext (hx7.trans hx8))).mono ?_
      rintro e w9 ⟨rfl, hx9⟩
      go_wp2_with fail
      refine (lives01_any _).mono ?_
      rintro e w10 ⟨rfl, hx10⟩
      go_wp2
      go_ret
      exact ⟨rfl, hx2.trans hx6 |>.trans hx7 |>.trans hx8 |>.trans hx9 |>.trans hx10⟩

end Go.Proofs.Ytmeomkkbgppfkaa
