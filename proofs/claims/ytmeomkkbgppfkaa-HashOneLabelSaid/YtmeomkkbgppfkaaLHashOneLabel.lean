/- HashOneLabel: the walk of the law. -/
import Derived.Test.YtmeomkkbgppfkaaHc8
import Derived.Test.YtmeomkkbgppfkaaHq
import Derived.Test.YtmeomkkbgppfkaaEx
import Derived.Laws.BytesArg
namespace Go.Proofs.Ytmeomkkbgppfkaa
open Go.RowKit
set_option linter.unusedVariables false

/-- one byte turned by a number -/
def xorB (b : UInt8) (n : Int) : UInt8 := UInt8.ofNat (b.toNat ^^^ n.toNat)
theorem xorB_nat (b : UInt8) (n : Int) (h : 0 ≤ n ∧ n ≤ 255) : (xorB b n).toNat = b.toNat ^^^ n.toNat := by
  have hb := u8_lt b
  unfold xorB
  have hx : b.toNat ^^^ n.toNat < 256 := Nat.xor_lt_two_pow (n := 8) hb (by omega)
  rw [UInt8.toNat_ofNat', Nat.mod_eq_of_lt hx]
theorem xorB_val (b : UInt8) (n : Int) (h : 0 ≤ n ∧ n ≤ 255) : bits BinOp.xor IntKind.u8 (b.toNat : Int) n = ((xorB b n).toNat : Int) := by
  have hb := u8_lt b
  rw [u8_xor _ _ (by omega) (by omega) (by omega) (by omega), xorB_nat b n h, Int.toNat_natCast]
theorem xorB_same (b : UInt8) (n : Int) (h : 0 ≤ n ∧ n ≤ 255) : xorB b n = b ↔ n = 0 := by
  rw [← UInt8.toNat_inj, xorB_nat b n h]
  constructor
  · intro e
    have : b.toNat ^^^ n.toNat = b.toNat ^^^ 0 := by rw [Nat.xor_zero]; exact e
    have := xor_cancel_l this
    omega
  · rintro rfl
    simp

theorem set_same_but {x : List UInt8} (k : Nat) (u : UInt8) (q : Nat) (hq : k / 8 = q) : SameBut q x (x.set k u) := by
  refine ⟨by simp, fun j hj => ?_⟩
  rw [List.getElem?_set_ne (by rintro rfl; exact hj hq)]

/-- 'string(b)' -/
theorem conv_back {P : Program} (w : World) (src dst e : TypeId) (v : Value) (bs : List UInt8) (hs : P.underlying src = some (.slice e)) (he : P.underlying e = some (.int .u8)) (hd : P.underlying dst = some .string)
    (h : Rd w v (vbs bs)) (hn : 0 < bs.length) (hm : bs.length ≤ 1000000) : (convert src dst v).run P w = .ok (.string ⟨bs.toArray⟩) w := by
  have h0 := h
  obtain ⟨A, c, rfl, _⟩ := h
  obtain ⟨_, a1, a2, a3⟩ := h0.at
  rw [vbs_len] at *
  obtain ⟨b, off, rfl, hc⟩ := a3 hn
  refine run_convert_bytes_back w src dst e ⟨b, off, none⟩ c bs hs he hd (fun j hj => ?_)
  rw [addr_add]
  exact hc w (Ext.refl _) j _ (by simp [vbs, hj])

set_option maxHeartbeats 1000000 in
theorem HashOneLabel_law (w : World) (s0 : ByteArray) (hs0 : s0.size ≤ maxLen) (v1 : Value) (z1 : List Int) (h1 : Rd w v1 (vis z1)) (hz1 : ∀ n ∈ z1, inI64 n) (at0 : Int) (hat : inI64 at0) (by0 : Int) (hby : 0 ≤ by0 ∧ by0 ≤ 255) :
    Calls Try.prog 7 #[.string s0, v1, .int .i64 at0, .int .u8 by0] w fun e w' => e = .returned (.bool true) ∧ Ext w w' := by
  go_enter Try.func7, Try.ntmps7
  go_wp2_with fail
  refine (ints_any v1 z1 6 _ h1 (by omega)).mono ?_
  rintro e w1 ⟨v, rfl, ho, hx1⟩
  have hr := ho.rd
  have hzl : (z1.take 6).length ≤ 6 := List.length_take_le _ _
  obtain ⟨z, hz⟩ : ∃ z, z = z1.take 6 := ⟨_, rfl⟩
  rw [← hz] at hr hzl ho
  clear hz h1 ho
  go_wp2_with fail
  refine (short_any s0 29 _ hs0 (by omega)).mono ?_
  rintro e w2 ⟨s, rfl, hs, rfl⟩
  have hsl : s.size ≤ 29 := by
    have : s.data.toList.length ≤ 29 := by rw [hs]; exact List.length_take_le _ _
    simpa using this
  have HS := Lib.hid hs
  clear hs
  have hss : (s ++ { data := #[120] } : ByteArray).size = s.size + 1 := by rw [ByteArray.size_append]; rfl
  obtain ⟨v3, w3, hcv, hr3, hx3⟩ := conv_bytes (P := Try.prog) w1 9 30 5 (s ++ { data := #[120] }) Try.underlying9 Try.underlying30 Try.underlying5 (by rw [hss]; simp only [maxLen]; omega)
  obtain ⟨za, hza⟩ : ∃ za, za = (s ++ { data := #[120] } : ByteArray).data.toList := ⟨_, rfl⟩
  have hzal : za.length = s.size + 1 := by rw [hza, Array.length_toList]; exact hss
  have hza1 : 0 < za.length := by omega
  have hza2 : za.length ≤ 30 := by omega
  rw [← hza] at hr3
  clear hza hzal hss
  go_wp2_with fail
  refine (few_any v3 za 30 _ hr3 (by omega)).mono ?_
  rintro e w4 ⟨v4, rfl, hob, hx4⟩
  rw [List.take_of_length_le hza2] at hob
  obtain ⟨gb, cb, rfl, hgb, hgb2, hcb, hfb, hsb⟩ := hob.at (by rw [vbs_len]; exact hza1)
  have hr3' := hr3
  obtain ⟨Aa, ca, rfl, _⟩ := hr3
  simp only [vbs_len] at *
  clear hcv
  go_wp2_with fail
  have hk := around_range at0 za.length (by omega)
  obtain ⟨k, hke⟩ := Int.eq_ofNat_of_zero_le hk.1
  refine (around_any at0 za.length _ hat (by omega) (by omega)).mono ?_
  rintro e w5 ⟨rfl, rfl⟩
  rw [hke]
  have hkl : k < za.length := by omega
  clear hke hk
  have c1 : w4.cell? ⟨gb, k, none⟩ = some (.int .u8 za[k].toNat) := hcb w4 (Ext.refl _) k _ (by simp [vbs, hkl])
  have f1 := hfb k
  have hxv := xorB_val za[k] by0 hby
  have hxs := xorB_same za[k] by0 hby
  obtain ⟨u, hu⟩ : ∃ u, u = xorB za[k] by0 := ⟨_, rfl⟩
  rw [← hu] at hxv hxs
  clear hu
  have hob2 := hsb k (.int .u8 u.toNat)
  rw [show (vbs za).set k (.int .u8 u.toNat) = vbs (za.set k u) by simp [vbs, List.map_set]] at hob2
  have hx5 : Ext w3 (w4.setCell ⟨gb, k, none⟩ (.int .u8 u.toNat)) := hx4.setCell hgb _
  have hra := hr3'.ext hx5
  have hrb := hob2.rd
  have hrz := hr.ext (hx3.trans hx5)
  have hx6 := hx1.trans hx3 |>.trans hx5
  have hsame : SameBut (k / 8) za (za.set k u) := set_same_but k u _ rfl
  have hgrp := sumI_label_group hsame (by omega) z (by omega)
  have hset : za = za.set k u ↔ by0 = 0 := by
    rw [← hxs]
    constructor
    · intro e
      have := congrArg (fun l : List UInt8 => l[k]?) e
      simp [hkl] at this
      exact this.symm
    · intro e
      rw [e]; simp
  have hcond : ((sumI za z == sumI (za.set k u) z) == (by0 == 0)) = true := by
    rw [beq_iff_eq, Bool.eq_iff_iff, beq_iff_eq, beq_iff_eq]; exact hgrp.trans hset
  have hyl : (za.set k u).length ≤ 30 := by simp; omega
  have hyl1 : 0 < (za.set k u).length := by simp; omega
  have ma : (⟨za.toArray⟩ : ByteArray).size ≤ 30 := by show za.toArray.size ≤ 30; simp; exact hza2
  have mb : (⟨(za.set k u).toArray⟩ : ByteArray).size ≤ 30 := by show (za.set k u).toArray.size ≤ 30; simp; omega
  clear hgrp hset hxs hsame hsb hob hcb hfb hr3' hx3 hx5
  go_wp2_with fail
  generalize hW : w4.setCell ⟨gb, k, none⟩ (.int .u8 u.toNat) = w5 at *
  clear hW
  have e1 : ∀ x : ExtW w5, (convert 30 9 (.slice Aa za.length ca)).run Try.prog x.w = .ok (.string ⟨za.toArray⟩) x.w := fun x =>
    conv_back x.w _ _ _ _ za Try.underlying30 Try.underlying5 Try.underlying9 (hra.ext x.ext) hza1 (by omega)
  have e2 : ∀ x : ExtW w5, (convert 30 9 (.slice (some ⟨gb, 0, none⟩) za.length cb)).run Try.prog x.w = .ok (.string ⟨(za.set k u).toArray⟩) x.w := fun x =>
    conv_back x.w _ _ _ _ (za.set k u) Try.underlying30 Try.underlying5 Try.underlying9 (hrb.ext x.ext) hyl1 (by omega)
  refine wp_region_ext w5 (Ext.refl _) (by kernel_rfl) (by kernel_rfl) ?_
  repeat (go_big_quiet_step ((first | (go_at_call 13; ((with_reducible refine calls_ext (sum_any ⟨za.toArray⟩ _ z _ ?_ ?_ ?_)); omega; exact hrz.ext (ExtW.ext _); omega)) | (go_at_call 13; ((with_reducible refine calls_ext (sum_any ⟨(za.set k u).toArray⟩ _ z _ ?_ ?_ ?_)); omega; exact hrz.ext (ExtW.ext _); omega)) | (go_at_call 15; exact calls_ext (lives01_any _)))))
  refine wpQuiet_nil ?_
  intro _ hw'
  obtain ⟨⟨w6, hx7⟩, rfl⟩ := hw'
  go_wp2
  go_ret
  exact ⟨rfl, hx6.trans hx7⟩

end Go.Proofs.Ytmeomkkbgppfkaa
