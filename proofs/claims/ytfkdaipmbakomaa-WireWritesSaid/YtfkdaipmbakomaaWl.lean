/- The examples of section wire hold: lives returns true. -/
import Derived.Test.YtfkdaipmbakomaaWd4
import Derived.Test.YtfkdaipmbakomaaWq
import Derived.Test.YtfkdaipmbakomaaEx
namespace Go.Proofs.Ytfkdaipmbakomaa
open Go.RowKit
set_option linter.unusedVariables false

theorem u300 : uvar 300 = [172, 2] := by rw [uvar_hi 300 (by omega), show (300 : Int) / 128 = 2 by decide, uvar_lo 2 (by omega)]; rfl
theorem um1 : uvar (zig (-1)) = [1] := by rw [show zig (-1) = 1 by decide, uvar_lo 1 (by omega)]; rfl
theorem rab : rawW [97, 98] = [2, 97, 98] := by unfold rawW; rw [show (([97, 98] : List UInt8).length : Int) = 2 by rfl, uvar_lo 2 (by omega)]; rfl

set_option maxHeartbeats 2000000 in
theorem lives02_any (w : World) : Calls Try.prog 17 #[] w fun e w' => e = .returned (.bool true) ∧ Ext w w' := by
  go_enter Try.func17, Try.ntmps17
  go_wp2_with fail
  refine (wuint_any w.heap.size w.heap.size [] 300 _ (by omega) (WAt.new w) (by simp)).mono ?_
  rintro e w1 ⟨rfl, h1, hx1⟩
  rw [List.nil_append, u300] at h1
  have hx1' : Ext w w1 := Below.trans ((Ext.refl w).alloc _) hx1
  clear hx1
  go_wp2_with fail
  refine (wint_any w.heap.size w.heap.size _ (-1) _ (by unfold inI64; omega) h1 (by simp)).mono ?_
  rintro e w2 ⟨rfl, h2, hx2⟩
  rw [um1, show ([172, 2] : List UInt8) ++ [1] = [172, 2, 1] from rfl] at h2
  have hx2' : Ext w w2 := Below.trans hx1' hx2
  clear hx2 h1 hx1'
  go_wp2_with fail
  refine (wtext_any w.heap.size w.heap.size _ _ _ h2 (by simp) (by decide)).mono ?_
  rintro e w3 ⟨rfl, h3, hx3⟩
  have hx3' : Ext w w3 := Below.trans hx2' hx3
  clear hx3 h2 hx2'
  rw [show (({ data := #[97, 98] } : ByteArray).data.toList) = [97, 98] from rfl, rab, show ([172, 2, 1] : List UInt8) ++ [2, 97, 98] = [172, 2, 1, 2, 97, 98] from rfl] at h3
  go_wp2_with fail
  refine (wdone_any _ _ _ _ h3 (by decide)).mono ?_
  rintro e w4 ⟨b, rfl, h4, hx4⟩
  have hr4 := h4.rd
  have hx4' : Ext w w4 := hx3'.trans hx4
  clear hx4 h3 hx3'
  go_wp2_with fail
  refine (read_any _ _ _ hr4 (by decide)).mono ?_
  rintro e w5 ⟨g, rfl, hg, hgl, h5, hx5⟩
  have hx5' : Ext w w5 := hx4'.trans hx5
  go_wp2_with fail
  have hr6 := Rd.lit w5 [.int .u8 128, .int .u8 0] 5 (by simp)
  refine (read_any _ [128, 0] _ hr6 (by decide)).mono ?_
  rintro e w6 ⟨g', rfl, hg', hgl', h6, hx6⟩
  have hsz : (w5.alloc (.cells #[.int .u8 128, .int .u8 0] 5)).heap.size = w5.heap.size + 1 := by simp
  have hx6' : Ext w5 w6 := ((Ext.refl w5).alloc _).trans hx6
  rw [hsz] at hg'
  have hne : g ≠ g' := by omega
  have h5' := h5.ext hx6'
  have h6' : RAt w6 (fun k => w5.heap.size < k ∧ k < g') g' (.ok [128, 0]) := h6.mono (fun k hk => by rw [hsz] at hk; omega)
  have hr7 := (hr4.ext hx5).ext hx6'
  have hx7 : Ext w4 w6 := hx5.trans hx6'
  clear h6 h5 hx6 hsz hx6' hx5 hx5' hr6
  go_wp2_with fail
  refine (ruint_any _ g _ _ h5').mono ?_
  rintro e w7 ⟨rfl, h7, hc7⟩
  rw [show uintR (.ok [172, 2, 1, 2, 97, 98]) = (300, .ok [1, 2, 97, 98]) by kernel_rfl] at h7 ⊢
  have h6' := h6'.chg hc7 (fun k hk => by omega) (fun e => hne e.symm)
  go_wp2_with fail
  refine (rint_any _ g _ _ h7).mono ?_
  rintro e w8 ⟨rfl, h8, hc8⟩
  rw [show intR (.ok [1, 2, 97, 98]) = (-1, .ok [2, 97, 98]) by kernel_rfl] at h8 ⊢
  have h6' := h6'.chg hc8 (fun k hk => by omega) (fun e => hne e.symm)
  go_wp2_with fail
  have hs7 := hc7.size
  have hs8 := hc8.size
  have hs6 := hx7.size
  refine (rtext_any _ g _ _ h8 (fun k hk => by omega) (fun bs hbs => by cases hbs; decide)).mono ?_
  rintro e w9 ⟨rfl, h9, hc9⟩
  rw [show rawR (.ok [2, 97, 98]) = ([97, 98], .ok []) by kernel_rfl] at h9 ⊢
  have h6' := h6'.chg hc9 (fun k hk => by omega) (fun e => hne e.symm)
  go_wp2_with fail
  refine (rint_any _ g' _ _ h6').mono ?_
  rintro e w10 ⟨rfl, h10, hc10⟩
  rw [show (intR (.ok [128, 0])).2 = .error 2 by kernel_rfl] at h10
  have h9' := h9.chg hc10 (fun k hk => by omega) hne
  have hx10 : Ext w4 w10 := Chg.ext (Chg.ext (Chg.ext (Chg.ext hx7 hc7 hg) hc8 hg) hc9 hg) hc10 (by omega)
  have hr10 := hr4.ext hx10
  clear hr7 hr4 h4 h8 h7 h9 h6' h5' hc7 hc8 hc9 hc10 hx7
  go_wp2_with fail
  have hr11 := Rd.lit w10 (vbs [172, 2, 1, 2, 97, 98]) 5 (by simp [vbs])
  refine (sameBytes_any _ _ [172, 2, 1, 2, 97, 98] [172, 2, 1, 2, 97, 98] _ (hr10.ext ((Ext.refl _).alloc _)) hr11).mono ?_
  rintro e w11 ⟨rfl, hx11⟩
  have hx12 : Ext w10 w11 := ((Ext.refl _).alloc _).trans hx11
  have h10' := h10.ext hx12
  have h9'' := h9'.ext hx12
  rw [show decide (([172, 2, 1, 2, 97, 98] : List UInt8) = [172, 2, 1, 2, 97, 98]) = true by decide]
  go_wp2_with fail
  refine (rend_any _ g _ _ h9'').mono ?_
  rintro e w12 ⟨rfl, rfl⟩
  rw [show endR (.ok []) = 0 by rfl]
  go_wp2_with fail
  refine (rend_any _ g' _ _ h10').mono ?_
  rintro e w12 ⟨rfl, rfl⟩
  rw [show endR (.error 2) = 2 by rfl]
  go_wp2
  go_ret
  exact ⟨rfl, (hx4'.trans hx10).trans hx12⟩

end Go.Proofs.Ytfkdaipmbakomaa
