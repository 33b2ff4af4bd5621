/- HashOneWord: the walk of the law. -/
import Derived.Test.YtmeomkkbgppfkaaHc8
import Derived.Test.YtmeomkkbgppfkaaHq
import Derived.Test.YtmeomkkbgppfkaaEx
namespace Go.Proofs.Ytmeomkkbgppfkaa
open Go.RowKit
set_option linter.unusedVariables false

set_option maxHeartbeats 1000000 in
theorem HashOneWord_law (w : World) (s0 : ByteArray) (hs0 : s0.size ≤ maxLen) (v1 : Value) (z1 : List Int) (h1 : Rd w v1 (vis z1)) (hz1 : ∀ n ∈ z1, inI64 n) (at0 : Int) (hat : inI64 at0) (v : Int) (hv : inI64 v) :
    Calls Try.prog 5 #[.string s0, v1, .int .i64 at0, .int .i64 v] w fun e w' => e = .returned (.bool true) ∧ Ext w w' := by
  obtain ⟨i0, hi, hz0, hz1', hz2⟩ := info_parts info_int
  go_enter Try.func5, Try.ntmps5
  go_wp2_with fail
  refine (short_any s0 20 _ hs0 (by omega)).mono ?_
  rintro e w1 ⟨s, rfl, hs, rfl⟩
  have hsl : s.size ≤ 20 := by
    have : s.data.toList.length ≤ 20 := by rw [hs]; exact List.length_take_le _ _
    simpa using this
  have HS := Lib.hid hs
  clear hs
  go_wp2_with fail
  refine (ints_any v1 z1 9 _ h1 (by omega)).mono ?_
  rintro e w1 ⟨va, rfl, hoa, hx1⟩
  have hzl : (z1.take 9).length ≤ 9 := List.length_take_le _ _
  go_wp2_with (at_builtin; refine wpList_app _ rfl (.tmp 16) (.tmp 17) _ rfl w.heap.size 3 i0 _ 8 Try.underlying22 hi hz0 hz1' hz2 rfl (by omega) _ _ rfl (hoa.ext ((Ext.refl _).alloc _)) (some ⟨w1.heap.size, 0, none⟩) 1 1 [.int .i64 7] rfl (Src.one _ _ _) ?_ ?_ ?_ ?_; (simp [Value.oneCell']); (rw [vis_len]; omega); (have := hx1.size; simp; omega); intro v2 w2 hoa2 hg2 _; go_wp2_with fail)
  have hx2 : Ext w w2 := (hx1).app (Ext.refl _) hoa hg2
  obtain ⟨za, hza⟩ : ∃ za, za = z1.take 9 ++ [7] := ⟨_, rfl⟩
  have hoa2' : Own w2 w.heap.size 3 v2 (vis za) := by rw [hza, vis_app]; exact hoa2
  have hzal : za.length ≤ 10 := by rw [hza]; simp; omega
  have hza1 : 0 < za.length := by rw [hza]; simp
  have hzr : ∀ n ∈ za, inI64 n := by
    intro n hn
    rw [hza] at hn
    rcases List.mem_append.1 hn with h | h
    · exact hz1 n (List.mem_of_mem_take h)
    · simp at h; subst h; unfold inI64; omega
  clear hza hoa hoa2 hg2 hx1
  refine (ints_any v2 za 10 _ hoa2'.rd (by omega)).mono ?_
  rintro e w3 ⟨v3, rfl, hob, hx3⟩
  rw [List.take_of_length_le hzal] at hob
  obtain ⟨ga, ca, rfl, hga, hga2, hca, hfa, -⟩ := hoa2'.at (by rw [vis_len]; exact hza1)
  obtain ⟨gb, cb, rfl, hgb, hgb2, hcb, hfb, hsb⟩ := hob.at (by rw [vis_len]; exact hza1)
  simp only [vis_len] at *
  go_wp2_with fail
  have hk := around_range at0 za.length (by omega)
  obtain ⟨k, hke⟩ := Int.eq_ofNat_of_zero_le hk.1
  refine (around_any at0 za.length _ hat (by omega) (by omega)).mono ?_
  rintro e w4 ⟨rfl, rfl⟩
  rw [hke]
  have hkl : k < za.length := by omega
  clear hke hk
  have c1 : w3.cell? ⟨gb, k, none⟩ = some (.int .i64 za[k]) := hcb w3 (Ext.refl _) k _ (by simp [vis, hkl])
  have f1 := hfb k
  go_wp2_with fail
  have hset := sumI_set s.data.toList za hzr k hkl v hv
  have hob2 := hsb k (.int .i64 v)
  rw [show (vis za).set k (.int .i64 v) = vis (za.set k v) by simp [vis, List.map_set]] at hob2
  have hx4 : Ext w2 (w3.setCell ⟨gb, k, none⟩ (.int .i64 v)) := hx3.setCell hgb _
  have hra := hoa2'.rd.ext hx4
  have hrb := hob2.rd
  have ca1 : ∀ x : ExtW (w3.setCell ⟨gb, k, none⟩ (.int .i64 v)), x.w.cell? ⟨ga, k, none⟩ = some (.int .i64 za[k]) := fun x => hca x.w (hx4.trans x.ext) k _ (by simp [vis, hkl])
  have hx5 := hx2.trans hx4
  clear hca hcb hfa hfb hsb c1 f1 hob hob2 hoa2' hx3 hx4
  generalize w3.setCell ⟨gb, k, none⟩ (.int .i64 v) = w5 at *
  have hcond : ((sumI s.data.toList za == sumI s.data.toList (za.set k v)) == (za[k] == v)) = true := by
    rw [beq_iff_eq, Bool.eq_iff_iff, beq_iff_eq, beq_iff_eq]; exact hset
  clear hset
  refine wp_region_ext w5 (Ext.refl _) (by kernel_rfl) (by kernel_rfl) ?_
  repeat (go_big_quiet_step ((first | (go_at_call 13; exact calls_ext (sum_any s _ za _ (by omega) (hra.ext (ExtW.ext _)) (by omega))) | (go_at_call 13; exact calls_ext (sum_any s _ (za.set k v) _ (by omega) (hrb.ext (ExtW.ext _)) (by simp; omega))) | (go_at_call 15; exact calls_ext (lives01_any _)))))
  refine wpQuiet_nil ?_
  intro _ hw'
  obtain ⟨⟨w6, hx6⟩, rfl⟩ := hw'
  go_wp2
  go_ret
  exact ⟨rfl, hx5.trans hx6⟩

end Go.Proofs.Ytmeomkkbgppfkaa
