/- WireWrites: the walk of the law. -/
import Derived.Test.YtfkdaipmbakomaaWl
import Derived.Test.YtfkdaipmbakomaaWh2
import Derived.Deep.RegionWith
namespace Go.Proofs.Ytfkdaipmbakomaa
open Go.RowKit
set_option linter.unusedVariables false

set_option maxRecDepth 100000 in
set_option maxHeartbeats 8000000 in
theorem WireWrites_law (w : World) (v0 : Value) (z0 : List Int) (h0 : Rd w v0 (vis z0)) (hz0 : ∀ n ∈ z0, inI64 n) (u : Int) (hu : 0 ≤ u ∧ u ≤ 18446744073709551615) (n : Int) (hn : inI64 n) (v3 : Value) (b3 : List UInt8) (h3 : Rd w v3 (vbs b3)) (v4 : Value) (z4 : List Int) (h4 : Rd w v4 (vis z4)) (hz4 : ∀ n ∈ z4, inI64 n) :
    Calls Try.prog 6 #[v0, .int .u64 u, .int .i64 n, v3, v4] w fun e w' => e = .returned (.bool true) ∧ Ext w w' := by
  go_enter Try.func6, Try.ntmps6
  go_wp2_with fail
  refine (vals_any v0 z0 _ h0 hz0).mono ?_
  rintro e w1 ⟨v1, xs, rfl, ho1, hx8, hsm, hx1⟩
  clear h0 hz0
  go_wp2_with fail
  refine (few_any v3 b3 200 _ (h3.ext hx1) (by omega)).mono ?_
  rintro e w2 ⟨v5, rfl, ho5, hx2⟩
  obtain ⟨A5, m5, c5, hv5⟩ := ho5.shape
  subst hv5
  go_wp2_with fail
  refine (ints_any v4 z4 20 _ (h4.ext (hx1.trans hx2)) (by omega)).mono ?_
  rintro e w3 ⟨v6, rfl, ho6, hx3⟩
  obtain ⟨A6, m6, c6, hv6⟩ := ho6.shape
  subst hv6
  have hs1 := hx1.size
  have hx23 := hx2.trans hx3
  have hs3 := hx23.size
  have hx13 := hx1.trans hx23
  have hrb := ho5.rd.ext hx3
  have htb := ho5.ty.ext hx3
  have hrl := ho6.rd
  have htl := ho6.ty
  have hb200 : (b3.take 200).length ≤ 200 := by simp; omega
  have hz20 : (z4.take 20).length ≤ 20 := by simp; omega
  have hzi : ∀ n ∈ z4.take 20, inI64 n := fun n hn => hz4 n (List.mem_of_mem_take hn)
  generalize b3.take 200 = bb at *
  generalize z4.take 20 = zz at *
  have ho1' := ho1.ext hx23
  have hN := World.news_of_block (cs := #[.int .i64 0, .int .u64 u, .int .i64 0, .slice none 0 0, .slice none 0 0, .int .i64 1, .int .u64 0, .int .i64 n, .slice none 0 0, .slice none 0 0, .int .i64 4, .int .u64 0, .int .i64 0, .slice A5 m5 c5, .slice none 0 0, .int .i64 5, .int .u64 0, .int .i64 0, .slice none 0 0, .slice A6 m6 c6, .int .i64 2, .int .u64 0, .int .i64 1, .slice none 0 0, .slice none 0 0]) (t := 47) (fr := (0, 0)) (heap_alloc_new w3 _)
  have HN := Lib.hid hN
  have HF := Lib.hid (VFlds.app (VFlds.one (vfld_mk (w := w3) (vU u) _ _ (Rd.nil _) (Ty.nil _ _ _ _) (Rd.nil _) (Ty.nil _ _ _ _))) (VFlds.app (VFlds.one (vfld_mk (w := w3) (vI n) _ _ (Rd.nil _) (Ty.nil _ _ _ _) (Rd.nil _) (Ty.nil _ _ _ _))) (VFlds.app (VFlds.one (vfld_mk (w := w3) (vR bb) _ _ hrb htb (Rd.nil _) (Ty.nil _ _ _ _))) (VFlds.app (VFlds.one (vfld_mk (w := w3) (vL zz) _ _ (Rd.nil _) (Ty.nil _ _ _ _) hrl htl)) (VFlds.one (vfld_mk (w := w3) (vT true) _ _ (Rd.nil _) (Ty.nil _ _ _ _) (Rd.nil _) (Ty.nil _ _ _ _)))))))
  clear hN hrb htb hrl htl ho5 ho6 hz4 h3 h4 ho1
  go_wp2_with (at_builtin; refine wpList_appV _ rfl (.tmp 15) (.tmp 27) rfl w.heap.size _ xs rfl (ho1'.ext ((Ext.refl _).alloc _)) ⟨w3.heap.size, 0, none⟩ 5 5 [vU u, vI n, vR bb, vL zz, vT true] _ rfl rfl (HF.out.keep (KeepUI.of_ext ((Ext.refl _).alloc _))) (fun j q hq => HN.out j q hq) (by omega) (by simp; omega) ?_; intro v7 w7 ho7 hg7 _; have hx7 : Ext w w7 := (hx13.alloc _).grown hg7 (fun k e => (ho1'.lt k e).1))
  have hok : ∀ x ∈ xs ++ [vU u, vI n, vR bb, vL zz, vT true], x.ok := fun x hx => by
    rcases List.mem_append.1 hx with hx | hx
    · exact (hsm x hx).1
    · simp only [List.mem_cons, List.not_mem_nil, or_false] at hx
      rcases hx with rfl | rfl | rfl | rfl | rfl
      · exact (small_U u hu).1
      · exact (small_I n hn).1
      · exact .inr (.inr (.inr (.inr (.inl ⟨bb, rfl, by omega⟩))))
      · exact .inr (.inr (.inr (.inr (.inr ⟨zz, rfl, by omega, hzi⟩))))
      · exact .inr (.inr (.inl ⟨true, rfl⟩))
  have hxl : (xs ++ [vU u, vI n, vR bb, vL zz, vT true]).length ≤ 13 := by simp; omega
  generalize xs ++ [vU u, vI n, vR bb, vL zz, vT true] = ys at *
  have hr7 := ho7.rd
  clear hsm hg7 HN HF ho1' hx13 hx23
  obtain ⟨A, cx, rfl, hcx1, hcx2, hf⟩ := hr7.form
  simp only [maxLen] at hcx2
  go_wp2_with fail
  go_loopw [13] (fun i wr => ∃ k : Nat, k ≤ ys.length ∧ i = .int .i64 k ∧ WAt wr w7.heap.size w7.heap.size (encVs (ys.take k)) ∧ Ext w7 wr) (fun i _ => ys.length - (intOf i).toNat)
  case atStart => exact ⟨0, by omega, rfl, by simpa [encVs] using WAt.new w7, (Ext.refl w7).alloc _⟩
  case round =>
    obtain ⟨k, hk, rfl, hwk, hxr⟩ := hrel
    by_cases hlt : k < ys.length
    · obtain ⟨b, off, rfl⟩ := hf (by omega)
      obtain ⟨vb, vl, c0, c1, c2, c3, c4, hb, htb, hl, htl⟩ := hr7.cellsAt k hlt
      have c0 := hxr.cell c0
      have c1 := hxr.cell c1
      have c2 := hxr.cell c2
      have c3 := hxr.cell c3
      have c4 := hxr.cell c4
      have hb := hb.ext hxr
      have hl := hl.ext hxr
      have htl := htl.lt
      have hxk := hok ys[k] (by simp)
      have hbnd : ∀ j, (encVs (ys.take j)).length ≤ 50000000 := fun j => by
        have := encVs_len (ys.take j) (fun x hx => hok x (List.mem_of_mem_take hx))
        have h3 : (ys.take j).length ≤ ys.length := by simp; omega
        omega
      have hbn := hbnd k
      have hbn1 := hbnd (k + 1)
      have HT : Hid (encVs (ys.take k) ++ encV ys[k] = encVs (ys.take (k + 1))) := Lib.hid (by
        rw [List.take_succ_eq_append_getElem hlt, encVs_app, encVs_one])
      have hokk : ∀ x ∈ ys.take (k + 1), x.ok := fun x hx => hok x (List.mem_of_mem_take hx)
      have hlk : (ys.take (k + 1)).length ≤ 50 := by simp; omega
      have hrk := hr7.take (k + 1) (by omega)
      have HOK := Lib.hid hokk
      generalize ys[k] = x at *
      have hk0 : (0 : Int) ≤ (k : Int) := by omega
      have hk1 : (k : Int) + 1 ≤ (ys.length : Int) := by omega
      have e1 : IntKind.i64.wrap ((k : Int) + 1) = (k : Int) + 1 := by rw [IntKind.wrap_i64]; omega
      have e2 : ((k : Int) + 1).toNat = k + 1 := by omega
      have e3 : (0 : Int) ≤ (k : Int) + 1 := by omega
      have e4 : (k : Int) + 1 ≤ (cx : Int) := by omega
      have HE := Lib.hid (And.intro e1 (And.intro e2 (And.intro e3 e4)))
      clear hok hf hbnd hokk e1 e2 e3 e4
      go_wp2_with fail
      refine (write_any _ _ _ x vb vl _ hxk hb hl htl hwk (by omega)).mono ?_
      rintro e w8 ⟨rfl, hw8, hb8⟩
      rw [HT.out] at hw8
      have hx78 : Ext w7 w8 := Below.trans hxr hb8
      clear c0 c1 c2 c3 c4 hb hl hwk hb8 hxr
      obtain ⟨e1, e2, e3, e4⟩ := HE.out
      go_wp2_with fail
      go_region_with (first
        | (go_at_call 16; refine (wdone_any _ _ _ _ (hw8.ext (by first | exact hxe | exact (Ext.refl _).drew)) (by omega)).mono ?_; rintro e wd ⟨vd, rfl, hod, hxd'⟩; have hxd : Ext w8 wd := Ext.trans (by first | exact hxe | exact (Ext.refl _).drew) hxd')
        | (go_at_call 18; refine (r2encode_any _ _ _ (hrk.ext (by first | exact hx78.trans hxd | exact hx78.drew)) HOK.out hlk).mono ?_; rintro e we ⟨ve, rfl, hoe, hxe'⟩; have hxe : Ext w8 we := Ext.trans (by first | exact hxd | exact (Ext.refl _).drew) hxe')
        | (go_at_call 30; refine (sameBytes_any _ _ (encVs (ys.take (k + 1))) (encVs (ys.take (k + 1))) _ (hod.rd.ext (by first | exact hxe' | exact Ext.refl _)) (hoe.rd.ext (by first | exact hxd' | exact Ext.refl _))).mono ?_; rintro e ws ⟨rfl, hxs⟩; rw [decide_eq_true rfl]; have hxf : Ext w8 ws := Ext.trans (by first | exact hxe | exact hxd) hxs))
      all_goals
        have hwf := hw8.ext hxf
        have hx7f : Ext w7 ws := hx78.trans hxf
        clear hw8 hx78 e1 e2 e3 e4
        go_wp2
        go_roundw
        case rel => exact ⟨k + 1, by omega, by go_num, hwf, hx7f⟩
        case measure => simp [intOf]; omega
    · clear hf hok
      go_wp2_with fail
      refine (lives02_any _).mono ?_
      rintro e w9 ⟨rfl, hx9⟩
      go_wp2
      go_ret
      exact ⟨rfl, (hx7.trans hxr).trans hx9⟩
end Go.Proofs.Ytfkdaipmbakomaa
