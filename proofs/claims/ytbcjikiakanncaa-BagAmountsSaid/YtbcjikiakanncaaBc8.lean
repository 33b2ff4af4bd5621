/- package bag: the laws' three lists. -/
import Derived.Test.YtbcjikiakanncaaBc7
namespace Go.Proofs.Ytbcjikiakanncaa
open Go.RowKit
set_option linter.unusedVariables false

/-- a slice of three lists -/
def Bags (w : World) (v : Value) (L : Nat → List Int) : Prop :=
  ∃ (g : Nat) (f : Nat → Value), v = .slice (some ⟨g, 0, none⟩) 3 3 ∧ ∀ i, i < 3 → w.cell? ⟨g, i, none⟩ = some (f i) ∧ Rd w (f i) (vis (L i))
theorem Bags.ext {w w' : World} {v : Value} {L : Nat → List Int} (h : Bags w v L) (hx : Ext w w') : Bags w' v L := by
  obtain ⟨g, f, rfl, h⟩ := h
  exact ⟨g, f, rfl, fun i hi => ⟨hx.cell (h i hi).1, (h i hi).2.ext hx⟩⟩
def pick3 {α : Type} (a b c : α) (i : Nat) : α := if i = 0 then a else if i = 1 then b else c

theorem Bags.mk (w : World) (a b c : List Int) (va vb vc : Value) (ha : Rd w va (vis a)) (hb : Rd w vb (vis b)) (hc : Rd w vc (vis c)) :
    Bags (w.alloc (.cells #[va, vb, vc] 22)) (.slice (some ⟨w.heap.size, 0, none⟩) 3 3) (pick3 a b c) := by
  have hx : Ext w (w.alloc (.cells #[va, vb, vc] 22)) := (Ext.refl w).alloc _
  refine ⟨_, pick3 va vb vc, rfl, fun i hi => ?_⟩
  have hb0 := Blk.new w 22 [va, vb, vc]
  have h3 : i = 0 ∨ i = 1 ∨ i = 2 := by omega
  rcases h3 with rfl | rfl | rfl
  · exact ⟨hb0.cell 0, ha.ext hx⟩
  · exact ⟨hb0.cell 1, hb.ext hx⟩
  · exact ⟨hb0.cell 2, hc.ext hx⟩

def BagsOk (L : Nat → List Int) : Prop := ∀ i, i < 3 → (∀ x ∈ L i, inI64 x) ∧ (L i).length ≤ 9
theorem bagsOk_mk {a b c : List Int} (ha : isB a = true) (hb : isB b = true) (hal : a.length ≤ 9) (hbl : b.length ≤ 9) (hc : ∀ x ∈ c, inI64 x) (hcl : c.length ≤ 9) : BagsOk (pick3 a b c) := fun i hi => by
  have h3 : i = 0 ∨ i = 1 ∨ i = 2 := by omega
  rcases h3 with rfl | rfl | rfl
  · exact ⟨i64_of_isB ha, hal⟩
  · exact ⟨i64_of_isB hb, hbl⟩
  · exact ⟨hc, hcl⟩

set_option maxRecDepth 100000 in
set_option maxHeartbeats 4000000 in
theorem bags_any (n : Int) (v : Value) (zs : List Int) (at_ by_ : Int) (w : World) (hn : inI64 n) (h : Rd w v (vis zs)) (hz : ∀ z ∈ zs, inI64 z) (hat : inI64 at_) (hby : inI64 by_) :
    Calls Try.prog 24 #[.int .i64 n, v, .int .i64 at_, .int .i64 by_] w fun e w' => ∃ v' L, e = .returned v' ∧ Bags w' v' L ∧ BagsOk L ∧ Ext w w' := by
  obtain ⟨i0, hi, hz0, hz1, hz2⟩ := info_parts info_int
  have hr0 := Int.emod_nonneg n (show (8 : Int) ≠ 0 by omega)
  have hr1 := Int.emod_lt_of_pos n (show (0 : Int) < 8 by omega)
  have hs0 := Int.emod_nonneg at_ (show (12 : Int) ≠ 0 by omega)
  have hs1 := Int.emod_lt_of_pos at_ (show (0 : Int) < 12 by omega)
  go_enter Try.func24, Try.ntmps24
  go_wp2_with fail
  refine (around3_any n 8 _ hn (by omega) (by omega)).mono ?_
  rintro e w1 ⟨rfl, rfl⟩
  obtain ⟨k, hk⟩ : ∃ k : Nat, n % 8 = (k : Int) := ⟨(n % 8).toNat, by omega⟩
  rw [hk] at hr0 hr1 ⊢
  clear hk
  have hk8 : k ≤ 8 := by omega
  go_wp2_with fail
  refine (bag_any k v zs 0 _ hk8 h hz (by omega)).mono ?_
  rintro e w1 ⟨va, a, rfl, hoa, hal, hab, hx1⟩
  go_wp2_with fail
  refine (bag_any k v zs 3 _ hk8 (h.ext hx1) hz (by omega)).mono ?_
  rintro e w2 ⟨vb, b, rfl, hob, hbl, hbb, hx2⟩
  go_wp2_with fail
  refine (bag_any k v zs 1 _ hk8 ((h.ext hx1).ext hx2) hz (by omega)).mono ?_
  rintro e w3 ⟨vc, c, rfl, hoc, hcl, hcb, hx3⟩
  go_wp2_with fail
  refine (around3_any at_ 12 _ hat (by omega) (by omega)).mono ?_
  rintro e w4 ⟨rfl, rfl⟩
  obtain ⟨i, hii⟩ : ∃ i : Nat, at_ % 12 = (i : Int) := ⟨(at_ % 12).toNat, by omega⟩
  rw [hii] at hs0 hs1 ⊢
  clear hii
  have hra2 := hoa.rd.ext hx2
  have hrb2 := hob.rd
  have hx12 := hx1.trans hx2
  have hxw := (hx1.trans hx2).trans hx3
  have hs3 := hx3.size
  have hcc := i64_of_isB hcb
  obtain ⟨Ac, cc, hvc, hAc⟩ := hoc.form'
  rw [vis_len] at hvc hAc
  have HH := Lib.hid (And.intro hab (And.intro hbb (And.intro hal hbl)))
  have HCL := Lib.hid hcl
  have HC := Lib.hid hcc
  obtain ⟨Aa, ma, ca, hva⟩ := hoa.shape
  obtain ⟨Ab, mb, cb, hvb⟩ := hob.shape
  subst hva hvb
  rw [hcl] at hvc hAc
  subst hvc
  clear hoa hob hal hbl hcl hab hbb hcb hcc h hz
  by_cases hik : i < k
  · obtain ⟨g, rfl⟩ := hAc (by omega)
    obtain ⟨⟨u, hcu⟩, hfu, hset⟩ := Own.fill (xs := vis c) (show Own w3 w2.heap.size 3 (.slice (some ⟨g, 0, none⟩) (vis c).length cc) (vis c) by rw [vis_len, HCL.out]; exact hoc) (k := i) (by rw [vis_len, HCL.out]; exact hik)
    have hset := hset (.int .i64 by_)
    rw [vis_set, vis_len, HCL.out] at hset
    have hg2 := (hoc.lt g rfl).1
    have hxs : Ext w2 (w3.setCell ⟨g, i, none⟩ (.int .i64 by_)) := hx3.setCell hg2 _
    have hcs : ∀ x ∈ c.set i by_, inI64 x := fun x hx => by
      rcases List.mem_or_eq_of_mem_set hx with h | rfl
      · exact HC.out x h
      · exact hby
    have hm := Bags.mk (w3.setCell ⟨g, i, none⟩ (.int .i64 by_)) a b (c.set i by_) _ _ _ (hra2.ext hxs) (hrb2.ext hxs) hset.rd
    rw [show (w3.setCell ⟨g, i, none⟩ (.int .i64 by_)).heap.size = w3.heap.size by simp] at hm
    have HS := Lib.hid hm
    clear hm
    have HO := Lib.hid (bagsOk_mk HH.out.1 HH.out.2.1 (by have := HH.out.2.2.1; omega) (by have := HH.out.2.2.2; omega) hcs (by rw [List.length_set, HCL.out]; omega))
    have hxf : Ext w (w3.setCell ⟨g, i, none⟩ (.int .i64 by_)) := hx12.trans hxs
    have hi10 : ((i : Int) == 10) = false := by simp; omega
    clear hset hra2 hrb2 hAc hoc hg2
    go_wp2
    go_ret
    exact ⟨_, _, rfl, HS.out, HO.out, hxf.alloc _⟩
  · by_cases h10 : i = 10
    · subst h10
      clear hAc
      go_wp2_with (at_builtin; refine wpList_app _ rfl (.tmp 36) (.tmp 37) _ rfl w2.heap.size 3 i0 _ 8 Try.underlying22 hi hz0 hz1 hz2 rfl (by omega) _ _ rfl (hoc.ext ((Ext.refl _).alloc _)) (some ⟨w3.heap.size, 0, none⟩) 1 1 [.int .i64 1] rfl (Src.one _ _ _) ?_ ?_ ?_ ?_; (simp [Value.oneCell']); (rw [vis_len, HCL.out]; omega); (simp; have := hx3.size; omega); intro v1 w4 ho1 hg1 _; obtain ⟨A4, m4, c4, rfl⟩ := Own.shape ho1)
      have hxs : Ext w2 w4 := Ext.app hx3 (Ext.refl w2) hoc hg1
      have hon : Own w4 w2.heap.size 3 (.slice A4 m4 c4) (vis (c ++ [1])) := by rw [vis_app]; exact ho1
      have hcs : ∀ x ∈ c ++ [1], inI64 x := fun x hx => by
        rcases List.mem_append.1 hx with h | h
        · exact HC.out x h
        · simp only [List.mem_singleton] at h; subst h; unfold inI64; omega
      have HS := Lib.hid (Bags.mk w4 a b (c ++ [1]) _ _ _ (hra2.ext hxs) (hrb2.ext hxs) hon.rd)
      have HO := Lib.hid (bagsOk_mk HH.out.1 HH.out.2.1 (by have := HH.out.2.2.1; omega) (by have := HH.out.2.2.2; omega) hcs (by rw [List.length_append, HCL.out]; simp; omega))
      have hxf : Ext w w4 := hx12.trans hxs
      clear hon ho1 hra2 hrb2 hoc hg1
      go_ret
      exact ⟨_, _, rfl, HS.out, HO.out, hxf.alloc _⟩
    · have hi10 : ((i : Int) == 10) = false := by simp; omega
      have HS := Lib.hid (Bags.mk w3 a b c _ _ _ (hra2.ext hx3) (hrb2.ext hx3) hoc.rd)
      have HO := Lib.hid (bagsOk_mk HH.out.1 HH.out.2.1 (by have := HH.out.2.2.1; omega) (by have := HH.out.2.2.2; omega) HC.out (by rw [HCL.out]; omega))
      clear hra2 hrb2 hAc hoc
      go_wp2
      go_ret
      exact ⟨_, _, rfl, HS.out, HO.out, hxw.alloc _⟩
end Go.Proofs.Ytbcjikiakanncaa
