/- ShareSplit: the walk of the law. -/
import Derived.Test.YtenencblpoeneaaSl
import Derived.Test.YtenencblpoeneaaSr2
import Derived.Test.YtenencblpoeneaaSw1
import Derived.Test.YtenencblpoeneaaDc2
namespace Go.Proofs.Ytenencblpoeneaa
open Go.RowKit
set_option linter.unusedVariables false

theorem SplitAns.same {t : Int} {ws xs ys : List Int} {c d : Int} (h : SplitAns t ws xs c) (k : SplitAns t ws ys d) : xs = ys ∧ c = d := by
  cases ho : okS t ws with
  | true =>
    obtain ⟨h1, h2⟩ := h.yes ho
    obtain ⟨k1, k2⟩ := k.yes ho
    exact ⟨h2.unique k2, by rw [h1, k1]⟩
  | false =>
    obtain ⟨h1, h2⟩ := h.no ho
    obtain ⟨k1, k2⟩ := k.no ho
    exact ⟨by rw [h2, k2], by rw [h1, k1]⟩

theorem rd_takeI {w : World} {A : Option Addr} {n c : Nat} {xs : List Value} (h : Rd w (.slice A n c) xs) (m : Nat) (hm : m ≤ n) : Rd w (.slice A m c) (xs.take m) := by
  obtain ⟨A', c', hv, h1, h2, h3⟩ := h
  injection hv with e1 e2 e3
  subst e1 e2 e3
  have hl : (xs.take m).length = m := by simp; omega
  refine ⟨A, c, by rw [hl], by rw [hl]; omega, h2, ?_⟩
  rcases h3 with rfl | ⟨b, off, rfl, hc⟩
  · left; simp
  · right
    refine ⟨b, off, rfl, fun j u hu => hc j u ?_⟩
    rw [List.getElem?_take] at hu
    split at hu
    · exact hu
    · cases hu

set_option maxRecDepth 100000 in
set_option maxHeartbeats 8000000 in
theorem ShareSplit_law (w : World) (total : Int) (ht : inI64 total) (v1 : Value) (z1 : List Int) (h1 : Rd w v1 (vis z1)) (hz1 : ∀ n ∈ z1, inI64 n) :
    Calls Try.prog 5 #[.int .i64 total, v1] w fun e w' => e = .returned (.bool true) ∧ Ext w w' := by
  obtain ⟨i0, hi, hz0, hz1', hz2⟩ := info_parts info_int
  have h10 := h1
  obtain ⟨A, c, hv, -⟩ := id h1
  subst hv
  rw [vis_len] at h1
  obtain ⟨-, r2, r3, -⟩ := h1.at
  simp only [maxLen] at r3
  obtain ⟨m, hm, hml, hm8⟩ : ∃ m : Nat, (if (8 : Int) < z1.length then (8 : Int) else z1.length) = (m : Int) ∧ m ≤ z1.length ∧ m ≤ 8 := by
    by_cases h : (8 : Int) < z1.length
    · exact ⟨8, by rw [if_pos h]; rfl, by omega, by omega⟩
    · exact ⟨z1.length, by rw [if_neg h], by omega, by omega⟩
  have hmm : min (z1.length : Int) 8 = (m : Int) := by
    rw [← hm]
    by_cases h : (8 : Int) < z1.length
    · rw [if_pos h]; omega
    · rw [if_neg h]; omega
  have hrt := rd_takeI h1 m hml
  rw [show List.take m (vis z1) = vis (z1.take m) by simp [vis]] at hrt
  have hst := Src.rd hrt
  rw [vis_len] at h10 ⊢
  have hm0 : (0 : Int) ≤ m := by omega
  have hmc : (m : Int) ≤ c := by omega
  have hml2 : (z1.take m).length ≤ 8 := by simp; omega
  have HTK : Hid (∀ x ∈ z1.take m, inI64 x) := Lib.hid (fun x hx => hz1 x (List.mem_of_mem_take hx))
  have HZ := Lib.hid hz1
  clear hz1
  go_enter Try.func5, Try.ntmps5
  go_wp2_with (at_builtin; refine wpList_app _ rfl (.tmp 16) (.tmp 21) _ rfl w.heap.size 3 i0 _ 8 Try.underlying22 hi hz0 hz1' hz2 rfl (by omega) _ [] rfl (Own.lit0 w 3) A m c (vis (z1.take m)) rfl (hst.ext ((Ext.refl w).alloc _)) ?_ ?_ ?_ ?_; exact vis_one _; (simp; omega); (simp); intro v2 w2 ho2 hg2 _; rw [List.nil_append] at ho2)
  have hx2 : Ext w w2 := ((Ext.refl w).alloc _).grown hg2 (fun k e => ((Own.lit0 w 3).lt k e).1)
  have rraw := ho2.rd
  clear ho2 hg2 hst hrt hm hmm hml hm8 hm0 hmc r2 r3
  generalize z1.take m = raw at *
  refine (weights_any _ z1 _ (h10.ext hx2) HZ.out).mono ?_
  rintro e w3 ⟨vw, ws, rfl, how, hwok, hx3⟩
  have rw3 := how.rd
  replace rraw := rraw.ext hx3
  have hxw : Ext w w3 := hx2.trans hx3
  have HW := Lib.hid hwok
  clear how hwok hx2 hx3 h10
  go_wp2_with fail
  refine (around3_any total 1099511627777 _ ht (by omega) (by omega)).mono ?_
  rintro e w4 ⟨rfl, rfl⟩
  generalize total % 1099511627777 = t at *
  go_wp2_with fail
  refine (split_any total v2 raw _ rraw HTK.out (by omega)).mono ?_
  rintro e w5 ⟨va, xa, ca, rfl, hsa, hoa, hx5⟩
  replace rraw := rraw.ext hx5
  replace rw3 := rw3.ext hx5
  replace hxw := hxw.trans hx5
  have ra := hoa.rd
  have HSA := Lib.hid hsa
  clear hsa hoa hx5
  go_wp2_with fail
  refine (splitR_any total v2 raw _ rraw HTK.out (by omega)).mono ?_
  rintro e w6 ⟨vb, xb, cb, rfl, hsb, hob, hx6⟩
  obtain ⟨rfl, rfl⟩ := HSA.out.same hsb
  replace rw3 := rw3.ext hx6
  replace hxw := hxw.trans hx6
  replace ra := ra.ext hx6
  have rb := hob.rd
  clear hsb hob hx6 rraw HSA
  go_wp2_with fail
  refine (split_any t vw ws _ rw3 HW.out.i64 (by have := HW.out.len; omega)).mono ?_
  rintro e w7 ⟨vc, xc, cc, rfl, hsc, hoc, hx7⟩
  replace rw3 := rw3.ext hx7
  replace hxw := hxw.trans hx7
  replace ra := ra.ext hx7
  replace rb := rb.ext hx7
  have rc := hoc.rd
  have HSC := Lib.hid hsc
  clear hsc hoc hx7
  go_wp2_with fail
  refine (splitR_any t vw ws _ rw3 HW.out.i64 (by have := HW.out.len; omega)).mono ?_
  rintro e w8 ⟨vd, xd, cd, rfl, hsd, hod, hx8⟩
  obtain ⟨rfl, rfl⟩ := HSC.out.same hsd
  replace hxw := hxw.trans hx8
  replace ra := ra.ext hx8
  replace rb := rb.ext hx8
  replace rc := rc.ext hx8
  have rd' := hod.rd
  clear hsd hod hx8 rw3 HSC
  go_wp2_with fail
  refine (same3_any va vb xa xa _ ra rb).mono ?_
  rintro e w9 ⟨rfl, hx9⟩
  rw [decide_eq_true rfl]
  replace hxw := hxw.trans hx9
  replace rc := rc.ext hx9
  replace rd' := rd'.ext hx9
  clear hx9 ra rb
  go_wp2_with fail
  refine (same3_any vc vd xc xc _ rc rd').mono ?_
  rintro e w10 ⟨rfl, hx10⟩
  rw [decide_eq_true rfl]
  replace hxw := hxw.trans hx10
  clear hx10 rc rd'
  go_wp2_with fail
  refine (lives03_any _).mono ?_
  rintro e w11 ⟨rfl, hx11⟩
  go_wp2
  go_ret
  exact ⟨rfl, hxw.trans hx11⟩
end Go.Proofs.Ytenencblpoeneaa
