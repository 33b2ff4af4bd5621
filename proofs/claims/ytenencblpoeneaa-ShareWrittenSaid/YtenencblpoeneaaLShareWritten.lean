/- ShareWritten: the walk of the law. -/
import Derived.Test.YtenencblpoeneaaSl
import Derived.Test.YtenencblpoeneaaSq
import Derived.Test.YtenencblpoeneaaWq
import Derived.Test.YtenencblpoeneaaWd4
import Derived.Test.YtenencblpoeneaaHc3
namespace Go.Proofs.Ytenencblpoeneaa
open Go.RowKit
set_option linter.unusedVariables false

set_option maxRecDepth 100000 in
set_option maxHeartbeats 8000000 in
theorem ShareWritten_law (w : World) (total : Int) (ht : inI64 total) (v1 : Value) (z1 : List Int) (h1 : Rd w v1 (vis z1)) (hz1 : ∀ n ∈ z1, inI64 n) :
    Calls Try.prog 3 #[.int .i64 total, v1] w fun e w' => e = .returned (.bool true) ∧ Ext w w' := by
  have t0 := Int.emod_nonneg total (show (1099511627777 : Int) ≠ 0 by omega)
  have t1 := Int.emod_lt_of_pos total (show (0 : Int) < 1099511627777 by omega)
  go_enter Try.func3, Try.ntmps3
  go_wp2_with fail
  refine (around3_any total 1099511627777 _ ht (by omega) (by omega)).mono ?_
  rintro e w4 ⟨rfl, rfl⟩
  generalize total % 1099511627777 = t at *
  go_wp2_with fail
  refine (weights_any _ z1 _ h1 hz1).mono ?_
  rintro e w3 ⟨vw, ws, rfl, how, hwok, hxw⟩
  have rw3 := how.rd
  have HW := Lib.hid hwok
  clear how hwok h1 hz1
  go_wp2_with fail
  refine (split_any t vw ws _ rw3 HW.out.i64 (by have := HW.out.len; omega)).mono ?_
  rintro e w5 ⟨va, xs, c, rfl, hans, hoa, hx5⟩
  obtain ⟨rfl, hsp⟩ := hans.ok t0 (by omega) HW.out.amt HW.out.pos
  obtain ⟨got, hat⟩ := hsp.at HW.out.pos
  have hxl := hsp.len
  have hnn := hat.nonneg hxl t0 (fun x hx => (HW.out.amt x hx).1) HW.out.pos
  have ra := hoa.rd
  replace hxw := hxw.trans hx5
  have HSUM := Lib.hid hat.sum
  have HNN := Lib.hid hnn
  have HXL : Hid (xs.length ≤ 7) := Lib.hid (by rw [hxl]; exact HW.out.len)
  have hlt : ∀ k, va.ownBlock = some k → k < w5.heap.size := fun k hk => (hoa.lt k hk).2
  have HI : Hid (∀ n ∈ xs, inI64 n) := Lib.hid (fun n hn => by have := hnn n hn; unfold inI64; omega)
  clear hans hsp hat hnn hoa hx5 hxl rw3 HW
  have HLT := Lib.hid hlt
  clear hlt
  have hx56 : Ext w5 (w5.alloc (.cells #[.slice none 0 0] 30)) := (Ext.refl w5).alloc _
  have hwn := WAt.new w5
  have hra0 := ra.ext hx56
  go_wp2_with fail
  refine (wints_any w5.heap.size w5.heap.size [] va xs _ hwn (by have := HXL.out; simp; omega) hra0 HI.out HLT.out).mono ?_
  rintro e w6 ⟨rfl, hw6, hb6⟩
  rw [List.nil_append] at hw6
  have hx6 : Ext w5 w6 := Below.trans hx56 hb6
  have HIL : Hid ((intsW xs).length ≤ 1000) := Lib.hid (by
    unfold intsW
    have h1 := itemsW_len xs HI.out
    have h2 := uvar_len 0 xs.length (by have := HXL.out; omega)
    rw [List.length_append]
    have := HXL.out
    omega)
  clear hwn hra0 hb6 hx56
  go_wp2_with fail
  refine (wdone_any _ _ _ _ hw6 (by have := HIL.out; omega)).mono ?_
  rintro e w7 ⟨vd, rfl, hod, hx7⟩
  have rd7 := hod.rd
  have hx57 := hx6.trans hx7
  clear hod hw6 hx7 hx6
  go_wp2_with fail
  refine (read_any vd (intsW xs) _ rd7 (by have := HIL.out; omega)).mono ?_
  rintro e w8 ⟨g, rfl, hg1, hg2, hra8, hx8⟩
  have ra7 := ra.ext hx57
  have hxw7 := hxw.trans hx57
  clear rd7 hx57 ra hxw
  go_wp2_with fail
  refine (rints_any _ g _ _ hra8 (fun k hk => by omega) (lenR_bound _ 1000000000 (fun bs hbs => by injection hbs with hbs; rw [← hbs]; have := HIL.out; omega))).mono ?_
  rintro e w9 ⟨vy, rfl, hoy, hra9, hc9⟩
  have hrr := intsR_intsW xs [] (by have := HXL.out; omega) HI.out
  rw [List.append_nil] at hrr
  rw [hrr] at hoy hra9
  have hx79 : Ext w7 w9 := hc9.ext hx8 hg1
  have ry := hoy.rd
  have ra9 := ra7.ext hx79
  have hxw9 := hxw7.trans hx79
  clear hrr hra8 hc9 hx8 hoy hx79 ra7 hxw7
  go_wp2_with fail
  refine (rend_any _ g _ _ hra9).mono ?_
  rintro e w10 ⟨rfl, rfl⟩
  have hend : endR (.ok []) = 0 := rfl
  rw [hend]
  clear hend hra9
  go_wp2_with fail
  refine (same3_any va vy xs xs _ ra9 ry).mono ?_
  rintro e w11 ⟨rfl, hx11⟩
  rw [decide_eq_true rfl]
  replace ra9 := ra9.ext hx11
  replace ry := ry.ext hx11
  replace hxw9 := hxw9.trans hx11
  clear hx11
  go_wp2_with fail
  refine (sum_any _ va xs _ (by decide) ra9 (by have := HXL.out; omega)).mono ?_
  rintro e w12 ⟨rfl, hx12⟩
  replace ra9 := ra9.ext hx12
  replace ry := ry.ext hx12
  replace hxw9 := hxw9.trans hx12
  clear hx12
  go_wp2_with fail
  refine (sum_any _ vy xs _ (by decide) ry (by have := HXL.out; omega)).mono ?_
  rintro e w13 ⟨rfl, hx13⟩
  replace ra9 := ra9.ext hx13
  replace ry := ry.ext hx13
  replace hxw9 := hxw9.trans hx13
  clear hx13
  generalize sumI _ xs = hsum at *
  by_cases hz : t = 0
  · have hz' : (t == 0) = true := by simp [hz]
    clear hz
    go_wp2_with fail
    refine (lives03_any _).mono ?_
    rintro e w14 ⟨rfl, hx14⟩
    go_wp2
    go_ret
    exact ⟨rfl, hxw9.trans hx14⟩
  · have hz' : (t == 0) = false := by simp [hz]
    have htp : 0 < t := by omega
    clear hz
    go_wp2_with fail
    refine (split_any t vy xs _ ry HI.out (by have := HXL.out; omega)).mono ?_
    rintro e w14 ⟨vz, zs, c, rfl, hans, hoz, hx14⟩
    obtain ⟨rfl, hsp⟩ := hans.ok t0 (by omega) (fun x hx => by have := HNN.out x hx; omega) (by rw [HSUM.out]; exact htp)
    obtain rfl := hsp.again htp HSUM.out
    have rz := hoz.rd
    replace ra9 := ra9.ext hx14
    replace hxw9 := hxw9.trans hx14
    clear hans hsp hoz hx14 ry
    go_wp2_with fail
    refine (same3_any vz va _ _ _ rz ra9).mono ?_
    rintro e w15 ⟨rfl, hx15⟩
    rw [decide_eq_true rfl]
    replace hxw9 := hxw9.trans hx15
    clear hx15 rz ra9
    go_wp2_with fail
    refine (lives03_any _).mono ?_
    rintro e w16 ⟨rfl, hx16⟩
    go_wp2
    go_ret
    exact ⟨rfl, hxw9.trans hx16⟩
end Go.Proofs.Ytenencblpoeneaa
