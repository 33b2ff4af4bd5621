/- ShareRest: the walk of the law. -/
import Derived.Test.YtenencblpoeneaaSl
namespace Go.Proofs.Ytenencblpoeneaa
open Go.RowKit
set_option linter.unusedVariables false

theorem rest_part {t n d : Int} (ht : AmtI t) (h0 : 0 ≤ n) (h1 : n ≤ d) (hd : 1 ≤ d) (hd1 : d ≤ 1152921504606846976) : partP t n d = (t * n / d, 0) ∧ 0 ≤ t * n / d ∧ t * n / d ≤ t := by
  have hle := mul_le_amt ht.1 h1 hd
  refine ⟨partP_ok ((argsP_iff t n d).2 ⟨ht, ⟨h0, by omega⟩, by omega, hd1⟩) ?_, Int.ediv_nonneg (Int.mul_nonneg ht.1 h0) (by omega), hle⟩
  have := ht.2
  omega
theorem rest_ceil {t n d : Int} (ht : AmtI t) (h0 : 0 ≤ n) (h1 : n ≤ d) (hd : 1 ≤ d) (hd1 : d ≤ 1152921504606846976) : ceilP t (d - n) d = (t - t * n / d, 0) := by
  have hp := rest_part ht (show 0 ≤ d - n by omega) (show d - n ≤ d by omega) hd hd1
  have hq := rest_part ht h0 h1 hd hd1
  have e := part_rest (t := t) (n := n) (d := d) (by omega)
  have e2 : ceilQ (t * (d - n)) d = t - t * n / d := by omega
  have := ht.2
  rw [ceilP_ok (by rw [hp.1]) (by rw [e2]; omega), e2]
theorem rest_half {t n d : Int} (ht : AmtI t) (h0 : 0 ≤ n) (hd : 1 ≤ d) : t * (n / 2) / d ≤ t * n / d :=
  Int.ediv_le_ediv (by omega) (Int.mul_le_mul_of_nonneg_left (by omega) ht.1)

set_option maxRecDepth 100000 in
set_option maxHeartbeats 4000000 in
theorem ShareRest_law (w : World) (total : Int) (ht : inI64 total) (num : Int) (hnum : inI64 num) (den : Int) (hden : inI64 den) :
    Calls Try.prog 9 #[.int .i64 total, .int .i64 num, .int .i64 den] w fun e w' => e = .returned (.bool true) ∧ Ext w w' := by
  have t0 := Int.emod_nonneg total (show (1099511627777 : Int) ≠ 0 by omega)
  have t1 := Int.emod_lt_of_pos total (show (0 : Int) < 1099511627777 by omega)
  have d0 := Int.emod_nonneg den (show (1152921504606846976 : Int) ≠ 0 by omega)
  have d1 := Int.emod_lt_of_pos den (show (0 : Int) < 1152921504606846976 by omega)
  have HNUM := Lib.hid hnum
  clear hnum
  go_enter Try.func9, Try.ntmps9
  go_wp2_with fail
  refine (around3_any total 1099511627777 _ ht (by omega) (by omega)).mono ?_
  rintro e w1 ⟨rfl, rfl⟩
  go_wp2_with fail
  refine (around3_any den 1152921504606846976 _ hden (by omega) (by omega)).mono ?_
  rintro e w1 ⟨rfl, rfl⟩
  generalize total % 1099511627777 = t at *
  obtain ⟨d, hd⟩ : ∃ d, 1 + den % 1152921504606846976 = d := ⟨_, rfl⟩
  have hdd : 1 ≤ d := by omega
  have hdd1 : d ≤ 1152921504606846976 := by omega
  clear d0 d1
  go_wp2_with fail
  clear hd
  have n0 := Int.emod_nonneg num (show d + 1 ≠ 0 by omega)
  have n1 := Int.emod_lt_of_pos num (show 0 < d + 1 by omega)
  refine (around3_any num (d + 1) _ HNUM.out (by omega) (by omega)).mono ?_
  rintro e w1 ⟨rfl, rfl⟩
  generalize num % (d + 1) = n at *
  have hta : AmtI t := ⟨t0, by omega⟩
  obtain ⟨p1, p2, p3⟩ := rest_part hta n0 (show n ≤ d by omega) hdd hdd1
  have P1 := Lib.hid p1
  have P2 := Lib.hid (rest_ceil hta n0 (show n ≤ d by omega) hdd hdd1)
  obtain ⟨q1, q2, q3⟩ := rest_part (n := n / 2) hta (by omega) (show n / 2 ≤ d by omega) hdd hdd1
  have Q1 := Lib.hid q1
  have Q2 := rest_half (n := n) hta n0 hdd
  clear p1 q1 hta
  go_wp2_with fail
  refine (part_any t n d _).mono ?_
  rintro e w1 ⟨rfl, hx1⟩
  rw [P1.out]
  go_wp2_with fail
  refine (ceil_any t (d - n) d _).mono ?_
  rintro e w2 ⟨rfl, hx2⟩
  rw [P2.out]
  go_wp2_with fail
  refine (part_any t (n / 2) d _).mono ?_
  rintro e w3 ⟨rfl, hx3⟩
  rw [Q1.out]
  generalize t * (n / 2) / d = c at *
  generalize t * n / d = a at *
  obtain ⟨b, hb⟩ : ∃ b, b = t - a := ⟨_, rfl⟩
  rw [← hb]
  have hab : a + b = t := by omega
  clear hb
  have hx := (hx1.trans hx2).trans hx3
  clear hx1 hx2 hx3
  go_wp2_with fail
  refine (lives03_any _).mono ?_
  rintro e w4 ⟨rfl, hx4⟩
  go_wp2
  go_ret
  exact ⟨rfl, hx.trans hx4⟩
end Go.Proofs.Ytenencblpoeneaa
