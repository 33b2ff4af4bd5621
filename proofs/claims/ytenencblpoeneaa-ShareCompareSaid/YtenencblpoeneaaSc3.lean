/- package share: amount, large, divide, Part, Ceil: contracts. -/
import Derived.Test.YtenencblpoeneaaSc2
import Derived.Test.YtenencblpoeneaaSp3
import Derived.Test.YtenencblpoeneaaEx
namespace Go.Proofs.Ytenencblpoeneaa
open Go.RowKit
set_option linter.unusedVariables false

theorem samt_any (n : Int) (w : World) : Calls Try.prog 32 #[.int .i64 n] w fun e w' => e = .returned (.bool (amtS n)) ∧ w = w' := by
  have hcase : (0 ≤ n ∧ n ≤ 1099511627776) ∨ n < 0 ∨ (0 ≤ n ∧ 1099511627776 < n) := by omega
  rcases hcase with h | h | h
  · rw [(amtS_iff n).2 h]
    obtain ⟨h1, h2⟩ := h
    go_enter Try.func32, Try.ntmps32
    go_wp2
    go_ret
    exact ⟨rfl, rfl⟩
  · rw [(amtS_not n).2 (.inl h)]
    go_enter Try.func32, Try.ntmps32
    go_wp2
    go_ret
    exact ⟨rfl, rfl⟩
  · rw [(amtS_not n).2 (.inr h.2)]
    obtain ⟨h1, h2⟩ := h
    have h3 : ¬ n ≤ 1099511627776 := by omega
    go_enter Try.func32, Try.ntmps32
    go_wp2
    go_ret
    exact ⟨rfl, rfl⟩

theorem slrg_any (n : Int) (w : World) : Calls Try.prog 43 #[.int .i64 n] w fun e w' => e = .returned (.bool (lrgS n)) ∧ w = w' := by
  have hcase : (0 ≤ n ∧ n ≤ 1152921504606846976) ∨ n < 0 ∨ (0 ≤ n ∧ 1152921504606846976 < n) := by omega
  rcases hcase with h | h | h
  · rw [(lrgS_iff n).2 h]
    obtain ⟨h1, h2⟩ := h
    go_enter Try.func43, Try.ntmps43
    go_wp2
    go_ret
    exact ⟨rfl, rfl⟩
  · rw [(lrgS_not n).2 (.inl h)]
    go_enter Try.func43, Try.ntmps43
    go_wp2
    go_ret
    exact ⟨rfl, rfl⟩
  · rw [(lrgS_not n).2 (.inr h.2)]
    obtain ⟨h1, h2⟩ := h
    have h3 : ¬ n ≤ 1152921504606846976 := by omega
    go_enter Try.func43, Try.ntmps43
    go_wp2
    go_ret
    exact ⟨rfl, rfl⟩

theorem ramt_any (n : Int) (w : World) : Calls Try.prog 44 #[.int .i64 n] w fun e w' => e = .returned (.bool (amtS n)) ∧ w = w' := by
  have hcase : (0 ≤ n ∧ n ≤ 1099511627776) ∨ n < 0 ∨ (0 ≤ n ∧ 1099511627776 < n) := by omega
  rcases hcase with h | h | h
  · rw [(amtS_iff n).2 h]
    obtain ⟨h1, h2⟩ := h
    go_enter Try.func44, Try.ntmps44
    go_wp2
    go_ret
    exact ⟨rfl, rfl⟩
  · rw [(amtS_not n).2 (.inl h)]
    go_enter Try.func44, Try.ntmps44
    go_wp2
    go_ret
    exact ⟨rfl, rfl⟩
  · rw [(amtS_not n).2 (.inr h.2)]
    obtain ⟨h1, h2⟩ := h
    have h3 : ¬ n ≤ 1099511627776 := by omega
    go_enter Try.func44, Try.ntmps44
    go_wp2
    go_ret
    exact ⟨rfl, rfl⟩

theorem rlrg_any (n : Int) (w : World) : Calls Try.prog 45 #[.int .i64 n] w fun e w' => e = .returned (.bool (lrgS n)) ∧ w = w' := by
  have hcase : (0 ≤ n ∧ n ≤ 1152921504606846976) ∨ n < 0 ∨ (0 ≤ n ∧ 1152921504606846976 < n) := by omega
  rcases hcase with h | h | h
  · rw [(lrgS_iff n).2 h]
    obtain ⟨h1, h2⟩ := h
    go_enter Try.func45, Try.ntmps45
    go_wp2
    go_ret
    exact ⟨rfl, rfl⟩
  · rw [(lrgS_not n).2 (.inl h)]
    go_enter Try.func45, Try.ntmps45
    go_wp2
    go_ret
    exact ⟨rfl, rfl⟩
  · rw [(lrgS_not n).2 (.inr h.2)]
    obtain ⟨h1, h2⟩ := h
    have h3 : ¬ n ≤ 1152921504606846976 := by omega
    go_enter Try.func45, Try.ntmps45
    go_wp2
    go_ret
    exact ⟨rfl, rfl⟩


theorem prod_range {a b : Int} (a0 : 0 ≤ a) (a1 : a ≤ 1152921504606846976) (b0 : 0 ≤ b) (b1 : b ≤ 1152921504606846976) : 0 ≤ a * b ∧ a * b ≤ 1329227995784915872903807060280344576 := by
  refine ⟨Int.mul_nonneg a0 b0, ?_⟩
  have := Int.mul_le_mul a1 b1 b0 (by omega)
  omega

theorem div_hi_big {P d : Int} (hd : 1 ≤ d) (h : d ≤ P / 18446744073709551616) : 1099511627776 < P / d := by
  have : 18446744073709551616 ≤ P / d := by
    apply Int.le_ediv_of_mul_le (by omega)
    rw [Int.mul_comm]
    omega
  omega

set_option maxHeartbeats 2000000 in
theorem div64_any (hi lo y : Int) (w : World) (h0 : 0 ≤ hi) (h1 : hi < y) (hy : y ≤ 1152921504606846976) (l0 : 0 ≤ lo) (l1 : lo < 18446744073709551616) :
    Calls Try.prog 48 #[.int .u64 hi, .int .u64 lo, .int .u64 y] w fun e w' => e = .returned (.tuple #[.int .u64 ((hi * 18446744073709551616 + lo) / y), .int .u64 ((hi * 18446744073709551616 + lo) % y)]) ∧ ∃ k, w' = w.drewN k := by
  rcases Int.lt_or_le 0 hi with h | h
  · refine (div64_hi hi lo y w (by omega) h1 hy l0 l1).mono ?_
    rintro e w1 ⟨rfl, rfl⟩
    exact ⟨rfl, 0, rfl⟩
  · obtain rfl : hi = 0 := by omega
    refine (div64_lo lo y w (by omega) hy l0 l1).mono ?_
    rintro e w1 ⟨rfl, rfl⟩
    exact ⟨by simp, 1, rfl⟩

/-- what divide answers -/
def DivAns (P d : Int) (x y : Int) : Prop := P / d ≤ 1099511627776 → x = P / d ∧ y = P % d
def divOk (P d : Int) : Bool := decide (P / d ≤ 1099511627776)
theorem divOk_iff (P d : Int) : divOk P d = true ↔ P / d ≤ 1099511627776 := decide_eq_true_iff

set_option maxRecDepth 100000 in
set_option maxHeartbeats 2000000 in
theorem divide_P (a b d P : Int) (hP : a * b = P) (w : World) (a0 : 0 ≤ a) (a1 : a ≤ 1152921504606846976) (b0 : 0 ≤ b) (b1 : b ≤ 1152921504606846976) (d0 : 1 ≤ d) (d1 : d ≤ 1152921504606846976) :
    Calls Try.prog 33 #[.int .i64 a, .int .i64 b, .int .i64 d] w fun e w' => ∃ x y, e = .returned (.tuple #[.int .i64 x, .int .i64 y, .bool (divOk P d)]) ∧ DivAns P d x y ∧ ∃ k, w' = w.drewN k := by
  obtain ⟨p0, p1⟩ := prod_range a0 a1 b0 b1
  rw [hP] at p0 p1
  have HP := Lib.hid hP
  clear hP
  go_enter Try.func33, Try.ntmps33
  go_wp2_with fail
  refine (mul64_any a b a0 (by omega) b0 (by omega) _).mono ?_
  rintro e w1 ⟨rfl, rfl⟩
  rw [HP.out]
  have hbig := Lib.hid (fun h => div_hi_big (P := P) d0 h)
  have hsplit : Hid (P / 18446744073709551616 * 18446744073709551616 + P % 18446744073709551616 = P) := Lib.hid (by omega)
  have e0 : 0 ≤ P / 18446744073709551616 := by omega
  have e1 : P / 18446744073709551616 < 18446744073709551616 := by omega
  have e2 : 0 ≤ P % 18446744073709551616 := by omega
  have e3 : P % 18446744073709551616 < 18446744073709551616 := by omega
  have hq0 : 0 ≤ P / d := Int.ediv_nonneg p0 (by omega)
  have hr0 : 0 ≤ P % d := Int.emod_nonneg _ (by omega)
  have hr1 : P % d < d := Int.emod_lt_of_pos _ (by omega)
  rcases Int.lt_or_le (P / 18446744073709551616) d with hlt | hge
  · generalize P / 18446744073709551616 = hi at *
    generalize P % 18446744073709551616 = lo at *
    go_wp2_with fail
    refine (div64_any hi lo d _ e0 hlt d1 e2 e3).mono ?_
    rintro e w2 ⟨rfl, kq, rfl⟩
    rw [hsplit.out]
    have HQ : Hid (P / d < 18446744073709551616) := Lib.hid (by
      apply Int.ediv_lt_of_lt_mul (by omega)
      have := hsplit.out
      rw [Int.mul_comm]
      omega)
    have hq1 := HQ.out
    have HOK : Hid (divOk P d = decide (P / d ≤ 1099511627776)) := Lib.hid rfl
    have HW : Hid (P / d ≤ 1099511627776 → wrap64 (P / d) = P / d) := Lib.hid (fun h => by unfold wrap64; omega)
    have HA : Hid (∀ x y, DivAns P d x y ↔ (P / d ≤ 1099511627776 → x = P / d ∧ y = P % d)) := Lib.hid (fun _ _ => Iff.rfl)
    generalize P / d = q at *
    generalize P % d = r at *
    go_wp2
    go_ret3
    refine ⟨wrap64 q, r, ?_, (HA.out _ _).2 fun h => ⟨HW.out h, rfl⟩, kq, rfl⟩
    rw [HOK.out]
    rfl
  · have HB : Hid (divOk P d = false) := Lib.hid (decide_eq_false (by have := hbig.out hge; omega))
    have HN : Hid (1099511627776 < P / d) := Lib.hid (hbig.out hge)
    clear hq0 hr0 hr1
    generalize P / 18446744073709551616 = hi at *
    go_wp2
    go_ret3
    refine ⟨0, 0, ?_, fun h => by have := HN.out; omega, 0, rfl⟩
    rw [HB.out]
    rfl
theorem divide_any (a b d : Int) (w : World) (a0 : 0 ≤ a) (a1 : a ≤ 1152921504606846976) (b0 : 0 ≤ b) (b1 : b ≤ 1152921504606846976) (d0 : 1 ≤ d) (d1 : d ≤ 1152921504606846976) :
    Calls Try.prog 33 #[.int .i64 a, .int .i64 b, .int .i64 d] w fun e w' => ∃ x y, e = .returned (.tuple #[.int .i64 x, .int .i64 y, .bool (divOk (a * b) d)]) ∧ DivAns (a * b) d x y ∧ Ext w w' :=
  (divide_P a b d (a * b) rfl w a0 a1 b0 b1 d0 d1).mono fun _ _ ⟨x, y, h1, h2, k, h3⟩ => ⟨x, y, h1, h2, h3 ▸ (Ext.refl _).drewN k⟩

set_option maxRecDepth 100000 in
set_option maxHeartbeats 2000000 in
theorem part_any (t n d : Int) (w : World) :
    Calls Try.prog 23 #[.int .i64 t, .int .i64 n, .int .i64 d] w fun e w' => e = .returned (.tuple #[.int .i64 (partP t n d).1, .int .i64 (partP t n d).2]) ∧ Ext w w' := by
  have HNO := Lib.hid (fun h => partP_no (t := t) (n := n) (d := d) h)
  have HB := Lib.hid (argsP_bools t n d)
  go_enter Try.func23, Try.ntmps23
  go_wp2_with fail
  refine (samt_any t _).mono ?_
  rintro e w1 ⟨rfl, rfl⟩
  rcases ht : amtS t with _ | _
  · have HR := Lib.hid (HNO.out (by rw [HB.out, ht]; rfl))
    clear ht
    go_wp2
    go_ret2
    rw [HR.out]
    exact ⟨rfl, Ext.refl _⟩
  · have HT := Lib.hid ht
    clear ht
    go_wp2_with fail
    refine (slrg_any n _).mono ?_
    rintro e w1 ⟨rfl, rfl⟩
    rcases hn : lrgS n with _ | _
    · have HR := Lib.hid (HNO.out (by rw [HB.out, HT.out, hn]; rfl))
      clear hn
      go_wp2
      go_ret2
      rw [HR.out]
      exact ⟨rfl, Ext.refl _⟩
    · have HN := Lib.hid hn
      clear hn
      go_wp2_with fail
      refine (slrg_any d _).mono ?_
      rintro e w1 ⟨rfl, rfl⟩
      rcases hd : lrgS d with _ | _
      · have HR := Lib.hid (HNO.out (by rw [HB.out, HT.out, HN.out, hd]; rfl))
        clear hd
        go_wp2
        go_ret2
        rw [HR.out]
        exact ⟨rfl, Ext.refl _⟩
      · have HD := Lib.hid hd
        clear hd
        by_cases h0 : d = 0
        · have HR := Lib.hid (HNO.out (by rw [HB.out, HT.out, HN.out, HD.out, decide_eq_true h0]; rfl))
          subst h0
          go_wp2
          go_ret2
          rw [HR.out]
          exact ⟨rfl, Ext.refl _⟩
        · have HA : Hid (argsP t n d = true) := Lib.hid (by rw [HB.out, HT.out, HN.out, HD.out, decide_eq_false h0]; rfl)
          have hd0 : (d == 0) = false := by simp [h0]
          obtain ⟨t0, t1⟩ := (amtS_iff t).1 HT.out
          obtain ⟨n0, n1⟩ := (lrgS_iff n).1 HN.out
          obtain ⟨d0, d1⟩ := (lrgS_iff d).1 HD.out
          clear HNO HB HT HN HD
          have hd1 : 1 ≤ d := by omega
          clear h0
          go_wp2_with fail
          refine (divide_any t n d _ t0 (by omega) n0 n1 hd1 d1).mono ?_
          rintro e w2 ⟨x, y, rfl, hans, hx⟩
          have HANS := Lib.hid hans
          clear hans
          rcases hq : divOk (t * n) d with _ | _
          · have HR := Lib.hid (partP_big HA.out (by have := mt (divOk_iff (t * n) d).2 (by rw [hq]; simp); omega))
            clear hq
            go_wp2
            go_ret2
            rw [HR.out]
            exact ⟨rfl, hx⟩
          · have HR := Lib.hid (partP_ok HA.out ((divOk_iff (t * n) d).1 hq))
            have HX := Lib.hid (HANS.out ((divOk_iff (t * n) d).1 hq)).1
            clear hq
            go_wp2
            go_ret2
            rw [HR.out, ← HX.out]
            exact ⟨rfl, hx⟩

theorem partP_OK {t n d : Int} (h : (partP t n d).2 = 0) : AmtI t ∧ LrgI n ∧ 0 < d ∧ d ≤ 1152921504606846976 ∧ t * n / d ≤ 1099511627776 ∧ (partP t n d).1 = t * n / d := by
  unfold partP at h ⊢
  by_cases ha : argsP t n d = true
  · rw [if_pos ha] at h ⊢
    obtain ⟨h1, h2, h3, h4⟩ := (argsP_iff t n d).1 ha
    split at h
    · rename_i hq
      rw [if_pos hq]
      exact ⟨h1, h2, h3, h4, hq, rfl⟩
    · simp at h
  · rw [if_neg ha] at h
    simp at h
theorem ceilP_no {t n d : Int} (h : (partP t n d).2 ≠ 0) : ceilP t n d = (0, (partP t n d).2) := by unfold ceilP; rw [if_neg h]
theorem ceilP_ok {t n d : Int} (h : (partP t n d).2 = 0) (k : ceilQ (t * n) d ≤ 1099511627776) : ceilP t n d = (ceilQ (t * n) d, 0) := by unfold ceilP; rw [if_pos h, if_pos k]
theorem ceilP_big {t n d : Int} (h : (partP t n d).2 = 0) (k : ¬ ceilQ (t * n) d ≤ 1099511627776) : ceilP t n d = (0, 5) := by unfold ceilP; rw [if_pos h, if_neg k]

set_option maxRecDepth 100000 in
set_option maxHeartbeats 2000000 in
theorem ceil_any (t n d : Int) (w : World) :
    Calls Try.prog 25 #[.int .i64 t, .int .i64 n, .int .i64 d] w fun e w' => e = .returned (.tuple #[.int .i64 (ceilP t n d).1, .int .i64 (ceilP t n d).2]) ∧ Ext w w' := by
  have HC := Lib.hid (fun h => partP_OK (t := t) (n := n) (d := d) h)
  have HNO := Lib.hid (fun h => ceilP_no (t := t) (n := n) (d := d) h)
  have HOK := Lib.hid (fun h => ceilP_ok (t := t) (n := n) (d := d) h)
  have HBG := Lib.hid (fun h => ceilP_big (t := t) (n := n) (d := d) h)
  go_enter Try.func25, Try.ntmps25
  go_wp2_with fail
  refine (part_any t n d _).mono ?_
  rintro e w1 ⟨rfl, hx1⟩
  generalize (partP t n d).1 = q at *
  generalize (partP t n d).2 = c at *
  by_cases hc : c = 0
  · obtain ⟨⟨t0, t1⟩, ⟨n0, n1⟩, d0, d1, hq, rfl⟩ := HC.out hc
    replace HOK := Lib.hid (HOK.out hc)
    replace HBG := Lib.hid (HBG.out hc)
    subst hc
    go_wp2_with fail
    refine (divide_any t n d _ t0 (by omega) n0 n1 (by omega) d1).mono ?_
    rintro e w2 ⟨x, y, rfl, hans, hx⟩
    obtain ⟨-, hy⟩ := hans hq
    have hq0 : 0 ≤ t * n / d := Int.ediv_nonneg (Int.mul_nonneg t0 n0) (by omega)
    have hcq : ceilQ (t * n) d = if 0 < t * n % d then t * n / d + 1 else t * n / d := rfl
    rw [← hy] at hcq
    have HCQ := Lib.hid hcq
    clear hcq hy hans HC HNO
    generalize t * n / d = q at *
    generalize divOk (t * n) d = ok at *
    by_cases hr : 0 < y
    · by_cases hbig : q + 1 ≤ 1099511627776
      · have HR := Lib.hid (HOK.out (by rw [HCQ.out, if_pos hr]; omega))
        go_wp2
        go_ret2
        rw [HR.out, HCQ.out, if_pos hr]
        exact ⟨rfl, hx1.trans hx⟩
      · have HR := Lib.hid (HBG.out (by rw [HCQ.out, if_pos hr]; omega))
        go_wp2
        go_ret2
        rw [HR.out]
        exact ⟨rfl, hx1.trans hx⟩
    · have HR := Lib.hid (HOK.out (by rw [HCQ.out, if_neg (show ¬ 0 < y by omega)]; exact hq))
      go_wp2
      go_ret2
      rw [HR.out, HCQ.out, if_neg (show ¬ 0 < y by omega)]
      exact ⟨rfl, hx1.trans hx⟩
  · have HR := Lib.hid (HNO.out hc)
    have hc' : (c != 0) = true := by simp [hc]
    clear hc
    go_wp2
    go_ret2
    rw [HR.out]
    exact ⟨rfl, hx1⟩
end Go.Proofs.Ytenencblpoeneaa
