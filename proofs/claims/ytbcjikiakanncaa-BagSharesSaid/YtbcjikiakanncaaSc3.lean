/- package share: amount, large, divide, Part, Ceil: contracts. -/
import Derived.Test.YtbcjikiakanncaaSc2
import Derived.Test.YtbcjikiakanncaaSp3
import Derived.Test.YtbcjikiakanncaaEx
namespace Go.Proofs.Ytbcjikiakanncaa
open Go.RowKit
set_option linter.unusedVariables false

theorem samt_any (n : Int) (w : World) : Calls Try.prog 50 #[.int .i64 n] w fun e w' => e = .returned (.bool (amtS n)) ∧ w = w' := by
  have hcase : (0 ≤ n ∧ n ≤ 1099511627776) ∨ n < 0 ∨ (0 ≤ n ∧ 1099511627776 < n) := by omega
  rcases hcase with h | h | h
  · rw [(amtS_iff n).2 h]
    obtain ⟨h1, h2⟩ := h
    go_enter Try.func50, Try.ntmps50
    go_wp2
    go_ret
    exact ⟨rfl, rfl⟩
  · rw [(amtS_not n).2 (.inl h)]
    go_enter Try.func50, Try.ntmps50
    go_wp2
    go_ret
    exact ⟨rfl, rfl⟩
  · rw [(amtS_not n).2 (.inr h.2)]
    obtain ⟨h1, h2⟩ := h
    have h3 : ¬ n ≤ 1099511627776 := by omega
    go_enter Try.func50, Try.ntmps50
    go_wp2
    go_ret
    exact ⟨rfl, rfl⟩


theorem prod_range {a b : Int} (a0 : 0 ≤ a) (a1 : a ≤ 1152921504606846976) (b0 : 0 ≤ b) (b1 : b ≤ 1152921504606846976) : 0 ≤ a * b ∧ a * b ≤ 1329227995784915872903807060280344576 := by
  refine ⟨Int.mul_nonneg a0 b0, ?_⟩
  have := Int.mul_le_mul a1 b1 b0 (by omega)
  omega

theorem div_hi_big {P d : Int} (hd : 1 ≤ d) (h : d ≤ P / 18446744073709551616) : 1099511627776 < P / d := by
  have : 18446744073709551616 ≤ P / d := by
    apply Int.le_ediv_of_mul_le (by omega)
    rw [Int.mul_comm]
    omega
  omega

set_option maxHeartbeats 2000000 in
theorem div64_any (hi lo y : Int) (w : World) (h0 : 0 ≤ hi) (h1 : hi < y) (hy : y ≤ 1152921504606846976) (l0 : 0 ≤ lo) (l1 : lo < 18446744073709551616) :
    Calls Try.prog 76 #[.int .u64 hi, .int .u64 lo, .int .u64 y] w fun e w' => e = .returned (.tuple #[.int .u64 ((hi * 18446744073709551616 + lo) / y), .int .u64 ((hi * 18446744073709551616 + lo) % y)]) ∧ ∃ k, w' = w.drewN k := by
  rcases Int.lt_or_le 0 hi with h | h
  · refine (div64_hi hi lo y w (by omega) h1 hy l0 l1).mono ?_
    rintro e w1 ⟨rfl, rfl⟩
    exact ⟨rfl, 0, rfl⟩
  · obtain rfl : hi = 0 := by omega
    refine (div64_lo lo y w (by omega) hy l0 l1).mono ?_
    rintro e w1 ⟨rfl, rfl⟩
    exact ⟨by simp, 1, rfl⟩

/-- what divide answers -/
def DivAns (P d : Int) (x y : Int) : Prop := P / d ≤ 1099511627776 → x = P / d ∧ y = P % d
def divOk (P d : Int) : Bool := decide (P / d ≤ 1099511627776)
theorem divOk_iff (P d : Int) : divOk P d = true ↔ P / d ≤ 1099511627776 := decide_eq_true_iff

set_option maxRecDepth 100000 in
set_option maxHeartbeats 2000000 in
theorem divide_P (a b d P : Int) (hP : a * b = P) (w : World) (a0 : 0 ≤ a) (a1 : a ≤ 1152921504606846976) (b0 : 0 ≤ b) (b1 : b ≤ 1152921504606846976) (d0 : 1 ≤ d) (d1 : d ≤ 1152921504606846976) :
    Calls Try.prog 51 #[.int .i64 a, .int .i64 b, .int .i64 d] w fun e w' => ∃ x y, e = .returned (.tuple #[.int .i64 x, .int .i64 y, .bool (divOk P d)]) ∧ DivAns P d x y ∧ ∃ k, w' = w.drewN k := by
  obtain ⟨p0, p1⟩ := prod_range a0 a1 b0 b1
  rw [hP] at p0 p1
  have HP := Lib.hid hP
  clear hP
  go_enter Try.func51, Try.ntmps51
  go_wp2_with fail
  refine (mul64_any a b a0 (by omega) b0 (by omega) _).mono ?_
  rintro e w1 ⟨rfl, rfl⟩
  rw [HP.out]
  have hbig := Lib.hid (fun h => div_hi_big (P := P) d0 h)
  have hsplit : Hid (P / 18446744073709551616 * 18446744073709551616 + P % 18446744073709551616 = P) := Lib.hid (by omega)
  have e0 : 0 ≤ P / 18446744073709551616 := by omega
  have e1 : P / 18446744073709551616 < 18446744073709551616 := by omega
  have e2 : 0 ≤ P % 18446744073709551616 := by omega
  have e3 : P % 18446744073709551616 < 18446744073709551616 := by omega
  have hq0 : 0 ≤ P / d := Int.ediv_nonneg p0 (by omega)
  have hr0 : 0 ≤ P % d := Int.emod_nonneg _ (by omega)
  have hr1 : P % d < d := Int.emod_lt_of_pos _ (by omega)
  rcases Int.lt_or_le (P / 18446744073709551616) d with hlt | hge
  · generalize P / 18446744073709551616 = hi at *
    generalize P % 18446744073709551616 = lo at *
    go_wp2_with fail
    refine (div64_any hi lo d _ e0 hlt d1 e2 e3).mono ?_
    rintro e w2 ⟨rfl, kq, rfl⟩
    rw [hsplit.out]
    have HQ : Hid (P / d < 18446744073709551616) := Lib.hid (by
      apply Int.ediv_lt_of_lt_mul (by omega)
      have := hsplit.out
      rw [Int.mul_comm]
      omega)
    have hq1 := HQ.out
    have HOK : Hid (divOk P d = decide (P / d ≤ 1099511627776)) := Lib.hid rfl
    have HW : Hid (P / d ≤ 1099511627776 → wrap64 (P / d) = P / d) := Lib.hid (fun h => by unfold wrap64; omega)
    have HA : Hid (∀ x y, DivAns P d x y ↔ (P / d ≤ 1099511627776 → x = P / d ∧ y = P % d)) := Lib.hid (fun _ _ => Iff.rfl)
    generalize P / d = q at *
    generalize P % d = r at *
    go_wp2
    go_ret3
    refine ⟨wrap64 q, r, ?_, (HA.out _ _).2 fun h => ⟨HW.out h, rfl⟩, kq, rfl⟩
    rw [HOK.out]
    rfl
  · have HB : Hid (divOk P d = false) := Lib.hid (decide_eq_false (by have := hbig.out hge; omega))
    have HN : Hid (1099511627776 < P / d) := Lib.hid (hbig.out hge)
    clear hq0 hr0 hr1
    generalize P / 18446744073709551616 = hi at *
    go_wp2
    go_ret3
    refine ⟨0, 0, ?_, fun h => by have := HN.out; omega, 0, rfl⟩
    rw [HB.out]
    rfl
theorem divide_any (a b d : Int) (w : World) (a0 : 0 ≤ a) (a1 : a ≤ 1152921504606846976) (b0 : 0 ≤ b) (b1 : b ≤ 1152921504606846976) (d0 : 1 ≤ d) (d1 : d ≤ 1152921504606846976) :
    Calls Try.prog 51 #[.int .i64 a, .int .i64 b, .int .i64 d] w fun e w' => ∃ x y, e = .returned (.tuple #[.int .i64 x, .int .i64 y, .bool (divOk (a * b) d)]) ∧ DivAns (a * b) d x y ∧ Ext w w' :=
  (divide_P a b d (a * b) rfl w a0 a1 b0 b1 d0 d1).mono fun _ _ ⟨x, y, h1, h2, k, h3⟩ => ⟨x, y, h1, h2, h3 ▸ (Ext.refl _).drewN k⟩

theorem partP_OK {t n d : Int} (h : (partP t n d).2 = 0) : AmtI t ∧ LrgI n ∧ 0 < d ∧ d ≤ 1152921504606846976 ∧ t * n / d ≤ 1099511627776 ∧ (partP t n d).1 = t * n / d := by
  unfold partP at h ⊢
  by_cases ha : argsP t n d = true
  · rw [if_pos ha] at h ⊢
    obtain ⟨h1, h2, h3, h4⟩ := (argsP_iff t n d).1 ha
    split at h
    · rename_i hq
      rw [if_pos hq]
      exact ⟨h1, h2, h3, h4, hq, rfl⟩
    · simp at h
  · rw [if_neg ha] at h
    simp at h
theorem ceilP_no {t n d : Int} (h : (partP t n d).2 ≠ 0) : ceilP t n d = (0, (partP t n d).2) := by unfold ceilP; rw [if_neg h]
theorem ceilP_ok {t n d : Int} (h : (partP t n d).2 = 0) (k : ceilQ (t * n) d ≤ 1099511627776) : ceilP t n d = (ceilQ (t * n) d, 0) := by unfold ceilP; rw [if_pos h, if_pos k]
theorem ceilP_big {t n d : Int} (h : (partP t n d).2 = 0) (k : ¬ ceilQ (t * n) d ≤ 1099511627776) : ceilP t n d = (0, 5) := by unfold ceilP; rw [if_pos h, if_neg k]

end Go.Proofs.Ytbcjikiakanncaa
