/- WireHash: the walk of the law. -/
import Derived.Test.YtfkdaipmbakomaaWl
import Derived.Test.YtfkdaipmbakomaaHc4
import Derived.Test.YtfkdaipmbakomaaHq
namespace Go.Proofs.Ytfkdaipmbakomaa
open Go.RowKit
set_option linter.unusedVariables false

theorem uvar_inj {a b : Int} (ha : 0 ≤ a ∧ a ≤ 18446744073709551615) (hb : 0 ≤ b ∧ b ≤ 18446744073709551615) (h : uvar a = uvar b) : a = b := by
  have h1 := uintR_uvar a [] ha
  have h2 := uintR_uvar b [] hb
  rw [h, h2] at h1
  injection h1 with h1
  exact h1.symm
theorem shr_small (a t : Int) (ha : 0 ≤ a ∧ a ≤ 18446744073709551615) (ht : 0 ≤ t) : 0 ≤ a / 2 ^ (8 + t).toNat ∧ a / 2 ^ (8 + t).toNat < 72057594037927936 := by
  have hp : (256 : Int) ≤ 2 ^ (8 + t).toNat := by
    rw [show (8 + t).toNat = 8 + t.toNat by omega, Int.pow_add]
    have : (0 : Int) < 2 ^ t.toNat := Int.pow_pos (by omega)
    have e : (2 : Int) ^ 8 = 256 := by decide
    rw [e]; omega
  refine ⟨Int.ediv_nonneg ha.1 (by omega), Int.ediv_lt_of_lt_mul (by omega) ?_⟩
  omega

set_option maxHeartbeats 1000000 in
theorem WireHash_law (w : World) (a : Int) (ha : 0 ≤ a ∧ a ≤ 18446744073709551615) (b : Int) (hb : 0 ≤ b ∧ b ≤ 18446744073709551615) (sh : Int) (hs : inI64 sh) (s3 : ByteArray) (hs3 : s3.size ≤ maxLen) :
    Calls Try.prog 10 #[.int .u64 a, .int .u64 b, .int .i64 sh, .string s3] w fun e w' => e = .returned (.bool true) ∧ Ext w w' := by
  go_enter Try.func10, Try.ntmps10
  go_wp2_with fail
  refine (around_any sh 56 _ hs (by omega) (by omega)).mono ?_
  rintro e w1 ⟨rfl, rfl⟩
  have hsr := around_range sh 56 (by omega)
  generalize around sh 56 = t at *
  obtain ⟨ht1, ht2⟩ := hsr
  obtain ⟨hm1, hm2⟩ := shr_small a t ha ht1
  obtain ⟨hn1, hn2⟩ := shr_small b t hb ht1
  obtain ⟨ha1, ha2⟩ := ha
  obtain ⟨hb1, hb2⟩ := hb
  obtain ⟨m, hm⟩ : ∃ m, a / 2 ^ (8 + t).toNat = m := ⟨_, rfl⟩
  obtain ⟨n, hn⟩ : ∃ n, b / 2 ^ (8 + t).toNat = n := ⟨_, rfl⟩
  rw [hm] at hm1 hm2
  rw [hn] at hn1 hn2
  go_wp2_with fail
  clear hm hn
  refine (wuint_any w.heap.size w.heap.size [] m _ ⟨hm1, by omega⟩ (WAt.new w) (by simp)).mono ?_
  rintro e w1 ⟨rfl, h1, hx1⟩
  rw [List.nil_append] at h1
  have hx1' : Ext w w1 := Below.trans ((Ext.refl w).alloc _) hx1
  clear hx1
  go_wp2_with fail
  refine (wuint_any w1.heap.size w1.heap.size [] n _ ⟨hn1, by omega⟩ (WAt.new w1) (by simp)).mono ?_
  rintro e w2 ⟨rfl, h2, hx2⟩
  rw [List.nil_append] at h2
  have hx2' : Ext w1 w2 := Below.trans ((Ext.refl w1).alloc _) hx2
  clear hx2
  have hlm := uvar_len 7 m (by have : (128 : Int) ^ (7 + 1) = 72057594037927936 := by decide
                               omega)
  have hln := uvar_len 7 n (by have : (128 : Int) ^ (7 + 1) = 72057594037927936 := by decide
                               omega)
  have HI : Hid (uvar m = uvar n ↔ m = n) := Lib.hid ⟨uvar_inj ⟨hm1, by omega⟩ ⟨hn1, by omega⟩, fun h => by rw [h]⟩
  have h1' := h1.ext hx2'
  obtain ⟨p, hp⟩ : ∃ p, p = uvar m := ⟨_, rfl⟩
  obtain ⟨q, hq⟩ : ∃ q, q = uvar n := ⟨_, rfl⟩
  rw [← hp] at h1' hlm HI
  rw [← hq] at h2 hln HI
  clear h1 hp hq
  go_wp2_with fail
  refine (wdone_any _ _ _ _ h1' (by omega)).mono ?_
  rintro e w3 ⟨v3, rfl, h3, hx3⟩
  have h2' := h2.ext hx3
  go_wp2_with fail
  refine (wdone_any _ _ _ _ h2' (by omega)).mono ?_
  rintro e w4 ⟨v4, rfl, h4, hx4⟩
  have hr3 := (h3.ext hx4).rd
  have hr4 := h4.rd
  have hx : Ext w w4 := (hx1'.trans hx2').trans (hx3.trans hx4)
  clear h1' h2' h2 h3 h4 hx1' hx2' hx3 hx4
  go_wp2_with fail
  refine (short_any s3 20 _ hs3 (by omega)).mono ?_
  rintro e w5 ⟨s, rfl, hs, rfl⟩
  have hsl : s.size ≤ 20 := by
    have : s.data.toList.length ≤ 20 := by rw [hs]; exact List.length_take_le _ _
    simpa using this
  clear hs
  have hr3' := hr3
  have hr4' := hr4
  obtain ⟨A3, c3, rfl, -⟩ := hr3
  obtain ⟨A4, c4, rfl, -⟩ := hr4
  simp only [vbs_len] at *
  by_cases hlen : p.length = q.length
  · have HB := Lib.hid (bytesI_group s.data.toList (q := 0) (x := p) (y := q) ⟨hlen, fun j hj => by
      rw [List.getElem?_eq_none (by omega), List.getElem?_eq_none (by omega)]⟩ (by omega))
    have hl1 : ((p.length : Int) != (q.length : Int)) = false := by simp; omega
    have hl2 : ¬ ((8 : Int) < (p.length : Int)) := by omega
    clear hlen
    go_wp2_with fail
    refine (bytes_any s _ p _ (by omega) hr3' (by omega)).mono ?_
    rintro e w6 ⟨rfl, hx6⟩
    go_wp2_with fail
    refine (bytes_any s _ q _ (by omega) (hr4'.ext hx6) (by omega)).mono ?_
    rintro e w7 ⟨rfl, hx7⟩
    have hc : ((bytesI s.data.toList p == bytesI s.data.toList q) == (m == n)) = true := by
      rw [beq_iff_eq, Bool.eq_iff_iff, beq_iff_eq, beq_iff_eq]; exact HB.out.trans HI.out
    generalize bytesI s.data.toList p = x1 at *
    generalize bytesI s.data.toList q = x2 at *
    go_wp2_with fail
    refine (lives02_any _).mono ?_
    rintro e w8 ⟨rfl, hx8⟩
    go_wp2
    go_ret
    exact ⟨rfl, hx.trans (hx6.trans (hx7.trans hx8))⟩
  · have hl1 : ((p.length : Int) != (q.length : Int)) = true := by simp; omega
    have hl2 : decide ((p.length : Int) ≤ 8) = true := by simp; omega
    have hne : (m != n) = true := by
      have : m ≠ n := fun h => hlen (by rw [HI.out.2 h])
      simpa using this
    clear hlen
    go_wp2_with fail
    refine (lives02_any _).mono ?_
    rintro e w8 ⟨rfl, hx8⟩
    go_wp2
    go_ret
    exact ⟨rfl, hx.trans hx8⟩

end Go.Proofs.Ytfkdaipmbakomaa
