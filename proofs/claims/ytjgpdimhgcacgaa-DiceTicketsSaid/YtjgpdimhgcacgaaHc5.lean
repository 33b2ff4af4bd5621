/- the reference Words: its contract. -/
import Derived.Test.YtjgpdimhgcacgaaHc4
namespace Go.Proofs.Ytjgpdimhgcacgaa
open Go.RowKit
set_option linter.unusedVariables false

set_option maxRecDepth 100000 in
set_option maxHeartbeats 1000000 in
theorem words_any (v : Value) (bs : List UInt8) (w : World) (hr : Rd w v (vbs bs)) (hl : bs.length ≤ 1000000) :
    Calls Try.prog 68 #[v] w fun e w' => ∃ v', e = .returned v' ∧ Own w' w.heap.size 23 v' (vus (wordsOf bs)) ∧ Ext w w' := by
  have hr0 := hr
  obtain ⟨A, c, rfl, _⟩ := hr
  obtain ⟨_, a1, a2, a3⟩ := hr0.at
  simp only [vbs_len, maxLen] at *
  obtain ⟨i0, hi, hz0, hz1, hz2⟩ := info_parts info_u64
  go_enter Try.func68, Try.ntmps68
  go_wp2
  go_loopw [4, 3] (fun i out wr => ∃ q : Nat, q ≤ nWords bs ∧ i = .int .i64 (8 * (q : Int)) ∧ Own wr w.heap.size 23 out (vus (wordsUpto bs q)) ∧ Ext w wr) (fun i _ _ => bs.length + 8 - (intOf i).toNat)
  case atStart => exact ⟨0, by omega, rfl, Own.nil _ _ _, Ext.refl _⟩
  case round =>
    obtain ⟨q, hq, rfl, ho, hx⟩ := hrel
    by_cases hlt : 8 * q < bs.length
    · have hdec : decide (8 * (q : Int) < (bs.length : Int)) = true := by simp; omega
      obtain ⟨b, off, rfl, hcx⟩ := a3 (by omega)
      clear a3
      obtain ⟨L, hL⟩ : ∃ L, L = (bs.drop (8 * q)).take 8 := ⟨_, rfl⟩
      have hLw : wordAt bs q = leI L := by rw [hL]; rfl
      have hLl : L.length = min 8 (bs.length - 8 * q) := by rw [hL]; simp
      have hLg : ∀ t, t < L.length → ∃ u : UInt8, L[t]? = some u ∧ (vbs bs)[8 * q + t]? = some (.int .u8 u.toNat) := by
        intro t ht
        refine ⟨L[t], List.getElem?_eq_getElem ht, ?_⟩
        have e : L[t] = bs[8 * q + t] := by simp only [hL, List.getElem_take, List.getElem_drop]
        rw [e]
        have : 8 * q + t < bs.length := by omega
        simp [vbs, this]
      have HLW := Lib.hid hLw
      have HLL := Lib.hid hLl
      have hl8 : L.length ≤ 8 := by omega
      have hl1 : 1 ≤ L.length := by omega
      obtain ⟨m, hm⟩ : ∃ m, m = L.length := ⟨_, rfl⟩
      have HM := Lib.hid hm
      rw [← hm] at hLg hl8 hl1
      have hm1 : m ≤ bs.length - 8 * q := by omega
      have hm2 : m < 8 → bs.length ≤ 8 * q + m := by omega
      clear hLw hLl hL hm
      rcases Nat.lt_or_ge bs.length (8 * q + 8) with hmm | hmm
      all_goals
        have hme : bs.length ≤ 8 * q + m ∨ m = 8 := by omega
        go_wp2
        obtain ⟨wo, rfl⟩ : ∃ wo : World, wo = wr := ⟨_, rfl⟩
        go_loop [5, 6] (fun w5 k => ∃ t : Nat, t ≤ m ∧ k = .int .i64 (8 * (q : Int) + t - 1) ∧ w5 = .int .u64 (leI (L.drop t))) (fun _ k => (intOf k + 1).toNat)
        case atStart => exact ⟨m, by omega, by congr 1; omega, by rw [List.drop_of_length_le (by rw [HM.out]; omega)]; rfl⟩
        case round =>
          obtain ⟨t, htm, rfl, rfl⟩ := hrel
          by_cases ht : 1 ≤ t
          · obtain ⟨u, hu, hbu⟩ := hLg (t - 1) (by omega)
            have c1 : wo.cell? ⟨b, off + (8 * q + (t - 1)), none⟩ = some (.int .u8 u.toNat) := hcx wo hx _ _ hbu
            have hub := u8_lt u
            have hle := leI_le7 (L.drop t) (by simp; rw [← HM.out]; omega)
            have hnn := leI_nonneg (L.drop t)
            have hst : leI (L.drop (t - 1)) = 256 * leI (L.drop t) + u.toNat := by
              have htl : t - 1 < L.length := by rw [← HM.out]; omega
              have e : L[t - 1] = u := by rw [List.getElem?_eq_getElem htl] at hu; exact Option.some.inj hu
              rw [List.drop_eq_getElem_cons htl, show t - 1 + 1 = t by omega, leI, e]; omega
            have HST := Lib.hid hst
            have eidx : (8 * (q : Int) + t - 1).toNat = 8 * q + (t - 1) := by omega
            clear hst hbu hu
            go_wp2
            go_round
            case rel => exact ⟨t - 1, by omega, by congr 1; omega, by rw [HST.out]⟩
            case measure => simp [intOf]; omega
          · have ht0 : t = 0 := by omega
            subst ht0
            have hb0 := hx.size
            have hlen : (vus (wordsUpto bs q)).length ≤ 1000007 := by rw [vus_len, wordsUpto_len]; simp only [nWords] at hq; omega
            go_wp2_with (at_builtin; refine wpList_app _ rfl (.tmp 32) (.tmp 34) _ rfl w.heap.size 23 i0 _ 8 Try.underlying27 hi hz0 hz1 hz2 rfl (by omega) _ _ rfl (ho.ext ((Ext.refl _).alloc _)) (some ⟨wo.heap.size, 0, none⟩) 1 1 [.int .u64 (leI L)] rfl (Src.one _ _ _) ?_ ?_ ?_ ?_; (simp [Value.oneCell']); omega; (simp; omega); intro v1 w1 ho1 hg1 _)
            go_roundw
            case rel => exact ⟨q + 1, by simp only [nWords]; omega, by go_num, by rw [wordsUpto_succ, HLW.out]; simpa [vus] using ho1, (hx.alloc _).grown hg1 (fun k e => (ho.lt k e).1)⟩
            case measure => simp [intOf]; omega
    · have hdec : decide (8 * (q : Int) < (bs.length : Int)) = false := by simp; omega
      have hqe : nWords bs = q := by simp [nWords] at hq ⊢; omega
      have HQ := Lib.hid hqe
      clear hqe hq
      go_wp2
      go_ret
      exact ⟨_, rfl, by rw [wordsOf, HQ.out]; exact ho, hx⟩
end Go.Proofs.Ytjgpdimhgcacgaa
