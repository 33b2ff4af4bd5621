/- the reference Sum: its contract. -/
import Derived.Test.YtjgpdimhgcacgaaHc5
namespace Go.Proofs.Ytjgpdimhgcacgaa
open Go.RowKit
set_option linter.unusedVariables false

set_option maxRecDepth 100000 in
set_option maxHeartbeats 1000000 in
theorem rsum_any (s : ByteArray) (v : Value) (zs : List Int) (w : World) (hs : s.size ≤ 1000000) (hr : Rd w v (vis zs)) (hl : zs.length ≤ 2147483648) :
    Calls Try.prog 50 #[.string s, v] w fun e w' => e = .returned (.int .u64 (sumI s.data.toList zs)) ∧ Ext w w' := by
  have hr0 := hr
  obtain ⟨A, c, rfl, _⟩ := hr
  obtain ⟨_, a1, a2, a3⟩ := hr0.at
  simp only [vis_len, maxLen] at *
  obtain ⟨v1, w1, hcv, hrd1, hx1⟩ := conv_bytes (P := Try.prog) w 9 22 5 s Try.underlying9 Try.underlying22 Try.underlying5 (by simp only [maxLen]; omega)
  go_enter Try.func50, Try.ntmps50
  go_wp2_with (go_at_call 68; refine (words_any v1 s.data.toList w1 hrd1 (by simp only [Array.length_toList]; exact hs)).mono ?_; rintro e w2 ⟨v2, rfl, ho2, hx2⟩)
  have hr2 := ho2.rd
  obtain ⟨A2, c2, rfl, _⟩ := ho2.rd
  obtain ⟨_, d1, d2, d3⟩ := hr2.at
  simp only [vus_len, maxLen] at *
  go_loop [7, 5] (fun i acc => ∃ k : Nat, k ≤ (wordsOf s.data.toList).length ∧ i = .int .i64 k ∧ acc = .int .u64 (((wordsOf s.data.toList).take k).foldl mixI 0)) (fun i _ => (wordsOf s.data.toList).length - (intOf i).toNat)
  case atStart => exact ⟨0, by omega, rfl, by simp⟩
  case round =>
    obtain ⟨k, hk, rfl, rfl⟩ := hrel
    by_cases hlt : k < (wordsOf s.data.toList).length
    · obtain ⟨b, off, rfl, hcx⟩ := d3 (by omega)
      have c1 : w2.cell? ⟨b, off + k, none⟩ = some (.int .u64 (wordsOf s.data.toList)[k]) := hcx w2 (Ext.refl _) k _ (by simp [vus, hlt])
      clear hcx d3 a3
      go_wp2_with (go_at_call 69; refine (rmix_any _ _ _).mono ?_; rintro e w' ⟨rfl, rfl⟩)
      go_round
      case rel => exact ⟨k + 1, by omega, by go_num, by rw [List.take_succ_eq_append_getElem hlt, List.foldl_append]; rfl⟩
      case measure => simp [intOf]; omega
    · have hke : (wordsOf s.data.toList).length ≤ k := by omega
      rw [List.take_of_length_le hke]
      clear d3
      go_wp2_with (go_at_call 69; refine (rmix_any _ _ _).mono ?_; rintro e w' ⟨rfl, rfl⟩)
      obtain ⟨acc, hacc⟩ : ∃ acc, acc = mixI (mixI (List.foldl mixI 0 (wordsOf s.data.toList)) s.size) zs.length := ⟨_, rfl⟩
      rw [← hacc]
      have HA := Lib.hid hacc
      clear hacc
      go_loop [8, 5] (fun i a => ∃ j : Nat, j ≤ zs.length ∧ i = .int .i64 j ∧ a = .int .u64 ((zs.take j).foldl (fun s n => mixI s (IntKind.u64.wrap n)) acc)) (fun i _ => zs.length - (intOf i).toNat)
      case atStart => exact ⟨0, by omega, rfl, by simp⟩
      case round =>
        obtain ⟨j, hj, rfl, rfl⟩ := hrel
        by_cases hlt2 : j < zs.length
        · obtain ⟨b, off, rfl, hcx⟩ := a3 (by omega)
          have c1 : w2.cell? ⟨b, off + j, none⟩ = some (.int .i64 zs[j]) := hcx w2 (hx1.trans hx2) j _ (by simp [vis, hlt2])
          clear hcx a3
          go_wp2_with (go_at_call 69; refine (rmix_any _ _ _).mono ?_; rintro e w' ⟨rfl, rfl⟩)
          go_round
          case rel => exact ⟨j + 1, by omega, by go_num, by rw [List.take_succ_eq_append_getElem hlt2, List.foldl_append]; rfl⟩
          case measure => simp [intOf]; omega
        · have hje : zs.length ≤ j := by omega
          rw [List.take_of_length_le hje]
          go_wp2_with (go_at_call 69; refine (rmix_any _ _ _).mono ?_; rintro e w' ⟨rfl, rfl⟩)
          go_ret
          exact ⟨ret_int (by rw [HA.out]; simp only [sumI, Array.length_toList]; rfl), hx1.trans hx2⟩
end Go.Proofs.Ytjgpdimhgcacgaa
