/- The contracts of package hash's mix and of the reference's small functions. -/
import Derived.Test.YtjgpdimhgcacgaaRows
import Derived.Test.YtjgpdimhgcacgaaHp
namespace Go.Proofs.Ytjgpdimhgcacgaa
open Go.RowKit
set_option linter.unusedVariables false

theorem info_int : (Try.prog.info? 3).map (fun i => (i.zero, i.size, i.bytes)) = some (some (.int .i64 0), 1, 8) := by kernel_rfl
theorem info_u8 : (Try.prog.info? 5).map (fun i => (i.zero, i.size, i.bytes)) = some (some (.int .u8 0), 1, 1) := by kernel_rfl
theorem info_u64 : (Try.prog.info? 23).map (fun i => (i.zero, i.size, i.bytes)) = some (some (.int .u64 0), 1, 8) := by kernel_rfl

theorem mix_any (a b : Int) (w : World) : Calls Try.prog 71 #[.int .u64 a, .int .u64 b] w fun e w' => e = .returned (.int .u64 (mixI a b)) ∧ w = w' := by
  go_enter Try.func71, Try.ntmps71
  go_wp2
  go_ret
  exact ⟨rfl, rfl⟩
theorem rmix_any (a b : Int) (w : World) : Calls Try.prog 69 #[.int .u64 a, .int .u64 b] w fun e w' => e = .returned (.int .u64 (mixI a b)) ∧ w = w' := by
  have e : IntKind.u64.wrap ((IntKind.u64.wrap (bits BinOp.xor IntKind.u64 a b * 11400714819323198485)).tdiv 4294967296) = IntKind.u64.wrap (bits BinOp.xor IntKind.u64 a b * 11400714819323198485) / 4294967296 := by
    have h : 0 ≤ IntKind.u64.wrap (bits BinOp.xor IntKind.u64 a b * 11400714819323198485) ∧ IntKind.u64.wrap (bits BinOp.xor IntKind.u64 a b * 11400714819323198485) ≤ 18446744073709551615 := by
      rw [IntKind.wrap_u64]; omega
    exact IntWalk.u64_quo _ _ ⟨h.1, h.2, by omega⟩
  go_enter Try.func69, Try.ntmps69
  go_wp2
  go_ret
  exact ⟨rfl, rfl⟩
def around (n most : Int) : Int := if n < 0 then (-(n + 1)) % most else n % most
theorem around_range (n most : Int) (h : 1 ≤ most) : 0 ≤ around n most ∧ around n most < most := by
  unfold around
  split
  · exact ⟨Int.emod_nonneg _ (by omega), Int.emod_lt_of_pos _ (by omega)⟩
  · exact ⟨Int.emod_nonneg _ (by omega), Int.emod_lt_of_pos _ (by omega)⟩
theorem around_any (n most : Int) (w : World) (hn : inI64 n) (h1 : 1 ≤ most) (h2 : most ≤ 9223372036854775807) : Calls Try.prog 19 #[.int .i64 n, .int .i64 most] w fun e w' => e = .returned (.int .i64 (around n most)) ∧ w = w' := by
  unfold inI64 at hn
  obtain ⟨hn1, hn2⟩ := hn
  by_cases h : n < 0
  · go_enter Try.func19, Try.ntmps19
    go_wp2
    go_ret
    refine ⟨ret_int ?_, rfl⟩
    rw [around, if_pos h, ← Int.neg_tmod]
    exact Int.tmod_eq_emod_of_nonneg (by omega)
  · go_enter Try.func19, Try.ntmps19
    go_wp2
    go_ret
    exact ⟨ret_int (by rw [around, if_neg (by omega)]), rfl⟩
theorem short_any (s : ByteArray) (most : Nat) (w : World) (hs : s.size ≤ maxLen) (hm : most ≤ 100000) :
    Calls Try.prog 12 #[.string s, .int .i64 most] w fun e w' => ∃ s' : ByteArray, e = .returned (.string s') ∧ s'.data.toList = s.data.toList.take most ∧ w = w' := by
  simp only [maxLen] at hs
  by_cases h : most < s.size
  · go_enter Try.func12, Try.ntmps12
    go_wp2
    go_ret
    exact ⟨_, rfl, by simp, rfl⟩
  · go_enter Try.func12, Try.ntmps12
    go_wp2
    go_ret
    exact ⟨_, rfl, by rw [List.take_of_length_le]; simp; omega, rfl⟩
theorem ints_any (v : Value) (zs : List Int) (most : Nat) (w : World) (h : Rd w v (vis zs)) (hm : most ≤ 100000) :
    Calls Try.prog 35 #[v, .int .i64 most] w fun e w' => ∃ v', e = .returned v' ∧ Own w' w.heap.size 3 v' (vis (zs.take most)) ∧ Ext w w' := by
  have h0 := h
  obtain ⟨A, c, rfl, h1, h2, h3⟩ := h
  obtain ⟨i0, hi, hz0, hz1, hz2⟩ := info_parts info_int
  simp only [vis_len] at *
  simp only [maxLen] at h2
  by_cases hmm : most < zs.length
  · have hs := Src.take h0 (k := most) (by omega)
    clear h0 h3
    go_enter Try.func35, Try.ntmps35
    go_wp2_with (at_builtin; refine wpList_app w rfl (.tmp 6) (.tmp 12) _ rfl w.heap.size 3 i0 _ 8 Try.underlying29 hi hz0 hz1 hz2 rfl (by omega) (.slice none 0 0) [] rfl (Own.nil _ _ _) A most c _ rfl hs ?_ ?_ (Nat.le_refl _) ?_; exact (fun u hu => vis_one zs u (List.mem_of_mem_take hu)); (simp; omega); intro v1 w1 ho1 hg1 _)
    go_ret
    exact ⟨v1, rfl, by simpa [vis] using ho1, (Ext.refl w).grown hg1 (by simp [Value.ownBlock])⟩
  · have hs := Src.take h0 (k := zs.length) (by omega)
    clear h0 h3
    go_enter Try.func35, Try.ntmps35
    go_wp2_with (at_builtin; refine wpList_app w rfl (.tmp 6) (.tmp 12) _ rfl w.heap.size 3 i0 _ 8 Try.underlying29 hi hz0 hz1 hz2 rfl (by omega) (.slice none 0 0) [] rfl (Own.nil _ _ _) A zs.length c _ rfl hs ?_ ?_ (Nat.le_refl _) ?_; exact (fun u hu => vis_one zs u (List.mem_of_mem_take hu)); (simp; omega); intro v1 w1 ho1 hg1 _)
    go_ret
    exact ⟨v1, rfl, by rw [List.take_of_length_le (by omega)]; simpa [vis, List.take_of_length_le] using ho1, (Ext.refl w).grown hg1 (by simp [Value.ownBlock])⟩
theorem few_any (v : Value) (zs : List UInt8) (most : Nat) (w : World) (h : Rd w v (vbs zs)) (hm : most ≤ 100000) :
    Calls Try.prog 11 #[v, .int .i64 most] w fun e w' => ∃ v', e = .returned v' ∧ Own w' w.heap.size 5 v' (vbs (zs.take most)) ∧ Ext w w' := by
  have h0 := h
  obtain ⟨A, c, rfl, h1, h2, h3⟩ := h
  obtain ⟨i0, hi, hz0, hz1, hz2⟩ := info_parts info_u8
  simp only [vbs_len] at *
  simp only [maxLen] at h2
  by_cases hmm : most < zs.length
  · have hs := Src.take h0 (k := most) (by omega)
    clear h0 h3
    go_enter Try.func11, Try.ntmps11
    go_wp2_with (at_builtin; refine wpList_app w rfl (.tmp 6) (.tmp 12) _ rfl w.heap.size 5 i0 _ 1 Try.underlying22 hi hz0 hz1 hz2 rfl (by omega) (.slice none 0 0) [] rfl (Own.nil _ _ _) A most c _ rfl hs ?_ ?_ (Nat.le_refl _) ?_; exact (fun u hu => vbs_one zs u (List.mem_of_mem_take hu)); (simp; omega); intro v1 w1 ho1 hg1 _)
    go_ret
    exact ⟨v1, rfl, by simpa [vbs] using ho1, (Ext.refl w).grown hg1 (by simp [Value.ownBlock])⟩
  · have hs := Src.take h0 (k := zs.length) (by omega)
    clear h0 h3
    go_enter Try.func11, Try.ntmps11
    go_wp2_with (at_builtin; refine wpList_app w rfl (.tmp 6) (.tmp 12) _ rfl w.heap.size 5 i0 _ 1 Try.underlying22 hi hz0 hz1 hz2 rfl (by omega) (.slice none 0 0) [] rfl (Own.nil _ _ _) A zs.length c _ rfl hs ?_ ?_ (Nat.le_refl _) ?_; exact (fun u hu => vbs_one zs u (List.mem_of_mem_take hu)); (simp; omega); intro v1 w1 ho1 hg1 _)
    go_ret
    exact ⟨v1, rfl, by rw [List.take_of_length_le (by omega)]; simpa [vbs, List.take_of_length_le] using ho1, (Ext.refl w).grown hg1 (by simp [Value.ownBlock])⟩
theorem sameInts_any (v1 v2 : Value) (xs ys : List Int) (w : World) (h1 : Rd w v1 (vis xs)) (h2 : Rd w v2 (vis ys)) :
    Calls Try.prog 40 #[v1, v2] w fun e w' => e = .returned (.bool (decide (xs = ys))) ∧ Ext w w' := by
  have hh1 := h1
  have hh2 := h2
  obtain ⟨A, c, rfl, _⟩ := h1
  obtain ⟨B, d, rfl, _⟩ := h2
  obtain ⟨_, a1, a2, a3⟩ := hh1.at
  obtain ⟨_, b1, b2, b3⟩ := hh2.at
  clear hh1 hh2
  simp only [vis_len, maxLen] at *
  by_cases hl : xs.length = ys.length
  · have hl' : ((xs.length : Int) != ys.length) = false := by simp [hl]
    have hle1 : xs.length ≤ ys.length := by omega
    have hle2 : ys.length ≤ xs.length := by omega
    clear hl
    go_enter Try.func40, Try.ntmps40
    go_wp2
    go_loopw [5] (fun i wr => ∃ k : Nat, k ≤ xs.length ∧ i = .int .i64 k ∧ Hid (xs.take k = ys.take k) ∧ Ext w wr) (fun i _ => xs.length - (intOf i).toNat)
    case atStart => exact ⟨0, Nat.zero_le _, rfl, by simp [Hid], Ext.refl _⟩
    case round =>
      obtain ⟨k, hk, rfl, hp, hx⟩ := hrel
      by_cases hlt : k < xs.length
      · obtain ⟨b, off, rfl, hcx⟩ := a3 (by omega)
        obtain ⟨b', off', rfl, hcy⟩ := b3 (by omega)
        have hkx : k < xs.length := hlt
        have hky : k < ys.length := by omega
        have c1 : wr.cell? ⟨b, off + k, none⟩ = some (.int .i64 xs[k]) := hcx wr hx k _ (by simp [vis, hkx])
        have c2 : wr.cell? ⟨b', off' + k, none⟩ = some (.int .i64 ys[k]) := hcy wr hx k _ (by simp [vis, hky])
        clear hcx hcy a3 b3
        by_cases he : xs[k] = ys[k]
        · have he' : (xs[k] != ys[k]) = false := by simp [he]
          have HE := Lib.hid he
          clear he
          go_wp2
          go_quiet (fail)
          go_wp2
          go_roundw
          case rel => exact ⟨k + 1, by omega, by go_num, same_step _ _ _ hkx hky hp.out HE.out, by first | exact hx.drew | exact hx.drewN _⟩
          case measure => simp [intOf]; omega
        · have he' : (xs[k] != ys[k]) = true := by simp [he]
          have hne : xs ≠ ys := fun e => he (by simp [e])
          go_wp2
          go_quiet (fail)
          go_wp2
          go_ret
          exact ⟨by simp [hne], by first | exact hx.drew | exact hx.drewN _⟩
      · go_wp2
        go_ret
        exact ⟨by have := same_end xs ys k (by omega) (by omega) hp.out; simp [this], hx⟩
  · have hl' : ((xs.length : Int) != ys.length) = true := by simp; omega
    have hne : xs ≠ ys := fun e => hl (by simp [e])
    go_enter Try.func40, Try.ntmps40
    go_wp2
    go_ret
    exact ⟨by simp [hne], Ext.refl _⟩
theorem sameBytes_any (v1 v2 : Value) (xs ys : List UInt8) (w : World) (h1 : Rd w v1 (vbs xs)) (h2 : Rd w v2 (vbs ys)) :
    Calls Try.prog 29 #[v1, v2] w fun e w' => e = .returned (.bool (decide (xs = ys))) ∧ Ext w w' := by
  have hh1 := h1
  have hh2 := h2
  obtain ⟨A, c, rfl, _⟩ := h1
  obtain ⟨B, d, rfl, _⟩ := h2
  obtain ⟨_, a1, a2, a3⟩ := hh1.at
  obtain ⟨_, b1, b2, b3⟩ := hh2.at
  clear hh1 hh2
  simp only [vbs_len, maxLen] at *
  by_cases hl : xs.length = ys.length
  · have hl' : ((xs.length : Int) != ys.length) = false := by simp [hl]
    have hle1 : xs.length ≤ ys.length := by omega
    have hle2 : ys.length ≤ xs.length := by omega
    clear hl
    go_enter Try.func29, Try.ntmps29
    go_wp2
    go_loopw [5] (fun i wr => ∃ k : Nat, k ≤ xs.length ∧ i = .int .i64 k ∧ Hid (xs.take k = ys.take k) ∧ Ext w wr) (fun i _ => xs.length - (intOf i).toNat)
    case atStart => exact ⟨0, Nat.zero_le _, rfl, by simp [Hid], Ext.refl _⟩
    case round =>
      obtain ⟨k, hk, rfl, hp, hx⟩ := hrel
      by_cases hlt : k < xs.length
      · obtain ⟨b, off, rfl, hcx⟩ := a3 (by omega)
        obtain ⟨b', off', rfl, hcy⟩ := b3 (by omega)
        have hkx : k < xs.length := hlt
        have hky : k < ys.length := by omega
        have c1 : wr.cell? ⟨b, off + k, none⟩ = some (.int .u8 xs[k].toNat) := hcx wr hx k _ (by simp [vbs, hkx])
        have c2 : wr.cell? ⟨b', off' + k, none⟩ = some (.int .u8 ys[k].toNat) := hcy wr hx k _ (by simp [vbs, hky])
        clear hcx hcy a3 b3
        by_cases he : xs[k] = ys[k]
        · have he' : ((xs[k].toNat : Int) != ys[k].toNat) = false := by simp [he]
          have HE := Lib.hid he
          clear he
          go_wp2
          go_quiet (fail)
          go_wp2
          go_roundw
          case rel => exact ⟨k + 1, by omega, by go_num, same_step _ _ _ hkx hky hp.out HE.out, by first | exact hx.drew | exact hx.drewN _⟩
          case measure => simp [intOf]; omega
        · have he' : ((xs[k].toNat : Int) != ys[k].toNat) = true := by simp; intro h; exact he (UInt8.toNat_inj.1 (by omega))
          have hne : xs ≠ ys := fun e => he (by simp [e])
          go_wp2
          go_quiet (fail)
          go_wp2
          go_ret
          exact ⟨by simp [hne], by first | exact hx.drew | exact hx.drewN _⟩
      · go_wp2
        go_ret
        exact ⟨by have := same_end xs ys k (by omega) (by omega) hp.out; simp [this], hx⟩
  · have hl' : ((xs.length : Int) != ys.length) = true := by simp; omega
    have hne : xs ≠ ys := fun e => hl (by simp [e])
    go_enter Try.func29, Try.ntmps29
    go_wp2
    go_ret
    exact ⟨by simp [hne], Ext.refl _⟩
end Go.Proofs.Ytjgpdimhgcacgaa
