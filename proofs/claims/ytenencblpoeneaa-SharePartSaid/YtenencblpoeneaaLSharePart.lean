/- SharePart: the walk of the law. -/
import Derived.Test.YtenencblpoeneaaSl
namespace Go.Proofs.Ytenencblpoeneaa
open Go.RowKit
set_option linter.unusedVariables false

theorem blk_ints {W : World} {g : Nat} {t : TypeId} {l : List Int} (h : Blk W g t (vis l)) (k : Nat) (hk : k < l.length) : ∃ x, W.cell? ⟨g, k, none⟩ = some (.int .i64 x) :=
  ⟨l[k], by rw [h.cell k]; simp [vis, hk]⟩

set_option maxRecDepth 100000 in
set_option maxHeartbeats 8000000 in
theorem SharePart_law (w : World) (total : Int) (ht : inI64 total) (num : Int) (hnum : inI64 num) (den : Int) (hden : inI64 den) :
    Calls Try.prog 4 #[.int .i64 total, .int .i64 num, .int .i64 den] w fun e w' => e = .returned (.bool true) ∧ Ext w w' := by
  have t0 := Int.emod_nonneg total (show (1099511627777 : Int) ≠ 0 by omega)
  have t1 := Int.emod_lt_of_pos total (show (0 : Int) < 1099511627777 by omega)
  have n0 := Int.emod_nonneg num (show (1152921504606846977 : Int) ≠ 0 by omega)
  have n1 := Int.emod_lt_of_pos num (show (0 : Int) < 1152921504606846977 by omega)
  have d0 := Int.emod_nonneg den (show (1152921504606846977 : Int) ≠ 0 by omega)
  have d1 := Int.emod_lt_of_pos den (show (0 : Int) < 1152921504606846977 by omega)
  go_enter Try.func4, Try.ntmps4
  go_wp2_with fail
  refine (around3_any total 1099511627777 _ ht (by omega) (by omega)).mono ?_
  rintro e w1 ⟨rfl, rfl⟩
  go_wp2_with fail
  refine (around3_any num 1152921504606846977 _ hnum (by omega) (by omega)).mono ?_
  rintro e w1 ⟨rfl, rfl⟩
  go_wp2_with fail
  refine (around3_any den 1152921504606846977 _ hden (by omega) (by omega)).mono ?_
  rintro e w1 ⟨rfl, rfl⟩
  generalize total % 1099511627777 = t at *
  generalize num % 1152921504606846977 = n at *
  generalize den % 1152921504606846977 = d at *
  have hd1 : 0 < d + 1 := by omega
  go_wp2_with fail
  obtain ⟨W2, hW2⟩ : ∃ W, W = ((w.alloc (.cells #[.int .i64 total, .int .i64 t, .int .i64 t, .int .i64 t, .int .i64 t] 3)).alloc (.cells #[.int .i64 num, .int .i64 n, .int .i64 (n % 1000), .int .i64 n, .int .i64 (n % (d + 1))] 3)).alloc (.cells #[.int .i64 den, .int .i64 d, .int .i64 (d % 1000), .int .i64 (1 + d % 100), .int .i64 d] 3) := ⟨_, rfl⟩
  have hB1 : Blk W2 w.heap.size 3 (vis [total, t, t, t, t]) := by rw [hW2]; exact blk_old (blk_old (blk_new rfl rfl))
  have hB2 : Blk W2 (w.heap.size + 1) 3 (vis [num, n, n % 1000, n, n % (d + 1)]) := by rw [hW2]; exact blk_old (blk_new (by simp) rfl)
  have hB3 : Blk W2 (w.heap.size + 1 + 1) 3 (vis [den, d, d % 1000, 1 + d % 100, d]) := by rw [hW2]; exact blk_new (by simp) rfl
  have hxw : Ext w W2 := by rw [hW2]; exact (((Ext.refl w).alloc _).alloc _).alloc _
  have HC : Hid (∀ k, k < 5 → ∃ x y z, W2.cell? ⟨w.heap.size, k, none⟩ = some (.int .i64 x) ∧ W2.cell? ⟨w.heap.size + 1, k, none⟩ = some (.int .i64 y) ∧ W2.cell? ⟨w.heap.size + 1 + 1, k, none⟩ = some (.int .i64 z)) := Lib.hid (fun k hk => by
    obtain ⟨x, hx⟩ := blk_ints hB1 k hk
    obtain ⟨y, hy⟩ := blk_ints hB2 k hk
    obtain ⟨z, hz⟩ := blk_ints hB3 k hk
    exact ⟨x, y, z, hx, hy, hz⟩)
  rw [← hW2]
  clear hW2 hB1 hB2 hB3
  go_loopw [13] (fun i wr => ∃ k : Nat, k ≤ 5 ∧ i = .int .i64 k ∧ Ext W2 wr) (fun i _ => 5 - (intOf i).toNat)
  case atStart => exact ⟨0, by omega, rfl, Ext.refl _⟩
  case round =>
    obtain ⟨i, hi, rfl, hxS⟩ := hrel
    by_cases hi5 : i < 5
    · have i1 : (i : Int) < 5 := by omega
      have i0 : (0 : Int) ≤ (i : Int) := by omega
      obtain ⟨x, y, z, cx, cy, cz⟩ := HC.out i hi5
      go_wp2_with fail
      have ex := hxS.cell cx
      have ey := hxS.cell cy
      have ez := hxS.cell cz
      go_region_held3 (fun w' => w'.cell? ⟨w.heap.size, i, none⟩ = some (.int .i64 x) ∧ w'.cell? ⟨w.heap.size + 1, i, none⟩ = some (.int .i64 y) ∧ w'.cell? ⟨w.heap.size + 1 + 1, i, none⟩ = some (.int .i64 z))
        (first | exact ⟨ex, ey, ez⟩ | (go_split_ands; exact ⟨hxS.cell cx, hxS.cell cy, hxS.cell cz⟩))
        ((go_at_call 23; refine (part_any x y z _).mono ?_; rintro e w3 ⟨rfl, hx3⟩; replace hxS : Ext W2 w3 := Ext.trans (by first | exact hxS | exact hxS.drew) hx3))
      go_wp2_with fail
      clear ex ey ez hx3
      have ex := hxS.cell cx
      have ey := hxS.cell cy
      have ez := hxS.cell cz
      go_region_held3 (fun w' => w'.cell? ⟨w.heap.size, i, none⟩ = some (.int .i64 x) ∧ w'.cell? ⟨w.heap.size + 1, i, none⟩ = some (.int .i64 y) ∧ w'.cell? ⟨w.heap.size + 1 + 1, i, none⟩ = some (.int .i64 z))
        (first | exact ⟨ex, ey, ez⟩ | (go_split_ands; exact ⟨hxS.cell cx, hxS.cell cy, hxS.cell cz⟩))
        ((go_at_call 24; refine (partR_any x y z _).mono ?_; rintro e w4 ⟨rfl, hx4⟩; replace hxS : Ext W2 w4 := Ext.trans (by first | exact hxS | exact hxS.drew) hx4))
      go_wp2_with fail
      clear ex ey ez hx4
      have ex := hxS.cell cx
      have ey := hxS.cell cy
      have ez := hxS.cell cz
      generalize (partP x y z).1 = p1 at *
      generalize (partP x y z).2 = p2 at *
      go_region_held3 (fun w' => w'.cell? ⟨w.heap.size, i, none⟩ = some (.int .i64 x) ∧ w'.cell? ⟨w.heap.size + 1, i, none⟩ = some (.int .i64 y) ∧ w'.cell? ⟨w.heap.size + 1 + 1, i, none⟩ = some (.int .i64 z))
        (first | exact ⟨ex, ey, ez⟩ | (go_split_ands; exact ⟨hxS.cell cx, hxS.cell cy, hxS.cell cz⟩))
        ((go_at_call 25; refine (ceil_any x y z _).mono ?_; rintro e w5 ⟨rfl, hx5⟩; replace hxS : Ext W2 w5 := Ext.trans (by first | exact hxS | exact hxS.drew) hx5))
      go_wp2_with fail
      clear ex ey ez hx5
      have ex := hxS.cell cx
      have ey := hxS.cell cy
      have ez := hxS.cell cz
      go_region_held3 (fun w' => w'.cell? ⟨w.heap.size, i, none⟩ = some (.int .i64 x) ∧ w'.cell? ⟨w.heap.size + 1, i, none⟩ = some (.int .i64 y) ∧ w'.cell? ⟨w.heap.size + 1 + 1, i, none⟩ = some (.int .i64 z))
        (first | exact ⟨ex, ey, ez⟩ | (go_split_ands; exact ⟨hxS.cell cx, hxS.cell cy, hxS.cell cz⟩))
        ((go_at_call 26; refine (ceilR_any x y z _).mono ?_; rintro e w6 ⟨rfl, hx6⟩; replace hxS : Ext W2 w6 := Ext.trans (by first | exact hxS | exact hxS.drew) hx6))
      generalize (ceilP x y z).1 = q1 at *
      generalize (ceilP x y z).2 = q2 at *
      clear ex ey ez hx6
      go_wp2
      go_roundw
      case rel => exact ⟨i + 1, by omega, by go_num, by first | exact hxS | exact hxS.drew | exact hxS.drewN _⟩
      case measure => simp [intOf]; omega
    · have i2 : ¬ ((i : Int) < 5) := by omega
      go_wp2_with fail
      refine (lives03_any _).mono ?_
      rintro e w9 ⟨rfl, hx9⟩
      go_wp2
      go_ret
      exact ⟨rfl, (hxw.trans (by first | exact hxS | exact hxS.drew)).trans hx9⟩
end Go.Proofs.Ytenencblpoeneaa
