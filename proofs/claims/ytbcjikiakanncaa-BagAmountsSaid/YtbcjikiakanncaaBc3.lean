/- package bag: Add, Sub, Times, Join, Meet, Covers. -/
import Derived.Test.YtbcjikiakanncaaBc2
namespace Go.Proofs.Ytbcjikiakanncaa
open Go.RowKit
set_option linter.unusedVariables false

theorem zwTimes (b : List Int) (k : Int) : List.zipWith (fun x _ => x * k) b b = b.map (· * k) := by
  apply List.ext_getElem <;> simp
theorem Own.of_nil {w : World} {base : Nat} {e : TypeId} : Own w base e (.slice none 0 0) (vis []) := Own.nil _ _ _
theorem isB_amt {l : List Int} (h : isB l = true) (i : Nat) (hi : i < l.length) : (0 ≤ l[i]) ∧ l[i] ≤ 1099511627776 := isB_get h i hi

set_option maxHeartbeats 1000000 in
theorem add_any (v1 v2 : Value) (a b : List Int) (w : World) (h1 : Rd w v1 (vis a)) (h2 : Rd w v2 (vis b)) :
    Calls Try.prog 17 #[v1, v2] w fun e w' => ∃ v, e = .returned (.tuple #[v, .int .i64 (addB a b).2]) ∧ Own w' w.heap.size 3 v (vis (addB a b).1) ∧ Ext w w' := by
  have HA : Hid (addB a b = if fitB a b then (if isB (List.zipWith (· + ·) a b) then (List.zipWith (· + ·) a b, 0) else ([], 4)) else ([], 1)) := Lib.hid rfl
  go_enter Try.func17, Try.ntmps17
  go_wp2_with fail
  refine (fit_any v1 v2 a b _ h1 h2).mono ?_
  rintro e w1 ⟨rfl, rfl⟩
  rcases hc : fitB a b with _ | _
  · have HC := Lib.hid hc
    clear hc
    go_wp2
    go_ret2
    rw [HA.out, HC.out]
    exact ⟨_, rfl, Own.of_nil, Ext.refl _⟩
  · have HC := Lib.hid hc
    obtain ⟨ha, hb, hl⟩ := (fitB_iff a b).1 hc
    clear hc
    go_wp2_with fail
    refine (combine_any (· + ·) 56 #[] v1 v2 a b _ h1 h2 hl (isB_len ha) (enters_of Try.func56 (by kernel_rfl) rfl) (fun W i hi hj hW => ?_)).mono ?_
    · obtain ⟨hx0, hx1⟩ := isB_get ha i hi
      obtain ⟨hy0, hy1⟩ := isB_get hb i hj
      generalize a[i] = x at *
      generalize b[i] = y at *
      show Calls Try.prog 56 #[.int .i64 x, .int .i64 y] W _
      go_enter Try.func56, Try.ntmps56
      go_wp2
      go_ret
      exact ⟨rfl, rfl⟩
    · rintro e w2 ⟨v, rfl, ho, hx⟩
      have hr := ho.rd
      go_wp2_with fail
      refine (is_any v _ _ hr).mono ?_
      rintro e w3 ⟨rfl, rfl⟩
      rcases hd : isB (List.zipWith (· + ·) a b) with _ | _
      · have HD := Lib.hid hd
        clear hd
        go_wp2
        go_ret2
        rw [HA.out, HC.out, if_pos rfl, HD.out]
        exact ⟨_, rfl, Own.of_nil, hx⟩
      · have HD := Lib.hid hd
        clear hd
        go_wp2
        go_ret2
        rw [HA.out, HC.out, if_pos rfl, HD.out]
        exact ⟨_, rfl, ho, hx⟩

set_option maxHeartbeats 1000000 in
theorem sub_any (v1 v2 : Value) (a b : List Int) (w : World) (h1 : Rd w v1 (vis a)) (h2 : Rd w v2 (vis b)) :
    Calls Try.prog 41 #[v1, v2] w fun e w' => ∃ v, e = .returned (.tuple #[v, .int .i64 (subB a b).2]) ∧ Own w' w.heap.size 3 v (vis (subB a b).1) ∧ Ext w w' := by
  have HA : Hid (subB a b = if fitB a b then (if isB (List.zipWith (· - ·) a b) then (List.zipWith (· - ·) a b, 0) else ([], 10)) else ([], 1)) := Lib.hid rfl
  go_enter Try.func41, Try.ntmps41
  go_wp2_with fail
  refine (fit_any v1 v2 a b _ h1 h2).mono ?_
  rintro e w1 ⟨rfl, rfl⟩
  rcases hc : fitB a b with _ | _
  · have HC := Lib.hid hc
    clear hc
    go_wp2
    go_ret2
    rw [HA.out, HC.out]
    exact ⟨_, rfl, Own.of_nil, Ext.refl _⟩
  · have HC := Lib.hid hc
    obtain ⟨ha, hb, hl⟩ := (fitB_iff a b).1 hc
    clear hc
    go_wp2_with fail
    refine (combine_any (· - ·) 71 #[] v1 v2 a b _ h1 h2 hl (isB_len ha) (enters_of Try.func71 (by kernel_rfl) rfl) (fun W i hi hj hW => ?_)).mono ?_
    · obtain ⟨hx0, hx1⟩ := isB_get ha i hi
      obtain ⟨hy0, hy1⟩ := isB_get hb i hj
      generalize a[i] = x at *
      generalize b[i] = y at *
      show Calls Try.prog 71 #[.int .i64 x, .int .i64 y] W _
      go_enter Try.func71, Try.ntmps71
      go_wp2
      go_ret
      exact ⟨rfl, rfl⟩
    · rintro e w2 ⟨v, rfl, ho, hx⟩
      have hr := ho.rd
      go_wp2_with fail
      refine (is_any v _ _ hr).mono ?_
      rintro e w3 ⟨rfl, rfl⟩
      rcases hd : isB (List.zipWith (· - ·) a b) with _ | _
      · have HD := Lib.hid hd
        clear hd
        go_wp2
        go_ret2
        rw [HA.out, HC.out, if_pos rfl, HD.out]
        exact ⟨_, rfl, Own.of_nil, hx⟩
      · have HD := Lib.hid hd
        clear hd
        go_wp2
        go_ret2
        rw [HA.out, HC.out, if_pos rfl, HD.out]
        exact ⟨_, rfl, ho, hx⟩

set_option maxHeartbeats 1000000 in
theorem join_any (v1 v2 : Value) (a b : List Int) (w : World) (h1 : Rd w v1 (vis a)) (h2 : Rd w v2 (vis b)) :
    Calls Try.prog 39 #[v1, v2] w fun e w' => ∃ v, e = .returned v ∧ Own w' w.heap.size 3 v (vis (joinB a b)) ∧ Ext w w' := by
  have HA : Hid (joinB a b = if fitB a b then List.zipWith max a b else []) := Lib.hid rfl
  go_enter Try.func39, Try.ntmps39
  go_wp2_with fail
  refine (fit_any v1 v2 a b _ h1 h2).mono ?_
  rintro e w1 ⟨rfl, rfl⟩
  rcases hc : fitB a b with _ | _
  · have HC := Lib.hid hc
    clear hc
    go_wp2
    go_ret
    rw [HA.out, HC.out]
    exact ⟨_, rfl, Own.of_nil, Ext.refl _⟩
  · have HC := Lib.hid hc
    obtain ⟨ha, hb, hl⟩ := (fitB_iff a b).1 hc
    clear hc
    go_wp2_with fail
    refine (combine_any max 69 #[] v1 v2 a b _ h1 h2 hl (isB_len ha) (enters_of Try.func69 (by kernel_rfl) rfl) (fun W i hi hj hW => ?_)).mono ?_
    · obtain ⟨hx0, hx1⟩ := isB_get ha i hi
      obtain ⟨hy0, hy1⟩ := isB_get hb i hj
      generalize a[i] = x at *
      generalize b[i] = y at *
      show Calls Try.prog 69 #[.int .i64 x, .int .i64 y] W _
      go_enter Try.func69, Try.ntmps69
      go_wp2
      all_goals
        go_ret
        exact ⟨ret_int (by omega), rfl⟩
    · rintro e w2 ⟨v, rfl, ho, hx⟩
      go_wp2
      go_ret
      rw [HA.out, HC.out, if_pos rfl]
      exact ⟨_, rfl, ho, hx⟩

set_option maxHeartbeats 1000000 in
theorem meet_any (v1 v2 : Value) (a b : List Int) (w : World) (h1 : Rd w v1 (vis a)) (h2 : Rd w v2 (vis b)) :
    Calls Try.prog 40 #[v1, v2] w fun e w' => ∃ v, e = .returned v ∧ Own w' w.heap.size 3 v (vis (meetB a b)) ∧ Ext w w' := by
  have HA : Hid (meetB a b = if fitB a b then List.zipWith min a b else []) := Lib.hid rfl
  go_enter Try.func40, Try.ntmps40
  go_wp2_with fail
  refine (fit_any v1 v2 a b _ h1 h2).mono ?_
  rintro e w1 ⟨rfl, rfl⟩
  rcases hc : fitB a b with _ | _
  · have HC := Lib.hid hc
    clear hc
    go_wp2
    go_ret
    rw [HA.out, HC.out]
    exact ⟨_, rfl, Own.of_nil, Ext.refl _⟩
  · have HC := Lib.hid hc
    obtain ⟨ha, hb, hl⟩ := (fitB_iff a b).1 hc
    clear hc
    go_wp2_with fail
    refine (combine_any min 70 #[] v1 v2 a b _ h1 h2 hl (isB_len ha) (enters_of Try.func70 (by kernel_rfl) rfl) (fun W i hi hj hW => ?_)).mono ?_
    · obtain ⟨hx0, hx1⟩ := isB_get ha i hi
      obtain ⟨hy0, hy1⟩ := isB_get hb i hj
      generalize a[i] = x at *
      generalize b[i] = y at *
      show Calls Try.prog 70 #[.int .i64 x, .int .i64 y] W _
      go_enter Try.func70, Try.ntmps70
      go_wp2
      all_goals
        go_ret
        exact ⟨ret_int (by omega), rfl⟩
    · rintro e w2 ⟨v, rfl, ho, hx⟩
      go_wp2
      go_ret
      rw [HA.out, HC.out, if_pos rfl]
      exact ⟨_, rfl, ho, hx⟩

set_option maxHeartbeats 2000000 in
theorem times_any (v1 : Value) (b : List Int) (k : Int) (w : World) (h1 : Rd w v1 (vis b)) (hk : inI64 k) :
    Calls Try.prog 25 #[v1, .int .i64 k] w fun e w' => ∃ v, e = .returned (.tuple #[v, .int .i64 (timesB b k).2]) ∧ Own w' w.heap.size 3 v (vis (timesB b k).1) ∧ Ext w w' := by
  have HA : Hid (timesB b k = if timesOk b k then (if isB (b.map (· * k)) then (b.map (· * k), 0) else ([], 4)) else ([], 1)) := Lib.hid rfl
  have HT : Hid (timesOk b k = (isB b && (decide (0 ≤ k) && decide (k ≤ 1048576)))) := Lib.hid rfl
  have hx0 : ∀ o, Ext w (w.alloc o) := fun o => (Ext.refl w).alloc _
  have h1' : ∀ o, Rd (w.alloc o) v1 (vis b) := fun o => h1.ext (hx0 o)
  go_enter Try.func25, Try.ntmps25
  go_wp2_with fail
  refine (is_any v1 b _ (h1' _)).mono ?_
  rintro e w1 ⟨rfl, rfl⟩
  rcases hc : isB b with _ | _
  · have HC : Hid (timesOk b k = false) := Lib.hid (by rw [HT.out, hc]; rfl)
    clear hc
    go_wp2
    go_ret2
    rw [HA.out, HC.out]
    exact ⟨_, rfl, Own.of_nil, hx0 _⟩
  · by_cases hk0 : k < 0
    · have HC : Hid (timesOk b k = false) := Lib.hid (by rw [HT.out, hc, decide_eq_false (by omega : ¬ 0 ≤ k)]; rfl)
      clear hc
      go_wp2
      go_ret2
      rw [HA.out, HC.out]
      exact ⟨_, rfl, Own.of_nil, hx0 _⟩
    · by_cases hk1 : 1048576 < k
      · have HC : Hid (timesOk b k = false) := Lib.hid (by rw [HT.out, hc, decide_eq_false (by omega : ¬ k ≤ 1048576)]; simp)
        clear hc
        go_wp2
        go_ret2
        rw [HA.out, HC.out]
        exact ⟨_, rfl, Own.of_nil, hx0 _⟩
      · have HC : Hid (timesOk b k = true) := Lib.hid ((timesOk_iff b k).2 ⟨hc, by omega, by omega⟩)
        have hb := hc
        clear hc
        go_wp2_with fail
        refine (combine_any (fun x _ => x * k) 65 #[.pointer (some ⟨w.heap.size, 0, none⟩)] v1 v1 b b _ (h1' _) (h1' _) rfl (isB_len hb) (enters_of Try.func65 (by kernel_rfl) rfl) (fun W i hi hj hW => ?_)).mono ?_
        · obtain ⟨hx0, hx1⟩ := isB_get hb i hi
          have hm := mul_k_bound hx0 hx1 (show 0 ≤ k by omega) (show k ≤ 1048576 by omega)
          obtain ⟨hm0, hm1⟩ := hm
          have ck : W.cell? ⟨w.heap.size, 0, none⟩ = some (.int .i64 k) := hW.cell (by go_simp)
          generalize b[i] = x at *
          have hw : IntKind.i64.wrap (x * k) = x * k := by rw [IntKind.wrap_i64]; omega
          show Calls Try.prog 65 #[.int .i64 x, .int .i64 x, .pointer (some ⟨w.heap.size, 0, none⟩)] W _
          go_enter Try.func65, Try.ntmps65
          go_wp2
          go_ret
          exact ⟨rfl, rfl⟩
        · rintro e w2 ⟨v, rfl, ho, hx⟩
          rw [zwTimes] at ho
          have hxw := (hx0 _).trans hx
          have ho' := ho.mono (show w.heap.size ≤ _ from (hx0 _).size)
          have hr := ho.rd
          go_wp2_with fail
          refine (is_any v _ _ hr).mono ?_
          rintro e w3 ⟨rfl, rfl⟩
          rcases hd : isB (b.map (· * k)) with _ | _
          · have HD := Lib.hid hd
            clear hd
            go_wp2
            go_ret2
            rw [HA.out, HC.out, if_pos rfl, HD.out]
            exact ⟨_, rfl, Own.of_nil, hxw⟩
          · have HD := Lib.hid hd
            clear hd
            go_wp2
            go_ret2
            rw [HA.out, HC.out, if_pos rfl, HD.out]
            exact ⟨_, rfl, ho', hxw⟩

set_option maxHeartbeats 1000000 in
theorem covers_any (v1 v2 : Value) (a b : List Int) (w : World) (h1 : Rd w v1 (vis a)) (h2 : Rd w v2 (vis b)) :
    Calls Try.prog 38 #[v1, v2] w fun e w' => e = .returned (.bool (coversB a b)) ∧ Ext w w' := by
  have HC : Hid (coversB a b = decide ((subB a b).2 = 0)) := Lib.hid rfl
  go_enter Try.func38, Try.ntmps38
  go_wp2_with fail
  refine (sub_any v1 v2 a b _ h1 h2).mono ?_
  rintro e w1 ⟨v, rfl, ho, hx⟩
  clear ho
  generalize (subB a b).2 = q at *
  by_cases hq : q = 0
  · have hq' : (q == 0) = true := by simpa using hq
    have HQ := Lib.hid hq
    clear hq
    go_wp2
    go_ret
    exact ⟨by rw [HC.out, decide_eq_true HQ.out]; rfl, hx⟩
  · have hq' : (q == 0) = false := by simpa using hq
    go_wp2
    go_ret
    exact ⟨by rw [HC.out, decide_eq_false hq]; rfl, hx⟩
end Go.Proofs.Ytbcjikiakanncaa
