/- package dice and its reference: Pick: its contracts. -/
import Derived.Test.YtjgpdimhgcacgaaDw3
namespace Go.Proofs.Ytjgpdimhgcacgaa
open Go.RowKit
set_option linter.unusedVariables false

/-- the sum of weights behind acc; 0 if they are not possible -/
def sumF : Int → List Int → Int
  | acc, [] => acc
  | acc, x :: r => if x < 0 ∨ 1152921504606846976 - acc < x then 0 else sumF (acc + x) r
theorem sumF_range : ∀ (l : List Int) (acc : Int), 0 ≤ acc → acc ≤ 1152921504606846976 → 0 ≤ sumF acc l ∧ sumF acc l ≤ 1152921504606846976
  | [], acc, h0, h1 => ⟨h0, h1⟩
  | x :: r, acc, h0, h1 => by
    rw [sumF]; split
    · exact ⟨by omega, by omega⟩
    · exact sumF_range r (acc + x) (by omega) (by omega)
/-- the index at which the sum passes r -/
def idxF (r : Int) : Int → List Int → Int → Int
  | _, [], _ => -1
  | b, x :: t, k => if r < b + x then k else idxF r (b + x) t (k + 1)
/-- what Pick says, its error, the position behind it -/
def pickD (seed label : List UInt8) (ws : List Int) (p : Int) : Int × Int × Int :=
  if sumF 0 ws = 0 then (0, 1, p)
  else if (rollD seed label (sumF 0 ws) p).2.1 = 0 then (idxF (rollD seed label (sumF 0 ws) p).1 0 ws 0, 0, (rollD seed label (sumF 0 ws) p).2.2)
  else (0, (rollD seed label (sumF 0 ws) p).2.1, (rollD seed label (sumF 0 ws) p).2.2)
theorem drop_cons (ws : List Int) (k : Nat) (h : k < ws.length) : ws.drop k = ws.getD k 0 :: ws.drop (k + 1) := by
  rw [List.drop_eq_getElem_cons h]; simp [h]

set_option maxHeartbeats 2000000 in
theorem rsumw_any (v : Value) (ws : List Int) (w : World) (hr : Rd w v (vis ws)) (hz : ∀ n ∈ ws, inI64 n) :
    Calls Try.prog 59 #[v] w fun e w' => e = .returned (.int .i64 (sumF 0 ws)) ∧ w = w' := by
  obtain ⟨A, c, rfl, h1, h2, -⟩ := id hr
  obtain ⟨-, -, -, hc⟩ := hr.at
  rw [vis_len] at h1 hc
  simp only [maxLen] at h2
  obtain ⟨n, hn⟩ : ∃ n, ws.length = n := ⟨_, rfl⟩
  have hcell : Hid (∀ j, j < n → ∃ b off, A = some ⟨b, off, none⟩ ∧ inI64 (ws.getD j 0) ∧ w.cell? ⟨b, off + j, none⟩ = some (.int .i64 (ws.getD j 0))) := Lib.hid (fun j hj => by
    obtain ⟨b, off, hh, hc⟩ := hc (by omega)
    have hjl : j < ws.length := by omega
    refine ⟨b, off, hh, by have := hz (ws[j]) (by simp); simpa [hjl] using this, hc w (Ext.refl _) j _ (by simp [vis, hjl])⟩)
  have hl : (vis ws).length = n := by rw [vis_len, hn]
  rw [hl]
  have HN := Lib.hid hn
  rw [hn] at h1
  clear hn hl hc hr hz
  go_enter Try.func59, Try.ntmps59
  go_wp2_with fail
  go_loop [5, 4] (fun i s => ∃ (k : Nat) (acc : Int), i = .int .i64 k ∧ s = .int .i64 acc ∧ k ≤ n ∧ 0 ≤ acc ∧ acc ≤ 1152921504606846976 ∧ Hid (sumF acc (ws.drop k) = sumF 0 ws)) (fun i _ => n - (intOf i).toNat)
  case atStart => exact ⟨0, 0, rfl, rfl, by omega, by omega, by omega, Lib.hid rfl⟩
  case round =>
    obtain ⟨k, acc, rfl, rfl, hk, ha0, ha1, hS⟩ := hrel
    by_cases hlt : (k : Int) < n
    · obtain ⟨b, off, hAe, ⟨hx1, hx2⟩, hck⟩ := hcell.out k (by omega)
      subst hAe
      have hd := drop_cons ws k (by rw [HN.out]; omega)
      rw [hd, sumF] at hS
      clear hd
      generalize ws.getD k 0 = x at *
      by_cases hx : x < 0
      · rw [if_pos (.inl hx)] at hS
        go_wp2
        go_ret
        exact ⟨ret_int hS.out, rfl⟩
      · by_cases hy : 1152921504606846976 - acc < x
        · rw [if_pos (.inr hy)] at hS
          go_wp2
          go_ret
          exact ⟨ret_int hS.out, rfl⟩
        · rw [if_neg (by omega)] at hS
          go_wp2
          go_round
          case rel => exact ⟨k + 1, acc + x, by go_num, rfl, by omega, by omega, by omega, hS⟩
          case measure => simp [intOf]; omega
    · have hke : k = n := by omega
      have HR : Hid (acc = sumF 0 ws) := Lib.hid (by rw [← hS.out, List.drop_of_length_le (by rw [HN.out]; omega)]; rfl)
      clear hS hke
      go_wp2
      go_ret
      exact ⟨ret_int HR.out, rfl⟩

set_option maxHeartbeats 2000000 in
theorem rpick_any (R : Nat → Prop) (g : Nat) (seed : List UInt8) (label : ByteArray) (p : Int) (v : Value) (ws : List Int) (w : World) (h : RDAt w R g seed label p) (hr : Rd w v (vis ws)) (hvg : v.ownBlock ≠ some g) (hz : ∀ n ∈ ws, inI64 n) (hp : inI64 p) (hl : seed.length ≤ 1000000) (hs : label.size ≤ 1000000) :
    Calls Try.prog 37 #[.pointer (some ⟨g, 0, none⟩), v] w fun e w' =>
      e = .returned (.tuple #[.int .i64 (pickD seed label.data.toList ws p).1, .int .i64 (pickD seed label.data.toList ws p).2.1]) ∧ RDAt w' R g seed label (pickD seed label.data.toList ws p).2.2 ∧ Chg g w w' := by
  have hsr := sumF_range ws 0 (by omega) (by omega)
  go_enter Try.func37, Try.ntmps37
  go_wp2_with fail
  refine (rsumw_any v ws _ hr hz).mono ?_
  rintro e w1 ⟨rfl, rfl⟩
  obtain ⟨S, hS⟩ : ∃ S, S = sumF 0 ws := ⟨_, rfl⟩
  rw [← hS] at hsr ⊢
  have HS := Lib.hid hS
  clear hS
  by_cases hS0 : S = 0
  · have HP : Hid (pickD seed label.data.toList ws p = (0, 1, p)) := Lib.hid (by unfold pickD; rw [← HS.out, if_pos hS0])
    subst hS0
    go_wp2
    go_ret2
    rw [HP.out]
    exact ⟨rfl, h, Chg.refl g w⟩
  · have HP : Hid (pickD seed label.data.toList ws p = if (rollD seed label.data.toList S p).2.1 = 0 then (idxF (rollD seed label.data.toList S p).1 0 ws 0, 0, (rollD seed label.data.toList S p).2.2) else (0, (rollD seed label.data.toList S p).2.1, (rollD seed label.data.toList S p).2.2)) := Lib.hid (by unfold pickD; rw [← HS.out, if_neg hS0])
    have hsb : (S == 0) = false := by simpa using hS0
    go_wp2_with fail
    refine (rroll_any R g seed label p S _ h hp ⟨by omega, by omega⟩ hl hs).mono ?_
    rintro e w1 ⟨rfl, hD, hc1⟩
    have herr := rollD_err seed label.data.toList S p (by omega)
    have hval := rollD_val seed label.data.toList S p (by omega)
    generalize (rollD seed label.data.toList S p).2.2 = q at *
    generalize (rollD seed label.data.toList S p).2.1 = er at *
    generalize (rollD seed label.data.toList S p).1 = r at *
    have hr1 := hr.chg hc1 hvg
    obtain ⟨A, c, rfl, h1, h2, -⟩ := id hr1
    obtain ⟨-, -, -, hcc⟩ := hr1.at
    rw [vis_len] at h1 hcc
    simp only [maxLen] at h2
    obtain ⟨n, hn⟩ : ∃ n, ws.length = n := ⟨_, rfl⟩
    have hcell : Hid (∀ j, j < n → ∃ b off, A = some ⟨b, off, none⟩ ∧ inI64 (ws.getD j 0) ∧ w1.cell? ⟨b, off + j, none⟩ = some (.int .i64 (ws.getD j 0))) := Lib.hid (fun j hj => by
      obtain ⟨b, off, hh, hc⟩ := hcc (by omega)
      have hjl : j < ws.length := by omega
      refine ⟨b, off, hh, by have := hz (ws[j]) (by simp); simpa [hjl] using this, hc w1 (Ext.refl _) j _ (by simp [vis, hjl])⟩)
    have hl : (vis ws).length = n := by rw [vis_len, hn]
    rw [hl]
    have HN := Lib.hid hn
    rw [hn] at h1
    clear hn hl hcc hr hr1 hz
    rcases herr with rfl | rfl
    · rw [if_pos rfl] at HP
      go_wp2_with fail
      go_loop [7, 9] (fun x i => ∃ (k : Nat) (b : Int), x = .int .i64 (r - b) ∧ i = .int .i64 k ∧ k ≤ n ∧ 0 ≤ b ∧ b ≤ r ∧ Hid (sumF b (ws.drop k) = S) ∧ Hid (idxF r b (ws.drop k) k = idxF r 0 ws 0)) (fun _ i => n - (intOf i).toNat)
      case atStart => exact ⟨0, 0, by simp, rfl, by omega, by omega, by omega, Lib.hid HS.out.symm, Lib.hid rfl⟩
      case round =>
        obtain ⟨k, b, rfl, rfl, hk, hb0, hb1, hSb, hI⟩ := hrel
        have hlt : k < n := by
          rcases Nat.lt_or_ge k n with h | h
          · exact h
          · have := hSb.out
            rw [List.drop_of_length_le (by rw [HN.out]; omega)] at this
            simp only [sumF] at this
            omega
        obtain ⟨bb, off, hAe, ⟨hx1, hx2⟩, hck⟩ := hcell.out k hlt
        subst hAe
        have hd := drop_cons ws k (by rw [HN.out]; omega)
        rw [hd, sumF] at hSb
        rw [hd, idxF] at hI
        clear hd
        generalize ws.getD k 0 = x at *
        have hxok : 0 ≤ x ∧ x ≤ 1152921504606846976 - b := by
          have := hSb.out
          split at this
          · omega
          · omega
        have hSb' : Hid (sumF (b + x) (ws.drop (k + 1)) = S) := Lib.hid (by have := hSb.out; rwa [if_neg (by omega)] at this)
        clear hSb hx1 hx2
        by_cases hge : x ≤ r - b
        · rw [if_neg (by omega)] at hI
          go_wp2
          go_round
          case rel => exact ⟨k + 1, b + x, by congr 1; omega, by go_num, by omega, by omega, by omega, hSb', Lib.hid (by rw [← hI.out]; simp)⟩
          case measure => simp [intOf]; omega
        · rw [if_pos (by omega)] at hI
          go_wp2
          go_ret2
          rw [HP.out, ← hI.out]
          exact ⟨rfl, hD, hc1⟩
    · rw [if_neg (by decide)] at HP
      go_wp2_with fail
      go_loop [7, 9] (fun x i => x = .int .i64 r ∧ i = .int .i64 0) (fun _ i => 0)
      case atStart => exact ⟨rfl, rfl⟩
      case round =>
        obtain ⟨rfl, rfl⟩ := hrel
        go_wp2
        go_ret2
        rw [HP.out]
        exact ⟨rfl, hD, hc1⟩
end Go.Proofs.Ytjgpdimhgcacgaa
