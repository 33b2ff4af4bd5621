/- package share: what the laws say of a split's parts: bounds. -/
import Derived.Test.YtbcjikiakanncaaSs2
import Derived.Test.YtbcjikiakanncaaSw1
namespace Go.Proofs.Ytbcjikiakanncaa
open Go.RowKit
set_option linter.unusedVariables false

theorem SplitAns.ok {t : Int} {ws xs : List Int} {c : Int} (h : SplitAns t ws xs c) (ht : 0 ≤ t) (ht1 : t ≤ 1099511627776) (hw : ∀ x ∈ ws, 0 ≤ x ∧ x ≤ 1099511627776) (hp : 0 < totS ws) : c = 0 ∧ IsSplit t ws xs :=
  h.yes ((okS_iff t ws).2 ⟨⟨ht, ht1⟩, hw, hp⟩)
theorem getD_of {l : List Int} {i : Nat} (hi : i < l.length) : l.getD i 0 = l[i] := by
  rw [List.getD_eq_getElem?_getD, List.getElem?_eq_getElem hi]; rfl
theorem SplitAt.nonneg {t : Int} {ws xs : List Int} {got : Nat → Prop} (h : SplitAt t ws xs got) (hl : xs.length = ws.length) (ht : 0 ≤ t) (hw : ∀ x ∈ ws, 0 ≤ x) (hp : 0 < totS ws) : ∀ x ∈ xs, 0 ≤ x ∧ x ≤ t := by
  have h0 : ∀ x ∈ xs, 0 ≤ x := fun x hx => by
    obtain ⟨i, hi, rfl⟩ := List.getElem_of_mem hx
    have h1 := h.low i (by omega)
    rw [getD_of hi] at h1
    have h2 : 0 ≤ ws.getD i 0 := getD_mem0 (P := fun x => 0 ≤ x) (by omega) hw i
    have h3 : 0 ≤ t * ws.getD i 0 / totS ws := Int.ediv_nonneg (Int.mul_nonneg ht h2) (by omega)
    omega
  exact fun x hx => ⟨h0 x hx, by have := totS_mem h0 x hx; rw [h.sum] at this; exact this⟩
theorem quota_part {t y s : Int} (ht : 0 ≤ t) (ht1 : t ≤ 1099511627776) (h0 : 0 ≤ y) (h1 : y ≤ s) (hs : 1 ≤ s) (hs1 : s ≤ 1152921504606846976) : partP t y s = (t * y / s, 0) ∧ 0 ≤ t * y / s ∧ t * y / s ≤ t := by
  have hle := mul_le_amt ht h1 hs
  exact ⟨partP_ok ((argsP_iff t y s).2 ⟨⟨ht, ht1⟩, ⟨h0, by omega⟩, by omega, hs1⟩) (by omega), Int.ediv_nonneg (Int.mul_nonneg ht h0) (by omega), hle⟩
theorem ceilQ_range {t y s : Int} (ht : 0 ≤ t) (h0 : 0 ≤ y) (h1 : y ≤ s) (hs : 1 ≤ s) : t * y / s ≤ ceilQ (t * y) s ∧ ceilQ (t * y) s ≤ t * y / s + 1 ∧ ceilQ (t * y) s ≤ t := by
  have hle := mul_le_amt ht h1 hs
  unfold ceilQ
  split
  · rename_i hr
    refine ⟨by omega, by omega, ?_⟩
    have e := Int.mul_ediv_add_emod (t * y) s
    have h2 := Int.mul_le_mul_of_nonneg_left h1 ht
    rcases Int.lt_or_le (t * y / s) t with h | h
    · omega
    · have : t * y / s = t := by omega
      rw [this, Int.mul_comm s t] at e
      omega
  · exact ⟨by omega, by omega, hle⟩
theorem quota_ceil {t y s : Int} (ht : 0 ≤ t) (ht1 : t ≤ 1099511627776) (h0 : 0 ≤ y) (h1 : y ≤ s) (hs : 1 ≤ s) (hs1 : s ≤ 1152921504606846976) : ceilP t y s = (ceilQ (t * y) s, 0) := by
  have hp := quota_part ht ht1 h0 h1 hs hs1
  have hc := ceilQ_range ht h0 h1 hs
  exact ceilP_ok (by rw [hp.1]) (by omega)
/-- a list's cells -/
theorem Rd.cellAt {w : World} {A : Option Addr} {n c : Nat} {l : List Int} (h : Rd w (.slice A n c) (vis l)) (hn : 0 < l.length) : ∃ b off, A = some ⟨b, off, none⟩ ∧ ∀ (w' : World), Ext w w' → ∀ (i : Nat) (hi : i < l.length), w'.cell? ⟨b, off + i, none⟩ = some (.int .i64 l[i]) := by
  obtain ⟨e, -, -, h3⟩ := h.at
  rw [vis_len] at e
  obtain ⟨b, off, hA, hc⟩ := h3 (by omega)
  exact ⟨b, off, hA, fun w' hx i hi => hc w' hx i _ (by simp [vis, hi])⟩
end Go.Proofs.Ytbcjikiakanncaa
