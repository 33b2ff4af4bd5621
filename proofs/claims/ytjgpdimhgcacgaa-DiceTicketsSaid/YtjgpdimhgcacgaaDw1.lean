/- package dice and its reference: Hit: its contracts. -/
import Derived.Test.YtjgpdimhgcacgaaDv
namespace Go.Proofs.Ytjgpdimhgcacgaa
open Go.RowKit
set_option linter.unusedVariables false

/-- what Hit says, its error, the position behind it -/
def hitD (seed label : List UInt8) (num den p : Int) : Bool × Int × Int :=
  if num < 0 ∨ den < 1 ∨ den < num then (false, 1, p) else ((rollD seed label den p).2.1 == 0 && decide ((rollD seed label den p).1 < num), (rollD seed label den p).2.1, (rollD seed label den p).2.2)
set_option maxHeartbeats 2000000 in
theorem hit_any (R : Nat → Prop) (g : Nat) (seed : List UInt8) (label : ByteArray) (p num den : Int) (w : World) (h : DiceAt w R g seed label p) (hp : inI64 p) (hn : inI64 num) (hd : inI64 den) (hl : seed.length ≤ 1000000) (hs : label.size ≤ 1000000) :
    Calls Try.prog 33 #[.pointer (some ⟨g, 0, none⟩), .int .i64 num, .int .i64 den] w fun e w' =>
      e = .returned (.tuple #[.bool (hitD seed label.data.toList num den p).1, .int .i64 (hitD seed label.data.toList num den p).2.1]) ∧ DiceAt w' R g seed label (hitD seed label.data.toList num den p).2.2 ∧ Chg g w w' := by
  by_cases hbad : num < 0 ∨ den < 1 ∨ den < num
  · have HH : Hid (hitD seed label.data.toList num den p = (false, 1, p)) := Lib.hid (by unfold hitD; rw [if_pos hbad])
    have hc : decide (num < 0) = true ∨ (decide (num < 0) = false ∧ decide (den < 1) = true) ∨ (decide (num < 0) = false ∧ decide (den < 1) = false ∧ decide (den < num) = true) := by
      simp only [decide_eq_true_eq, decide_eq_false_iff_not]; omega
    clear hbad
    rcases hc with h1 | ⟨h1, h2⟩ | ⟨h1, h2, h3⟩
    all_goals
      go_enter Try.func33, Try.ntmps33
      go_wp2
      go_ret2
      rw [HH.out]
      exact ⟨rfl, h, Chg.refl g w⟩
  · have HH : Hid (hitD seed label.data.toList num den p = ((rollD seed label.data.toList den p).2.1 == 0 && decide ((rollD seed label.data.toList den p).1 < num), (rollD seed label.data.toList den p).2.1, (rollD seed label.data.toList den p).2.2)) := Lib.hid (by unfold hitD; rw [if_neg hbad])
    have h1 : decide (num < 0) = false := by simp; omega
    have h2 : decide (den < 1) = false := by simp; omega
    have h3 : decide (den < num) = false := by simp; omega
    clear hbad
    go_enter Try.func33, Try.ntmps33
    go_wp2_with fail
    refine (roll_any R g seed label p den _ h hp hd hl hs).mono ?_
    rintro e w1 ⟨rfl, hD, hc1⟩
    generalize (rollD seed label.data.toList den p).2.2 = q at *
    generalize (rollD seed label.data.toList den p).2.1 = er at *
    generalize (rollD seed label.data.toList den p).1 = vr at *
    cases he : (er == 0)
    · rw [he] at HH
      go_wp2
      go_ret2
      rw [HH.out]
      exact ⟨rfl, hD, hc1⟩
    · rw [he] at HH
      go_wp2
      go_ret2
      rw [HH.out]
      exact ⟨by simp, hD, hc1⟩

set_option maxHeartbeats 2000000 in
theorem rhit_any (R : Nat → Prop) (g : Nat) (seed : List UInt8) (label : ByteArray) (p num den : Int) (w : World) (h : RDAt w R g seed label p) (hp : inI64 p) (hn : inI64 num) (hd : inI64 den) (hl : seed.length ≤ 1000000) (hs : label.size ≤ 1000000) :
    Calls Try.prog 34 #[.pointer (some ⟨g, 0, none⟩), .int .i64 num, .int .i64 den] w fun e w' =>
      e = .returned (.tuple #[.bool (hitD seed label.data.toList num den p).1, .int .i64 (hitD seed label.data.toList num den p).2.1]) ∧ RDAt w' R g seed label (hitD seed label.data.toList num den p).2.2 ∧ Chg g w w' := by
  by_cases hbad : num < 0 ∨ den < 1 ∨ den < num
  · have HH : Hid (hitD seed label.data.toList num den p = (false, 1, p)) := Lib.hid (by unfold hitD; rw [if_pos hbad])
    have hc : decide (num < 0) = true ∨ (decide (num < 0) = false ∧ decide (den < 1) = true) ∨ (decide (num < 0) = false ∧ decide (den < 1) = false ∧ decide (den < num) = true) := by
      simp only [decide_eq_true_eq, decide_eq_false_iff_not]; omega
    clear hbad
    rcases hc with h1 | ⟨h1, h2⟩ | ⟨h1, h2, h3⟩
    all_goals
      go_enter Try.func34, Try.ntmps34
      go_wp2
      go_ret2
      rw [HH.out]
      exact ⟨rfl, h, Chg.refl g w⟩
  · have HH : Hid (hitD seed label.data.toList num den p = ((rollD seed label.data.toList den p).2.1 == 0 && decide ((rollD seed label.data.toList den p).1 < num), (rollD seed label.data.toList den p).2.1, (rollD seed label.data.toList den p).2.2)) := Lib.hid (by unfold hitD; rw [if_neg hbad])
    have h1 : decide (num < 0) = false := by simp; omega
    have h2 : decide (den < 1) = false := by simp; omega
    have h3 : decide (den < num) = false := by simp; omega
    clear hbad
    go_enter Try.func34, Try.ntmps34
    go_wp2_with fail
    refine (rroll_any R g seed label p den _ h hp hd hl hs).mono ?_
    rintro e w1 ⟨rfl, hD, hc1⟩
    generalize (rollD seed label.data.toList den p).2.2 = q at *
    generalize (rollD seed label.data.toList den p).2.1 = er at *
    generalize (rollD seed label.data.toList den p).1 = vr at *
    cases he : (er == 0)
    · rw [he] at HH
      go_wp2
      go_ret2
      rw [HH.out]
      exact ⟨rfl, hD, hc1⟩
    · rw [he] at HH
      go_wp2
      go_ret2
      rw [HH.out]
      exact ⟨by simp, hD, hc1⟩
end Go.Proofs.Ytjgpdimhgcacgaa
