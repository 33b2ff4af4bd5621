/- From the opened pairs of a []api.Amount argument to RdA. -/
import Derived.Test.YtbcjikiakanncaaLw
import Derived.Test.YtbcjikiakanncaaBa2
namespace Go.Proofs.Ytbcjikiakanncaa
open Go.RowKit
set_option linter.unusedVariables false
theorem rdA_of_pairs {w : World} {a : Addr} {len cap m : Nat} (hmm : m = cap) (hl : len ≤ cap) (hm : cap ≤ maxLen)
    (h : ∀ i, i < m → ∃ x y : Int, w.cell? (a.add (i * 2)) = some (.int .i64 x) ∧ w.cell? (a.add (i * 2 + 1)) = some (.int .i64 y) ∧ inI64 x ∧ inI64 y) :
    ∃ zs : List Amt, RdA w (.slice (some a) len cap) zs ∧ AmtsOk zs := by
  subst hmm
  have each : ∀ i, ∃ p : Amt, i < m → w.cell? (a.add (i * 2)) = some (.int .i64 p.1) ∧ w.cell? (a.add (i * 2 + 1)) = some (.int .i64 p.2) ∧ inI64 p.1 ∧ inI64 p.2 := fun i => by
    by_cases hi : i < m
    · obtain ⟨x, y, h1⟩ := h i hi
      exact ⟨(x, y), fun _ => h1⟩
    · exact ⟨(0, 0), fun h' => absurd h' hi⟩
  refine ⟨(List.range len).map (fun i => Classical.choose (each i)), ⟨some a, m, by simp, by simpa using hl, hm, ?_⟩, fun p hp => ?_⟩
  · rcases Nat.eq_zero_or_pos len with h0 | h0
    · subst h0; exact .inl rfl
    · right
      have h1 := (Classical.choose_spec (each 0) (by omega)).1
      obtain ⟨b, off, spot⟩ := a
      have hspot : spot = none := by simpa [Addr.add] using World.cell?_spot h1
      subst hspot
      refine ⟨b, off, rfl, fun i hi => ?_⟩
      have hi' : i < len := by simpa using hi
      have h2 := Classical.choose_spec (each i) (by omega)
      have e1 : (⟨b, off, none⟩ : Addr).add (i * 2) = ⟨b, off + i * 2, none⟩ := addr_add ..
      have e2 : (⟨b, off, none⟩ : Addr).add (i * 2 + 1) = ⟨b, off + i * 2 + 1, none⟩ := addr_add ..
      simp only [List.getElem_map, List.getElem_range]
      exact ⟨(congrArg w.cell? e1).symm.trans h2.1, (congrArg w.cell? e2).symm.trans h2.2.1⟩
  · obtain ⟨i, hi, rfl⟩ := List.mem_map.1 hp
    have hi' : i < len := by simpa using hi
    exact (Classical.choose_spec (each i) (by omega)).2.2
end Go.Proofs.Ytbcjikiakanncaa
