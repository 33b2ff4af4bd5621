/- From the frame's words on arguments (IsRow, wf) to mine (Rd, bounds). -/
import Derived.Test.YtbcjikiakanncaaPl
namespace Go.Proofs.Ytbcjikiakanncaa
open Go.RowKit
set_option linter.unusedVariables false

def RowOf (k : IntKind) (w : World) (a : Option Addr) (len cap : Nat) (zs : List Int) : Prop :=
  (a = none ∧ len = 0 ∧ cap = 0 ∧ zs = []) ∨
  ∃ x, a = some x ∧ len ≤ cap ∧ cap ≤ maxLen ∧ zs.length = cap ∧ (∀ i, i < zs.length → w.cell? (x.add i) = some (.int k (zs.getD i 0))) ∧ ∀ n ∈ zs, (Lit.int k n).wf = true

theorem rd_of_row {k : IntKind} {w : World} {a : Option Addr} {len cap : Nat} {zs : List Int} (h : RowOf k w a len cap zs) :
    Rd w (.slice a len cap) ((zs.take len).map (Value.int k)) ∧ ∀ n ∈ zs.take len, (Lit.int k n).wf = true := by
  rcases h with ⟨rfl, rfl, rfl, rfl⟩ | ⟨x, rfl, hl, hm, hz, hc, hw⟩
  · exact ⟨Rd.nil w, by simp⟩
  · have hlen : ((zs.take len).map (Value.int k)).length = len := by simp; omega
    refine ⟨⟨some x, cap, by rw [hlen], by rw [hlen]; exact hl, hm, ?_⟩, fun n hn => hw n (List.mem_of_mem_take hn)⟩
    rcases Nat.eq_zero_or_pos len with h0 | h0
    · subst h0; exact .inl (by simp)
    · right
      have h1 := hc 0 (by omega)
      obtain ⟨b, off, spot⟩ := x
      have hspot : spot = none := by simpa [Addr.add] using World.cell?_spot h1
      subst hspot
      refine ⟨b, off, rfl, fun j u hu => ?_⟩
      have hj : j < len := by
        rcases Nat.lt_or_ge j len with h | h
        · exact h
        · rw [List.getElem?_eq_none (by rw [hlen]; exact h)] at hu; cases hu
      have h2 := hc j (by omega)
      rw [addr_add] at h2
      rw [h2, ← hu]
      rw [List.getElem?_map, List.getElem?_take, if_pos hj, List.getElem?_eq_getElem (by omega : j < zs.length), List.getD_eq_getElem?_getD, List.getElem?_eq_getElem (by omega : j < zs.length)]
      rfl

theorem inI64_of_wf {n : Int} (h : (Lit.int .i64 n).wf = true) : inI64 n := by
  simp [Lit.wf, IntKind.min, IntKind.max, IntKind.signed, IntKind.bits] at h
  unfold inI64; omega
theorem inU64_of_wf {n : Int} (h : (Lit.int .u64 n).wf = true) : 0 ≤ n ∧ n ≤ 18446744073709551615 := by
  simp [Lit.wf, IntKind.min, IntKind.max, IntKind.signed, IntKind.bits] at h
  omega
theorem inU8_of_wf {n : Int} (h : (Lit.int .u8 n).wf = true) : 0 ≤ n ∧ n ≤ 255 := by
  simp [Lit.wf, IntKind.min, IntKind.max, IntKind.signed, IntKind.bits] at h
  omega

theorem rdI_of_row {w : World} {a : Option Addr} {len cap : Nat} {zs : List Int} (h : RowOf .i64 w a len cap zs) :
    ∃ l : List Int, Rd w (.slice a len cap) (vis l) ∧ ∀ n ∈ l, inI64 n :=
  ⟨zs.take len, (rd_of_row h).1, fun n hn => inI64_of_wf ((rd_of_row h).2 n hn)⟩

theorem rdB_of_row {w : World} {a : Option Addr} {len cap : Nat} {zs : List Int} (h : RowOf .u8 w a len cap zs) :
    ∃ l : List UInt8, Rd w (.slice a len cap) (vbs l) := by
  refine ⟨(zs.take len).map (fun n => UInt8.ofNat n.toNat), ?_⟩
  have h1 := (rd_of_row h).1
  have h2 := (rd_of_row h).2
  have e : vbs ((zs.take len).map (fun n => UInt8.ofNat n.toNat)) = (zs.take len).map (Value.int .u8) := by
    unfold vbs
    rw [List.map_map]
    apply List.map_congr_left
    intro n hn
    have := inU8_of_wf (h2 n hn)
    simp only [Function.comp]
    congr 1
    simp
    omega
  rw [e]
  exact h1

end Go.Proofs.Ytbcjikiakanncaa
