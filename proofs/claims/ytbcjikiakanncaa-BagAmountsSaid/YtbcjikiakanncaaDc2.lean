/- slices.Clone of bytes: its contract. -/
import Derived.Test.YtbcjikiakanncaaHc1
import Derived.Test.YtbcjikiakanncaaMm
import Derived.WalkSpells
namespace Go.Proofs.Ytbcjikiakanncaa
open Go.RowKit
set_option linter.unusedVariables false

theorem Own.lit0 (w : World) (t : TypeId) : Own (w.alloc (.cells #[] t)) w.heap.size t (.slice (some ⟨w.heap.size, 0, none⟩) 0 0) [] :=
  World.ownsRow_made w #[] 0 (Nat.le_refl _) (Nat.zero_le _) rfl
theorem Src.ext {w w' : World} {A : Option Addr} {m : Nat} {news : List Value} (h : Src w A m news) (hx : Ext w w') : Src w' A m news := by
  refine ⟨h.1, ?_⟩
  rcases h.2 with h | ⟨b, off, rfl, hc⟩
  · exact .inl h
  · exact .inr ⟨b, off, rfl, fun j u hu => hx.cell (hc j u hu)⟩

theorem clone_nil (c : Nat) (w : World) :
    Calls Try.prog 58 #[.slice none 0 c] w fun e w' => ∃ v', e = .returned v' ∧ Own w' w.heap.size 5 v' (vbs []) ∧ Ext w w' := by
  have heq := fun (W : World) => Lib.run_eql_slice_nil (P := Try.prog) W 34 5 none 0 c 0 0 Try.underlying34
  go_enter Try.func58, Try.ntmps58
  go_wp2
  go_ret
  exact ⟨_, rfl, Own.nil _ _ _, Ext.refl _⟩

set_option maxHeartbeats 1000000 in
theorem clone_any (v : Value) (bs : List UInt8) (w : World) (hr : Rd w v (vbs bs)) (hl : bs.length ≤ 1000000000) :
    Calls Try.prog 58 #[v] w fun e w' => ∃ v', e = .returned v' ∧ Own w' w.heap.size 5 v' (vbs bs) ∧ Ext w w' := by
  have h0 := hr
  obtain ⟨A, c, rfl, -⟩ := hr
  obtain ⟨i0, hi, hz0, hz1, hz2⟩ := info_parts info_u8
  simp only [vbs_len] at *
  have heq := fun (W : World) => Lib.run_eql_slice_nil (P := Try.prog) W 34 5 A bs.length c 0 0 Try.underlying34
  rcases A with _ | ad
  · have hb : bs = [] := by
      obtain ⟨_, _, _, h4⟩ := h0.at
      rcases bs with _ | ⟨b, r⟩
      · rfl
      · obtain ⟨b, off, hh, _⟩ := h4 (by simp)
        cases hh
    subst hb
    clear h0 heq
    exact clone_nil c w
  · have hs := Src.rd h0
    clear h0
    go_enter Try.func58, Try.ntmps58
    go_wp2_with (at_builtin; refine wpList_app _ rfl (.tmp 5) (.tmp 6) _ rfl w.heap.size 5 i0 _ 1 Try.underlying34 hi hz0 hz1 hz2 rfl (by omega) _ [] rfl (Own.lit0 w 5) (some ad) bs.length c (vbs bs) rfl (hs.ext ((Ext.refl w).alloc _)) ?_ ?_ ?_ ?_; exact vbs_one bs; (simp; omega); (simp); intro v1 w1 ho1 hg1 _)
    go_ret
    exact ⟨v1, rfl, ho1, ((Ext.refl w).alloc _).grown hg1 (fun k e => ((Own.lit0 w 5).lt k e).1)⟩
end Go.Proofs.Ytbcjikiakanncaa
