/- package wire: the Writer: its contracts. -/
import Derived.Test.YtbcjikiakanncaaWp
import Derived.Test.YtbcjikiakanncaaHc1
import Derived.Test.YtbcjikiakanncaaDc2
namespace Go.Proofs.Ytbcjikiakanncaa
open Go.RowKit
set_option linter.unusedVariables false

/-- a Writer at block g whose row lies at b or behind -/
def WAt (w : World) (b g : Nat) (bs : List UInt8) : Prop := b ≤ g ∧ ∃ v, Blk w g 72 [v] ∧ Own w b 5 v (vbs bs)

theorem WAt.lt {w : World} {b g : Nat} {bs : List UInt8} (h : WAt w b g bs) : g < w.heap.size := h.2.choose_spec.1.lt
theorem WAt.ext {w w' : World} {b g : Nat} {bs : List UInt8} (h : WAt w b g bs) (hx : Ext w w') : WAt w' b g bs := by
  obtain ⟨h1, v, h2, h3⟩ := h
  exact ⟨h1, v, h2.ext hx, h3.ext hx⟩
theorem WAt.new (w : World) : WAt (w.alloc (.cells #[.slice none 0 0] 72)) w.heap.size w.heap.size [] :=
  ⟨Nat.le_refl _, _, Blk.new w 72 [.slice none 0 0], Own.nil _ _ _⟩
theorem Blk.ne_own {w : World} {g b : Nat} {t e : TypeId} {cs xs : List Value} {v : Value} (h : Blk w g t cs) (ho : Own w b e v xs) (hne : t ≠ e) : v.ownBlock ≠ some g := by
  intro he
  rcases ho.2 with ⟨rfl, _⟩ | ⟨g', cap, cur, rfl, _, hg, _⟩
  · simp [Value.ownBlock] at he
  · simp only [Value.ownBlock, Option.some.injEq] at he
    subst he
    unfold Blk at h
    rw [h] at hg
    injection hg with hg
    injection hg with _ ht
    exact hne ht
theorem Own.shape {w : World} {b : Nat} {e : TypeId} {xs : List Value} {v : Value} (ho : Own w b e v xs) : ∃ A m c, v = .slice A m c := by
  obtain ⟨A, c, h, -⟩ := ho.rd; exact ⟨_, _, _, h⟩
/-- an append to the Writer's row, then the store of the slice -/
theorem WAt.app {w w0 w1 : World} {b g : Nat} {bs cs : List UInt8} {v v1 : Value} (hbg : b ≤ g) (hx0 : Ext w w0) (hb : Blk w g 72 [v]) (ho : Own w b 5 v (vbs bs))
    (ho1 : Own w1 b 5 v1 (vbs bs ++ vbs cs)) (hg : w0.grownBy w1 v.ownBlock) : WAt (w1.setCell ⟨g, 0, none⟩ v1) b g (bs ++ cs) ∧ Blk w1 g 72 [v] ∧ Below b w (w1.setCell ⟨g, 0, none⟩ v1) := by
  have hne := hb.ne_own ho (by decide)
  have hb1 : Blk w1 g 72 [v] := (World.grownBy.block hg g (hb.ext hx0).lt (fun e => hne e.symm)).trans (hb.ext hx0)
  refine ⟨⟨hbg, v1, hb1.set 0 v1, ?_⟩, hb1, ?_⟩
  · rw [vbs_app]
    exact ho1.chg (Chg.set g 0 w1 v1) (hb1.ne_own ho1 (by decide))
  · have hs := hb.lt
    have hx1 : Below b w w1 := Below.grown (Below.mono hx0 (by omega)) hg (by have := hx0.size; omega) (fun k e => (ho.lt k e).1)
    exact Below.setCell hx1 hbg v1

set_option maxHeartbeats 1000000 in
theorem wuint_any (b g : Nat) (bs : List UInt8) (n : Int) (w : World) (hn : 0 ≤ n ∧ n ≤ 18446744073709551615) (h : WAt w b g bs) (hl : bs.length ≤ 1000000000) :
    Calls Try.prog 79 #[.pointer (some ⟨g, 0, none⟩), .int .u64 n] w fun e w' => e = .returned (.tuple #[]) ∧ WAt w' b g (bs ++ uvar n) ∧ Below b w w' := by
  have hul := uvar_len10 n hn.2
  obtain ⟨i0, hi, hz0, hz1, hz2⟩ := info_parts info_u8
  go_enter Try.func79, Try.ntmps79
  go_wp2_with fail
  go_loopw [1] (fun i wr => ∃ k : Int, 0 ≤ k ∧ k ≤ 18446744073709551615 ∧ i = .int .u64 k ∧ Below b w wr ∧ ∃ done, WAt wr b g done ∧ Hid (done ++ uvar k = bs ++ uvar n)) (fun i _ => (intOf i).toNat)
  case atStart => exact ⟨n, hn.1, hn.2, rfl, Below.refl _ _, bs, h, Lib.hid rfl⟩
  case round =>
    obtain ⟨k, hk0, hk1, rfl, hxr, done, ⟨hbg, v, hb, ho⟩, hd⟩ := hrel
    have c0 := hb.cell 0
    have f0 := hb.frozen 0
    have hdl := congrArg List.length hd.out
    have hkl := uvar_pos k
    simp only [List.length_append] at hdl
    simp only [List.getElem?_cons_zero] at c0
    by_cases h128 : 128 ≤ k
    · have HBY := Lib.hid (uvar_byte k hk0)
      rw [uvar_hi k h128] at hd
      go_wp2_with (at_builtin; refine wpList_app _ rfl (.tmp 12) (.tmp 16) _ rfl b 5 i0 _ 1 Try.underlying34 hi hz0 hz1 hz2 rfl (by omega) _ _ rfl (ho.ext ((Ext.refl _).alloc _)) (some ⟨wr.heap.size, 0, none⟩) 1 1 [.int .u8 (bits BinOp.or IntKind.u8 (k % 256) 128)] rfl (Src.one _ _ _) ?_ ?_ ?_ ?_; (simp [Value.oneCell']); (simp [vbs_len]; omega); (simp; have := hb.lt; omega); intro v1 w1 ho1 hg1 _; rw [HBY.out] at ho1; obtain ⟨hw1, hb1, hbl⟩ := WAt.app (cs := [UInt8.ofNat (128 + k.toNat % 128)]) hbg ((Ext.refl wr).alloc _) hb ho ho1 hg1; have c1 := hb1.cell 0; have f1 := hb1.frozen 0; simp only [List.getElem?_cons_zero] at c1; obtain ⟨A1, m1, cc1, rfl⟩ := ho1.shape)
      go_roundw
      case rel => exact ⟨k / 128, by omega, by omega, rfl, hxr.trans hbl, _, hw1, Lib.hid (by rw [← hd.out]; simp)⟩
      case measure => simp [intOf]; omega
    · have HBY : Hid (((UInt8.ofNat k.toNat).toNat : Int) = k) := Lib.hid (by rw [u8_ofNat _ (by omega)]; omega)
      rw [uvar_lo k (by omega)] at hd
      go_wp2_with (at_builtin; refine wpList_app _ rfl (.tmp 24) (.tmp 27) _ rfl b 5 i0 _ 1 Try.underlying34 hi hz0 hz1 hz2 rfl (by omega) _ _ rfl (ho.ext ((Ext.refl _).alloc _)) (some ⟨wr.heap.size, 0, none⟩) 1 1 [.int .u8 k] rfl (Src.one _ _ _) ?_ ?_ ?_ ?_; (simp [Value.oneCell']); (simp [vbs_len]; omega); (simp; have := hb.lt; omega); intro v1 w1 ho1 hg1 _; rw [← HBY.out] at ho1; obtain ⟨hw1, hb1, hbl⟩ := WAt.app (cs := [UInt8.ofNat k.toNat]) hbg ((Ext.refl wr).alloc _) hb ho ho1 hg1; have c1 := hb1.cell 0; have f1 := hb1.frozen 0; simp only [List.getElem?_cons_zero] at c1; obtain ⟨A1, m1, cc1, rfl⟩ := ho1.shape)
      go_end0
      exact ⟨rfl, by rw [← hd.out]; exact hw1, hxr.trans hbl⟩
end Go.Proofs.Ytbcjikiakanncaa
