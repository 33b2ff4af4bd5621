/- package wire: the Writer's Uint and Int once more: blocks of other types stay as they are. -/
import Derived.Test.YtbcjikiakanncaaWc2
namespace Go.Proofs.Ytbcjikiakanncaa
open Go.RowKit
set_option linter.unusedVariables false

/-- blocks of elements of type e are as they were -/
def KeepT (e : TypeId) (w w' : World) : Prop := ∀ (k : Nat) (cur : Array Value) (fr : Nat × Nat), w.heap[k]? = some (Obj.cells cur e fr) → w'.heap[k]? = w.heap[k]?
theorem KeepT.refl (e : TypeId) (w : World) : KeepT e w w := fun _ _ _ _ => rfl
theorem KeepT.trans {e : TypeId} {a b c : World} (h : KeepT e a b) (k : KeepT e b c) : KeepT e a c := fun i cur fr hi => by
  have := h i cur fr hi
  exact (k i cur fr (this.trans hi)).trans this
theorem KeepT.of_ext {e : TypeId} {w w' : World} (h : Ext w w') : KeepT e w w' := fun k cur fr hk => h.block (Array.getElem?_eq_some_iff.1 hk).1
theorem KeepT.app {e : TypeId} {w0 wr w1 : World} {b g : Nat} {v : Value} {xs : List Value} {o : Obj} (h : KeepT e w0 wr) (he1 : e ≠ 5) (he2 : e ≠ 72) (hb : Blk wr g 72 [v]) (ho : Own wr b 5 v xs)
    (hg : (wr.alloc o).grownBy w1 v.ownBlock) (v1 : Value) : KeepT e w0 (w1.setCell ⟨g, 0, none⟩ v1) := by
  refine h.trans fun k cur fr hk => ?_
  have hl : k < wr.heap.size := (Array.getElem?_eq_some_iff.1 hk).1
  have hkg : k ≠ g := by
    rintro rfl
    unfold Blk at hb
    rw [hk] at hb
    injection hb with hb
    injection hb with _ ht _
    exact he2 ht
  have hkv : v.ownBlock ≠ some k := fun hc => by
    rcases ho.2 with ⟨rfl, _⟩ | ⟨q, cap, cur', rfl, _, hq, _⟩
    · simp [Value.ownBlock] at hc
    · simp only [Value.ownBlock, Option.some.injEq] at hc
      subst hc
      rw [hk] at hq
      injection hq with hq
      injection hq with _ ht _
      exact he1 ht
  refine (Below.heap_setCell w1 ⟨g, 0, none⟩ v1 k hkg).trans ?_
  refine (World.grownBy.block hg k (by simp; omega) (fun hc => hkv hc.symm)).trans ?_
  exact ((Ext.refl wr).alloc o).block hl

set_option maxHeartbeats 1000000 in
theorem wuintK_any (e : TypeId) (he1 : e ≠ 5) (he2 : e ≠ 72) (b g : Nat) (bs : List UInt8) (n : Int) (w : World) (hn : 0 ≤ n ∧ n ≤ 18446744073709551615) (h : WAt w b g bs) (hl : bs.length ≤ 1000000000) :
    Calls Try.prog 79 #[.pointer (some ⟨g, 0, none⟩), .int .u64 n] w fun e' w' => e' = .returned (.tuple #[]) ∧ WAt w' b g (bs ++ uvar n) ∧ Below b w w' ∧ KeepT e w w' := by
  have hul := uvar_len10 n hn.2
  obtain ⟨i0, hi, hz0, hz1, hz2⟩ := info_parts info_u8
  go_enter Try.func79, Try.ntmps79
  go_wp2_with fail
  go_loopw [1] (fun i wr => ∃ k : Int, 0 ≤ k ∧ k ≤ 18446744073709551615 ∧ i = .int .u64 k ∧ Below b w wr ∧ KeepT e w wr ∧ ∃ done, WAt wr b g done ∧ Hid (done ++ uvar k = bs ++ uvar n)) (fun i _ => (intOf i).toNat)
  case atStart => exact ⟨n, hn.1, hn.2, rfl, Below.refl _ _, KeepT.refl _ _, bs, h, Lib.hid rfl⟩
  case round =>
    obtain ⟨k, hk0, hk1, rfl, hxr, hkt, done, ⟨hbg, v, hb, ho⟩, hd⟩ := hrel
    have c0 := hb.cell 0
    have f0 := hb.frozen 0
    have hdl := congrArg List.length hd.out
    have hkl := uvar_pos k
    simp only [List.length_append] at hdl
    simp only [List.getElem?_cons_zero] at c0
    by_cases h128 : 128 ≤ k
    · have HBY := Lib.hid (uvar_byte k hk0)
      rw [uvar_hi k h128] at hd
      go_wp2_with (at_builtin; refine wpList_app _ rfl (.tmp 12) (.tmp 16) _ rfl b 5 i0 _ 1 Try.underlying34 hi hz0 hz1 hz2 rfl (by omega) _ _ rfl (ho.ext ((Ext.refl _).alloc _)) (some ⟨wr.heap.size, 0, none⟩) 1 1 [.int .u8 (bits BinOp.or IntKind.u8 (k % 256) 128)] rfl (Src.one _ _ _) ?_ ?_ ?_ ?_; (simp [Value.oneCell']); (simp [vbs_len]; omega); (simp; have := hb.lt; omega); intro v1 w1 ho1 hg1 _; rw [HBY.out] at ho1; have hkt1 := hkt.app he1 he2 hb ho hg1 v1; obtain ⟨hw1, hb1, hbl⟩ := WAt.app (cs := [UInt8.ofNat (128 + k.toNat % 128)]) hbg ((Ext.refl wr).alloc _) hb ho ho1 hg1; have c1 := hb1.cell 0; have f1 := hb1.frozen 0; simp only [List.getElem?_cons_zero] at c1; obtain ⟨A1, m1, cc1, rfl⟩ := ho1.shape)
      go_roundw
      case rel => exact ⟨k / 128, by omega, by omega, rfl, hxr.trans hbl, hkt1, _, hw1, Lib.hid (by rw [← hd.out]; simp)⟩
      case measure => simp [intOf]; omega
    · have HBY : Hid (((UInt8.ofNat k.toNat).toNat : Int) = k) := Lib.hid (by rw [u8_ofNat _ (by omega)]; omega)
      rw [uvar_lo k (by omega)] at hd
      go_wp2_with (at_builtin; refine wpList_app _ rfl (.tmp 24) (.tmp 27) _ rfl b 5 i0 _ 1 Try.underlying34 hi hz0 hz1 hz2 rfl (by omega) _ _ rfl (ho.ext ((Ext.refl _).alloc _)) (some ⟨wr.heap.size, 0, none⟩) 1 1 [.int .u8 k] rfl (Src.one _ _ _) ?_ ?_ ?_ ?_; (simp [Value.oneCell']); (simp [vbs_len]; omega); (simp; have := hb.lt; omega); intro v1 w1 ho1 hg1 _; rw [← HBY.out] at ho1; have hkt1 := hkt.app he1 he2 hb ho hg1 v1; obtain ⟨hw1, hb1, hbl⟩ := WAt.app (cs := [UInt8.ofNat k.toNat]) hbg ((Ext.refl wr).alloc _) hb ho ho1 hg1; have c1 := hb1.cell 0; have f1 := hb1.frozen 0; simp only [List.getElem?_cons_zero] at c1; obtain ⟨A1, m1, cc1, rfl⟩ := ho1.shape)
      go_end0
      exact ⟨rfl, by rw [← hd.out]; exact hw1, hxr.trans hbl, hkt1⟩

set_option maxHeartbeats 1000000 in
theorem wintK_any (e : TypeId) (he1 : e ≠ 5) (he2 : e ≠ 72) (b g : Nat) (bs : List UInt8) (n : Int) (w : World) (hn : inI64 n) (h : WAt w b g bs) (hl : bs.length ≤ 1000000000) :
    Calls Try.prog 59 #[.pointer (some ⟨g, 0, none⟩), .int .i64 n] w fun e' w' => e' = .returned (.tuple #[]) ∧ WAt w' b g (bs ++ uvar (zig n)) ∧ Below b w w' ∧ KeepT e w w' := by
  go_enter Try.func59, Try.ntmps59
  go_wp2_with fail
  refine (zigzag_any n _ hn).mono ?_
  rintro e' w1 ⟨rfl, rfl⟩
  go_wp2_with fail
  refine (wuintK_any e he1 he2 b g bs (zig n) _ (zig_range n hn) h hl).mono ?_
  rintro e' w1 ⟨rfl, h1, h2, h3⟩
  go_wp2
  go_end0
  exact ⟨rfl, h1, h2, h3⟩
end Go.Proofs.Ytbcjikiakanncaa
