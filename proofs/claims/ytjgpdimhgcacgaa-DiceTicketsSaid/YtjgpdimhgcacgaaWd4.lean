/- package wire: the Reader: lists. -/
import Derived.Test.YtjgpdimhgcacgaaWd3
namespace Go.Proofs.Ytjgpdimhgcacgaa
open Go.RowKit
set_option linter.unusedVariables false

/-- a Reader survives what happens behind B -/
theorem RAt.below {w w' : World} {B : Nat → Prop} {g b : Nat} {s : RS} (h : RAt w B g s) (hx : Below b w w') (hB : ∀ k, B k → k < b) (hg : g < b) : RAt w' B g s := by
  obtain ⟨bs, e, ⟨v, hb, hr, hf⟩, hs⟩ := h
  refine ⟨bs, e, ⟨v, ?_, hr.below hx (fun k hk => hB k (hf k hk).2), hf⟩, hs⟩
  exact (Below.block hx g hg).trans hb
/-- a Reader survives a change of another block -/
theorem RAt.chg {w w' : World} {B : Nat → Prop} {g g' : Nat} {s : RS} (h : RAt w B g s) (hx : Chg g' w w') (hB : ∀ k, B k → k ≠ g') (hg : g ≠ g') : RAt w' B g s := by
  obtain ⟨bs, e, ⟨v, hb, hr, hf⟩, hs⟩ := h
  exact ⟨bs, e, ⟨v, hx.blk hb hg, hr.chg hx (fun e => hB _ (hf _ e).2 rfl), hf⟩, hs⟩
theorem RAt.grownR {w w' : World} {B : Nat → Prop} {g : Nat} {s : RS} {row : Option Nat} (h : RAt w B g s) (hx : w.grownBy w' row) (hk : ∀ k, row = some k → ¬ B k ∧ k ≠ g) : RAt w' B g s := by
  cases row with
  | none => exact h.ext (⟨hx.os, hx.tape, hx.output, hx.size, fun k hk => World.grownBy.block hx k hk (by simp)⟩ : Below _ _ _)
  | some g' => exact h.chg hx (fun k hB e => (hk g' rfl).1 (e ▸ hB)) (fun e => (hk g' rfl).2 e.symm)
theorem RAt.mono {w : World} {B B' : Nat → Prop} {g : Nat} {s : RS} (h : RAt w B g s) (hB : ∀ k, B k → B' k) : RAt w B' g s := by
  obtain ⟨bs, e, ⟨v, hb, hr, hf⟩, hs⟩ := h
  exact ⟨bs, e, ⟨v, hb, hr, fun k hk => ⟨(hf k hk).1, hB k (hf k hk).2⟩⟩, hs⟩

theorem lenR_le (s : RS) : (∃ e, (lenR s).2 = .error e) ∨ ∃ bs, (lenR s).2 = .ok bs ∧ (lenR s).1 ≤ bs.length := by
  unfold lenR
  rcases hu : uintR s with ⟨n, s1⟩
  cases s1 with
  | error e => exact .inl ⟨e, rfl⟩
  | ok bs =>
    simp only
    split
    · exact .inl ⟨_, rfl⟩
    · rename_i h
      exact .inr ⟨bs, rfl, by show n.toNat ≤ _; omega⟩

/-- list's beginning: the length, and what it does to the state -/
theorem lenR_ok {s : RS} {n : Int} {bs : List UInt8} (h : uintR s = (n, .ok bs)) : lenR s = if (bs.length : Int) < n then (n.toNat, .error 3) else (n.toNat, .ok bs) := by
  unfold lenR; rw [h]
theorem lenR_err {s : RS} {n : Int} {e : Int} (h : uintR s = (n, .error e)) : lenR s = (n.toNat, .error e) := by
  unfold lenR; rw [h]

theorem Chg.below {g : Nat} {a b c : World} (h : Chg g a b) (k : Below a.heap.size b c) : Chg g a c :=
  ⟨k.os.trans h.os, k.tape.trans h.tape, k.output.trans h.output, Nat.le_trans h.size k.size, fun i hi hne => (k.block i hi).trans (World.grownBy.block h i hi hne)⟩
/-- a slice appended to: a Reader and all below survive -/
theorem app_below {w w2 w3 : World} {x : Obj} {v : Value} {e : TypeId} {xs : List Value} (hs : w.heap.size ≤ w2.heap.size) (ho : Own w2 w.heap.size e v xs) (hg : (w2.alloc x).grownBy w3 v.ownBlock) : Below w.heap.size w2 w3 :=
  Below.grown (Below.alloc (Below.refl _ _) hs x) hg (by simp; omega) (fun k e => (ho.lt k e).1)

set_option maxHeartbeats 2000000 in
theorem listb_any (B : Nat → Prop) (g : Nat) (s0 : RS) (w : World) (h : RAt w B g s0) (hB : ∀ k, B k → k < w.heap.size) (hl : ∀ bs, (lenR s0).2 = .ok bs → bs.length ≤ 1000000000) :
    Calls Try.prog 63 #[.pointer (some ⟨g, 0, none⟩), .func (.func 64) #[.pointer (some ⟨g, 0, none⟩)] #[]] w fun e' w' => ∃ v, e' = .returned v ∧ Own w' w.heap.size 5 v (vbs (rawR s0).1) ∧ RAt w' B g (rawR s0).2 ∧ Chg g w w' := by
  obtain ⟨i0, hi, hz0, hz1, hz2⟩ := info_parts info_u8
  have hgl := h.lt
  go_enter Try.func63, Try.ntmps63
  go_wp2_with fail
  refine (ruint_any B g s0 _ h).mono ?_
  rintro e1 w1 ⟨rfl, h1, hx1⟩
  have hrange := uintR_range s0
  obtain ⟨n, s1, hu⟩ : ∃ n s1, uintR s0 = (n, s1) := ⟨_, _, rfl⟩
  rw [hu] at h1 hrange ⊢
  simp only at h1 hrange ⊢
  obtain ⟨hn0, hn1⟩ := hrange
  have stage : ∃ bs1 e1, RRaw w1 B g bs1 e1 ∧ (((bs1.length : Int) < n ∧ ∃ e2, (if e1 = 0 then 3 else e1) = e2 ∧ e2 ≠ 0 ∧ lenR s0 = (n.toNat, .error e2)) ∨ (¬ ((bs1.length : Int) < n) ∧ ∃ s2, RIs s2 bs1 e1 ∧ lenR s0 = (n.toNat, s2) ∧ ((∃ e, s2 = .error e) ∨ n ≤ 1000000000))) := by
    obtain ⟨bs1, e1, hraw, his⟩ := h1
    refine ⟨bs1, e1, hraw, ?_⟩
    cases s1 with
    | error x =>
      obtain ⟨rfl, hx⟩ := his
      have hle := lenR_err hu
      by_cases hc : (bs1.length : Int) < n
      · exact .inl ⟨hc, _, rfl, by rw [if_neg hx]; exact hx, by rw [if_neg hx]; exact hle⟩
      · exact .inr ⟨hc, .error x, ⟨rfl, hx⟩, hle, .inl ⟨_, rfl⟩⟩
    | ok l =>
      obtain ⟨rfl, rfl⟩ := his
      have hle := lenR_ok hu
      by_cases hc : (l.length : Int) < n
      · rw [if_pos hc] at hle
        exact .inl ⟨hc, _, rfl, by decide, hle⟩
      · rw [if_neg hc] at hle
        have := hl l (by rw [hle])
        exact .inr ⟨hc, .ok l, ⟨rfl, rfl⟩, hle, .inr (by omega)⟩
  clear h1 hl
  obtain ⟨bs1, e1, hraw, hst⟩ := stage
  obtain ⟨v, hb, -⟩ := id hraw
  have c0 := hb.cell 0
  simp only [List.getElem?_cons_zero] at c0
  have hlen : ∃ A c, v = .slice A bs1.length c ∧ bs1.length ≤ 9223372036854775807 := by
    obtain ⟨v', hb', hr', -⟩ := hraw
    have : v = v' := by
      unfold Blk at hb hb'
      rw [hb] at hb'
      simpa using hb'
    subst this
    obtain ⟨A, c, rfl, hl1, hl2, -⟩ := hr'
    rw [vbs_len] at hl1
    exact ⟨A, c, by rw [vbs_len], by simp only [maxLen] at hl2; omega⟩
  obtain ⟨A, c, rfl, hbl⟩ := hlen
  clear hb
  have HU := Lib.hid hu
  clear hu
  rcases hst with ⟨hd, e2, he2, hne2, hle⟩ | ⟨hd, s2, hs2, hle, hbd⟩
  go_wp2_with fail
  refine (rfail_any B g bs1 e1 3 _ hraw).mono ?_
  rintro e3 w2 ⟨rfl, hraw2, hx2⟩
  rw [he2] at hraw2
  have hs2 := hraw2.errAt hne2
  have HN : Hid (bytesR (n.toNat - 0) [] (.error e2) = rawR s0) := Lib.hid (by unfold rawR; rw [hle]; rfl)
  have HB : Hid ((∃ e, (Except.error e2 : RS) = .error e) ∨ n ≤ 1000000000) := Lib.hid (.inl ⟨_, rfl⟩)
  have hxq := hx1.trans hx2
  clear hle hd he2 hne2 hraw2 hraw hx1 hx2 c0
  generalize (Except.error e2 : RS) = s2 at *
  generalize w2 = wq at *
  go_wp2_with fail
  rotate_left
  have hs2' : RAt w1 B g s2 := ⟨bs1, e1, hraw, hs2⟩
  have HN : Hid (bytesR (n.toNat - 0) [] s2 = rawR s0) := Lib.hid (by unfold rawR; rw [hle]; rfl)
  have HB : Hid ((∃ e, s2 = .error e) ∨ n ≤ 1000000000) := Lib.hid hbd
  clear hle hs2 hraw hbd
  go_wp2_with fail
  have hs2 := hs2'
  have hxq := hx1
  clear c0 hd hs2' hx1
  generalize w1 = wq at *
  all_goals
    go_loopw [7, 6] (fun i out wr => ∃ (k : Nat) (l : List UInt8) (s : RS), i = .int .u64 k ∧ (k : Int) ≤ n ∧ l.length = k ∧ Own wr w.heap.size 5 out (vbs l) ∧ RAt wr B g s ∧ Chg g w wr ∧ Hid (bytesR (n.toNat - k) l s = rawR s0) ∧ Hid ((∃ e, s = .error e) ∨ n ≤ 1000000000)) (fun i _ _ => n.toNat - (intOf i).toNat)
    case atStart => exact ⟨0, [], s2, rfl, hn0, rfl, Own.nil _ _ _, hs2, hxq, HN, HB⟩
    case round =>
      obtain ⟨k, l, s, rfl, hkn, hlk, ho, hs, hx, hD, hE⟩ := hrel
      cases s with
      | error e =>
        obtain ⟨he, bs, hraw⟩ := hs.err
        have c1 := hraw.cell1
        have he' : (e == 0) = false := by simpa using he
        have he'' : (e != 0) = true := by simpa using he
        have HR : Hid (rawR s0 = ([], .error e)) := Lib.hid (by rw [← hD.out]; cases n.toNat - k <;> rfl)
        clear hD hE
        by_cases hlt : (k : Int) < n
        · go_wp2
          go_ret
          rw [HR.out]
          exact ⟨_, rfl, Own.nil _ _ _, hs, hx⟩
        · go_wp2
          go_ret
          rw [HR.out]
          exact ⟨_, rfl, Own.nil _ _ _, hs, hx⟩
      | ok bs =>
        have c1 := hs.ok.cell1
        have hn9 : n ≤ 1000000000 := by
          rcases hE.out with ⟨e, he⟩ | h
          · cases he
          · exact h
        clear hE
        by_cases hlt : (k : Int) < n
        · have hNk : n.toNat - k = (n.toNat - (k + 1)) + 1 := by omega
          rw [hNk] at hD
          clear hNk
          go_wp2_with fail
          refine (rnext_any B g _ _ hs).mono ?_
          rintro e4 w2 ⟨rfl, hs3, hx3⟩
          have ho2 := ho.chg hx3 (fun e => by have := (ho.lt g e).1; omega)
          have hx' := hx.trans hx3
          have hsz := hx'.size
          have HD : Hid (bytesR (n.toNat - (k + 1)) (l ++ [(nextR (.ok bs)).1]) (nextR (.ok bs)).2 = rawR s0) := Lib.hid (by rw [← hD.out]; rfl)
          clear hD c1
          obtain ⟨c, hc⟩ : ∃ c, c = (nextR (.ok bs)).1 := ⟨_, rfl⟩
          obtain ⟨s3, hs3e⟩ : ∃ s3, s3 = (nextR (.ok bs)).2 := ⟨_, rfl⟩
          rw [← hc, ← hs3e] at HD
          rw [← hs3e] at hs3
          rw [← hc]
          clear hc hs3e hs ho
          have hl2 : (vbs l).length = k := by rw [vbs_len, hlk]
          go_wp2_with (at_builtin; refine wpList_app _ rfl (.tmp 32) (.tmp 35) _ rfl w.heap.size 5 i0 _ 1 Try.underlying22 hi hz0 hz1 hz2 rfl (by omega) _ _ rfl (ho2.ext ((Ext.refl _).alloc _)) (some ⟨w2.heap.size, 0, none⟩) 1 1 [.int .u8 c.toNat] rfl (Src.one _ _ _) ?_ ?_ ?_ ?_; (simp [Value.oneCell']); (rw [hl2]; omega); (simp; omega); intro v1 w3 ho3 hg3 _)
          have hbw := app_below hsz ho2 hg3
          go_roundw
          case rel => exact ⟨k + 1, l ++ [c], s3, by go_num, by omega, by simp; omega, by rw [vbs_app]; exact ho3, hs3.below hbw hB hgl, hx'.below hbw, HD, Lib.hid (.inr hn9)⟩
          case measure => simp [intOf]; omega
        · have hNk : n.toNat - k = 0 := by omega
          rw [hNk] at hD
          have HR : Hid (rawR s0 = (l, .ok bs)) := Lib.hid (by rw [← hD.out]; rfl)
          clear hD hNk
          go_wp2
          go_ret
          rw [HR.out]
          exact ⟨_, rfl, ho, hs, hx⟩


set_option maxHeartbeats 1000000 in
theorem rraw_any (B : Nat → Prop) (g : Nat) (s : RS) (w : World) (h : RAt w B g s) (hB : ∀ k, B k → k < w.heap.size) (hl : ∀ bs, (lenR s).2 = .ok bs → bs.length ≤ 1000000000) :
    Calls Try.prog 46 #[.pointer (some ⟨g, 0, none⟩)] w fun e' w' => ∃ v, e' = .returned v ∧ Own w' w.heap.size 5 v (vbs (rawR s).1) ∧ RAt w' B g (rawR s).2 ∧ Chg g w w' := by
  go_enter Try.func46, Try.ntmps46
  go_wp2_with fail
  refine (listb_any B g s _ h hB hl).mono ?_
  rintro e1 w1 ⟨v, rfl, h1, h2, h3⟩
  go_wp2
  go_ret
  exact ⟨v, rfl, h1, h2, h3⟩


end Go.Proofs.Ytjgpdimhgcacgaa
