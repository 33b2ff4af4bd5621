/- the reference of package wire: its Reader: Raw, Ints. -/
import Derived.Test.YtfkdaipmbakomaaWf2
import Derived.Test.YtfkdaipmbakomaaWd4
import Derived.Test.YtfkdaipmbakomaaWv
namespace Go.Proofs.Ytfkdaipmbakomaa
open Go.RowKit
set_option linter.unusedVariables false

theorem QAt.below {w w' : World} {B : Nat → Prop} {g b : Nat} {s : RS} (h : QAt w B g s) (hx : Below b w w') (hB : ∀ k, B k → k < b) (hg : g < b) : QAt w' B g s := by
  obtain ⟨bs, e, ⟨v, hb, hr, hf⟩, hs⟩ := h
  refine ⟨bs, e, ⟨v, ?_, hr.below hx (fun k hk => hB k (hf k hk).2), hf⟩, hs⟩
  exact (Below.block hx g hg).trans hb

theorem lenR_bound2 (s : RS) (N : Nat) (h : ∀ bs, (uintR s).2 = .ok bs → bs.length ≤ N) : ∀ bs, (lenR s).2 = .ok bs → bs.length ≤ N := by
  intro bs hb
  unfold lenR at hb
  rcases hu : uintR s with ⟨n, s1⟩
  rw [hu] at hb h
  cases s1 with
  | error e => simp at hb
  | ok l =>
    simp only at hb
    split at hb
    · cases hb
    · cases hb; exact h _ rfl
theorem bytesR_ok : ∀ (n : Nat) (out bs : List UInt8), n ≤ bs.length → bytesR n out (.ok bs) = (out ++ bs.take n, .ok (bs.drop n))
  | 0, out, bs, _ => by simp [bytesR]
  | n + 1, out, [], h => by simp at h
  | n + 1, out, c :: r, h => by
    show bytesR n (out ++ [c]) (.ok r) = _
    rw [bytesR_ok n _ r (by simpa using h)]; simp

set_option maxHeartbeats 2000000 in
theorem qraw_any (B : Nat → Prop) (g : Nat) (s : RS) (w : World) (h : QAt w B g s) (hl : ∀ bs, (uintR s).2 = .ok bs → bs.length ≤ 1000000000) :
    Calls Try.prog 53 #[.pointer (some ⟨g, 0, none⟩)] w fun e' w' => ∃ v, e' = .returned v ∧ Rd w' v (vbs (rawR s).1) ∧ (∀ k, v.ownBlock = some k → B k) ∧ QAt w' B g (rawR s).2 ∧ Chg g w w' := by
  go_enter Try.func53, Try.ntmps53
  go_wp2_with fail
  refine (qlength_any B g s _ h hl).mono ?_
  rintro e1 w1 ⟨rfl, h1, hx1⟩
  rcases lenR_le s with ⟨e, he⟩ | ⟨bs, hb, hle⟩
  · have HR : Hid (rawR s = ([], .error e)) := Lib.hid (by unfold rawR; rw [he, bytesR_err])
    rw [lenV_err he]
    rw [he] at h1
    obtain ⟨hne, bs, hraw⟩ := h1.err
    have c1 := hraw.cell1
    have he' : (e == 0) = false := by simpa using hne
    have he2 : (e != 0) = true := by simpa using hne
    go_wp2
    go_ret
    rw [HR.out]
    exact ⟨_, rfl, Rd.nil _, fun k hk => by simp [Value.ownBlock] at hk, h1, hx1⟩
  · rcases hlen : lenR s with ⟨n, s1⟩
    rw [hlen] at hb hle h1
    simp only at hb hle h1
    subst hb
    have HR : Hid (rawR s = (bs.take n, .ok (bs.drop n))) := Lib.hid (by unfold rawR; rw [hlen, bytesR_ok n [] bs hle]; simp)
    rw [lenV_ok]
    clear hlen hl
    have hraw := h1.ok
    obtain ⟨v, hb, hr, hf⟩ := h1.ok
    have c0 := hb.cell 0
    have c1 := hb.cell 1
    have f0 := hb.frozen 0
    simp only [List.getElem?_cons_succ, List.getElem?_cons_zero] at c0 c1
    have hr0 := hr
    obtain ⟨A, c, rfl, -⟩ := hr
    obtain ⟨-, a1, a2, a3⟩ := hr0.at
    simp only [vbs_len, maxLen] at *
    have HT := Lib.hid (show Rd w1 (.slice A n c) (vbs (bs.take n)) by rw [← vbs_take]; exact hr0.takeAt n hle)
    have hcase : bs = [] ∨ ∃ bb off, A = some ⟨bb, off, none⟩ := by
      rcases Nat.eq_zero_or_pos bs.length with h | h
      · exact .inl (List.eq_nil_of_length_eq_zero h)
      · obtain ⟨b, o, h3, -⟩ := a3 h
        exact .inr ⟨b, o, h3⟩
    clear a3
    rcases hcase with rfl | ⟨bb, off, rfl⟩
    · have hn0 : n = 0 := by simpa using hle
      subst hn0
      simp only [List.take_nil, List.drop_nil, List.length_nil] at *
      rcases A with _ | ad
      · go_wp2
        go_ret
        rw [HR.out]
        exact ⟨_, rfl, HT.out.chg (Chg.set g 0 w1 _) hf.ne, (fun k hk => (hf k hk).2), (QRaw.store hb hr0 hf).okAt, hx1.trans (Chg.set g 0 w1 _)⟩
      · go_wp2
        go_ret
        rw [HR.out]
        exact ⟨_, rfl, HT.out.chg (Chg.set g 0 w1 _) hf.ne, (fun k hk => (hf k hk).2), (QRaw.store hb hr0 hf).okAt, hx1.trans (Chg.set g 0 w1 _)⟩
    · have hr2 : ∀ o' n' c' : Nat, (o' = off + n ∨ n' = 0) → n' = bs.length - n → n' ≤ c' → c' ≤ c → Rd w1 (.slice (some ⟨bb, o', none⟩) n' c') (vbs (bs.drop n)) := fun o' n' c' q1 q2 q3 q4 => by
        rw [← vbs_drop]; exact Rd.dropAt hr0 n (by omega) q1 q2 q3 q4
      have HR2 := Lib.hid hr2
      clear hr2 hr0
      rcases Nat.lt_or_ge n c with hcap | hcap
      · go_wp2
        go_ret
        rw [HR.out]
        refine ⟨_, rfl, HT.out.chg (Chg.set g 0 w1 _) hf.ne, (fun k hk => (hf k hk).2), (QRaw.store hb (HR2.out _ _ _ (.inl rfl) rfl (by omega) (by omega)) hf).okAt, hx1.trans (Chg.set g 0 w1 _)⟩
      · have hce : c = n := by omega
        subst hce
        go_wp2
        go_ret
        rw [HR.out]
        refine ⟨_, rfl, HT.out.chg (Chg.set g 0 w1 _) hf.ne, (fun k hk => (hf k hk).2), (QRaw.store hb (HR2.out _ _ _ (.inr rfl) (by omega) (by omega) (by omega)) hf).okAt, hx1.trans (Chg.set g 0 w1 _)⟩

set_option maxRecDepth 100000 in
set_option maxHeartbeats 2000000 in
theorem qints_any (B : Nat → Prop) (g : Nat) (s0 : RS) (w : World) (h : QAt w B g s0) (hB : ∀ k, B k → k < w.heap.size) (hl : ∀ bs, (uintR s0).2 = .ok bs → bs.length ≤ 1000000000) :
    Calls Try.prog 54 #[.pointer (some ⟨g, 0, none⟩)] w fun e' w' => ∃ v, e' = .returned v ∧ Own w' w.heap.size 3 v (vis (intsR s0).1) ∧ QAt w' B g (intsR s0).2 ∧ Chg g w w' := by
  obtain ⟨i0, hi, hz0, hz1, hz2⟩ := info_parts info_int
  have hgl := h.lt
  go_enter Try.func54, Try.ntmps54
  go_wp2_with fail
  refine (qlength_any B g s0 _ h hl).mono ?_
  rintro e1 w1 ⟨rfl, h1, hx1⟩
  obtain ⟨n, s1, hn9, hle, hlv⟩ : ∃ (n : Nat) (s1 : RS), n ≤ 1000000000 ∧ (lenR s0).2 = s1 ∧ lenV (lenR s0) = n ∧ numsR n [] s1 = intsR s0 := by
    rcases lenR_le s0 with ⟨e, he⟩ | ⟨bs, hb, hle⟩
    · exact ⟨0, .error e, by omega, he, by rw [lenV_err he]; rfl, by unfold intsR; rw [he]; cases (lenR s0).1 <;> rfl⟩
    · have hb2 : bs.length ≤ 1000000000 := lenR_bound2 s0 _ hl bs hb
      refine ⟨(lenR s0).1, .ok bs, by omega, hb, ?_, by unfold intsR; rw [hb]⟩
      rcases hq : lenR s0 with ⟨m, t⟩
      rw [hq] at hb
      simp only at hb
      rw [hb, lenV_ok]
  obtain ⟨hlv, HN0⟩ := hlv
  have HN := Lib.hid HN0
  rw [hle] at h1
  rw [hlv]
  clear hle hlv HN0 hl h
  go_wp2_with fail
  go_loopw [5, 4] (fun i out wr => ∃ (k : Nat) (l : List Int) (s : RS), i = .int .i64 k ∧ k ≤ n ∧ l.length = k ∧ Own wr w.heap.size 3 out (vis l) ∧ QAt wr B g s ∧ Chg g w wr ∧ Hid (numsR (n - k) l s = intsR s0)) (fun i _ _ => n - (intOf i).toNat)
  case atStart => exact ⟨0, [], s1, rfl, by omega, rfl, Own.nil _ _ _, h1, hx1, HN⟩
  case round =>
    obtain ⟨k, l, s, rfl, hkn, hlk, ho, hs, hx, hD⟩ := hrel
    cases s with
    | error e =>
      obtain ⟨he, bs, hraw⟩ := hs.err
      have c1 := hraw.cell1
      have he' : (e == 0) = false := by simpa using he
      have he'' : (e != 0) = true := by simpa using he
      have HR : Hid (intsR s0 = ([], .error e)) := Lib.hid (by rw [← hD.out]; cases n - k <;> rfl)
      clear hD
      by_cases hlt : k < n
      · go_wp2
        go_ret
        rw [HR.out]
        exact ⟨_, rfl, Own.nil _ _ _, hs, hx⟩
      · go_wp2
        go_ret
        rw [HR.out]
        exact ⟨_, rfl, Own.nil _ _ _, hs, hx⟩
    | ok bs =>
      have c1 := hs.ok.cell1
      by_cases hlt : k < n
      · have hNk : n - k = (n - (k + 1)) + 1 := by omega
        rw [hNk] at hD
        clear hNk
        go_wp2_with fail
        refine (qint_any B g _ _ hs).mono ?_
        rintro e4 w2 ⟨rfl, hs3, hx3⟩
        have ho2 := ho.chg hx3 (fun e => by have := (ho.lt g e).1; omega)
        have hx' := hx.trans hx3
        have hsz := hx'.size
        have HD : Hid (numsR (n - (k + 1)) (l ++ [(intR (.ok bs)).1]) (intR (.ok bs)).2 = intsR s0) := Lib.hid (by rw [← hD.out]; rfl)
        clear hD c1
        obtain ⟨c, hc⟩ : ∃ c, c = (intR (.ok bs)).1 := ⟨_, rfl⟩
        obtain ⟨s3, hs3e⟩ : ∃ s3, s3 = (intR (.ok bs)).2 := ⟨_, rfl⟩
        rw [← hc, ← hs3e] at HD
        rw [← hs3e] at hs3
        rw [← hc]
        clear hc hs3e hs ho
        have hl2 : (vis l).length = k := by rw [vis_len, hlk]
        go_wp2_with (at_builtin; refine wpList_app _ rfl (.tmp 20) (.tmp 23) _ rfl w.heap.size 3 i0 _ 8 Try.underlying33 hi hz0 hz1 hz2 rfl (by omega) _ _ rfl (ho2.ext ((Ext.refl _).alloc _)) (some ⟨w2.heap.size, 0, none⟩) 1 1 [.int .i64 c] rfl (Src.one _ _ _) ?_ ?_ ?_ ?_; (simp [Value.oneCell']); (rw [hl2]; omega); (simp; omega); intro v3 w3 ho3 hg3 _)
        have hbw := app_below hsz ho2 hg3
        go_roundw
        case rel => exact ⟨k + 1, l ++ [c], s3, by go_num, by omega, by simp; omega, by rw [vis_app]; exact ho3, hs3.below hbw hB hgl, hx'.below hbw, HD⟩
        case measure => simp [intOf]; omega
      · have hNk : n - k = 0 := by omega
        rw [hNk] at hD
        have HR : Hid (intsR s0 = (l, .ok bs)) := Lib.hid (by rw [← hD.out]; rfl)
        clear hD hNk
        go_wp2
        go_ret
        rw [HR.out]
        exact ⟨_, rfl, ho, hs, hx⟩
end Go.Proofs.Ytfkdaipmbakomaa
