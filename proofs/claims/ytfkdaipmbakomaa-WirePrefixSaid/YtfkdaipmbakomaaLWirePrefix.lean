/- WirePrefix: the walk of the law. -/
import Derived.Test.YtfkdaipmbakomaaWl
import Derived.Test.YtfkdaipmbakomaaWg4
import Derived.Test.YtfkdaipmbakomaaWh1
namespace Go.Proofs.Ytfkdaipmbakomaa
open Go.RowKit
set_option linter.unusedVariables false

/-- the reader of the prefix, behind some values -/
def PInv (bs : List UInt8) (s : RS) : Prop := (∃ p q, s = .ok p ∧ bs = p ++ q ∧ q ≠ []) ∨ s = .error 3
theorem PInv.step {v : WV} {rest : List UInt8} {s : RS} (hv : v.ok) (h : PInv (encV v ++ rest) s) : PInv rest (readV v.k s).2 := by
  have hk : v.k ≤ 5 := by
    rcases hv with ⟨n, rfl, _⟩ | ⟨n, rfl, _⟩ | ⟨t, rfl⟩ | ⟨bs, rfl, _⟩ | ⟨bs, rfl, _⟩ | ⟨xs, rfl, _⟩ <;> first | (show (0 : Nat) ≤ 5; omega) | (show (1 : Nat) ≤ 5; omega) | (show (2 : Nat) ≤ 5; omega) | (show (3 : Nat) ≤ 5; omega) | (show (4 : Nat) ≤ 5; omega) | (show (5 : Nat) ≤ 5; omega)
  rcases h with ⟨p, q, rfl, h, hq⟩ | rfl
  · rcases app_split h hq with ⟨c, h1, h2⟩ | ⟨c, rfl, h2⟩
    · exact .inr (readV_prefix v p c hv h1 h2)
    · rw [readV_enc v c hv]
      exact .inl ⟨c, q, rfl, h2, hq⟩
  · rw [readV_err v.k hk]; exact .inr rfl
theorem PInv.len {bs : List UInt8} {s : RS} (h : PInv bs s) : ∀ p, s = .ok p → p.length ≤ bs.length := by
  rintro p rfl
  rcases h with ⟨p', q, h1, h2, -⟩ | h
  · cases h1; rw [h2]; simp
  · cases h
theorem WV.ok.k5 {v : WV} (hv : v.ok) : v.k ≤ 5 := by
  rcases hv with ⟨n, rfl, _⟩ | ⟨n, rfl, _⟩ | ⟨t, rfl⟩ | ⟨bs, rfl, _⟩ | ⟨bs, rfl, _⟩ | ⟨xs, rfl, _⟩ <;> first | (show (0 : Nat) ≤ 5; omega) | (show (1 : Nat) ≤ 5; omega) | (show (2 : Nat) ≤ 5; omega) | (show (3 : Nat) ≤ 5; omega) | (show (4 : Nat) ≤ 5; omega) | (show (5 : Nat) ≤ 5; omega)

theorem below_chg {b g : Nat} {w a c : World} (h : Below b w a) (k : Chg g a c) (hb : b ≤ a.heap.size) (hg : b ≤ g) : Below b w c := Below.grown h k hb (fun k e => by cases e; exact hg)
set_option maxRecDepth 100000 in
set_option maxHeartbeats 4000000 in
theorem WirePrefix_law (w : World) (v0 : Value) (z0 : List Int) (h0 : Rd w v0 (vis z0)) (hz0 : ∀ n ∈ z0, inI64 n) (cut : Int) (hcut : inI64 cut) (c : Int) (hc : 0 ≤ c ∧ c ≤ 255) :
    Calls Try.prog 9 #[v0, .int .i64 cut, .int .u8 c] w fun e w' => e = .returned (.bool true) ∧ Ext w w' := by
  obtain ⟨i0, hi, hzz0, hz1, hz2⟩ := info_parts info_u8
  go_enter Try.func9, Try.ntmps9
  go_wp2_with fail
  refine (vals_any v0 z0 _ h0 hz0).mono ?_
  rintro e w1 ⟨v1, xs, rfl, ho1, hx8, hsm, hx1⟩
  have hr1 := ho1.rd
  have hbl := smalls_len xs hsm
  have hok : ∀ x ∈ xs, x.ok := fun x hx => (hsm x hx).1
  clear h0 hz0
  go_wp2_with fail
  refine (encode_any v1 xs _ hr1 hok (by omega)).mono ?_
  rintro e w2 ⟨v2, rfl, ho2, hx2⟩
  have hr2 := ho2.rd
  have hrv := hr1.ext hx2
  have hxw := hx1.trans hx2
  obtain ⟨bs, hbs⟩ : ∃ bs, bs = encVs xs := ⟨_, rfl⟩
  rw [← hbs] at hr2 ho2 hbl
  have HBS := Lib.hid hbs
  clear hbs hr1 ho1
  obtain ⟨A2, m2, hv2, hm2a, hm2b, hA2⟩ : ∃ A c, v2 = .slice A bs.length c ∧ bs.length ≤ c ∧ c ≤ 9223372036854775807 ∧ (0 < bs.length → ∃ g, A = some ⟨g, 0, none⟩) := by
    obtain ⟨A, cap, hv, hg⟩ := ho2.form'
    obtain ⟨A', c', hv', q1, q2, -⟩ := ho2.rd
    rw [hv] at hv'
    injection hv' with e1 e2 e3
    rw [vbs_len] at *
    simp only [maxLen] at q2
    exact ⟨A, cap, hv, by omega, by omega, hg⟩
  subst hv2
  rcases Nat.eq_zero_or_pos bs.length with hz | hz
  · have hbz : bs = [] := List.eq_nil_of_length_eq_zero hz
    subst hbz
    simp only [List.length_nil] at *
    go_wp2_with fail
    refine (read_any (.slice none 0 0) [] _ (Rd.nil _) (by simp)).mono ?_
    rintro e w3 ⟨g, rfl, hg1, hg2, h3, hx3⟩
    go_wp2_with fail
    refine (rend_any _ g _ _ h3).mono ?_
    rintro e w4 ⟨rfl, rfl⟩
    go_wp2_with fail
    refine (lives02_any _).mono ?_
    rintro e w4 ⟨rfl, hx4⟩
    go_wp2
    go_ret
    exact ⟨rfl, (hxw.trans hx3).trans hx4⟩
  · obtain ⟨g2, rfl⟩ := hA2 hz
    have hne : bs ≠ [] := by rintro rfl; simp at hz
    have hlz : ((bs.length : Int) == 0) = false := by simp; omega
    have har := around_range cut bs.length (by omega)
    have HNE := Lib.hid hne
    clear hA2 hne
    go_wp2_with fail
    refine (around_any cut bs.length _ hcut (by omega) (by omega)).mono ?_
    rintro e w3 ⟨rfl, rfl⟩
    obtain ⟨m, hm⟩ : ∃ m : Nat, around cut bs.length = (m : Int) := ⟨(around cut bs.length).toNat, by omega⟩
    rw [hm] at har ⊢
    clear hm
    have hml : m < bs.length := by omega
    have hrt : Rd w2 (.slice (some ⟨g2, 0, none⟩) m m2) (vbs (bs.take m)) := by rw [← vbs_take]; exact hr2.takeAt m (by omega)
    go_wp2_with fail
    refine (read_any _ (bs.take m) _ hrt (by simp; omega)).mono ?_
    rintro e w3 ⟨g, rfl, hg1, hg2, h3, hx3⟩
    have hr3 := hr2.ext hx3
    clear hrt
    go_wp2_with fail
    refine (few_any _ bs bs.length _ hr3 (by omega)).mono ?_
    rintro e w4 ⟨v4, rfl, ho4, hx4⟩
    rw [List.take_of_length_le (Nat.le_refl _)] at ho4
    have HC := Lib.hid (ubyte_lo c hc.1 (by omega))
    have hsz4 := hx4.size
    go_wp2_with (at_builtin; refine wpList_app _ rfl (.tmp 42) (.tmp 44) _ rfl w3.heap.size 5 i0 _ 1 Try.underlying24 hi hzz0 hz1 hz2 rfl (by omega) _ _ rfl (ho4.ext ((Ext.refl _).alloc _)) (some ⟨w4.heap.size, 0, none⟩) 1 1 [.int .u8 c] rfl (Src.one _ _ _) ?_ ?_ ?_ ?_; (simp [Value.oneCell']); (simp [vbs_len]; omega); (simp; omega); intro v5 w5 ho5 hg5 _)
    have hx5 : Ext w3 w5 := Ext.app hx4 (Ext.refl w3) ho4 hg5
    have hr5 : Rd w5 v5 (vbs (bs ++ [UInt8.ofNat c.toNat])) := by
      rw [HC.out] at ho5
      rw [vbs_app]; exact ho5.rd
    have h5 := h3.ext hx5
    have hxa : Ext w2 w5 := hx3.trans hx5
    generalize UInt8.ofNat c.toNat = cc at *
    clear ho5 hg5 ho4 hr3 hx4 h3 hr2 HC
    go_wp2_with fail
    refine (read_any _ (bs ++ [cc]) _ hr5 (by simp; omega)).mono ?_
    rintro e w6 ⟨g', rfl, hg1', hg2', h6, hx6⟩
    have h7 := h5.ext hx6
    have hx26 := hxa.trans hx6
    have hs3 := hx3.size
    have hs5 := hx5.size
    have hs6 := hx6.size
    obtain ⟨A, cx, rfl, hcx1, hcx2, hf⟩ := hrv.form
    simp only [maxLen] at hcx2
    clear h5 hr5
    have hP0 : Hid (PInv (encVs (xs.drop 0)) (.ok (bs.take m))) := Lib.hid (.inl ⟨bs.take m, bs.drop m, rfl, by rw [List.drop_zero, List.take_append_drop]; exact HBS.out.symm, by
      intro he
      have := congrArg List.length he
      simp at this; omega⟩)
    go_wp2_with fail
    go_loopw [12] (fun i wr => ∃ k : Nat, ∃ s : RS, k ≤ xs.length ∧ i = .int .i64 k ∧ RAt wr (fun k => w2.heap.size ≤ k ∧ k < g) g s ∧ RAt wr (fun k => w5.heap.size ≤ k ∧ k < g') g' (.ok (encVs (xs.drop k) ++ [cc])) ∧ Below w2.heap.size w6 wr ∧ Hid (PInv (encVs (xs.drop k)) s)) (fun i _ => xs.length - (intOf i).toNat)
    case atStart => exact ⟨0, _, by omega, rfl, h7, by rw [List.drop_zero, ← HBS.out]; exact h6, Below.refl _ _, hP0⟩
    case round =>
      obtain ⟨k, s, hk, rfl, hra, hrb, hbw, hP⟩ := hrel
      have hx2r : Ext w2 wr := Below.trans hx26 hbw
      have hszr := hx2r.size
      have hgr := hra.lt
      have hgr' := hrb.lt
      have hB1 : ∀ k, w2.heap.size ≤ k ∧ k < g → k < wr.heap.size := fun k hk => by omega
      have hB2 : ∀ k, w5.heap.size ≤ k ∧ k < g' → k < wr.heap.size := fun k hk => by omega
      by_cases hlt : k < xs.length
      · obtain ⟨b, off, rfl⟩ := hf (by omega)
        obtain ⟨vb, vl, c0, -⟩ := hrv.cellsAt k hlt
        have c0w := c0
        have c0 := hx2r.cell c0
        have hdr : xs.drop k = xs[k] :: xs.drop (k + 1) := List.drop_eq_getElem_cons hlt
        have hxk := hok xs[k] (by simp)
        have hk5 := hxk.k5
        rw [hdr, encVs_cons] at hP hrb
        rw [List.append_assoc] at hrb
        have hla : ∀ p, s = .ok p → p.length ≤ 1000000000 := fun p hp => by
          have h1 := hP.out.len p hp
          have h2 := smalls_len (xs.drop k) (fun x hx => hsm x (List.mem_of_mem_drop hx))
          rw [hdr, encVs_cons] at h2
          have h3 : (xs[k] :: xs.drop (k + 1)).length ≤ 8 := by rw [← hdr]; simp; omega
          omega
        have hlb : (encV xs[k] ++ (encVs (xs.drop (k + 1)) ++ [cc])).length ≤ 1000000000 := by
          have h2 := smalls_len (xs.drop k) (fun x hx => hsm x (List.mem_of_mem_drop hx))
          rw [hdr, encVs_cons] at h2
          have h3 : (xs[k] :: xs.drop (k + 1)).length ≤ 8 := by rw [← hdr]; simp; omega
          simp at h2 ⊢; omega
        have HK := Lib.hid hxk
        have HSM := Lib.hid hsm
        have HOK := Lib.hid hok
        have HL := Lib.hid hla
        have hkn : decide ((k : Int) < (xs.length : Int)) = true := by simp; omega
        generalize xs[k] = x at *
        clear hdr hxk hla hsm hok hf
        go_wp2_with fail
        refine (lread_any _ g s x.k hk5 _ hra hB1 HL.out).mono ?_
        rintro e w7 ⟨⟨vb1, vl1, rfl, -⟩, hra1, hch1⟩
        have hrb1 := hrb.chg hch1 (fun k hk => by omega) (by omega)
        have hs7 := hch1.size
        have hx7 : Ext w2 w7 := Chg.ext hx2r hch1 (by omega)
        have HD := Lib.hid (hP.out.step HK.out)
        have c0 := hx7.cell c0w
        go_wp2_with fail
        refine (lread_any _ g' _ x.k hk5 _ hrb1 (fun k hk => by omega) (fun p hp => by cases hp; exact hlb)).mono ?_
        rintro e w8 ⟨⟨vb2, vl2, rfl, -⟩, hrb2, hch2⟩
        rw [readV_enc x _ HK.out] at hrb2
        have hra2 := hra1.chg hch2 (fun k hk => by omega) (by omega)
        have hbw2 : Below w2.heap.size w6 w8 := below_chg (below_chg hbw hch1 (by omega) (by omega)) hch2 (by omega) (by omega)
        clear hrb1 hra1 hra hrb hch1 hch2 c0 c0w
        go_wp2
        go_roundw
        case rel => exact ⟨k + 1, _, by omega, by go_num, hra2, hrb2, hbw2, HD⟩
        case measure => simp [intOf]; omega
      · have hke : k = xs.length := by omega
        have hP3 : s = .error 3 := by
          have := hP.out
          rw [hke, List.drop_length] at this
          rcases this with ⟨p, q, -, h2, h3⟩ | h
          · have h4 : p ++ q = [] := h2.symm
            simp at h4
            exact absurd h4.2 h3
          · exact h
        subst hP3
        rw [hke, List.drop_length, show encVs [] ++ [cc] = [cc] from rfl] at hrb
        have h6c := around_range cut 6 (by omega)
        clear hP hf hok
        go_wp2_with fail
        refine (rend_any _ g _ _ hra).mono ?_
        rintro e w7 ⟨rfl, rfl⟩
        rw [show endR (.error 3) = 3 from rfl]
        go_wp2_with fail
        refine (rend_any _ g' _ _ hrb).mono ?_
        rintro e w7 ⟨rfl, rfl⟩
        rw [show endR (.ok [cc]) = 2 from rfl]
        go_wp2_with fail
        refine (around_any cut 6 _ hcut (by omega) (by omega)).mono ?_
        rintro e w7 ⟨rfl, rfl⟩
        obtain ⟨kn, hkn⟩ : ∃ kn : Nat, around cut 6 = (kn : Int) := ⟨(around cut 6).toNat, by omega⟩
        rw [hkn] at h6c ⊢
        have hk5 : kn ≤ 5 := by omega
        have HE := readV_err kn hk5 3
        clear hkn
        go_wp2_with fail
        refine (lread_any _ g _ kn hk5 _ hra hB1 (fun p hp => by cases hp)).mono ?_
        rintro e w7 ⟨⟨vb1, vl1, rfl, hb1, -, hl1, -⟩, hra1, hch1⟩
        rw [HE] at hb1 hl1 hra1 ⊢
        have hx7 : Ext w2 w7 := Chg.ext hx2r hch1 (by omega)
        obtain ⟨Ab, mb, cb, hvb⟩ : ∃ A m c, vb1 = .slice A m c := by obtain ⟨A, c, hv, -⟩ := hb1; exact ⟨_, _, _, hv⟩
        obtain ⟨Al, ml, cl, hvl⟩ : ∃ A m c, vl1 = .slice A m c := by obtain ⟨A, c, hv, -⟩ := hl1; exact ⟨_, _, _, hv⟩
        subst hvb hvl
        clear HE hra hrb
        go_wp2_with fail
        refine (same2_any (zeroV kn) (zeroV kn) (.slice Ab mb cb) (.slice Al ml cl) (.slice none 0 0) (.slice none 0 0) _ (hb1.ext ((Ext.refl _).alloc _)) (hl1.ext ((Ext.refl _).alloc _)) (Rd.nil _) (Rd.nil _)).mono ?_
        rintro e w8 ⟨rfl, hx8'⟩
        rw [sameV_self]
        have hra2 := hra1.ext (((Ext.refl _).alloc _).trans hx8')
        go_wp2_with fail
        refine (rend_any _ g _ _ hra2).mono ?_
        rintro e w9 ⟨rfl, rfl⟩
        rw [show endR (.error 3) = 3 from rfl]
        go_wp2_with fail
        refine (lives02_any _).mono ?_
        rintro e w9 ⟨rfl, hx9⟩
        go_wp2
        go_ret
        exact ⟨rfl, ((hxw.trans hx7).trans (((Ext.refl _).alloc _).trans hx8')).trans hx9⟩
end Go.Proofs.Ytfkdaipmbakomaa
