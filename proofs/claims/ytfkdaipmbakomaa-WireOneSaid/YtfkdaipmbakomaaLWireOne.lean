/- WireOne: the walk of the law. -/
import Derived.Test.YtfkdaipmbakomaaWl
import Derived.Test.YtfkdaipmbakomaaWh2
namespace Go.Proofs.Ytfkdaipmbakomaa
open Go.RowKit
set_option linter.unusedVariables false

/-- what was read so far, and what is left -/
def OInv (bs : List UInt8) (got : List WV) (s : RS) : Prop := (∃ rest, s = .ok rest ∧ bs = encVs got ++ rest ∧ ∀ x ∈ got, x.ok) ∨ ∃ e, s = .error e
theorem OInv.len {bs : List UInt8} {got : List WV} {s : RS} (h : OInv bs got s) : ∀ p, s = .ok p → p.length ≤ bs.length := by
  rintro p rfl
  rcases h with ⟨r, h1, h2, -⟩ | ⟨e, h⟩
  · cases h1; rw [h2]; simp
  · cases h
theorem OInv.step {bs : List UInt8} {got : List WV} {s : RS} {k : Nat} (hl : bs.length ≤ 100000) (hk : k ≤ 5) (h : OInv bs got s) : OInv bs (got ++ [(readV k s).1]) (readV k s).2 := by
  have hlen := h.len
  rcases h with ⟨rest, rfl, h2, h3⟩ | ⟨e, rfl⟩
  · have hr := hlen rest rfl
    rcases hv : readV k (.ok rest) with ⟨v, s'⟩
    cases s' with
    | error e => exact .inr ⟨e, rfl⟩
    | ok r' =>
      obtain ⟨q1, q2, q3⟩ := readV_back k hk rest r' v (by omega) hv
      refine .inl ⟨r', rfl, ?_, fun x hx => ?_⟩
      · rw [encVs_app, encVs_one, List.append_assoc, ← q3]; exact h2
      · rcases List.mem_append.1 hx with hx | hx
        · exact h3 x hx
        · simp only [List.mem_singleton] at hx; subst hx; exact q1
  · rw [readV_err k hk]; exact .inr ⟨e, rfl⟩
theorem OInv.done {bs : List UInt8} {got : List WV} (h : OInv bs got (.ok [])) : encVs got = bs ∧ ∀ x ∈ got, x.ok := by
  rcases h with ⟨rest, h1, h2, h3⟩ | ⟨e, h⟩
  · cases h1; simp at h2; exact ⟨h2.symm, h3⟩
  · cases h
set_option maxRecDepth 100000 in
set_option maxHeartbeats 8000000 in
theorem WireOne_law (w : World) (v0 : Value) (b0 : List UInt8) (h0 : Rd w v0 (vbs b0)) (v1 : Value) (z1 : List Int) (h1 : Rd w v1 (vis z1)) (hz1 : ∀ n ∈ z1, inI64 n) (at_ : Int) (hat : inI64 at_) (c : Int) (hc : 0 ≤ c ∧ c ≤ 255) (v4 : Value) (z4 : List Int) (h4 : Rd w v4 (vis z4)) (hz4 : ∀ n ∈ z4, inI64 n) :
    Calls Try.prog 8 #[v0, v1, .int .i64 at_, .int .u8 c, v4] w fun e w' => e = .returned (.bool true) ∧ Ext w w' := by
  have h4' := h4
  obtain ⟨A4, c4, rfl, _⟩ := id h4
  obtain ⟨-, q1, q2, q3⟩ := h4'.at
  simp only [vis_len, maxLen] at *
  go_enter Try.func8, Try.ntmps8
  go_wp2_with fail
  refine (vals_any v1 z1 _ h1 hz1).mono ?_
  rintro e w1 ⟨vv, xs, rfl, ho1, hx8, hsm, hx1⟩
  have hr1 := ho1.rd
  have hbl := smalls_len xs hsm
  have hok : ∀ x ∈ xs, x.ok := fun x hx => (hsm x hx).1
  clear h1 hz1
  go_wp2_with fail
  refine (encode_any vv xs _ hr1 hok (by omega)).mono ?_
  rintro e w2 ⟨v2, rfl, ho2, hx2⟩
  have hrv := hr1.ext hx2
  have hxw := hx1.trans hx2
  have hs2 := hx2.size
  have hol := ho1.lt
  obtain ⟨bs, hbs⟩ : ∃ bs, bs = encVs xs := ⟨_, rfl⟩
  rw [← hbs] at ho2 hbl
  clear hbs
  obtain ⟨A2, m2, hv2, hm2a, hm2b, hA2⟩ : ∃ A c, v2 = .slice A bs.length c ∧ bs.length ≤ c ∧ c ≤ 9223372036854775807 ∧ (0 < bs.length → ∃ g, A = some ⟨g, 0, none⟩) := by
    obtain ⟨A, cap, hv, hg⟩ := ho2.form'
    obtain ⟨A', c', hv', q1, q2, -⟩ := ho2.rd
    rw [hv] at hv'
    injection hv' with e1 e2 e3
    rw [vbs_len] at *
    simp only [maxLen] at q2
    exact ⟨A, cap, hv, by omega, by omega, hg⟩
  subst hv2
  have har := fun (h : 0 < bs.length) => around_range at_ bs.length (by omega)
  obtain ⟨n, hn⟩ : ∃ n, bs.length = n := ⟨_, rfl⟩
  have ho2' : Own w2 w1.heap.size 5 (.slice A2 (vbs bs).length m2) (vbs bs) := by rw [vbs_len]; exact ho2
  rw [hn] at ho2 hm2a hA2 har hbl ⊢
  have HN := Lib.hid hn
  clear hn
  rcases Nat.eq_zero_or_pos n with hz | hz
  have hnz : ¬ ((0 : Int) < (n : Int)) := by omega
  clear hz
  go_wp2_with fail
  have hr3 : Rd w2 (.slice A2 n m2) (vbs bs) := ho2.rd
  have hx3 := hx2
  obtain ⟨W3, rfl⟩ : ∃ W, W = w2 := ⟨_, rfl⟩
  obtain ⟨bs3, rfl⟩ : ∃ b, b = bs := ⟨_, rfl⟩
  clear ho2 ho2' hx2 har hA2 hnz hxw hrv hs2
  rotate_left
  obtain ⟨g2, rfl⟩ := hA2 hz
  have har := har hz
  have hln := HN.out
  obtain ⟨⟨u, hcu⟩, hfu, hset⟩ := Own.fill ho2' (k := (around at_ n).toNat) (by rw [vbs_len]; omega)
  have hset := hset (.int .u8 c)
  have hg2 := (ho2.lt g2 rfl).1
  clear ho2' hA2 hln
  go_wp2_with fail
  refine (around_any at_ n _ hat (by omega) (by omega)).mono ?_
  rintro e w3 ⟨rfl, rfl⟩
  obtain ⟨m, hm⟩ : ∃ m : Nat, around at_ n = (m : Int) := ⟨(around at_ n).toNat, by omega⟩
  rw [hm] at har hcu hfu hset ⊢
  rw [show ((m : Int)).toNat = m by omega] at hcu hfu hset
  clear hm
  have hmn : m < n := by omega
  go_wp2_with fail
  have hx3 : Ext w1 (w2.setCell ⟨g2, m, none⟩ (.int .u8 c)) := hx2.setCell hg2 _
  have hr3 : Rd (w2.setCell ⟨g2, m, none⟩ (.int .u8 c)) (.slice (some ⟨g2, 0, none⟩) n m2) (vbs (bs.set m (UInt8.ofNat c.toNat))) := by
    have := hset.rd
    rw [vbs_len, HN.out, vbs_set bs m c _ (ubyte_lo c hc.1 (by omega))] at this
    exact this
  have HN : Hid ((bs.set m (UInt8.ofNat c.toNat)).length = n) := Lib.hid (by rw [List.length_set]; exact HN.out)
  generalize w2.setCell ⟨g2, m, none⟩ (.int .u8 c) = W3 at *
  generalize bs.set m (UInt8.ofNat c.toNat) = bs3 at *
  generalize (some ⟨g2, 0, none⟩ : Option Addr) = A2 at *
  clear ho2 hx2 har hset hcu hfu hg2 hmn hxw hrv hs2
  all_goals
    have hn3 := HN.out
    have hrv := hr1.ext hx3
    have hs13 := hx3.size
    refine (read_any _ bs3 _ hr3 (by omega)).mono ?_
    rintro e w4 ⟨g, rfl, hg1, hg2, h5, hx4⟩
    have hs34 := hx4.size
    obtain ⟨Ax, cx, hvv, hcx1, hcx2, hf⟩ := hrv.form
    subst hvv
    simp only [maxLen] at hcx2
    go_wp2_with fail
    go_loopw [15, 14] (fun i o wr => ∃ k : Nat, ∃ got : List WV, ∃ s : RS, k ≤ xs.length ∧ i = .int .i64 k ∧ got.length ≤ k ∧ OwnV wr w4.heap.size o got ∧ RAt wr (fun k => W3.heap.size ≤ k ∧ k < g) g s ∧ Below W3.heap.size W3 wr ∧ w4.heap.size ≤ wr.heap.size ∧ Hid (OInv bs3 got s)) (fun i _ _ => xs.length - (intOf i).toNat)
    case atStart => exact ⟨0, [], _, by omega, rfl, by simp, OwnV.nil _ _, h5, hx4, Nat.le_refl _, Lib.hid (.inl ⟨bs3, rfl, rfl, by simp⟩)⟩
    case round =>
      obtain ⟨k, got, s, hk, rfl, hgl, ho, hra, hbw, hsw, hO⟩ := hrel
      have hB1 : ∀ k, W3.heap.size ≤ k ∧ k < g → k < wr.heap.size := fun k hk => by omega
      have hla := hO.out.len
      have HL : Hid (∀ p, s = .ok p → p.length ≤ 1000000000) := Lib.hid (fun p hp => by have := hla p hp; omega)
      clear hla
      by_cases hlt : k < xs.length
      · obtain ⟨b, off, hAx⟩ := hf (by omega)
        subst hAx
        obtain ⟨vb, vl, c0, -⟩ := hrv.cellsAt k hlt
        have c0 := Ext.cell hbw c0
        have hk5 := (hok xs[k] (by simp)).k5
        have HK := Lib.hid hok
        generalize xs[k] = x at *
        clear hok hf
        go_wp2_with fail
        refine (lread_any _ g s x.k hk5 _ hra hB1 HL.out).mono ?_
        rintro e w5 ⟨⟨vb1, vl1, rfl, hb, htb, hl, htl⟩, hra1, hch⟩
        have HO := Lib.hid (hO.out.step (by omega) hk5)
        have ho5 := ho.chgR hra hch hg2
        have hs5 := hch.size
        have hbw5 : Below W3.heap.size W3 w5 := below_chg hbw hch (by omega) hg1
        generalize (readV x.k s).1 = y at *
        generalize (readV x.k s).2 = s1 at *
        obtain ⟨Ab, mb, cb, hvb⟩ : ∃ A m c, vb1 = .slice A m c := by obtain ⟨A, c, hv, -⟩ := hb; exact ⟨_, _, _, hv⟩
        obtain ⟨Al, ml, cl, hvl⟩ : ∃ A m c, vl1 = .slice A m c := by obtain ⟨A, c, hv, -⟩ := hl; exact ⟨_, _, _, hv⟩
        subst hvb hvl
        have HF := Lib.hid (vfld_mk y _ _ hb htb hl htl)
        clear hb htb hl htl hra ho c0
        go_wp2_with (at_builtin; refine wpList_appV _ rfl (.tmp 42) (.tmp 50) rfl w4.heap.size _ got rfl (ho5.ext ((Ext.refl _).alloc _)) ⟨w5.heap.size, 0, none⟩ 1 1 [y] [[.int .i64 y.k, .int .u64 y.u, .int .i64 y.n, .slice Ab mb cb, .slice Al ml cl]] rfl rfl (VFlds.one (HF.out.keep (KeepUI.of_ext ((Ext.refl _).alloc _)))) (news_new _ _ rfl _ _) (by omega) (by simp; omega) ?_; intro o6 w6 ho6 hg6 hk6)
        have hb6 := appV_below (by omega) ho5 hg6
        have hs6 := hb6.size
        go_roundw
        case rel => exact ⟨k + 1, got ++ [y], s1, by omega, by go_num, by simp; omega, ho6, hra1.below hb6 (fun k hk => by omega) hg2, Below.trans hbw5 (Below.mono hb6 (by omega)), by omega, HO⟩
        case measure => simp [intOf]; omega
      · have hke : k = xs.length := by omega
        have hxr : Ext w1 wr := hx3.trans hbw
        have hr3w := hr3.ext (show Ext W3 wr from hbw)
        have hcase := endR_zero s hra.ne0
        clear hf hok
        rcases hcase with ⟨hs0, he⟩ | he
        subst hs0
        obtain ⟨hdn1, hdn2⟩ := hO.out.done
        clear he
        go_wp2_with fail
        refine (rend_any _ g _ _ hra).mono ?_
        rintro e w7 ⟨rfl, rfl⟩
        rw [show endR (.ok []) = 0 from rfl]
        go_wp2_with fail
        refine (encode_any _ got _ ho.rd hdn2 (by omega)).mono ?_
        rintro e w7 ⟨v7, rfl, ho7, hx7⟩
        go_wp2_with fail
        refine (sameBytes_any v7 _ (encVs got) bs3 _ ho7.rd (hr3w.ext hx7)).mono ?_
        rintro e w8 ⟨rfl, hx8'⟩
        rw [decide_eq_true hdn1]
        have hxf : Ext w w8 := ((hx1.trans hxr).trans hx7).trans hx8'
        clear hdn1 hdn2 ho7 hx7 hx8' hO hra ho hr3w hxr hbw
        go_wp2_with fail
        rotate_left
        have he' : (endR s == 0) = false := by simpa using he
        go_wp2_with fail
        refine (rend_any _ g _ _ hra).mono ?_
        rintro e w7 ⟨rfl, rfl⟩
        have hxf : Ext w wr := hx1.trans hxr
        obtain ⟨w8, rfl⟩ : ∃ W, W = wr := ⟨_, rfl⟩
        clear hO hra ho hr3w hxr hbw
        go_wp2_with fail
        rotate_left
        all_goals
          refine (few_any v0 b0 60 _ (h0.ext hxf) (by omega)).mono ?_
          rintro e w9 ⟨vf, rfl, hof, hxf9⟩
          have hrf := hof.rd
          have hxfw := hxf.trans hxf9
          have hbt : (b0.take 60).length ≤ 60 := by simp; omega
          go_wp2_with fail
          refine (read_any vf (b0.take 60) _ hrf (by omega)).mono ?_
          rintro e w10 ⟨g', rfl, hga, hgb, h10, hx10⟩
          have hs910 := hx10.size
          go_wp2_with fail
          go_loopw [17, 14] (fun i o wr => ∃ k : Nat, ∃ got : List WV, ∃ s : RS, k ≤ z4.length ∧ k ≤ 10 ∧ i = .int .i64 k ∧ got.length ≤ k ∧ OwnV wr w10.heap.size o got ∧ RAt wr (fun k => w9.heap.size ≤ k ∧ k < g') g' s ∧ Below w9.heap.size w9 wr ∧ w10.heap.size ≤ wr.heap.size ∧ Hid (OInv (b0.take 60) got s)) (fun i _ _ => z4.length - (intOf i).toNat)
          case atStart => exact ⟨0, [], _, by omega, by omega, rfl, by simp, OwnV.nil _ _, h10, hx10, Nat.le_refl _, Lib.hid (.inl ⟨_, rfl, rfl, by simp⟩)⟩
          case round =>
            obtain ⟨k, got, s, hk, hk10, rfl, hgl, ho, hra, hbw, hsw, hO⟩ := hrel
            have hB1 : ∀ k, w9.heap.size ≤ k ∧ k < g' → k < wr.heap.size := fun k hk => by omega
            have hla := hO.out.len
            have HL : Hid (∀ p, s = .ok p → p.length ≤ 1000000000) := Lib.hid (fun p hp => by have := hla p hp; omega)
            have hcase := endR_zero s hra.ne0
            clear hla
            rcases hcase with ⟨hs0, he⟩ | he
            · subst hs0
              obtain ⟨hdn1, hdn2⟩ := hO.out.done
              clear he HL hO
              by_cases hlt : k < z4.length ∧ k < 10
              · obtain ⟨hl1, hl2⟩ := hlt
                clear q3
                go_wp2_with fail
                refine (rend_any _ g' _ _ hra).mono ?_
                rintro e w11 ⟨rfl, rfl⟩
                rw [show endR (.ok []) = 0 from rfl]
                go_wp2_with fail
                refine (rend_any _ g' _ _ hra).mono ?_
                rintro e w11 ⟨rfl, rfl⟩
                rw [show endR (.ok []) = 0 from rfl]
                go_wp2_with fail
                refine (encode_any _ got _ ho.rd hdn2 (by omega)).mono ?_
                rintro e w12 ⟨v12, rfl, ho12, hx12⟩
                go_wp2_with fail
                refine (sameBytes_any v12 _ (encVs got) (b0.take 60) _ ho12.rd (hrf.ext (Ext.trans hbw hx12))).mono ?_
                rintro e w13 ⟨rfl, hx13⟩
                rw [decide_eq_true hdn1]
                go_wp2_with fail
                refine (lives02_any _).mono ?_
                rintro e w14 ⟨rfl, hx14⟩
                go_wp2
                go_ret
                exact ⟨rfl, (((hxfw.trans (show Ext w9 wr from hbw)).trans hx12).trans hx13).trans hx14⟩
              · have hl1 : ¬ ((k : Int) < (z4.length : Int) ∧ (k : Int) < 10) := by omega
                clear q3
                rcases Nat.lt_or_ge k z4.length with hq | hq
                · have hq2 : k = 10 := by omega
                  subst hq2
                  go_wp2_with fail
                  refine (rend_any _ g' _ _ hra).mono ?_
                  rintro e w11 ⟨rfl, rfl⟩
                  rw [show endR (.ok []) = 0 from rfl]
                  go_wp2_with fail
                  refine (encode_any _ got _ ho.rd hdn2 (by omega)).mono ?_
                  rintro e w12 ⟨v12, rfl, ho12, hx12⟩
                  go_wp2_with fail
                  refine (sameBytes_any v12 _ (encVs got) (b0.take 60) _ ho12.rd (hrf.ext (Ext.trans hbw hx12))).mono ?_
                  rintro e w13 ⟨rfl, hx13⟩
                  rw [decide_eq_true hdn1]
                  go_wp2_with fail
                  refine (lives02_any _).mono ?_
                  rintro e w14 ⟨rfl, hx14⟩
                  go_wp2
                  go_ret
                  exact ⟨rfl, (((hxfw.trans (show Ext w9 wr from hbw)).trans hx12).trans hx13).trans hx14⟩
                · skip
                  go_wp2_with fail
                  refine (rend_any _ g' _ _ hra).mono ?_
                  rintro e w11 ⟨rfl, rfl⟩
                  rw [show endR (.ok []) = 0 from rfl]
                  go_wp2_with fail
                  refine (encode_any _ got _ ho.rd hdn2 (by omega)).mono ?_
                  rintro e w12 ⟨v12, rfl, ho12, hx12⟩
                  go_wp2_with fail
                  refine (sameBytes_any v12 _ (encVs got) (b0.take 60) _ ho12.rd (hrf.ext (Ext.trans hbw hx12))).mono ?_
                  rintro e w13 ⟨rfl, hx13⟩
                  rw [decide_eq_true hdn1]
                  go_wp2_with fail
                  refine (lives02_any _).mono ?_
                  rintro e w14 ⟨rfl, hx14⟩
                  go_wp2
                  go_ret
                  exact ⟨rfl, (((hxfw.trans (show Ext w9 wr from hbw)).trans hx12).trans hx13).trans hx14⟩
            · have he' : (endR s == 0) = false := by simpa using he
              have he2 : (endR s != 0) = true := by simpa using he
              by_cases hlt : k < z4.length ∧ k < 10
              · obtain ⟨hl1, hl2⟩ := hlt
                obtain ⟨b, off, hA4, hcx⟩ := q3 (by omega)
                subst hA4
                have c0 := hcx wr (Ext.trans hxfw hbw) k (.int .i64 z4[k]) (by simp [vis, hl1])
                have hin := hz4 z4[k] (by simp)
                have h6 := around_range z4[k] 6 (by omega)
                generalize z4[k] = z at *
                clear hcx q3 hz4
                go_wp2_with fail
                refine (rend_any _ g' _ _ hra).mono ?_
                rintro e w11 ⟨rfl, rfl⟩
                go_wp2_with fail
                refine (around_any z 6 _ hin (by omega) (by omega)).mono ?_
                rintro e w11 ⟨rfl, rfl⟩
                obtain ⟨kn, hkn⟩ : ∃ kn : Nat, around z 6 = (kn : Int) := ⟨(around z 6).toNat, by omega⟩
                rw [hkn] at h6 ⊢
                have hk5 : kn ≤ 5 := by omega
                clear hkn
                go_wp2_with fail
                refine (lread_any _ g' s kn hk5 _ hra hB1 HL.out).mono ?_
                rintro e w5' ⟨⟨vb1, vl1, rfl, hb, htb, hl, htl⟩, hra1, hch⟩
                have HO := Lib.hid (hO.out.step (by omega) hk5)
                have ho5 := ho.chgR hra hch hgb
                have hs5 := hch.size
                have hbw5 : Below w9.heap.size w9 w5' := below_chg hbw hch (by omega) hga
                generalize (readV kn s).1 = y at *
                generalize (readV kn s).2 = s1 at *
                obtain ⟨Ab, mb, cb, hvb⟩ : ∃ A m c, vb1 = .slice A m c := by obtain ⟨A, c, hv, -⟩ := hb; exact ⟨_, _, _, hv⟩
                obtain ⟨Al, ml, cl, hvl⟩ : ∃ A m c, vl1 = .slice A m c := by obtain ⟨A, c, hv, -⟩ := hl; exact ⟨_, _, _, hv⟩
                subst hvb hvl
                have HF := Lib.hid (vfld_mk y _ _ hb htb hl htl)
                clear hb htb hl htl hra ho c0 he he' he2
                go_wp2_with (at_builtin; refine wpList_appV _ rfl (.tmp 83) (.tmp 91) rfl w10.heap.size _ got rfl (ho5.ext ((Ext.refl _).alloc _)) ⟨w5'.heap.size, 0, none⟩ 1 1 [y] [[.int .i64 y.k, .int .u64 y.u, .int .i64 y.n, .slice Ab mb cb, .slice Al ml cl]] rfl rfl (VFlds.one (HF.out.keep (KeepUI.of_ext ((Ext.refl _).alloc _)))) (news_new _ _ rfl _ _) (by omega) (by simp; omega) ?_; intro o6 w6 ho6 hg6 hk6)
                have hb6 := appV_below (by omega) ho5 hg6
                have hs6 := hb6.size
                go_roundw
                case rel => exact ⟨k + 1, got ++ [y], s1, by omega, by omega, by go_num, by simp; omega, ho6, hra1.below hb6 (fun k hk => by omega) hgb, Below.trans hbw5 (Below.mono hb6 (by omega)), by omega, HO⟩
                case measure => simp [intOf]; omega
              · have hl1 : ¬ ((k : Int) < (z4.length : Int) ∧ (k : Int) < 10) := by omega
                clear q3
                rcases Nat.lt_or_ge k z4.length with hq | hq
                · have hq2 : k = 10 := by omega
                  subst hq2
                  go_wp2_with fail
                  refine (rend_any _ g' _ _ hra).mono ?_
                  rintro e w11 ⟨rfl, rfl⟩
                  go_wp2_with fail
                  refine (lives02_any _).mono ?_
                  rintro e w14 ⟨rfl, hx14⟩
                  go_wp2
                  go_ret
                  exact ⟨rfl, (hxfw.trans (show Ext w9 wr from hbw)).trans hx14⟩
                · go_wp2_with fail
                  refine (rend_any _ g' _ _ hra).mono ?_
                  rintro e w11 ⟨rfl, rfl⟩
                  go_wp2_with fail
                  refine (lives02_any _).mono ?_
                  rintro e w14 ⟨rfl, hx14⟩
                  go_wp2
                  go_ret
                  exact ⟨rfl, (hxfw.trans (show Ext w9 wr from hbw)).trans hx14⟩
end Go.Proofs.Ytfkdaipmbakomaa
