/- WireReads: the walk of the law. -/
import Derived.Test.YtfkdaipmbakomaaWl
import Derived.Test.YtfkdaipmbakomaaWh2
namespace Go.Proofs.Ytfkdaipmbakomaa
open Go.RowKit
set_option linter.unusedVariables false

theorem QAt.keepUI {w w' : World} {B : Nat → Prop} {g : Nat} {s : RS} (h : QAt w B g s) (hc : Chg g w w') : KeepUI w w' := by
  obtain ⟨bs, e, ⟨v, hb, -⟩, -⟩ := h
  exact KeepUI.chg hc hb (by decide) (by decide)
theorem readV_left (k : Nat) (hk : k ≤ 5) (s : RS) (N : Nat) (hN : N ≤ 100000) (h : ∀ p, s = .ok p → p.length ≤ N) : ∀ p, (readV k s).2 = .ok p → p.length ≤ N := by
  intro p hp
  cases s with
  | error e => rw [readV_err k hk] at hp; cases hp
  | ok l =>
    have hl := h l rfl
    rcases hv : readV k (.ok l) with ⟨v, s'⟩
    rw [hv] at hp
    simp only at hp
    subst hp
    obtain ⟨-, -, q3⟩ := readV_back k hk l p v (by omega) hv
    rw [q3] at hl
    simp at hl; omega

set_option maxRecDepth 100000 in
set_option maxHeartbeats 8000000 in
theorem WireReads_law (w : World) (v0 : Value) (b0 : List UInt8) (h0 : Rd w v0 (vbs b0)) (v1 : Value) (z1 : List Int) (h1 : Rd w v1 (vis z1)) (hz1 : ∀ n ∈ z1, inI64 n) (at_ : Int) (hat : inI64 at_) (c : Int) (hc : 0 ≤ c ∧ c ≤ 255) (v4 : Value) (z4 : List Int) (h4 : Rd w v4 (vis z4)) (hz4 : ∀ n ∈ z4, inI64 n) :
    Calls Try.prog 4 #[v0, v1, .int .i64 at_, .int .u8 c, v4] w fun e w' => e = .returned (.bool true) ∧ Ext w w' := by
  have h4' := h4
  obtain ⟨A4, c4, rfl, _⟩ := id h4
  obtain ⟨-, q1, q2, q3⟩ := h4'.at
  simp only [vis_len, maxLen] at *
  go_enter Try.func4, Try.ntmps4
  go_wp2_with fail
  refine (vals_any v1 z1 _ h1 hz1).mono ?_
  rintro e w1 ⟨vv, xs, rfl, ho1, hx8, hsm, hx1⟩
  have hr1 := ho1.rd
  have hbl := smalls_len xs hsm
  have hok : ∀ x ∈ xs, x.ok := fun x hx => (hsm x hx).1
  clear h1 hz1
  go_wp2_with fail
  refine (r2encode_any vv xs _ hr1 hok (by omega)).mono ?_
  rintro e w2 ⟨v2, rfl, ho2, hx2⟩
  obtain ⟨bs, hbs⟩ : ∃ bs, bs = encVs xs := ⟨_, rfl⟩
  rw [← hbs] at ho2 hbl
  clear hbs hok hsm hr1 ho1
  obtain ⟨A2, m2, hv2, hm2a, hm2b, hA2⟩ : ∃ A c, v2 = .slice A bs.length c ∧ bs.length ≤ c ∧ c ≤ 9223372036854775807 ∧ (0 < bs.length → ∃ g, A = some ⟨g, 0, none⟩) := by
    obtain ⟨A, cap, hv, hg⟩ := ho2.form'
    obtain ⟨A', c', hv', q1, q2, -⟩ := ho2.rd
    rw [hv] at hv'
    injection hv' with e1 e2 e3
    rw [vbs_len] at *
    simp only [maxLen] at q2
    exact ⟨A, cap, hv, by omega, by omega, hg⟩
  subst hv2
  have har := fun (h : 0 < bs.length) => around_range at_ bs.length (by omega)
  obtain ⟨n, hn⟩ : ∃ n, bs.length = n := ⟨_, rfl⟩
  have ho2' : Own w2 w1.heap.size 5 (.slice A2 (vbs bs).length m2) (vbs bs) := by rw [vbs_len]; exact ho2
  have hlt2 : ∀ k, (Value.slice A2 n m2).ownBlock = some k → k < w2.heap.size := by rw [← hn]; exact fun k hk => (ho2.lt k hk).2
  rw [hn] at ho2 hm2a hA2 har hbl ⊢
  have HN := Lib.hid hn
  clear hn
  rcases Nat.eq_zero_or_pos n with hz | hz
  have hnz : ¬ ((0 : Int) < (n : Int)) := by omega
  clear hz
  go_wp2_with fail
  have hr3 : Rd w2 (.slice A2 n m2) (vbs bs) := ho2.rd
  have hx3 := hx2
  obtain ⟨W3, rfl⟩ : ∃ W, W = w2 := ⟨_, rfl⟩
  obtain ⟨bs3, rfl⟩ : ∃ b, b = bs := ⟨_, rfl⟩
  clear ho2 ho2' hx2 har hA2 hnz
  rotate_left
  obtain ⟨g2, rfl⟩ := hA2 hz
  have har := har hz
  have hln := HN.out
  obtain ⟨⟨u, hcu⟩, hfu, hset⟩ := Own.fill ho2' (k := (around at_ n).toNat) (by rw [vbs_len]; omega)
  have hset := hset (.int .u8 c)
  have hg2 := (ho2.lt g2 rfl).1
  clear ho2' hA2 hln
  go_wp2_with fail
  refine (around_any at_ n _ hat (by omega) (by omega)).mono ?_
  rintro e w3 ⟨rfl, rfl⟩
  obtain ⟨m, hm⟩ : ∃ m : Nat, around at_ n = (m : Int) := ⟨(around at_ n).toNat, by omega⟩
  rw [hm] at har hcu hfu hset ⊢
  rw [show ((m : Int)).toNat = m by omega] at hcu hfu hset
  clear hm
  have hmn : m < n := by omega
  go_wp2_with fail
  have hx3 : Ext w1 (w2.setCell ⟨g2, m, none⟩ (.int .u8 c)) := hx2.setCell hg2 _
  have hr3 : Rd (w2.setCell ⟨g2, m, none⟩ (.int .u8 c)) (.slice (some ⟨g2, 0, none⟩) n m2) (vbs (bs.set m (UInt8.ofNat c.toNat))) := by
    have := hset.rd
    rw [vbs_len, HN.out, vbs_set bs m c _ (ubyte_lo c hc.1 (by omega))] at this
    exact this
  have HN : Hid ((bs.set m (UInt8.ofNat c.toNat)).length = n) := Lib.hid (by rw [List.length_set]; exact HN.out)
  have hlt2 : ∀ k, (Value.slice (some ⟨g2, 0, none⟩) n m2).ownBlock = some k → k < (w2.setCell ⟨g2, m, none⟩ (.int .u8 c)).heap.size := fun k hk => by simp; exact hlt2 k hk
  generalize w2.setCell ⟨g2, m, none⟩ (.int .u8 c) = W3 at *
  generalize bs.set m (UInt8.ofNat c.toNat) = bs3 at *
  generalize (some ⟨g2, 0, none⟩ : Option Addr) = A2 at *
  clear ho2 hx2 har hset hcu hfu hg2 hmn
  rotate_left
  all_goals
    have hn3 := HN.out
    have hxw : Ext w W3 := hx1.trans hx3
    refine (few_any v0 b0 60 _ (h0.ext hxw) (by omega)).mono ?_
    rintro e w4 ⟨vf, rfl, hof, hx4⟩
    have hrf := hof.rd
    have hr4 := hr3.ext hx4
    have hbt : (b0.take 60).length ≤ 60 := by simp; omega
    have hxw4 := hxw.trans hx4
    have hltf := hof.lt
    have hs4 := hx4.size
    obtain ⟨Af, mf, cf, hvf⟩ := hof.shape
    subst hvf
    go_wp2_with fail
    have W4c0 : (w4.alloc (.cells #[.slice Af mf cf, .slice A2 n m2] 24)).cell? ⟨w4.heap.size, 0, none⟩ = some (.slice Af mf cf) := by go_simp
    have W4c1 : (w4.alloc (.cells #[.slice Af mf cf, .slice A2 n m2] 24)).cell? ⟨w4.heap.size, 1, none⟩ = some (.slice A2 n m2) := by go_simp
    have hx45 : Ext w4 (w4.alloc (.cells #[.slice Af mf cf, .slice A2 n m2] 24)) := (Ext.refl _).alloc _
    have hs45 : (w4.alloc (.cells #[.slice Af mf cf, .slice A2 n m2] 24)).heap.size = w4.heap.size + 1 := by simp
    obtain ⟨W5, hW5⟩ : ∃ W, W = w4.alloc (.cells #[.slice Af mf cf, .slice A2 n m2] 24) := ⟨_, rfl⟩
    rw [← hW5] at W4c0 W4c1 hx45 hs45 ⊢
    clear hW5
    go_loopw [13] (fun i wr => ∃ k : Nat, k ≤ 2 ∧ i = .int .i64 k ∧ Ext W5 wr) (fun i _ => 2 - (intOf i).toNat)
    case atStart => exact ⟨0, by omega, rfl, Ext.refl _⟩
    case round =>
      obtain ⟨k, hk, rfl, hxr⟩ := hrel
      obtain ⟨wo, rfl⟩ : ∃ wo : World, wo = wr := ⟨_, rfl⟩
      have hso := hxr.size
      have hcs : k = 2 ∨ k = 0 ∨ k = 1 := by omega
      rcases hcs with rfl | hcs
      · clear q3
        go_wp2_with fail
        refine (lives02_any _).mono ?_
        rintro e w14 ⟨rfl, hx14⟩
        go_wp2
        go_ret
        exact ⟨rfl, ((hxw4.trans hx45).trans hxr).trans hx14⟩
      · have stage : ∃ A m cc, ∃ bb : List UInt8, wo.cell? ⟨w4.heap.size, k, none⟩ = some (.slice A m cc) ∧ Rd wo (.slice A m cc) (vbs bb) ∧ bb.length ≤ 480 ∧ (∀ k, (Value.slice A m cc).ownBlock = some k → k < w4.heap.size) := by
          rcases hcs with rfl | rfl
          · exact ⟨Af, mf, cf, _, hxr.cell W4c0, (hrf.ext hx45).ext hxr, by omega, fun k hk => (hltf k hk).2⟩
          · exact ⟨A2, n, m2, bs3, hxr.cell W4c1, (hr4.ext hx45).ext hxr, by omega, fun k hk => by have := hlt2 k hk; omega⟩
        obtain ⟨A, m, cc, bb, hcell, hrd, hbb, hblk⟩ := stage
        have hk2 : k < 2 := by omega
        have HW := Lib.hid (And.intro W4c0 W4c1)
        clear W4c0 W4c1 hcs hr4 hrf
        go_wp2_with fail
        refine (read_any _ bb _ hrd (by omega)).mono ?_
        rintro e w6 ⟨g, rfl, hg1, hg2, h6, hx6⟩
        have hcell6 := hx6.cell hcell
        have hrd6 := hrd.ext hx6
        have hs6 := hx6.size
        go_wp2_with fail
        have h7 : RAt (w6.alloc (.cells #[.slice A m cc, .int .i64 0] 44)) (fun k => wo.heap.size ≤ k ∧ k < g) g (.ok bb) := h6.ext ((Ext.refl _).alloc _)
        have q7 : QAt (w6.alloc (.cells #[.slice A m cc, .int .i64 0] 44)) (fun k => k < w4.heap.size) w6.heap.size (.ok bb) :=
          ⟨bb, 0, ⟨_, Blk.new w6 44 [.slice A m cc, .int .i64 0], hrd6.ext ((Ext.refl _).alloc _), fun k hk => ⟨by have := hblk k hk; omega, hblk k hk⟩⟩, rfl, rfl⟩
        have hx7 : Ext wo (w6.alloc (.cells #[.slice A m cc, .int .i64 0] 44)) := hx6.alloc _
        have hs7 : (w6.alloc (.cells #[.slice A m cc, .int .i64 0] 44)).heap.size = w6.heap.size + 1 := by simp
        generalize (w6.alloc (.cells #[.slice A m cc, .int .i64 0] 44)) = w7 at *
        clear hcell6 hrd6 hcell hrd h6
        go_loopw [16] (fun i wi => ∃ j : Nat, ∃ s : RS, j ≤ z4.length ∧ j ≤ 10 ∧ i = .int .i64 j ∧ RAt wi (fun k => wo.heap.size ≤ k ∧ k < g) g s ∧ QAt wi (fun k => k < w4.heap.size) w6.heap.size s ∧ Below wo.heap.size wo wi ∧ Hid (∀ p, s = .ok p → p.length ≤ 480)) (fun i _ => z4.length - (intOf i).toNat)
        case atStart => exact ⟨0, _, by omega, by omega, rfl, h7, q7, hx7, Lib.hid (fun p hp => by cases hp; exact hbb)⟩
        case round =>
          obtain ⟨j, s, hj, hj10, rfl, hra, hqa, hbw, hL⟩ := hrel
          by_cases hlt : j < z4.length ∧ j < 10
          · obtain ⟨hl1, hl2⟩ := hlt
            obtain ⟨b, off, hA4, hcx⟩ := q3 (by omega)
            subst hA4
            have c0 := hcx wr ((hxw4.trans hx45).trans (hxr.trans hbw)) j (.int .i64 z4[j]) (by simp [vis, hl1])
            have hin := hz4 z4[j] (by simp)
            have hr6 := around_range z4[j] 6 (by omega)
            generalize z4[j] = z at *
            have hgl := hra.lt
            have hql := hqa.lt
            clear hcx q3 hz4
            go_wp2_with fail
            refine (around_any z 6 _ hin (by omega) (by omega)).mono ?_
            rintro e w11 ⟨rfl, rfl⟩
            obtain ⟨kn, hkn⟩ : ∃ kn : Nat, around z 6 = (kn : Int) := ⟨(around z 6).toNat, by omega⟩
            rw [hkn] at hr6 ⊢
            have hk5 : kn ≤ 5 := by omega
            clear hkn
            go_wp2_with fail
            refine (lread_any _ g s kn hk5 _ hra (fun k hk => by omega) (fun p hp => by have := hL.out p hp; omega)).mono ?_
            rintro e w8 ⟨⟨vb1, vl1, rfl, hb, htb, hl, htl⟩, hra1, hch⟩
            have hqa1 := hqa.chg hch (fun k hk => by omega) (by omega)
            have hs8 := hch.size
            go_wp2_with fail
            refine (qread_any _ w6.heap.size s kn hk5 _ hqa1 (fun k hk => by omega) (fun p hp => by have := hL.out p hp; omega)).mono ?_
            rintro e w9 ⟨⟨vb2, vl2, rfl, hb2, hl2'⟩, hqa2, hch2⟩
            have hra2 := hra1.chg hch2 (fun k hk => by omega) (by omega)
            have hbw9 : Below wo.heap.size wo w9 := below_chg (below_chg hbw hch (by omega) hg1) hch2 (by omega) (by omega)
            have hf := (vfld_mk _ _ _ hb htb hl htl).keep (QAt.keepUI hqa1 hch2)
            obtain ⟨vb3, vl3, he3, hb3, -, hl3, -⟩ := hf
            simp only [List.cons.injEq] at he3
            obtain ⟨-, -, -, rfl, rfl, -⟩ := he3
            have HL := Lib.hid (readV_left kn hk5 s 480 (by omega) hL.out)
            generalize (readV kn s).1 = y at *
            generalize (readV kn s).2 = s1 at *
            clear hb htb hl htl hra hqa c0 hra1 hqa1 hch hch2 hbw
            go_wp2_with fail
            refine (same2_any y y _ _ _ _ _ hb3 hl3 hb2 hl2').mono ?_
            rintro e w10 ⟨rfl, hx10⟩
            rw [sameV_self]
            have hra3 := hra2.ext hx10
            have hqa3 := hqa2.ext hx10
            have hs9 := hbw9.size
            go_wp2_with fail
            refine (rend_any _ g _ _ hra3).mono ?_
            rintro e w11 ⟨rfl, rfl⟩
            go_wp2_with fail
            refine (qend_any _ _ _ _ hqa3).mono ?_
            rintro e w11 ⟨rfl, rfl⟩
            have hbw10 : Below wo.heap.size wo w10 := Ext.trans hbw9 hx10
            go_wp2
            go_roundw
            case rel => exact ⟨j + 1, s1, by omega, by omega, by go_num, hra3, hqa3, hbw10, HL⟩
            case measure => simp [intOf]; omega
          · have hl1 : ¬ ((j : Int) < (z4.length : Int) ∧ (j : Int) < 10) := by omega
            clear q3 hz4
            rcases Nat.lt_or_ge j z4.length with hq | hq
            · have hq2 : j = 10 := by omega
              subst hq2
              go_wp2
              go_roundw
              case rel => exact ⟨k + 1, by omega, by go_num, hxr.trans hbw⟩
              case measure => simp [intOf]; omega
            · go_wp2
              go_roundw
              case rel => exact ⟨k + 1, by omega, by go_num, hxr.trans hbw⟩
              case measure => simp [intOf]; omega
end Go.Proofs.Ytfkdaipmbakomaa
