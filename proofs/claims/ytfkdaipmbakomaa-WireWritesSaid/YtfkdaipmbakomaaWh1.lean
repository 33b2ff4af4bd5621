/- package wire: the reference's generator of values: Vals. -/
import Derived.Test.YtfkdaipmbakomaaWg1
import Derived.Deep.RegionHeld3
import Derived.Deep.AppendLies
import Derived.Deep.RegionLaw
namespace Go.Proofs.Ytfkdaipmbakomaa
open Go.RowKit
set_option linter.unusedVariables false

theorem div_pow_range (z : Int) (n : Nat) (h : inI64 z) : inI64 (z / 2 ^ n) := by
  obtain ⟨h1, h2⟩ := h
  have hp0 : (0 : Int) < 2 ^ n := Int.pow_pos (by omega)
  generalize (2 : Int) ^ n = p at *
  constructor
  · exact Int.le_ediv_of_mul_le hp0 (by have := Int.mul_le_mul_of_nonneg_left (show (1 : Int) ≤ p by omega) (show (0 : Int) ≤ 9223372036854775808 by omega); rw [Int.neg_mul]; omega)
  · rcases Int.lt_or_le z 0 with h | h
    · have : z / p < 0 := Int.ediv_neg_of_neg_of_pos h hp0
      omega
    · have := Int.ediv_le_self p h; omega
theorem tdiv6_range (z : Int) (h : inI64 z) : inI64 (z.tdiv 6) := by
  obtain ⟨h1, h2⟩ := h
  rcases Int.lt_or_le z 0 with h | h
  · have e : z.tdiv 6 = -((-z) / 6) := by rw [← Int.tdiv_eq_ediv_of_nonneg (by omega), Int.neg_tdiv, Int.neg_neg]
    rw [e]; constructor <;> omega
  · rw [Int.tdiv_eq_ediv_of_nonneg h]; constructor <;> omega
theorem divu_pow_range (z : Int) (n : Nat) (h : 0 ≤ z ∧ z ≤ 18446744073709551615) : 0 ≤ z / 2 ^ n ∧ z / 2 ^ n ≤ 18446744073709551615 := by
  have hp : (0 : Int) < 2 ^ n := Int.pow_pos (by omega)
  have := Int.ediv_le_self (2 ^ n) h.1
  exact ⟨Int.ediv_nonneg h.1 (by omega), by omega⟩

theorem wrap_u8r (x : Int) : 0 ≤ IntKind.u8.wrap x ∧ IntKind.u8.wrap x ≤ 255 := by rw [IntKind.wrap_u8]; omega
theorem own_snocb {w : World} {base : Nat} {e : TypeId} {v : Value} {bs : List UInt8} {X : Int} (h : w.ownsRow base e 1 v ((vbs bs).length + 1) (vbs bs ++ [.int .u8 X])) (hX : 0 ≤ X ∧ X ≤ 255) : Own w base e v (vbs (bs ++ [UInt8.ofNat X.toNat])) := by
  have e1 : vbs (bs ++ [UInt8.ofNat X.toNat]) = vbs bs ++ [.int .u8 X] := by
    rw [vbs_app]
    show vbs bs ++ [Value.int .u8 ((UInt8.ofNat X.toNat).toNat : Int)] = _
    rw [UInt8.toNat_ofNat', show ((X.toNat % 2 ^ 8 : Nat) : Int) = X by omega]
  unfold Own
  rw [e1, List.length_append]
  exact h
theorem own_snoci {w : World} {base : Nat} {e : TypeId} {v : Value} {bs : List Int} {X : Int} (h : w.ownsRow base e 1 v ((vis bs).length + 1) (vis bs ++ [.int .i64 X])) : Own w base e v (vis (bs ++ [X])) := by
  unfold Own
  rw [vis_app, List.length_append]
  exact h
/-- what Vals makes -/
def WV.small (x : WV) : Prop := x.ok ∧ x.b.length ≤ 10 ∧ x.l.length ≤ 5
theorem small_U (q : Int) (h : 0 ≤ q ∧ q ≤ 18446744073709551615) : (vU q).small := ⟨.inl ⟨q, rfl, h⟩, Nat.zero_le _, Nat.zero_le _⟩
theorem small_I (q : Int) (h : inI64 q) : (vI q).small := ⟨.inr (.inl ⟨q, rfl, h⟩), Nat.zero_le _, Nat.zero_le _⟩
theorem small_T (t : Bool) : (vT t).small := ⟨.inr (.inr (.inl ⟨t, rfl⟩)), Nat.zero_le _, Nat.zero_le _⟩
theorem small_S (bs : List UInt8) (h : bs.length ≤ 10) : (vS bs).small := ⟨.inr (.inr (.inr (.inl ⟨bs, rfl, by omega⟩))), h, Nat.zero_le _⟩
theorem small_R (bs : List UInt8) (h : bs.length ≤ 10) : (vR bs).small := ⟨.inr (.inr (.inr (.inr (.inl ⟨bs, rfl, by omega⟩)))), h, Nat.zero_le _⟩
theorem small_L (xs : List Int) (h : xs.length ≤ 5) (hx : ∀ n ∈ xs, inI64 n) : (vL xs).small := ⟨.inr (.inr (.inr (.inr (.inr ⟨xs, rfl, by omega, hx⟩)))), Nat.zero_le _, h⟩
theorem small_len (x : WV) (h : x.small) : (encV x).length ≤ 60 := by
  obtain ⟨h, h1, h2⟩ := h
  rcases h with ⟨n, rfl, h3, h4⟩ | ⟨n, rfl, h⟩ | ⟨t, rfl⟩ | ⟨bs, rfl, h⟩ | ⟨bs, rfl, h⟩ | ⟨xs, rfl, h, hx⟩
  · have := uvar_len10 n h4; rw [encV_U]; omega
  · have := uvar_len10 (zig n) (zig_range n h).2; rw [encV_I]; omega
  · rw [encV_T]; cases t <;> simp [boolW]
  · have := uvar_len10 bs.length (by omega)
    have h1 : bs.length ≤ 10 := h1
    rw [encV_S]; unfold rawW; simp; omega
  · have := uvar_len10 bs.length (by omega)
    have h1 : bs.length ≤ 10 := h1
    rw [encV_R]; unfold rawW; simp; omega
  · have := uvar_len10 xs.length (by omega)
    have h2 : xs.length ≤ 5 := h2
    have := itemsW_len xs hx
    rw [encV_L]; unfold intsW; simp; omega
theorem smalls_len : ∀ (l : List WV), (∀ v ∈ l, v.small) → (encVs l).length ≤ 60 * l.length
  | [], _ => by simp [encVs]
  | v :: r, h => by
    have h1 := smalls_len r (fun x hx => h x (by simp [hx]))
    have h2 := small_len v (h v (by simp))
    rw [encVs_cons]; simp; omega
theorem vfld_mk {w : World} (x : WV) (vb vl : Value) (h1 : Rd w vb (vbs x.b)) (h2 : Ty w 5 vb) (h3 : Rd w vl (vis x.l)) (h4 : Ty w 3 vl) : VFld w x [.int .i64 x.k, .int .u64 x.u, .int .i64 x.n, vb, vl] := ⟨vb, vl, rfl, h1, h2, h3, h4⟩
theorem news_new (W : World) (H : Nat) (hH : W.heap.size = H) (cs : List Value) (t : TypeId) : ∀ j u, [cs].flatten[j]? = some u → (W.alloc (.cells cs.toArray t)).cell? ((⟨H, 0, none⟩ : Addr).add j) = some u := fun j u hu => by
  subst hH
  exact World.news_of_block (cs := cs.toArray) (t := t) (fr := (0, 0)) (heap_alloc_new W _) j u (by simpa using hu)

set_option maxRecDepth 100000 in
set_option maxHeartbeats 8000000 in
theorem vals_any (v : Value) (zs : List Int) (w : World) (hr : Rd w v (vis zs)) (hz : ∀ z ∈ zs, inI64 z) :
    Calls Try.prog 19 #[v] w fun e w' => ∃ v' xs, e = .returned v' ∧ OwnV w' w.heap.size v' xs ∧ xs.length ≤ 8 ∧ (∀ x ∈ xs, x.small) ∧ Ext w w' := by
  obtain ⟨i0, hi, hz0, hz1, hz2⟩ := info_parts info_u8
  obtain ⟨i1, hj, hy0, hy1, hy2⟩ := info_parts info_int
  have hr0 := hr
  obtain ⟨A, c, rfl, _⟩ := hr
  obtain ⟨_, a1, a2, a3⟩ := hr0.at
  simp only [vis_len, maxLen] at *
  go_enter Try.func19, Try.ntmps19
  go_wp2_with fail
  go_loopw [4, 3] (fun i o wr => ∃ k : Nat, ∃ xs : List WV, k ≤ zs.length ∧ k ≤ 8 ∧ i = .int .i64 k ∧ xs.length ≤ k ∧ OwnV wr w.heap.size o xs ∧ Ext w wr ∧ Hid (∀ x ∈ xs, x.small)) (fun i _ _ => zs.length - (intOf i).toNat)
  case atStart => exact ⟨0, [], by omega, by omega, rfl, by simp, OwnV.nil _ _, Ext.refl w, Lib.hid (by simp)⟩
  case round =>
    obtain ⟨k, xs, hk, hk8, rfl, hxk, ho, hxr, hok⟩ := hrel
    obtain ⟨wo, rfl⟩ : ∃ wo : World, wo = wr := ⟨_, rfl⟩
    have hsz := hxr.size
    by_cases hlt : k < zs.length ∧ k < 8
    · obtain ⟨hlt, hlt8⟩ := hlt
      obtain ⟨lb, off, rfl, hcx⟩ := a3 (by omega)
      have ck := hcx wo hxr k (.int .i64 zs[k]) (by simp [vis, hlt])
      have hin := hz zs[k] (by simp)
      generalize zs[k] = z at *
      have HZ := Lib.hid hin
      have ckA : ∀ o, (wo.alloc o).cell? ⟨lb, off + k, none⟩ = some (.int .i64 z) := fun o => ((Ext.refl wo).alloc o).cell ck
      have hin6 : inI64 (z.tdiv 6) := tdiv6_range z hin
      have ha6 := around_range z 6 (by omega)
      have ha63 := around_range (z.tdiv 6) 63 (by omega)
      clear hcx a3 hz
      have hin1 := hin.1
      have hin2 := hin.2
      have hkz : decide ((k : Int) < (zs.length : Int)) = true := by simp; omega
      go_wp2_with fail
      refine (around_any z 6 _ hin (by omega) (by omega)).mono ?_
      rintro e w1 ⟨rfl, rfl⟩
      go_wp2_with fail
      refine (around_any (z.tdiv 6) 63 _ hin6 (by omega) (by omega)).mono ?_
      rintro e w1 ⟨rfl, rfl⟩
      generalize around z 6 = kk at *
      generalize around (z.tdiv 6) 63 = n at *
      obtain ⟨ha60, ha61⟩ := ha6
      obtain ⟨hn0, hn1⟩ := ha63
      have hc : kk = 0 ∨ kk = 1 ∨ kk = 2 ∨ kk = 3 ∨ kk = 4 ∨ kk = 5 := by omega
      rcases hc with rfl | rfl | rfl | rfl | rfl | rfl
      · have HQ := Lib.hid (divu_pow_range (IntKind.u64.wrap z) n.toNat (by rw [IntKind.wrap_u64]; omega))
        obtain ⟨q, hq⟩ : ∃ q, IntKind.u64.wrap z / 2 ^ n.toNat = q := ⟨_, rfl⟩
        rw [hq] at HQ
        go_wp2_with (at_builtin; go_loud (refine wpList_appV _ rfl (.tmp 101) (.tmp 103) rfl w.heap.size _ xs rfl (ho.ext (((Ext.refl wo).alloc _).alloc _)) ⟨wo.heap.size + 1, 0, none⟩ 1 1 [vU q] [[.int .i64 0, .int .u64 q, .int .i64 0, .slice none 0 0, .slice none 0 0]] rfl rfl (VFlds.one (vfld_mk _ _ _ (Rd.nil _) (Ty.nil _ _ _ _) (Rd.nil _) (Ty.nil _ _ _ _))) (news_new _ _ (by simp) _ _) (by omega) (by simp; omega) ?_); intro v1 w1 ho1 hg1 _)
        have hlt1 : Ext w w1 := (hxr.trans (((Ext.refl wo).alloc _).alloc _)).grown hg1 (fun k e => (ho.lt k e).1)
        go_roundw
        case rel => exact ⟨k + 1, xs ++ [vU q], by omega, by omega, by go_num, by simp; omega, ho1, hlt1, Lib.hid (by
          intro x hx
          rcases List.mem_append.1 hx with hx | hx
          · exact hok.out x hx
          · simp only [List.mem_singleton] at hx
            subst hx
            exact small_U q HQ.out)⟩
        case measure => simp [intOf]; omega
      · have HQ := Lib.hid (div_pow_range z n.toNat HZ.out)
        obtain ⟨q, hq⟩ : ∃ q, z / 2 ^ n.toNat = q := ⟨_, rfl⟩
        rw [hq] at HQ
        go_wp2_with (at_builtin; go_loud (refine wpList_appV _ rfl (.tmp 101) (.tmp 103) rfl w.heap.size _ xs rfl (ho.ext (((Ext.refl wo).alloc _).alloc _)) ⟨wo.heap.size + 1, 0, none⟩ 1 1 [vI q] [[.int .i64 1, .int .u64 0, .int .i64 q, .slice none 0 0, .slice none 0 0]] rfl rfl (VFlds.one (vfld_mk _ _ _ (Rd.nil _) (Ty.nil _ _ _ _) (Rd.nil _) (Ty.nil _ _ _ _))) (news_new _ _ (by simp) _ _) (by omega) (by simp; omega) ?_); intro v1 w1 ho1 hg1 _)
        have hlt1 : Ext w w1 := (hxr.trans (((Ext.refl wo).alloc _).alloc _)).grown hg1 (fun k e => (ho.lt k e).1)
        go_roundw
        case rel => exact ⟨k + 1, xs ++ [vI q], by omega, by omega, by go_num, by simp; omega, ho1, hlt1, Lib.hid (by
          intro x hx
          rcases List.mem_append.1 hx with hx | hx
          · exact hok.out x hx
          · simp only [List.mem_singleton] at hx
            subst hx
            exact small_I q HQ.out)⟩
        case measure => simp [intOf]; omega
      · have hc : n % 2 = 0 ∨ n % 2 = 1 := by omega
        rcases hc with hc | hc
        · skip
          go_wp2_with (at_builtin; go_loud (refine wpList_appV _ rfl (.tmp 101) (.tmp 103) rfl w.heap.size _ xs rfl (ho.ext (((Ext.refl wo).alloc _).alloc _)) ⟨wo.heap.size + 1, 0, none⟩ 1 1 [vT false] [[.int .i64 2, .int .u64 0, .int .i64 0, .slice none 0 0, .slice none 0 0]] rfl rfl (VFlds.one (vfld_mk _ _ _ (Rd.nil _) (Ty.nil _ _ _ _) (Rd.nil _) (Ty.nil _ _ _ _))) (news_new _ _ (by simp) _ _) (by omega) (by simp; omega) ?_); intro v1 w1 ho1 hg1 _)
          have hlt1 : Ext w w1 := (hxr.trans (((Ext.refl wo).alloc _).alloc _)).grown hg1 (fun k e => (ho.lt k e).1)
          go_roundw
          case rel => exact ⟨k + 1, xs ++ [vT false], by omega, by omega, by go_num, by simp; omega, ho1, hlt1, Lib.hid (by
            intro x hx
            rcases List.mem_append.1 hx with hx | hx
            · exact hok.out x hx
            · simp only [List.mem_singleton] at hx
              subst hx
              exact small_T false)⟩
          case measure => simp [intOf]; omega
        · skip
          go_wp2_with (at_builtin; go_loud (refine wpList_appV _ rfl (.tmp 101) (.tmp 103) rfl w.heap.size _ xs rfl (ho.ext (((Ext.refl wo).alloc _).alloc _)) ⟨wo.heap.size + 1, 0, none⟩ 1 1 [vT true] [[.int .i64 2, .int .u64 0, .int .i64 1, .slice none 0 0, .slice none 0 0]] rfl rfl (VFlds.one (vfld_mk _ _ _ (Rd.nil _) (Ty.nil _ _ _ _) (Rd.nil _) (Ty.nil _ _ _ _))) (news_new _ _ (by simp) _ _) (by omega) (by simp; omega) ?_); intro v1 w1 ho1 hg1 _)
          have hlt1 : Ext w w1 := (hxr.trans (((Ext.refl wo).alloc _).alloc _)).grown hg1 (fun k e => (ho.lt k e).1)
          go_roundw
          case rel => exact ⟨k + 1, xs ++ [vT true], by omega, by omega, by go_num, by simp; omega, ho1, hlt1, Lib.hid (by
            intro x hx
            rcases List.mem_append.1 hx with hx | hx
            · exact hok.out x hx
            · simp only [List.mem_singleton] at hx
              subst hx
              exact small_T true)⟩
          case measure => simp [intOf]; omega
      · have hm0 : 0 ≤ n % 10 := by omega
        have hm1 : n % 10 ≤ 10 := by omega
        go_wp2_with fail
        go_loopw [8] (fun ji wj => ∃ j : Nat, ∃ vB : Value, ∃ bs : List UInt8, ji = .int .i64 j ∧ (j : Int) ≤ n % 10 ∧ bs.length = j ∧ Blk wj wo.heap.size 47 [.int .i64 3, .int .u64 0, .int .i64 0, vB, .slice none 0 0] ∧ Own wj (wo.heap.size + 1) 5 vB (vbs bs) ∧ Ext wo wj) (fun ji _ => (10 - intOf ji).toNat)
        case atStart => exact ⟨0, .slice none 0 0, [], rfl, by omega, rfl, Blk.new wo _ _, Own.nil _ _ _, (Ext.refl wo).alloc _⟩
        case round =>
          obtain ⟨j, vB, bs, rfl, hj1, hjl, hb, hob, hxj⟩ := hrel
          by_cases hjlt : (j : Int) < n % 10
          · have c3 := hb.cell 3
            have f3 := hb.frozen 3
            simp only [List.getElem?_cons_succ, List.getElem?_cons_zero] at c3
            have cj := hxj.cell ck
            have hlb : lb < wo.heap.size := World.block_lt_of_cell? wo _ ck
            have hsj := hxj.size
            have hob' : wr.ownsRow (wo.heap.size + 1) 5 1 vB (vbs bs).length (vbs bs) := hob
            have hbl : (vbs bs).length ≤ 10 := by rw [vbs_len]; omega
            have hk0 : (0 : Int) ≤ (k : Int) := by omega
            have hk1 : (k : Int) < (zs.length : Int) := by omega
            have c3A : ∀ o, (wr.alloc o).drew.cell? ⟨wo.heap.size, 3, none⟩ = some vB := fun o => (((Ext.refl wr).alloc o).drew).cell c3
            have cjA : ∀ o, (wr.alloc o).drew.cell? ⟨lb, off + k, none⟩ = some (.int .i64 z) := fun o => (((Ext.refl wr).alloc o).drew).cell cj
            have f3A : ∀ o, (wr.alloc o).drew.frozen? ⟨wo.heap.size, 3, none⟩ = false := fun o => (hb.ext (((Ext.refl wr).alloc o).drew)).frozen 3
            have hwsz : wo.heap.size < wr.heap.size := hb.lt
            have ag : vB.ownBlock ≠ some wo.heap.size := fun e => by have := (hob.lt _ e).1; omega
            have al : vB.ownBlock ≠ some lb := fun e => by have := (hob.lt _ e).1; omega
            have HB := Lib.hid hb
            have HO := Lib.hid hob
            obtain ⟨X, hX⟩ : ∃ X : Int, X = IntKind.u8.wrap (z / 2 ^ min (IntKind.u64.wrap (j : Int)).toNat 64) := ⟨_, rfl⟩
            have HX := Lib.hid hX
            clear ckA hb ck hob hX
            go_wp2_with fail
            go_region_law
              ((refine step_append_lies _ (by rfl) _ _ _ (by rfl) (wo.heap.size + 1) 5 i0 _ 1 1 Try.underlying24 hi hz0 hz1 hz2 rfl (by omega) vB (vbs bs).length (vbs bs) (by rfl) ((World.ownsRow.alloc hob' _).drew) ⟨wr.heap.size, 0, none⟩ 1 1 [.int .u8 (IntKind.u8.wrap (z / 2 ^ min (IntKind.u64.wrap (j : Int)).toNat 64))] (by rfl) (by rfl) (World.news_of_block (cs := #[.int .u8 (IntKind.u8.wrap (z / 2 ^ min (IntKind.u64.wrap (j : Int)).toNat 64))]) (t := 5) (fr := (0, 0)) (heap_alloc_new wr _)) (by simp [Value.oneCell']) (by omega) (by simp only [maxLen]; omega) (by omega) (by simp; omega) (wr.heap.size + 1) (by simp) ?_; intro gg cap w1 hown1 hgrow hat hlt1; have c3w := (hgrow.cell_far ⟨wo.heap.size, 3, none⟩ (by simp; omega) (Ne.symm ag)).trans (c3A _); have f3w := (hgrow.frozen_far ⟨wo.heap.size, 3, none⟩ (by simp; omega) (Ne.symm ag)).trans (f3A _)))
            go_wp2
            all_goals
              have hb1 : Blk w1 wo.heap.size 47 [.int .i64 3, .int .u64 0, .int .i64 0, vB, .slice none 0 0] := (World.grownBy.block hgrow wo.heap.size (by simp; omega) (Ne.symm ag)).trans (HB.out.ext (((Ext.refl wr).alloc _).drew))
              refine ⟨⟨j + 1, _, bs ++ [UInt8.ofNat (IntKind.u8.wrap (z / 2 ^ min (IntKind.u64.wrap (j : Int)).toNat 64)).toNat], by go_num, by omega, by simp; omega, hb1.set 3 _, (own_snocb hown1 (wrap_u8r _)).chg (Chg.set wo.heap.size 3 w1 _) (fun e => by have := (hown1.lt _ e).1; omega), ((hxj.trans (((Ext.refl wr).alloc _).drew)).grown hgrow (fun q e => by have := (HO.out.lt q e).1; omega)).setCell (Nat.le_refl _) _⟩, by simp [intOf]; omega⟩
          · have hjn : ¬ ((j : Int) < n % 10) := hjlt
            have c0 := hb.cell 0
            have c1 := hb.cell 1
            have c2 := hb.cell 2
            have c3 := hb.cell 3
            have c4 := hb.cell 4
            simp only [List.getElem?_cons_succ, List.getElem?_cons_zero] at c0 c1 c2 c3 c4
            have hrb := hob.rd
            have htb := hob.ty
            obtain ⟨AB, mB, cB, hvB⟩ := hob.shape
            subst hvB
            have hwsz : wo.heap.size < wr.heap.size := hb.lt
            clear ckA hb hob hjlt
            go_wp2_with (at_builtin; go_loud (refine wpList_appV _ rfl (.tmp 101) (.tmp 103) rfl w.heap.size _ xs rfl (ho.ext (hxj.trans ((Ext.refl wr).alloc _))) ⟨wr.heap.size, 0, none⟩ 1 1 [vS bs] [[.int .i64 3, .int .u64 0, .int .i64 0, .slice AB mB cB, .slice none 0 0]] rfl rfl (VFlds.one (vfld_mk _ _ _ (hrb.ext ((Ext.refl wr).alloc _)) (htb.ext ((Ext.refl wr).alloc _)) (Rd.nil _) (Ty.nil _ _ _ _))) (news_new _ _ rfl _ _) (by omega) (by simp; omega) ?_); intro v1 w1 ho1 hg1 _)
            have hlt1 : Ext w w1 := (hxr.trans (hxj.trans ((Ext.refl wr).alloc _))).grown hg1 (fun k e => (ho.lt k e).1)
            go_roundw
            case rel => exact ⟨k + 1, xs ++ [vS bs], by omega, by omega, by go_num, by simp; omega, ho1, hlt1, Lib.hid (by
              intro x hx
              rcases List.mem_append.1 hx with hx | hx
              · exact hok.out x hx
              · simp only [List.mem_singleton] at hx
                subst hx
                exact small_S bs (by omega))⟩
            case measure => simp [intOf]; omega
      · have hm0 : 0 ≤ n % 10 := by omega
        have hm1 : n % 10 ≤ 10 := by omega
        go_wp2_with fail
        go_loopw [8] (fun ji wj => ∃ j : Nat, ∃ vB : Value, ∃ bs : List UInt8, ji = .int .i64 j ∧ (j : Int) ≤ n % 10 ∧ bs.length = j ∧ Blk wj wo.heap.size 47 [.int .i64 4, .int .u64 0, .int .i64 0, vB, .slice none 0 0] ∧ Own wj (wo.heap.size + 1) 5 vB (vbs bs) ∧ Ext wo wj) (fun ji _ => (10 - intOf ji).toNat)
        case atStart => exact ⟨0, .slice none 0 0, [], rfl, by omega, rfl, Blk.new wo _ _, Own.nil _ _ _, (Ext.refl wo).alloc _⟩
        case round =>
          obtain ⟨j, vB, bs, rfl, hj1, hjl, hb, hob, hxj⟩ := hrel
          by_cases hjlt : (j : Int) < n % 10
          · have c3 := hb.cell 3
            have f3 := hb.frozen 3
            simp only [List.getElem?_cons_succ, List.getElem?_cons_zero] at c3
            have cj := hxj.cell ck
            have hlb : lb < wo.heap.size := World.block_lt_of_cell? wo _ ck
            have hsj := hxj.size
            have hob' : wr.ownsRow (wo.heap.size + 1) 5 1 vB (vbs bs).length (vbs bs) := hob
            have hbl : (vbs bs).length ≤ 10 := by rw [vbs_len]; omega
            have hk0 : (0 : Int) ≤ (k : Int) := by omega
            have hk1 : (k : Int) < (zs.length : Int) := by omega
            have c3A : ∀ o, (wr.alloc o).drew.cell? ⟨wo.heap.size, 3, none⟩ = some vB := fun o => (((Ext.refl wr).alloc o).drew).cell c3
            have cjA : ∀ o, (wr.alloc o).drew.cell? ⟨lb, off + k, none⟩ = some (.int .i64 z) := fun o => (((Ext.refl wr).alloc o).drew).cell cj
            have f3A : ∀ o, (wr.alloc o).drew.frozen? ⟨wo.heap.size, 3, none⟩ = false := fun o => (hb.ext (((Ext.refl wr).alloc o).drew)).frozen 3
            have hwsz : wo.heap.size < wr.heap.size := hb.lt
            have ag : vB.ownBlock ≠ some wo.heap.size := fun e => by have := (hob.lt _ e).1; omega
            have al : vB.ownBlock ≠ some lb := fun e => by have := (hob.lt _ e).1; omega
            have HB := Lib.hid hb
            have HO := Lib.hid hob
            obtain ⟨X, hX⟩ : ∃ X : Int, X = IntKind.u8.wrap (z / 2 ^ min (IntKind.u64.wrap (j : Int)).toNat 64) := ⟨_, rfl⟩
            have HX := Lib.hid hX
            clear ckA hb ck hob hX
            go_wp2_with fail
            go_region_law
              ((refine step_append_lies _ (by rfl) _ _ _ (by rfl) (wo.heap.size + 1) 5 i0 _ 1 1 Try.underlying24 hi hz0 hz1 hz2 rfl (by omega) vB (vbs bs).length (vbs bs) (by rfl) ((World.ownsRow.alloc hob' _).drew) ⟨wr.heap.size, 0, none⟩ 1 1 [.int .u8 (IntKind.u8.wrap (z / 2 ^ min (IntKind.u64.wrap (j : Int)).toNat 64))] (by rfl) (by rfl) (World.news_of_block (cs := #[.int .u8 (IntKind.u8.wrap (z / 2 ^ min (IntKind.u64.wrap (j : Int)).toNat 64))]) (t := 5) (fr := (0, 0)) (heap_alloc_new wr _)) (by simp [Value.oneCell']) (by omega) (by simp only [maxLen]; omega) (by omega) (by simp; omega) (wr.heap.size + 1) (by simp) ?_; intro gg cap w1 hown1 hgrow hat hlt1; have c3w := (hgrow.cell_far ⟨wo.heap.size, 3, none⟩ (by simp; omega) (Ne.symm ag)).trans (c3A _); have f3w := (hgrow.frozen_far ⟨wo.heap.size, 3, none⟩ (by simp; omega) (Ne.symm ag)).trans (f3A _)))
            go_wp2
            all_goals
              have hb1 : Blk w1 wo.heap.size 47 [.int .i64 4, .int .u64 0, .int .i64 0, vB, .slice none 0 0] := (World.grownBy.block hgrow wo.heap.size (by simp; omega) (Ne.symm ag)).trans (HB.out.ext (((Ext.refl wr).alloc _).drew))
              refine ⟨⟨j + 1, _, bs ++ [UInt8.ofNat (IntKind.u8.wrap (z / 2 ^ min (IntKind.u64.wrap (j : Int)).toNat 64)).toNat], by go_num, by omega, by simp; omega, hb1.set 3 _, (own_snocb hown1 (wrap_u8r _)).chg (Chg.set wo.heap.size 3 w1 _) (fun e => by have := (hown1.lt _ e).1; omega), ((hxj.trans (((Ext.refl wr).alloc _).drew)).grown hgrow (fun q e => by have := (HO.out.lt q e).1; omega)).setCell (Nat.le_refl _) _⟩, by simp [intOf]; omega⟩
          · have hjn : ¬ ((j : Int) < n % 10) := hjlt
            have c0 := hb.cell 0
            have c1 := hb.cell 1
            have c2 := hb.cell 2
            have c3 := hb.cell 3
            have c4 := hb.cell 4
            simp only [List.getElem?_cons_succ, List.getElem?_cons_zero] at c0 c1 c2 c3 c4
            have hrb := hob.rd
            have htb := hob.ty
            obtain ⟨AB, mB, cB, hvB⟩ := hob.shape
            subst hvB
            have hwsz : wo.heap.size < wr.heap.size := hb.lt
            clear ckA hb hob hjlt
            go_wp2_with (at_builtin; go_loud (refine wpList_appV _ rfl (.tmp 101) (.tmp 103) rfl w.heap.size _ xs rfl (ho.ext (hxj.trans ((Ext.refl wr).alloc _))) ⟨wr.heap.size, 0, none⟩ 1 1 [vR bs] [[.int .i64 4, .int .u64 0, .int .i64 0, .slice AB mB cB, .slice none 0 0]] rfl rfl (VFlds.one (vfld_mk _ _ _ (hrb.ext ((Ext.refl wr).alloc _)) (htb.ext ((Ext.refl wr).alloc _)) (Rd.nil _) (Ty.nil _ _ _ _))) (news_new _ _ rfl _ _) (by omega) (by simp; omega) ?_); intro v1 w1 ho1 hg1 _)
            have hlt1 : Ext w w1 := (hxr.trans (hxj.trans ((Ext.refl wr).alloc _))).grown hg1 (fun k e => (ho.lt k e).1)
            go_roundw
            case rel => exact ⟨k + 1, xs ++ [vR bs], by omega, by omega, by go_num, by simp; omega, ho1, hlt1, Lib.hid (by
              intro x hx
              rcases List.mem_append.1 hx with hx | hx
              · exact hok.out x hx
              · simp only [List.mem_singleton] at hx
                subst hx
                exact small_R bs (by omega))⟩
            case measure => simp [intOf]; omega
      · have hm0 : 0 ≤ n % 5 := by omega
        have hm1 : n % 5 ≤ 5 := by omega
        go_wp2_with fail
        go_loopw [9] (fun ji wj => ∃ j : Nat, ∃ vB : Value, ∃ bs : List Int, ji = .int .i64 j ∧ (j : Int) ≤ n % 5 ∧ bs.length = j ∧ Blk wj wo.heap.size 47 [.int .i64 5, .int .u64 0, .int .i64 0, .slice none 0 0, vB] ∧ Own wj (wo.heap.size + 1) 3 vB (vis bs) ∧ Ext wo wj ∧ Hid (∀ x ∈ bs, inI64 x)) (fun ji _ => (5 - intOf ji).toNat)
        case atStart => exact ⟨0, .slice none 0 0, [], rfl, by omega, rfl, Blk.new wo _ _, Own.nil _ _ _, (Ext.refl wo).alloc _, Lib.hid (by simp)⟩
        case round =>
          obtain ⟨j, vB, bs, rfl, hj1, hjl, hb, hob, hxj, hbs⟩ := hrel
          by_cases hjlt : (j : Int) < n % 5
          · have c3 := hb.cell 4
            have f3 := hb.frozen 4
            simp only [List.getElem?_cons_succ, List.getElem?_cons_zero] at c3
            have cj := hxj.cell ck
            have hlb : lb < wo.heap.size := World.block_lt_of_cell? wo _ ck
            have hsj := hxj.size
            have hob' : wr.ownsRow (wo.heap.size + 1) 3 1 vB (vis bs).length (vis bs) := hob
            have hbl : (vis bs).length ≤ 5 := by rw [vis_len]; omega
            have hk0 : (0 : Int) ≤ (k : Int) := by omega
            have hk1 : (k : Int) < (zs.length : Int) := by omega
            have c3A : ∀ o, (wr.alloc o).drew.cell? ⟨wo.heap.size, 4, none⟩ = some vB := fun o => (((Ext.refl wr).alloc o).drew).cell c3
            have cjA : ∀ o, (wr.alloc o).drew.cell? ⟨lb, off + k, none⟩ = some (.int .i64 z) := fun o => (((Ext.refl wr).alloc o).drew).cell cj
            have f3A : ∀ o, (wr.alloc o).drew.frozen? ⟨wo.heap.size, 4, none⟩ = false := fun o => (hb.ext (((Ext.refl wr).alloc o).drew)).frozen 4
            have hwsz : wo.heap.size < wr.heap.size := hb.lt
            have ag : vB.ownBlock ≠ some wo.heap.size := fun e => by have := (hob.lt _ e).1; omega
            have al : vB.ownBlock ≠ some lb := fun e => by have := (hob.lt _ e).1; omega
            have HB := Lib.hid hb
            have HO := Lib.hid hob
            obtain ⟨X, hX⟩ : ∃ X : Int, X = z / 2 ^ min (IntKind.u64.wrap (IntKind.i64.wrap (13 * (j : Int)))).toNat 64 := ⟨_, rfl⟩
            have HX := Lib.hid hX
            clear ckA hb ck hob hX
            go_wp2_with fail
            go_region_law
              ((refine step_append_lies _ (by rfl) _ _ _ (by rfl) (wo.heap.size + 1) 3 i1 _ 1 8 Try.underlying33 hj hy0 hy1 hy2 rfl (by omega) vB (vis bs).length (vis bs) (by rfl) ((World.ownsRow.alloc hob' _).drew) ⟨wr.heap.size, 0, none⟩ 1 1 [.int .i64 (z / 2 ^ min (IntKind.u64.wrap (IntKind.i64.wrap (13 * (j : Int)))).toNat 64)] (by rfl) (by rfl) (World.news_of_block (cs := #[.int .i64 (z / 2 ^ min (IntKind.u64.wrap (IntKind.i64.wrap (13 * (j : Int)))).toNat 64)]) (t := 3) (fr := (0, 0)) (heap_alloc_new wr _)) (by simp [Value.oneCell']) (by omega) (by simp only [maxLen]; omega) (by omega) (by simp; omega) (wr.heap.size + 1) (by simp) ?_; intro gg cap w1 hown1 hgrow hat hlt1; have c3w := (hgrow.cell_far ⟨wo.heap.size, 4, none⟩ (by simp; omega) (Ne.symm ag)).trans (c3A _); have f3w := (hgrow.frozen_far ⟨wo.heap.size, 4, none⟩ (by simp; omega) (Ne.symm ag)).trans (f3A _)))
            go_wp2
            all_goals
              have hb1 : Blk w1 wo.heap.size 47 [.int .i64 5, .int .u64 0, .int .i64 0, .slice none 0 0, vB] := (World.grownBy.block hgrow wo.heap.size (by simp; omega) (Ne.symm ag)).trans (HB.out.ext (((Ext.refl wr).alloc _).drew))
              refine ⟨⟨j + 1, _, bs ++ [z / 2 ^ min (IntKind.u64.wrap (IntKind.i64.wrap (13 * (j : Int)))).toNat 64], by go_num, by omega, by simp; omega, hb1.set 4 _, (own_snoci hown1).chg (Chg.set wo.heap.size 4 w1 _) (fun e => by have := (hown1.lt _ e).1; omega), ((hxj.trans (((Ext.refl wr).alloc _).drew)).grown hgrow (fun q e => by have := (HO.out.lt q e).1; omega)).setCell (Nat.le_refl _) _, Lib.hid (by intro x hx; rcases List.mem_append.1 hx with hx | hx; exact hbs.out x hx; simp only [List.mem_singleton] at hx; subst hx; exact div_pow_range z _ HZ.out)⟩, by simp [intOf]; omega⟩
          · have hjn : ¬ ((j : Int) < n % 5) := hjlt
            have c0 := hb.cell 0
            have c1 := hb.cell 1
            have c2 := hb.cell 2
            have c3 := hb.cell 3
            have c4 := hb.cell 4
            simp only [List.getElem?_cons_succ, List.getElem?_cons_zero] at c0 c1 c2 c3 c4
            have hrb := hob.rd
            have htb := hob.ty
            obtain ⟨AB, mB, cB, hvB⟩ := hob.shape
            subst hvB
            have hwsz : wo.heap.size < wr.heap.size := hb.lt
            clear ckA hb hob hjlt
            go_wp2_with (at_builtin; go_loud (refine wpList_appV _ rfl (.tmp 101) (.tmp 103) rfl w.heap.size _ xs rfl (ho.ext (hxj.trans ((Ext.refl wr).alloc _))) ⟨wr.heap.size, 0, none⟩ 1 1 [vL bs] [[.int .i64 5, .int .u64 0, .int .i64 0, .slice none 0 0, .slice AB mB cB]] rfl rfl (VFlds.one (vfld_mk _ _ _ (Rd.nil _) (Ty.nil _ _ _ _) (hrb.ext ((Ext.refl wr).alloc _)) (htb.ext ((Ext.refl wr).alloc _)))) (news_new _ _ rfl _ _) (by omega) (by simp; omega) ?_); intro v1 w1 ho1 hg1 _)
            have hlt1 : Ext w w1 := (hxr.trans (hxj.trans ((Ext.refl wr).alloc _))).grown hg1 (fun k e => (ho.lt k e).1)
            go_roundw
            case rel => exact ⟨k + 1, xs ++ [vL bs], by omega, by omega, by go_num, by simp; omega, ho1, hlt1, Lib.hid (by
              intro x hx
              rcases List.mem_append.1 hx with hx | hx
              · exact hok.out x hx
              · simp only [List.mem_singleton] at hx
                subst hx
                exact small_L bs (by omega) hbs.out)⟩
            case measure => simp [intOf]; omega
    · have hkl : ¬ ((k : Int) < (zs.length : Int) ∧ (k : Int) < 8) := by omega
      clear a3 hz
      rcases Nat.lt_or_ge k zs.length with h | h
      · have h8 : k = 8 := by omega
        subst h8
        go_wp2
        go_ret
        exact ⟨_, xs, rfl, ho, by omega, hok.out, hxr⟩
      · go_wp2
        go_ret
        exact ⟨_, xs, rfl, ho, by omega, hok.out, hxr⟩
end Go.Proofs.Ytfkdaipmbakomaa
