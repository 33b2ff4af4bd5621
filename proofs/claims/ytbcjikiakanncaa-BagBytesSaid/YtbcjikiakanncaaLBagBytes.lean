/- BagBytes: the walk of the law. -/
import Derived.Test.YtbcjikiakanncaaBl
import Derived.Test.YtbcjikiakanncaaBb1
import Derived.Test.YtbcjikiakanncaaBb2
namespace Go.Proofs.Ytbcjikiakanncaa
open Go.RowKit
set_option linter.unusedVariables false
set_option linter.unusedSimpArgs false

theorem info_bsl : (Try.prog.info? 34).map (fun i => (i.zero, i.size, i.bytes)) = some (some (.slice none 0 0), 1, 24) := by kernel_rfl
theorem rd_of_block {w w' : World} {v : Value} {xs : List Value} (h : Rd w v xs) (hk : ∀ k, v.ownBlock = some k → w'.heap[k]? = w.heap[k]?) : Rd w' v xs := by
  obtain ⟨A, c, rfl, h1, h2, h3⟩ := h
  refine ⟨A, c, rfl, h1, h2, ?_⟩
  rcases h3 with h3 | ⟨b, off, rfl, hc⟩
  · exact .inl h3
  · exact .inr ⟨b, off, rfl, fun j u hu => (World.cell?_of_block (hk b rfl)).trans (hc j u hu)⟩
theorem rd_take {w : World} {A : Option Addr} {n c : Nat} {xs : List Value} (h : Rd w (.slice A n c) xs) (j : Nat) (hj : j ≤ n) : Rd w (.slice A j c) (xs.take j) := by
  obtain ⟨A', c1, hv, h1, h2, h3⟩ := h
  injection hv with e1 e2 e3
  subst e1 e2 e3
  have hl : (xs.take j).length = j := by simp; omega
  refine ⟨A, c, by rw [hl], by rw [hl]; omega, h2, ?_⟩
  rcases h3 with rfl | ⟨b, o, hA, hc⟩
  · exact .inl (by simp)
  · refine .inr ⟨b, o, hA, fun i u hu => hc i u ?_⟩
    rw [List.getElem?_take] at hu
    split at hu
    · exact hu
    · cases hu
/-- an element of the row of codes: it reads as bytes, and does not lie in the row's own block -/
def El (w : World) (row : Option Nat) (v : Value) : Prop := ∃ bs : List UInt8, bs.length ≤ 1000000 ∧ Rd w v (vbs bs) ∧ (bs = [] ∨ ∀ k, v.ownBlock = some k → k < w.heap.size ∧ row ≠ some k)
theorem El.ext {w w' : World} {row : Option Nat} {v : Value} (h : El w row v) (hx : Ext w w') : El w' row v := by
  obtain ⟨bs, h1, h2, h3⟩ := h
  refine ⟨bs, h1, h2.ext hx, h3.imp id fun h k hk => ⟨by have := (h k hk).1; have := hx.size; omega, (h k hk).2⟩⟩
theorem rd_nil_any {w w' : World} {v : Value} (h : Rd w v (vbs [])) : Rd w' v (vbs []) := by
  obtain ⟨A, c, rfl, h1, h2, -⟩ := h
  exact ⟨A, c, rfl, h1, h2, .inl rfl⟩
theorem El.app {w w' : World} {row row' : Option Nat} {v : Value} (h : El w row v) (hg : w.grownBy w' row) (hr : row' = row ∨ row' = some w.heap.size) : El w' row' v := by
  obtain ⟨bs, h1, h2, h3⟩ := h
  rcases h3 with rfl | h3
  · exact ⟨[], h1, rd_nil_any h2, .inl rfl⟩
  · refine ⟨bs, h1, rd_of_block h2 fun k hk => World.grownBy.block hg k (h3 k hk).1 (fun e => (h3 k hk).2 e.symm), .inr fun k hk => ⟨?_, ?_⟩⟩
    · have := (h3 k hk).1
      have := World.grownBy.size hg
      omega
    · have h4 := h3 k hk
      rcases hr with rfl | rfl
      · exact h4.2
      · intro e
        injection e with e
        omega
theorem El.of_own {w : World} {base : Nat} {v : Value} {bs : List UInt8} {row : Option Nat} (h : Own w base 5 v (vbs bs)) (hl : bs.length ≤ 1000000) (hr : ∀ k, row = some k → k < base) : El w row v :=
  ⟨bs, hl, h.rd, .inr fun k hk => ⟨(h.lt k hk).2, fun e => by have := hr k e; have := (h.lt k hk).1; omega⟩⟩

theorem bagW_len (b : List Int) : (bagW b).length ≤ 1400 := by
  unfold bagW
  split
  · rename_i h
    have hl := isB_len h
    have h1 := uvar_len10 (zig b.length) (zig_range _ (by unfold inI64; omega)).2
    have h2 := amtsB_len b
    have h3 := uvar_len10 (zig (amtsB b).length) (zig_range _ (by unfold inI64; omega)).2
    have h4 := pairsW_len (amtsB b) (amtsB_ok b)
    simp only [List.length_append]
    omega
  · simp
theorem bagW_pos {b : List Int} (h : isB b = true) : 0 < (bagW b).length := by
  unfold bagW
  rw [if_pos h]
  have h1 := uvar_pos (zig b.length)
  simp only [List.length_append]
  omega

set_option maxRecDepth 100000 in
set_option maxHeartbeats 8000000 in
theorem BagBytes_law (w : World) (n : Int) (hn : inI64 n) (v1 : Value) (z1 : List Int) (h1 : Rd w v1 (vis z1)) (hz1 : ∀ n ∈ z1, inI64 n) (at_ : Int) (hat : inI64 at_) (by_ : Int) (hby : inI64 by_) (vr : Value) (raw : List UInt8) (hraw : Rd w vr (vbs raw)) :
    Calls Try.prog 11 #[.int .i64 n, v1, .int .i64 at_, .int .i64 by_, vr] w fun e w' => e = .returned (.bool true) ∧ Ext w w' := by
  obtain ⟨i0, hi, hz0, hz1', hz2⟩ := info_parts info_u8
  obtain ⟨j0, hj, hy0, hy1, hy2⟩ := info_parts info_bsl
  go_enter Try.func11, Try.ntmps11
  go_wp2_with fail
  refine (bags_any n v1 z1 at_ by_ _ hn h1 hz1 hat hby).mono ?_
  rintro e w1 ⟨vb, L, rfl, hB, hok, hx1⟩
  clear h1 hz1
  obtain ⟨g, f, rfl, hc⟩ := hB
  have HC := Lib.hid hc
  have HOK := Lib.hid hok
  clear hc hok
  have hraw1 := hraw.ext hx1
  obtain ⟨A, c, hv, -⟩ := id hraw1
  subst hv
  rw [vbs_len] at hraw1
  obtain ⟨-, r2, r3, -⟩ := hraw1.at
  simp only [maxLen] at r3
  obtain ⟨m, hm, hml, hm30⟩ : ∃ m : Nat, (if (30 : Int) < raw.length then (30 : Int) else raw.length) = (m : Int) ∧ m ≤ raw.length ∧ m ≤ 30 := by
    by_cases h : (30 : Int) < raw.length
    · exact ⟨30, by rw [if_pos h]; rfl, by omega, by omega⟩
    · exact ⟨raw.length, by rw [if_neg h], by omega, by omega⟩
  have hrt := rd_take hraw1 m hml
  rw [show List.take m (vbs raw) = vbs (raw.take m) by simp [vbs]] at hrt
  have hst := Src.rd hrt
  rw [vbs_len]
  have hm0 : (0 : Int) ≤ m := by omega
  have hmc : (m : Int) ≤ c := by omega
  have hml2 : (vbs (raw.take m)).length ≤ 30 := by rw [vbs_len]; simp; omega
  go_wp2_with (at_builtin; refine wpList_app _ rfl (.tmp 26) (.tmp 31) _ rfl w1.heap.size 5 i0 _ 1 Try.underlying34 hi hz0 hz1' hz2 rfl (by omega) _ [] rfl (Own.lit0 w1 5) A m c (vbs (raw.take m)) rfl (hst.ext ((Ext.refl w1).alloc _)) ?_ ?_ ?_ ?_; exact vbs_one _; (simp; omega); (simp); intro v2 w2 ho2 hg2 _; rw [List.nil_append] at ho2; obtain ⟨A2, m2, c2, rfl⟩ := ho2.shape)
  have hx2 : Ext w1 w2 := ((Ext.refl w1).alloc _).grown hg2 (fun k e => ((Own.lit0 w1 5).lt k e).1)
  have hel : El w2 (some w2.heap.size) (.slice A2 m2 c2) := ⟨raw.take m, by rw [vbs_len] at hml2; omega, ho2.rd, .inr fun k hk => ⟨(ho2.lt k hk).2, fun e => by injection e with e; have := (ho2.lt k hk).2; omega⟩⟩
  have hoc := (Own.lit w2 [.slice A2 m2 c2] 34 (by simp) (by simp)).mono hx2.size
  have hel2 := hel.ext ((Ext.refl w2).alloc (.cells #[.slice A2 m2 c2] 34))
  have hx3 := hx2.alloc (.cells #[.slice A2 m2 c2] 34)
  have HI := Lib.hid (And.intro hx1 (And.intro hn hby))
  clear hel ho2 hg2 hst hrt hraw1 hraw hml hml2 hm hm30 hm0 hmc r2 r3
  go_loopw [13, 12] (fun i vC wr => ∃ (k : Nat) (vs : List Value), k ≤ 3 ∧ i = .int .i64 k ∧ Own wr w1.heap.size 34 vC vs ∧ (∀ v ∈ vs, El wr vC.ownBlock v) ∧ vs.length ≤ 1 + 2 * k ∧ Ext w1 wr) (fun i _ _ => 3 - (intOf i).toNat)
  case atStart => exact ⟨0, _, by omega, rfl, hoc, fun v hv => by simp only [List.mem_singleton] at hv; subst hv; exact hel2, by simp, hx3⟩
  case round =>
    obtain ⟨i, vs, hi3, rfl, hC, hE, hvl, hxo⟩ := hrel
    clear hoc hel2 hx3 hx2
    by_cases hlt : i < 3
    · have i1 : (i : Int) < 3 := by omega
      have i0' : (0 : Int) ≤ (i : Int) := by omega
      obtain ⟨ci, hri⟩ := HC.out i hlt
      obtain ⟨hai, hal⟩ := HOK.out i hlt
      have ei := hxo.cell ci
      generalize f i = va at *
      generalize L i = a at *
      have hbl := bagW_len a
      have HBL := Lib.hid (And.intro hbl hal)
      clear hai hal hbl
      have hvl2 : vs.length ≤ 7 := by omega
      go_wp2_with fail
      refine (encodeB_any _ a _ (hri.ext hxo)).mono ?_
      rintro e w3 ⟨v3, rfl, ho3, hx3⟩
      have hxS := hxo.trans hx3
      have ei := hxS.cell ci
      go_wp2_with fail
      refine (encodeR_any _ a _ (hri.ext hxS)).mono ?_
      rintro e w4 ⟨v4, rfl, ho4, hx4⟩
      go_wp2_with fail
      refine (bytesAre_any _ _ _ _ _ (ho3.rd.ext hx4) ho4.rd).mono ?_
      rintro e w5 ⟨rfl, rfl⟩
      rw [decide_eq_true rfl]
      replace hxS := hxS.trans hx4
      replace hx3 := hx3.trans hx4
      have ei := hxS.cell ci
      replace ho3 := ho3.ext hx4
      clear ho4 hx4
      go_wp2_with fail
      refine (isR_any _ a _ (hri.ext hxS)).mono ?_
      rintro e w6 ⟨rfl, rfl⟩
      rcases hc : isB a with _ | _
      · clear hc
        have hC2 := hC.ext hx3
        go_wp2
        go_roundw
        case rel => exact ⟨i + 1, vs, by omega, by go_num, hC2, fun v hv => (hE v hv).ext hx3, by omega, hxS⟩
        case measure => simp [intOf]; omega
      · have HDB := Lib.hid (decode_back hc)
        have hbp := bagW_pos hc
        have hbl := HBL.out.1
        clear hc
        go_wp2_with fail
        refine (decode_any _ (bagW a) _ ho3.rd (by omega)).mono ?_
        rintro e w7 ⟨v7, rfl, ho7, hx7⟩
        rw [HDB.out] at ho7 ⊢
        replace hxS := hxS.trans hx7
        replace hx3 := hx3.trans hx7
        have ei := hxS.cell ci
        replace ho3 := ho3.ext hx7
        go_wp2_with fail
        refine (same3_any _ _ a a _ ho7.rd (hri.ext hxS)).mono ?_
        rintro e w8 ⟨rfl, hx8⟩
        rw [decide_eq_true rfl]
        replace hxS := hxS.trans hx8
        replace hx3 := hx3.trans hx8
        replace ho3 := ho3.ext hx8
        clear ho7 hx7 hx8 ei ci hri HDB
        generalize bagW a = B at *
        obtain ⟨g3, c3, rfl, hn3⟩ := ho3.newsAt (by rw [vbs_len]; exact hbp)
        have hs3 := Src.rd ho3.rd
        rw [vbs_len] at *
        go_wp2_with (at_builtin; refine wpList_app _ rfl (.tmp 72) (.tmp 73) _ rfl w8.heap.size 5 i0 _ 1 Try.underlying34 hi hz0 hz1' hz2 rfl (by omega) _ [] rfl (Own.lit0 w8 5) (some ⟨g3, 0, none⟩) B.length c3 (vbs B) rfl (hs3.ext ((Ext.refl w8).alloc _)) ?_ ?_ ?_ ?_; exact vbs_one _; (simp; omega); (simp); intro v9 w9 ho9 hg9 _; rw [List.nil_append] at ho9; have hx9 : Ext w8 w9 := ((Ext.refl w8).alloc _).grown hg9 (fun k e => ((Own.lit0 w8 5).lt k e).1); obtain ⟨g9, c9, rfl, hn9⟩ := ho9.newsAt (by rw [vbs_len]; exact hbp); rw [vbs_len])
        have hbl0 : (0 : Int) < (B.length : Int) := by omega
        refine (around3_any at_ (B.length : Int) _ hat hbl0 (by omega)).mono ?_
        rintro e w10 ⟨rfl, rfl⟩
        have hj0 := Int.emod_nonneg at_ (show (B.length : Int) ≠ 0 by omega)
        have hj1 := Int.emod_lt_of_pos at_ hbl0
        obtain ⟨j, hj2⟩ : ∃ j : Nat, at_ % (B.length : Int) = (j : Int) := ⟨(at_ % (B.length : Int)).toNat, by omega⟩
        rw [hj2] at hj0 hj1 ⊢
        clear hj2
        go_wp2_with fail
        refine (around3_any by_ 256 _ HI.out.2.2 (by omega) (by omega)).mono ?_
        rintro e w10 ⟨rfl, rfl⟩
        have hq0 := Int.emod_nonneg by_ (show (256 : Int) ≠ 0 by omega)
        have hq1 := Int.emod_lt_of_pos by_ (show (0 : Int) < 256 by omega)
        generalize by_ % 256 = q at *
        have hqw : IntKind.u8.wrap q = q := by rw [IntKind.wrap_u8]; omega
        have hjl : j < B.length := by omega
        obtain ⟨⟨u, hcu⟩, hfu, hset⟩ := Own.fill ho9 (k := j) (by rw [vbs_len]; exact hjl)
        have hset := hset (.int .u8 q)
        rw [vbs_len, show (vbs B).set j (.int .u8 q) = vbs (B.set j (UInt8.ofNat q.toNat)) by rw [vbs, vbs, List.map_set, ← ubyte_lo q hq0 hq1]] at hset
        have hg9 := (ho9.lt g9 rfl).1
        have hx10 : Ext w8 (w9.setCell ⟨g9, j, none⟩ (.int .u8 q)) := hx9.setCell hg9 _
        obtain ⟨p1, hp1⟩ : ∃ p1 : Nat, B.length = p1 + 1 := ⟨B.length - 1, by omega⟩
        have hpw : IntKind.i64.wrap ((B.length : Int) - 1) = (p1 : Int) := by rw [IntKind.wrap_i64] <;> omega
        have hcut := rd_take ho3.rd p1 (by omega)
        rw [show List.take p1 (vbs B) = vbs (B.take p1) by simp [vbs]] at hcut
        have hg3 := (ho3.lt g3 rfl)
        have hp0 : (0 : Int) ≤ (p1 : Int) := by omega
        have hpc : (p1 : Int) ≤ (c3 : Int) := by obtain ⟨-, h2, -⟩ := ho3.rd.at; omega
        have hx11 := hx3.trans hx10
        have hC10 := hC.ext hx11
        have hs2 : ∀ t, Src ((w9.setCell ⟨g9, j, none⟩ (.int .u8 q)).alloc (.cells #[.slice (some ⟨g9, 0, none⟩) B.length c9, .slice (some ⟨g3, 0, none⟩) p1 c3] t)) (some ⟨w9.heap.size, 0, none⟩) 2 [.slice (some ⟨g9, 0, none⟩) B.length c9, .slice (some ⟨g3, 0, none⟩) p1 c3] := fun t => by
          have := Src.rd (Rd.lit (w9.setCell ⟨g9, j, none⟩ (.int .u8 q)) [.slice (some ⟨g9, 0, none⟩) B.length c9, .slice (some ⟨g3, 0, none⟩) p1 c3] t (by simp))
          simpa using this
        have hsz11 := hx11.size
        have hszo := hxo.size
        have HB := Lib.hid hp1
        have eT : El (w9.setCell ⟨g9, j, none⟩ (.int .u8 q)) u12.ownBlock (.slice (some ⟨g9, 0, none⟩) B.length c9) := El.of_own hset (by simp; omega) (fun k hk => by have := (hC.lt k hk).2; have := hx3.size; omega)
        have eC : El (w9.setCell ⟨g9, j, none⟩ (.int .u8 q)) u12.ownBlock (.slice (some ⟨g3, 0, none⟩) p1 c3) := ⟨B.take p1, by simp; omega, hcut.ext hx10, .inr fun k hk => by
          simp only [Value.ownBlock, Option.some.injEq] at hk
          subst hk
          exact ⟨by have := hx10.size; omega, fun e => by have := (hC.lt _ e).2; omega⟩⟩
        have ET := Lib.hid eT
        have EC := Lib.hid eC
        clear hp1 hs3 hn3 hn9 hset eT eC
        go_wp2_with (at_builtin; refine wpList_app _ rfl (.tmp 84) (.tmp 91) _ rfl w1.heap.size 34 j0 _ 24 Try.underlying58 hj hy0 hy1 hy2 rfl (by omega) _ vs rfl (hC10.ext ((Ext.refl _).alloc _)) (some ⟨w9.heap.size, 0, none⟩) 2 2 [.slice (some ⟨g9, 0, none⟩) B.length c9, .slice (some ⟨g3, 0, none⟩) p1 c3] rfl (hs2 _) ?_ ?_ ?_ ?_; (simp [Value.oneCell']); (simp; omega); (simp at hsz11 ⊢; omega); intro v12 w12 ho12 hg12 hr12)
        have hx12 : Ext w1 w12 := ((hxo.trans hx11).alloc _).grown hg12 (fun k e => (hC.lt k e).1)
        have hall : ∀ v ∈ vs ++ [.slice (some ⟨g9, 0, none⟩) B.length c9, .slice (some ⟨g3, 0, none⟩) p1 c3], El w12 v12.ownBlock v := fun v hv => by
          refine El.app (row := u12.ownBlock) (El.ext ?_ ((Ext.refl _).alloc _)) hg12 hr12
          rcases List.mem_append.1 hv with hv | hv
          · exact (hE v hv).ext hx11
          · simp only [List.mem_cons, List.not_mem_nil, or_false] at hv
            rcases hv with rfl | rfl
            · exact ET.out
            · exact EC.out
        go_roundw
        case rel => exact ⟨i + 1, _, by omega, by go_num, ho12, hall, by simp; omega, hx12⟩
        case measure => simp [intOf]; omega
    · have i2 : ¬ ((i : Int) < 3) := by omega
      have HE := Lib.hid hE
      clear hE
      obtain ⟨AC, cC, rfl, hAC⟩ := hC.form'
      have hvl2 : vs.length ≤ 7 := by omega
      have hC0 := hC.rd
      obtain ⟨-, -, -, hcx⟩ := hC0.at
      clear hC0 hAC hC
      obtain ⟨wo, rfl⟩ : ∃ wo : World, wo = wr := ⟨_, rfl⟩
      go_wp2_with fail
      go_loopw [18] (fun i w' => ∃ k : Nat, k ≤ vs.length ∧ i = .int .i64 k ∧ Ext wo w') (fun i _ => vs.length - (intOf i).toNat)
      case atStart => exact ⟨0, by omega, rfl, Ext.refl _⟩
      case round =>
        obtain ⟨k, hk, rfl, hxr⟩ := hrel
        by_cases hkl : k < vs.length
        · obtain ⟨cb, off, rfl, hcy⟩ := hcx (by omega)
          have c0 := fun w' (hx : Ext wo w') => hcy w' hx k vs[k] (by simp)
          have c1 := c0 wr hxr
          obtain ⟨bs, hbl, hbr, -⟩ := HE.out vs[k] (by simp)
          have k0 : (0 : Int) ≤ k := by omega
          have k1 : (k : Int) < vs.length := by omega
          generalize vs[k] = v at *
          clear hcy hcx
          go_wp2_with fail
          refine (decode_any _ bs _ (hbr.ext hxr) hbl).mono ?_
          rintro e w3 ⟨v3, rfl, ho3, hx3⟩
          have hxS := hxr.trans hx3
          have c1 := c0 w3 hxS
          have hds := decode_sound bs
          obtain ⟨b, e, hde⟩ : ∃ b e, decodeB bs = (b, e) := ⟨_, _, rfl⟩
          rw [hde] at ho3 hds ⊢
          simp only at ho3 hds ⊢
          have r3 := ho3.rd
          clear hde hx3
          rcases hds with ⟨rfl, hbw⟩ | ⟨rfl, rfl⟩
          · have HBW := Lib.hid hbw
            obtain ⟨A3, m3, c3, rfl⟩ := ho3.shape
            clear hbw ho3
            go_wp2
            refine wp_region_held_drew (S := fun w' => w'.cell? ⟨cb, off + k, none⟩ = some v) (by kernel_rfl) (c0 _ hxS.drew) (fun hHeld => ?_)
            refine wpAnyH_take (i := 0) (oi := _) (v := .int .i64 0) rfl (by kernel_rfl) (by kernel_rfl) (by kernel_rfl) (fun _ _ _ h => h) (Or.inl ⟨by kernel_rfl, by (intro w hSw; (try dsimp only at hSw); go_simp)⟩) (by assumption) ?_
            try simp only [Act.put, List.setIfInBounds_toArray, List.set_cons_zero, List.set_cons_succ]
            refine wpAnyH_take (i := 1) (oi := _) (v := .bool false) rfl (by kernel_rfl) (by kernel_rfl) (by kernel_rfl) (fun _ _ _ h => h) (Or.inl ⟨by kernel_rfl, by (intro w hSw; (try dsimp only at hSw); go_simp)⟩) (by assumption) ?_
            try simp only [Act.put, List.setIfInBounds_toArray, List.set_cons_zero, List.set_cons_succ]
            refine wpAnyH_take (i := 2) (oi := _) (v := .bool false) rfl (by kernel_rfl) (by kernel_rfl) (by kernel_rfl) (fun _ _ _ h => h) (Or.inl ⟨by kernel_rfl, by (intro w hSw; (try dsimp only at hSw); go_simp)⟩) (by assumption) ?_
            try simp only [Act.put, List.setIfInBounds_toArray, List.set_cons_zero, List.set_cons_succ]
            refine wpAnyH_take (i := 3) (oi := _) (v := undef) rfl (by kernel_rfl) (by kernel_rfl) (by kernel_rfl) (fun _ _ _ h => h) (Or.inr ⟨by kernel_rfl, rfl⟩) (by assumption) ?_
            try simp only [Act.put, List.setIfInBounds_toArray, List.set_cons_zero, List.set_cons_succ]
            refine wpAnyH_take (i := 4) (oi := _) (v := undef) rfl (by kernel_rfl) (by kernel_rfl) (by kernel_rfl) (fun _ _ _ h => h) (Or.inr ⟨by kernel_rfl, rfl⟩) (by assumption) ?_
            try simp only [Act.put, List.setIfInBounds_toArray, List.set_cons_zero, List.set_cons_succ]
            refine wpAnyH_take (i := 5) (oi := _) (v := undef) rfl (by kernel_rfl) (by kernel_rfl) (by kernel_rfl) (fun _ _ _ h => h) (Or.inr ⟨by kernel_rfl, rfl⟩) (by assumption) ?_
            try simp only [Act.put, List.setIfInBounds_toArray, List.set_cons_zero, List.set_cons_succ]
            refine wpAnyH_take (i := 6) (oi := _) (v := undef) rfl (by kernel_rfl) (by kernel_rfl) (by kernel_rfl) (fun _ _ _ h => h) (Or.inr ⟨by kernel_rfl, rfl⟩) (by assumption) ?_
            try simp only [Act.put, List.setIfInBounds_toArray, List.set_cons_zero, List.set_cons_succ]
            refine wpAnyH_take (i := 7) (oi := _) (v := undef) rfl (by kernel_rfl) (by kernel_rfl) (by kernel_rfl) (fun _ _ _ h => h) (Or.inr ⟨by kernel_rfl, rfl⟩) (by assumption) ?_
            try simp only [Act.put, List.setIfInBounds_toArray, List.set_cons_zero, List.set_cons_succ]
            refine wpAnyH_take (i := 8) (oi := _) (v := undef) rfl (by kernel_rfl) (by kernel_rfl) (by kernel_rfl) (fun _ _ _ h => h) (Or.inr ⟨by kernel_rfl, rfl⟩) (by assumption) ?_
            try simp only [Act.put, List.setIfInBounds_toArray, List.set_cons_zero, List.set_cons_succ]
            refine wpAnyH_take (i := 9) (oi := _) (v := undef) rfl (by kernel_rfl) (by kernel_rfl) (by kernel_rfl) (fun _ _ _ h => h) (Or.inr ⟨by kernel_rfl, rfl⟩) (by assumption) ?_
            try simp only [Act.put, List.setIfInBounds_toArray, List.set_cons_zero, List.set_cons_succ]
            refine wpAnyH_take (i := 10) (oi := _) (v := .bool false) rfl (by kernel_rfl) (by kernel_rfl) (by kernel_rfl) (fun _ _ _ h => h) (Or.inl ⟨by kernel_rfl, by (intro w hSw; (try dsimp only at hSw); go_simp)⟩) (by assumption) ?_
            try simp only [Act.put, List.setIfInBounds_toArray, List.set_cons_zero, List.set_cons_succ]
            refine wpAnyH_take (i := 11) (oi := _) (v := .bool false) rfl (by kernel_rfl) (by kernel_rfl) (by kernel_rfl) (fun _ _ _ h => h) (Or.inl ⟨by kernel_rfl, by (intro w hSw; (try dsimp only at hSw); go_simp)⟩) (by assumption) ?_
            try simp only [Act.put, List.setIfInBounds_toArray, List.set_cons_zero, List.set_cons_succ]
            refine wpAnyH_take (i := 12) (oi := _) (v := .int .i64 0) rfl (by kernel_rfl) (by kernel_rfl) (by kernel_rfl) (fun _ _ _ h => h) (Or.inl ⟨by kernel_rfl, by (intro w hSw; (try dsimp only at hSw); go_simp)⟩) (by assumption) ?_
            try simp only [Act.put, List.setIfInBounds_toArray, List.set_cons_zero, List.set_cons_succ]
            refine wpAnyH_take (i := 13) (oi := _) (v := .bool true) rfl (by kernel_rfl) (by kernel_rfl) (by kernel_rfl) (fun _ _ _ h => h) (Or.inl ⟨by kernel_rfl, by (intro w hSw; (try dsimp only at hSw); go_simp)⟩) (by assumption) ?_
            try simp only [Act.put, List.setIfInBounds_toArray, List.set_cons_zero, List.set_cons_succ]
            refine wpAnyH_take (i := 14) (oi := _) (v := .bool true) rfl (by kernel_rfl) (by kernel_rfl) (by kernel_rfl) (fun _ _ _ h => h) (Or.inl ⟨by kernel_rfl, by (intro w hSw; (try dsimp only at hSw); go_simp)⟩) (by assumption) ?_
            try simp only [Act.put, List.setIfInBounds_toArray, List.set_cons_zero, List.set_cons_succ]
            refine wpAnyH_take (i := 15) (oi := _) (v := .slice A3 m3 c3) rfl (by kernel_rfl) (by kernel_rfl) (by kernel_rfl) (fun _ _ _ h => h) (Or.inl ⟨by kernel_rfl, by (intro w hSw; (try dsimp only at hSw); go_simp)⟩) (by assumption) ?_
            try simp only [Act.put, List.setIfInBounds_toArray, List.set_cons_zero, List.set_cons_succ]
            refine wpAnyH_take (i := 17) (oi := _) (v := .slice (some ⟨cb, off, none⟩) vs.length cC) rfl (by kernel_rfl) (by kernel_rfl) (by kernel_rfl) (fun _ _ _ h => h) (Or.inl ⟨by kernel_rfl, by (intro w hSw; (try dsimp only at hSw); go_simp)⟩) (by assumption) ?_
            try simp only [Act.put, List.setIfInBounds_toArray, List.set_cons_zero, List.set_cons_succ]
            refine wpAnyH_take (i := 18) (oi := _) (v := .int .i64 k) rfl (by kernel_rfl) (by kernel_rfl) (by kernel_rfl) (fun _ _ _ h => h) (Or.inl ⟨by kernel_rfl, by (intro w hSw; (try dsimp only at hSw); go_simp)⟩) (by assumption) ?_
            try simp only [Act.put, List.setIfInBounds_toArray, List.set_cons_zero, List.set_cons_succ]
            refine wpAnyH_take (i := 19) (oi := _) (v := .pointer (some ⟨cb, off + k, none⟩)) rfl (by kernel_rfl) (by kernel_rfl) (by kernel_rfl) (fun _ _ _ h => h) (Or.inl ⟨by kernel_rfl, by (intro w hSw; (try dsimp only at hSw); go_simp)⟩) (by assumption) ?_
            try simp only [Act.put, List.setIfInBounds_toArray, List.set_cons_zero, List.set_cons_succ]
            refine wpAnyH_take (i := 20) (oi := _) (v := v) rfl (by kernel_rfl) (by kernel_rfl) (by kernel_rfl) (fun _ _ _ h => h) (Or.inl ⟨by kernel_rfl, by (intro w hSw; (try dsimp only at hSw); go_simp)⟩) (by assumption) ?_
            try simp only [Act.put, List.setIfInBounds_toArray, List.set_cons_zero, List.set_cons_succ]
            refine wpAnyH_ready (rs := [16]) (by kernel_rfl) (by simp) ?_
            refine AllReadyH.cons (o := _) rfl (fun K hK => ?_) AllReadyH.nil
            go_simp
            refine (encodeR_any _ b _ (r3.ext (by first | exact Ext.refl _ | exact (Ext.refl _).drew))).mono ?_
            rintro e w4 ⟨v4, rfl, ho4, hx4⟩
            have hxS : Ext wo w4 := Ext.trans (by first | exact hxS | exact hxS.drew) hx4
            have r4 := ho4.rd
            clear ho4
            dsimp only
            refine hK.out _ _ (c0 _ hxS) (fun hHeld => ?_)
            try simp only [Act.put, List.setIfInBounds_toArray, List.set_cons_zero, List.set_cons_succ]
            refine wpAnyH_ready (rs := [21]) (by kernel_rfl) (by simp) ?_
            refine AllReadyH.cons (o := _) rfl (fun K2 hK2 => ?_) AllReadyH.nil
            go_simp
            refine (bytesAre_any _ _ (bagW b) bs _ (r4.ext (by first | exact Ext.refl _ | exact (Ext.refl _).drew)) (hbr.ext (by first | exact hxS | exact hxS.drew))).mono ?_
            rintro e w5 ⟨rfl, hw5⟩
            subst hw5
            rw [decide_eq_true HBW.out]
            dsimp only
            refine hK2.out _ _ (c0 _ hxS) (fun hHeld => ?_)
            try simp only [Act.put, List.setIfInBounds_toArray, List.set_cons_zero, List.set_cons_succ]
            refine wpAnyH_take (i := 22) (oi := _) (v := .bool false) rfl (by kernel_rfl) (by kernel_rfl) (by kernel_rfl) (fun _ _ _ h => h) (Or.inl ⟨by kernel_rfl, by (intro w hSw; (try dsimp only at hSw); go_simp)⟩) (by assumption) ?_
            try simp only [Act.put, List.setIfInBounds_toArray, List.set_cons_zero, List.set_cons_succ]
            refine wpAnyH_take (i := 23) (oi := _) (v := .bool false) rfl (by kernel_rfl) (by kernel_rfl) (by kernel_rfl) (fun _ _ _ h => h) (Or.inl ⟨by kernel_rfl, by (intro w hSw; (try dsimp only at hSw); go_simp)⟩) (by assumption) ?_
            try simp only [Act.put, List.setIfInBounds_toArray, List.set_cons_zero, List.set_cons_succ]
            refine wpAnyH_take (i := 24) (oi := _) (v := .bool false) rfl (by kernel_rfl) (by kernel_rfl) (by kernel_rfl) (fun _ _ _ h => h) (Or.inl ⟨by kernel_rfl, by (intro w hSw; (try dsimp only at hSw); go_simp)⟩) (by assumption) ?_
            try simp only [Act.put, List.setIfInBounds_toArray, List.set_cons_zero, List.set_cons_succ]
            refine wpAnyH_done (by kernel_rfl) ?_ _
            go_wp2
            go_roundw
            case rel => exact ⟨k + 1, by omega, by go_num, by first | exact hxS | exact hxS.drew | exact hxS.drewN _⟩
            case measure => simp [intOf]; omega
          · obtain ⟨A3, c3, rfl, -⟩ := ho3.form'
            simp only [vis_len, List.length_nil] at *
            go_wp2
            go_quiet (fail)
            go_wp2
            go_roundw
            case rel => exact ⟨k + 1, by omega, by go_num, by first | exact hxS | exact hxS.drew | exact hxS.drewN _⟩
            case measure => simp [intOf]; omega
        · have k2 : ¬ ((k : Int) < vs.length) := by omega
          clear hcx
          go_wp2_with fail
          refine (lives13_any _).mono ?_
          rintro e w9 ⟨rfl, hx9⟩
          go_wp2
          go_ret
          exact ⟨rfl, ((HI.out.1.trans hxo).trans hxr).trans hx9⟩
end Go.Proofs.Ytbcjikiakanncaa
