/- WireRound: the walk of the law. -/
import Derived.Test.YtfkdaipmbakomaaWl
import Derived.Test.YtfkdaipmbakomaaWh2
namespace Go.Proofs.Ytfkdaipmbakomaa
open Go.RowKit
set_option linter.unusedVariables false

set_option maxRecDepth 100000 in
set_option maxHeartbeats 8000000 in
theorem WireRound_law (w : World) (v0 : Value) (z0 : List Int) (h0 : Rd w v0 (vis z0)) (hz0 : ∀ n ∈ z0, inI64 n) (u : Int) (hu : 0 ≤ u ∧ u ≤ 18446744073709551615) (n : Int) (hn : inI64 n) :
    Calls Try.prog 7 #[v0, .int .u64 u, .int .i64 n] w fun e w' => e = .returned (.bool true) ∧ Ext w w' := by
  go_enter Try.func7, Try.ntmps7
  go_wp2_with fail
  refine (vals_any v0 z0 _ h0 hz0).mono ?_
  rintro e w1 ⟨v1, xs, rfl, ho1, hx8, hsm, hx1⟩
  clear h0 hz0
  have hs1 := hx1.size
  have hc1 : ([vU u, vI n] : List WV).length = 2 := rfl
  have hN := World.news_of_block (cs := #[.int .i64 0, .int .u64 u, .int .i64 0, .slice none 0 0, .slice none 0 0, .int .i64 1, .int .u64 0, .int .i64 n, .slice none 0 0, .slice none 0 0]) (t := 47) (fr := (0, 0)) (heap_alloc_new w1 _)
  have HN := Lib.hid hN
  clear hN hc1
  go_wp2_with (at_builtin; refine wpList_appV _ rfl (.tmp 11) (.tmp 16) rfl w.heap.size _ xs rfl (ho1.ext ((Ext.refl _).alloc _)) ⟨w1.heap.size, 0, none⟩ 2 2 [vU u, vI n] [[.int .i64 0, .int .u64 u, .int .i64 0, .slice none 0 0, .slice none 0 0], [.int .i64 1, .int .u64 0, .int .i64 n, .slice none 0 0, .slice none 0 0]] rfl rfl (VFlds.app (VFlds.one (vfld_mk _ _ _ (Rd.nil _) (Ty.nil _ _ _ _) (Rd.nil _) (Ty.nil _ _ _ _))) (VFlds.one (vfld_mk _ _ _ (Rd.nil _) (Ty.nil _ _ _ _) (Rd.nil _) (Ty.nil _ _ _ _)))) (fun j q hq => HN.out j q hq) (by omega) (by simp; omega) ?_; intro v2 w2 ho2 hg2 _; have hx12 : Ext w w2 := (hx1.alloc _).grown hg2 (fun k e => (ho1.lt k e).1))
  have hok : ∀ x ∈ xs ++ [vU u, vI n], x.ok := fun x hx => by
    rcases List.mem_append.1 hx with hx | hx
    · exact (hsm x hx).1
    · simp only [List.mem_cons, List.not_mem_nil, or_false] at hx
      rcases hx with rfl | rfl
      · exact (small_U u hu).1
      · exact (small_I n hn).1
  have hlen : (encVs (xs ++ [vU u, vI n])).length ≤ 600 := by
    have h1 := smalls_len xs hsm
    have h2 := smalls_len [vU u, vI n] (fun x hx => by
      simp only [List.mem_cons, List.not_mem_nil, or_false] at hx
      rcases hx with rfl | rfl
      · exact small_U u hu
      · exact small_I n hn)
    rw [encVs_app]; simp at h2 ⊢; omega
  have hxl : (xs ++ [vU u, vI n]).length ≤ 10 := by simp; omega
  generalize xs ++ [vU u, vI n] = ys at *
  have hr2 := ho2.rd
  clear hsm hg2 HN ho1
  go_wp2_with fail
  refine (encode_any v2 ys _ hr2 hok (by omega)).mono ?_
  rintro e w3 ⟨v3, rfl, ho3, hx3⟩
  have hr3 := ho3.rd
  have hrv := hr2.ext hx3
  go_wp2_with fail
  refine (read_any v3 (encVs ys) _ hr3 (by omega)).mono ?_
  rintro e w4 ⟨g, rfl, hg1, hg2, h4, hx4⟩
  obtain ⟨A, cx, rfl, hcx1, hcx2, hf⟩ := hrv.form
  simp only [maxLen] at hcx2
  have hs34 := hx4.size
  go_wp2_with fail
  go_loopw [9] (fun i wr => ∃ k : Nat, k ≤ ys.length ∧ i = .int .i64 k ∧ RAt wr (fun k => w3.heap.size ≤ k ∧ k < g) g (.ok (encVs (ys.drop k))) ∧ Below w3.heap.size w3 wr) (fun i _ => ys.length - (intOf i).toNat)
  case atStart => exact ⟨0, by omega, rfl, by rw [List.drop_zero]; exact h4, hx4⟩
  case round =>
    obtain ⟨k, hk, rfl, hra, hbw⟩ := hrel
    have hx3r : Ext w3 wr := hbw
    have hgr := hra.lt
    by_cases hlt : k < ys.length
    · obtain ⟨b, off, rfl⟩ := hf (by omega)
      obtain ⟨vb, vl, c0, c1, c2, c3, c4, hb, htb, hl, htl⟩ := hrv.cellsAt k hlt
      have hdr : ys.drop k = ys[k] :: ys.drop (k + 1) := List.drop_eq_getElem_cons hlt
      have hxk := hok ys[k] (by simp)
      have hk5 := hxk.k5
      rw [hdr, encVs_cons] at hra
      have hbl : (encV ys[k] ++ encVs (ys.drop (k + 1))).length ≤ 1000000000 := by
        have e : encVs ys = encVs (ys.take k) ++ (encV ys[k] ++ encVs (ys.drop (k + 1))) := by
          rw [← encVs_cons, ← hdr, ← encVs_app, List.take_append_drop]
        rw [e] at hlen
        simp at hlen ⊢; omega
      have HE := Lib.hid (readV_enc ys[k] (encVs (ys.drop (k + 1))) hxk)
      have hbB := World.block_lt_of_cell? w3 _ c0
      simp only at hbB
      obtain ⟨Ab, mb, cb, hvb⟩ : ∃ A m c, vb = .slice A m c := by obtain ⟨A, c, hv, -⟩ := hb; exact ⟨_, _, _, hv⟩
      obtain ⟨Al, ml, cl, hvl⟩ : ∃ A m c, vl = .slice A m c := by obtain ⟨A, c, hv, -⟩ := hl; exact ⟨_, _, _, hv⟩
      subst hvb hvl
      generalize ys[k] = x at *
      have hk0 : (0 : Int) ≤ (k : Int) := by omega
      have hk1 : (k : Int) < (ys.length : Int) := by omega
      have d0 := hx3r.cell c0
      have d1 := hx3r.cell c1
      have d2 := hx3r.cell c2
      have d3 := hx3r.cell c3
      have d4 := hx3r.cell c4
      clear hok hf hdr hxk
      go_wp2_with fail
      go_region_held3 (fun w' => w'.cell? ⟨b, off + k * 5, none⟩ = some (.int .i64 x.k) ∧ w'.cell? ⟨b, off + k * 5 + 1, none⟩ = some (.int .u64 x.u) ∧ w'.cell? ⟨b, off + k * 5 + 2, none⟩ = some (.int .i64 x.n) ∧ w'.cell? ⟨b, off + k * 5 + 3, none⟩ = some (.slice Ab mb cb) ∧ w'.cell? ⟨b, off + k * 5 + 4, none⟩ = some (.slice Al ml cl))
        (first
          | go_keep
          | (go_split_ands
             first | exact ⟨hx8w.cell c0, hx8w.cell c1, hx8w.cell c2, hx8w.cell c3, hx8w.cell c4⟩ | exact ⟨hx7.cell c0, hx7.cell c1, hx7.cell c2, hx7.cell c3, hx7.cell c4⟩))
        (first
          | (go_at_call 23; refine (lread_any _ g _ x.k hk5 _ (hra.ext (Ext.refl _).drew) (fun k hk => by simp; omega) (fun p hp => by cases hp; exact hbl)).mono ?_; rintro e w7 ⟨⟨vb1, vl1, rfl, hb1, -, hl1, -⟩, hra1, hch⟩; rw [HE.out] at hra1 hb1 hl1 ⊢; have hx7 : Ext w3 w7 := Chg.ext hx3r.drew hch (by omega))
          | (go_at_call 22; refine (same2_any x x vb1 vl1 _ _ _ hb1 hl1 (hb.ext hx7) (hl.ext hx7)).mono ?_; rintro e w8 ⟨rfl, hx8⟩; rw [sameV_self]; have hx8w : Ext w3 w8 := hx7.trans hx8))
      have hra8 := hra1.ext hx8
      clear hra hra1 hbw c0 c1 c2 c3 c4 d0 d1 d2 d3 d4 hb hl hb1 hl1
      go_wp2
      go_roundw
      case rel => exact ⟨k + 1, by omega, by go_num, hra8, hx8w⟩
      case measure => simp [intOf]; omega
    · have hke : k = ys.length := by omega
      rw [hke, List.drop_length] at hra
      have hra : RAt wr (fun k => w3.heap.size ≤ k ∧ k < g) g (.ok []) := hra
      clear hf hok
      go_wp2_with fail
      refine (rend_any _ g _ _ hra).mono ?_
      rintro e w7 ⟨rfl, rfl⟩
      rw [show endR (.ok []) = 0 from rfl]
      go_wp2_with fail
      refine (lives02_any _).mono ?_
      rintro e w9 ⟨rfl, hx9⟩
      go_wp2
      go_ret
      exact ⟨rfl, ((hx12.trans hx3).trans hx3r).trans hx9⟩
end Go.Proofs.Ytfkdaipmbakomaa
