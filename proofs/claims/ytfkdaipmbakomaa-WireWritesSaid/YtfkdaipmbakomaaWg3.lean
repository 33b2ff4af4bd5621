/- package wire: the laws' encode; the reference's Encode. -/
import Derived.Test.YtfkdaipmbakomaaWg2
namespace Go.Proofs.Ytfkdaipmbakomaa
open Go.RowKit
set_option linter.unusedVariables false

theorem Ty.lt {w : World} {e : TypeId} {v : Value} (h : Ty w e v) : ∀ k, v.ownBlock = some k → k < w.heap.size := fun k hk => by
  obtain ⟨cur, fr, hc⟩ := h k hk
  exact (Array.getElem?_eq_some_iff.1 hc).1

set_option maxHeartbeats 2000000 in
theorem encode_any (v : Value) (xs : List WV) (w : World) (hr : RdV w v xs) (hok : ∀ x ∈ xs, x.ok) (hl : xs.length ≤ 50) :
    Calls Try.prog 35 #[v] w fun e w' => ∃ v', e = .returned v' ∧ Own w' w.heap.size 5 v' (vbs (encVs xs)) ∧ Ext w w' := by
  obtain ⟨A, c, rfl, hc1, hc2, hf⟩ := hr.form
  simp only [maxLen] at hc2
  go_enter Try.func35, Try.ntmps35
  go_wp2_with fail
  go_loopw [4] (fun i wr => ∃ k : Nat, k ≤ xs.length ∧ i = .int .i64 k ∧ WAt wr w.heap.size w.heap.size (encVs (xs.take k)) ∧ Ext w wr) (fun i _ => xs.length - (intOf i).toNat)
  case atStart => exact ⟨0, by omega, rfl, by simpa [encVs] using WAt.new w, (Ext.refl w).alloc _⟩
  case round =>
    obtain ⟨k, hk, rfl, hwk, hxr⟩ := hrel
    by_cases hlt : k < xs.length
    · obtain ⟨b, off, rfl⟩ := hf (by omega)
      obtain ⟨vb, vl, c0, c1, c2, c3, c4, hrb, htb, hrl, htl⟩ := hr.cellsAt k hlt
      have c0 := hxr.cell c0
      have c1 := hxr.cell c1
      have c2 := hxr.cell c2
      have c3 := hxr.cell c3
      have c4 := hxr.cell c4
      have hrb := hrb.ext hxr
      have hrl := hrl.ext hxr
      have htl := htl.lt
      have hxk := hok xs[k] (by simp)
      have hbnd : (encVs (xs.take k)).length ≤ 100000000 := by
        have := encVs_len (xs.take k) (fun x hx => hok x (List.mem_of_mem_take hx))
        have h3 : (xs.take k).length ≤ k := List.length_take_le _ _
        omega
      have HT : Hid (encVs (xs.take k) ++ encV xs[k] = encVs (xs.take (k + 1))) := Lib.hid (by
        rw [List.take_succ_eq_append_getElem hlt, encVs_app, encVs_one])
      generalize xs[k] = x at *
      clear hok hf htb
      go_wp2_with fail
      refine (write_any w.heap.size w.heap.size _ x vb vl _ hxk hrb hrl htl hwk hbnd).mono ?_
      rintro e w2 ⟨rfl, h3, h4⟩
      go_wp2
      go_roundw
      case rel => exact ⟨k + 1, by omega, by go_num, by rw [← HT.out]; exact h3, Below.trans hxr h4⟩
      case measure => simp [intOf]; omega
    · have hke : xs.take k = xs := List.take_of_length_le (by omega)
      rw [hke] at hwk
      have hbnd := encVs_len xs hok
      have hsz := hxr.size
      clear hke hf hok
      go_wp2_with fail
      refine (wdone_any _ _ _ _ hwk (by omega)).mono ?_
      rintro e w2 ⟨v2, rfl, ho, hx2⟩
      go_wp2
      go_ret
      exact ⟨v2, rfl, ho.mono hsz, hxr.trans hx2⟩

set_option maxRecDepth 100000 in
set_option maxHeartbeats 4000000 in
theorem r2encode_any (v : Value) (xs : List WV) (w : World) (hr : RdV w v xs) (hok : ∀ x ∈ xs, x.ok) (hl : xs.length ≤ 50) :
    Calls Try.prog 18 #[v] w fun e w' => ∃ v', e = .returned v' ∧ Own w' w.heap.size 5 v' (vbs (encVs xs)) ∧ Ext w w' := by
  obtain ⟨i0, hi, hz0, hz1, hz2⟩ := info_parts info_u8
  obtain ⟨A, c, rfl, hc1, hc2, hf⟩ := hr.form
  simp only [maxLen] at hc2
  go_enter Try.func18, Try.ntmps18
  go_wp2_with fail
  go_loopw [4, 3] (fun i o wr => ∃ k : Nat, k ≤ xs.length ∧ i = .int .i64 k ∧ Own wr w.heap.size 5 o (vbs (encVs (xs.take k))) ∧ Ext w wr) (fun i _ _ => xs.length - (intOf i).toNat)
  case atStart => exact ⟨0, by omega, rfl, by simpa [encVs, vbs] using Own.nil _ _ _, Ext.refl w⟩
  case round =>
    obtain ⟨k, hk, rfl, ho, hxr⟩ := hrel
    have hsz := hxr.size
    by_cases hlt : k < xs.length
    · obtain ⟨b, off, rfl⟩ := hf (by omega)
      obtain ⟨vb, vl, c0, c1, c2, c3, c4, hrb, -, hrl, -⟩ := hr.cellsAt k hlt
      have c0 := hxr.cell c0
      have c1 := hxr.cell c1
      have c2 := hxr.cell c2
      have c3 := hxr.cell c3
      have c4 := hxr.cell c4
      have hrb := hrb.ext hxr
      have hrl := hrl.ext hxr
      have hxk := hok xs[k] (by simp)
      have hbnd : (encVs (xs.take k)).length ≤ 100000000 := by
        have := encVs_len (xs.take k) (fun x hx => hok x (List.mem_of_mem_take hx))
        have h3 : (xs.take k).length ≤ k := List.length_take_le _ _
        omega
      have HT : Hid (encVs (xs.take k) ++ encV xs[k] = encVs (xs.take (k + 1))) := Lib.hid (by
        rw [List.take_succ_eq_append_getElem hlt, encVs_app, encVs_one])
      generalize xs[k] = x at *
      clear hok hf hr
      rcases hxk with ⟨n, rfl, hn⟩ | ⟨n, rfl, hn⟩ | ⟨t, rfl⟩ | ⟨bs, rfl, hn⟩ | ⟨bs, rfl, hn⟩ | ⟨ys, rfl, hn, hxs⟩
      · have c0 : wr.cell? ⟨b, off + k * 5, none⟩ = some (.int .i64 0) := c0
        have cf : wr.cell? ⟨b, off + k * 5 + 1, none⟩ = some (.int .u64 n) := c1
        clear c1 c2 c3 c4
        rw [encV_U] at HT
        have hlb := uvar_len10 n hn.2
        go_wp2_with fail
        refine (r2uint_any n _ hn).mono ?_
        rintro e w2 ⟨v2, rfl, ho2, hx2⟩
        have hr2 := ho2.rd
        obtain ⟨A2, cc2, rfl, _⟩ := ho2.rd
        have hs := Src.rd hr2
        have hsz2 := hx2.size
        have hob := ho.ext hx2
        simp only [vbs_len] at *
        go_wp2_with (at_builtin; refine wpList_app _ rfl (.tmp 26) (.tmp 32) _ rfl w.heap.size 5 i0 _ 1 Try.underlying24 hi hz0 hz1 hz2 rfl (by omega) _ _ rfl hob A2 _ cc2 (vbs _) rfl hs ?_ ?_ ?_ ?_; exact vbs_one _; (simp only [vbs_len]; first | omega | (simp [boolW]; omega)); omega; intro v3 w3 ho3 hg3 _)
        go_roundw
        case rel =>
          refine ⟨k + 1, by omega, by go_num, ?_, (hxr.trans hx2).grown hg3 (fun k e => (hob.lt k e).1)⟩
          rw [← HT.out, vbs_app]; exact ho3
        case measure => simp [intOf]; omega
      · have c0 : wr.cell? ⟨b, off + k * 5, none⟩ = some (.int .i64 1) := c0
        have cf : wr.cell? ⟨b, off + k * 5 + 2, none⟩ = some (.int .i64 n) := c2
        clear c1 c2 c3 c4
        rw [encV_I] at HT
        have hlb := uvar_len10 _ (zig_range n hn).2
        go_wp2_with fail
        refine (r2int_any n _ hn).mono ?_
        rintro e w2 ⟨v2, rfl, ho2, hx2⟩
        have hr2 := ho2.rd
        obtain ⟨A2, cc2, rfl, _⟩ := ho2.rd
        have hs := Src.rd hr2
        have hsz2 := hx2.size
        have hob := ho.ext hx2
        simp only [vbs_len] at *
        go_wp2_with (at_builtin; refine wpList_app _ rfl (.tmp 36) (.tmp 42) _ rfl w.heap.size 5 i0 _ 1 Try.underlying24 hi hz0 hz1 hz2 rfl (by omega) _ _ rfl hob A2 _ cc2 (vbs _) rfl hs ?_ ?_ ?_ ?_; exact vbs_one _; (simp only [vbs_len]; first | omega | (simp [boolW]; omega)); omega; intro v3 w3 ho3 hg3 _)
        go_roundw
        case rel =>
          refine ⟨k + 1, by omega, by go_num, ?_, (hxr.trans hx2).grown hg3 (fun k e => (hob.lt k e).1)⟩
          rw [← HT.out, vbs_app]; exact ho3
        case measure => simp [intOf]; omega
      · have c0 : wr.cell? ⟨b, off + k * 5, none⟩ = some (.int .i64 2) := c0
        have hnt : wr.cell? ⟨b, off + k * 5 + 2, none⟩ = some (.int .i64 (if t then 1 else 0)) := c2
        clear c1 c2 c3 c4
        rw [encV_T] at HT
        cases t
        all_goals
          first | rw [if_pos rfl] at hnt | rw [if_neg (by decide)] at hnt
          go_wp2_with fail
          refine (r2bool_any _ _).mono ?_
          rintro e w2 ⟨v2, rfl, ho2, hx2⟩
          have hr2 := ho2.rd
          obtain ⟨A2, cc2, rfl, _⟩ := ho2.rd
          have hs := Src.rd hr2
          have hsz2 := hx2.size
          have hob := ho.ext hx2
          simp only [vbs_len] at *
          go_wp2_with (at_builtin; refine wpList_app _ rfl (.tmp 46) (.tmp 53) _ rfl w.heap.size 5 i0 _ 1 Try.underlying24 hi hz0 hz1 hz2 rfl (by omega) _ _ rfl hob A2 _ cc2 (vbs _) rfl hs ?_ ?_ ?_ ?_; exact vbs_one _; (simp only [vbs_len]; first | omega | (simp [boolW]; omega)); omega; intro v3 w3 ho3 hg3 _)
          go_roundw
          case rel =>
            refine ⟨k + 1, by omega, by go_num, ?_, (hxr.trans hx2).grown hg3 (fun k e => (hob.lt k e).1)⟩
            rw [← HT.out, vbs_app]; exact ho3
          case measure => simp [intOf]; omega
      · have c0 : wr.cell? ⟨b, off + k * 5, none⟩ = some (.int .i64 3) := c0
        rw [encV_S] at HT
        have hlb := rawW_len bs hn
        go_wp2_with fail
        refine (r2raw_any vb bs _ hrb (by omega)).mono ?_
        rintro e w2 ⟨v2, rfl, ho2, hx2⟩
        have hr2 := ho2.rd
        obtain ⟨A2, cc2, rfl, _⟩ := ho2.rd
        have hs := Src.rd hr2
        have hsz2 := hx2.size
        have hob := ho.ext hx2
        simp only [vbs_len] at *
        go_wp2_with (at_builtin; refine wpList_app _ rfl (.tmp 58) (.tmp 64) _ rfl w.heap.size 5 i0 _ 1 Try.underlying24 hi hz0 hz1 hz2 rfl (by omega) _ _ rfl hob A2 _ cc2 (vbs _) rfl hs ?_ ?_ ?_ ?_; exact vbs_one _; (simp only [vbs_len]; first | omega | (simp [boolW]; omega)); omega; intro v3 w3 ho3 hg3 _)
        go_roundw
        case rel =>
          refine ⟨k + 1, by omega, by go_num, ?_, (hxr.trans hx2).grown hg3 (fun k e => (hob.lt k e).1)⟩
          rw [← HT.out, vbs_app]; exact ho3
        case measure => simp [intOf]; omega
      · have c0 : wr.cell? ⟨b, off + k * 5, none⟩ = some (.int .i64 4) := c0
        rw [encV_R] at HT
        have hlb := rawW_len bs hn
        go_wp2_with fail
        refine (r2raw_any vb bs _ hrb (by omega)).mono ?_
        rintro e w2 ⟨v2, rfl, ho2, hx2⟩
        have hr2 := ho2.rd
        obtain ⟨A2, cc2, rfl, _⟩ := ho2.rd
        have hs := Src.rd hr2
        have hsz2 := hx2.size
        have hob := ho.ext hx2
        simp only [vbs_len] at *
        go_wp2_with (at_builtin; refine wpList_app _ rfl (.tmp 58) (.tmp 64) _ rfl w.heap.size 5 i0 _ 1 Try.underlying24 hi hz0 hz1 hz2 rfl (by omega) _ _ rfl hob A2 _ cc2 (vbs _) rfl hs ?_ ?_ ?_ ?_; exact vbs_one _; (simp only [vbs_len]; first | omega | (simp [boolW]; omega)); omega; intro v3 w3 ho3 hg3 _)
        go_roundw
        case rel =>
          refine ⟨k + 1, by omega, by go_num, ?_, (hxr.trans hx2).grown hg3 (fun k e => (hob.lt k e).1)⟩
          rw [← HT.out, vbs_app]; exact ho3
        case measure => simp [intOf]; omega
      · have c0 : wr.cell? ⟨b, off + k * 5, none⟩ = some (.int .i64 5) := c0
        rw [encV_L] at HT
        have hlb := intsW_len ys hn hxs
        go_wp2_with fail
        refine (r2ints_any vl ys _ hrl hxs (by omega)).mono ?_
        rintro e w2 ⟨v2, rfl, ho2, hx2⟩
        have hr2 := ho2.rd
        obtain ⟨A2, cc2, rfl, _⟩ := ho2.rd
        have hs := Src.rd hr2
        have hsz2 := hx2.size
        have hob := ho.ext hx2
        simp only [vbs_len] at *
        go_wp2_with (at_builtin; refine wpList_app _ rfl (.tmp 16) (.tmp 22) _ rfl w.heap.size 5 i0 _ 1 Try.underlying24 hi hz0 hz1 hz2 rfl (by omega) _ _ rfl hob A2 _ cc2 (vbs _) rfl hs ?_ ?_ ?_ ?_; exact vbs_one _; (simp only [vbs_len]; first | omega | (simp [boolW]; omega)); omega; intro v3 w3 ho3 hg3 _)
        go_roundw
        case rel =>
          refine ⟨k + 1, by omega, by go_num, ?_, (hxr.trans hx2).grown hg3 (fun k e => (hob.lt k e).1)⟩
          rw [← HT.out, vbs_app]; exact ho3
        case measure => simp [intOf]; omega
    · have hke : xs.take k = xs := List.take_of_length_le (by omega)
      rw [hke] at ho
      clear hke hf hok
      go_wp2
      go_ret
      exact ⟨_, rfl, ho, hxr⟩
end Go.Proofs.Ytfkdaipmbakomaa
