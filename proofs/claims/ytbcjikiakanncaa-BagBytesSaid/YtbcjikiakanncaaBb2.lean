/- package bag: the reference's Encode: its contract. -/
import Derived.Test.YtbcjikiakanncaaBa4
import Derived.Test.YtbcjikiakanncaaWe1
import Derived.Deep.RegionHeld3
import Derived.Deep.AppendLies
namespace Go.Proofs.Ytbcjikiakanncaa
open Go.RowKit
set_option linter.unusedVariables false

theorem Own.newsAt {w : World} {base : Nat} {e : TypeId} {v : Value} {xs : List Value} (h : Own w base e v xs) (h0 : 0 < xs.length) :
    ∃ g c, v = .slice (some ⟨g, 0, none⟩) xs.length c ∧ ∀ w', Ext w w' → ∀ j u, xs[j]? = some u → w'.cell? ((⟨g, 0, none⟩ : Addr).add j) = some u := by
  have h2 := h
  obtain ⟨A, c, rfl, hA⟩ := h.form'
  obtain ⟨g, rfl⟩ := hA h0
  obtain ⟨g', cap', hv, -, -, h3, -, -⟩ := h2.at h0
  injection hv with e1 e2 e3
  injection e1 with e1
  injection e1 with e1
  subst e1
  refine ⟨_, _, rfl, fun w' hx j u hu => ?_⟩
  have hadd : (⟨g, 0, none⟩ : Addr).add j = ⟨g, j, none⟩ := by unfold Addr.add; split <;> simp_all
  rw [hadd]
  exact h3 w' hx j u hu
theorem own_app {w : World} {base : Nat} {e : TypeId} {g cap : Nat} {A B : List Value} (h : w.ownsRow base e 1 (.slice (some ⟨g, 0, none⟩) (A.length + B.length) cap) (A.length + B.length) (A ++ B)) :
    Own w base e (.slice (some ⟨g, 0, none⟩) (A.length + B.length) cap) (A ++ B) := by
  unfold Own; rw [List.length_append]; exact h

set_option maxRecDepth 100000 in
set_option maxHeartbeats 8000000 in
theorem encodeR_any (v : Value) (b : List Int) (w : World) (h : Rd w v (vis b)) :
    Calls Try.prog 47 #[v] w fun e w' => ∃ v', e = .returned v' ∧ Own w' w.heap.size 5 v' (vbs (bagW b)) ∧ Ext w w' := by
  obtain ⟨i0, hi, hz0, hz1, hz2⟩ := info_parts info_u8
  obtain ⟨l, hl⟩ : ∃ l, amtsB b = l := ⟨_, rfl⟩
  have HA : Hid (bagW b = if isB b then uvar (zig b.length) ++ (uvar (zig l.length) ++ pairsW l) else []) := Lib.hid (by rw [← hl]; rfl)
  have hh := h
  obtain ⟨A, c, rfl, _⟩ := h
  obtain ⟨_, a1, a2, a3⟩ := hh.at
  simp only [vis_len, maxLen] at *
  clear a3
  go_enter Try.func47, Try.ntmps47
  go_wp2_with fail
  refine (isR_any _ b _ hh).mono ?_
  rintro e w1 ⟨rfl, rfl⟩
  rcases hc : isB b with _ | _
  · have HC := Lib.hid hc
    clear hc
    go_wp2
    go_ret
    rw [HA.out, HC.out]
    exact ⟨_, rfl, Own.nil _ _ _, Ext.refl _⟩
  · have HC := Lib.hid hc
    have hlen := isB_len hc
    clear hc
    go_wp2_with fail
    refine (amountsR_any _ b _ hh).mono ?_
    rintro e w1 ⟨v1, rfl, ho1, hx1⟩
    have hra := ho1.rd
    have hok := amtsB_ok b
    have hal := amtsB_len b
    have hln := uvar_len10 (zig b.length) (zig_range _ (by unfold inI64; omega)).2
    have hln2 := uvar_len10 (zig (amtsB b).length) (zig_range _ (by unfold inI64; omega)).2
    rw [hl] at ho1 hra hok hal hln2
    clear hl ho1
    obtain ⟨AA, cc, rfl, q1, q2, q3⟩ := hra.form
    simp only [maxLen] at q2
    go_wp2_with fail
    refine (r2int_any b.length _ (by unfold inI64; omega)).mono ?_
    rintro e w2 ⟨v2, rfl, ho2, hx2⟩
    go_wp2_with fail
    refine (r2int_any l.length _ (by unfold inI64; omega)).mono ?_
    rintro e w3 ⟨v3, rfl, ho3, hx3⟩
    have hu0 : ∀ n : Int, inI64 n → 0 < (vbs (uvar (zig n))).length ∧ (vbs (uvar (zig n))).length ≤ 10 := fun n hn => by
      have h1 := uvar_len10 _ (zig_range n hn).2
      have h2 := uvar_pos (zig n)
      rw [vbs_len]; omega
    have hu3 := hu0 l.length (by unfold inI64; omega)
    obtain ⟨g3, c3, rfl, hn3⟩ := ho3.newsAt hu3.1
    have hs3 := Src.rd ho3.rd
    have ho2' := ho2.ext hx3
    have hx13 := hx2.trans hx3
    have hsz3 := hx13.size
    clear hn3 ho2 ho3 hx2 hx3 hra
    go_wp2_with (at_builtin; refine wpList_app _ rfl (.tmp 15) (.tmp 18) _ rfl w1.heap.size 5 i0 _ 1 Try.underlying34 hi hz0 hz1 hz2 rfl (by omega) _ _ rfl ho2' _ _ _ (vbs (uvar (zig l.length))) rfl hs3 ?_ ?_ ?_ ?_; exact vbs_one _; (rw [vbs_len]; omega); exact hsz3; intro v4 w4 ho4 hg4 _)
    have hx4 : Ext w1 w4 := hx13.grown hg4 (fun k e => (ho2'.lt k e).1)
    rw [← vbs_app] at ho4
    have HD : Hid ((uvar (zig b.length) ++ uvar (zig l.length)) ++ pairsW l = uvar (zig b.length) ++ (uvar (zig l.length) ++ pairsW l)) := Lib.hid (List.append_assoc _ _ _)
    obtain ⟨hd, hdd⟩ : ∃ hd, uvar (zig b.length) ++ uvar (zig l.length) = hd := ⟨_, rfl⟩
    rw [hdd] at ho4 HD
    have hdl : hd.length ≤ 20 := by rw [← hdd]; simp; omega
    clear ho2' hs3 hx13 hdd hg4 hu3 hln hln2
    have HOK := Lib.hid hok
    have HU := Lib.hid hu0
    clear hok hu0
    obtain ⟨W2, hW2⟩ : ∃ W, W = w1 := ⟨_, rfl⟩
    rw [← hW2] at q3 hx1 ho4 hx4
    clear hW2
    go_loopw [6, 5] (fun i o wr => ∃ k : Nat, k ≤ l.length ∧ i = .int .i64 k ∧ Own wr W2.heap.size 5 o (vbs (hd ++ pairsW (l.take k))) ∧ Ext W2 wr) (fun i _ _ => l.length - (intOf i).toNat)
    case atStart => exact ⟨0, by omega, rfl, by simpa [pairsW] using ho4, hx4⟩
    case round =>
      obtain ⟨k, hk, rfl, hoO, hxS⟩ := hrel
      by_cases hlt : k < l.length
      · obtain ⟨ab, off, rfl, hcx⟩ := q3 (by omega)
        obtain ⟨e1, e2⟩ := hcx W2 (Ext.refl _) k hlt
        obtain ⟨hi1, hi2⟩ := HOK.out l[k] (by simp)
        have hst : Hid (hd ++ pairsW (l.take (k + 1)) = ((hd ++ pairsW (l.take k)) ++ uvar (zig l[k].1)) ++ uvar (zig l[k].2)) := Lib.hid (by rw [pairsW_snoc hlt]; simp only [List.append_assoc])
        have hpl := pairsW_len (l.take k) (fun p hp => HOK.out p (List.mem_of_mem_take hp))
        have hpl2 : (l.take k).length ≤ k := List.length_take_le _ _
        have hPl : (vbs (hd ++ pairsW (l.take k))).length ≤ 2000 := by rw [vbs_len]; simp; omega
        generalize l[k].1 = x at *
        generalize l[k].2 = y at *
        have hux := HU.out x hi1
        have huy := HU.out y hi2
        have c1 := hxS.cell e1
        have c2 := hxS.cell e2
        have hsW := hxS.size
        have k0 : (0 : Int) ≤ k := by omega
        clear hcx q3 hpl hpl2 hdl
        generalize hd ++ pairsW (l.take k) = P at *
        go_wp2
        go_region_held3 (fun w' => w'.cell? ⟨ab, off + k * 2, none⟩ = some (.int .i64 x) ∧ w'.cell? ⟨ab, off + k * 2 + 1, none⟩ = some (.int .i64 y))
          (first
            | go_keep
            | (go_split_ands
               exact ⟨hxS.cell e1, hxS.cell e2⟩))
          (first
            | (go_at_call 72; refine (r2int_any _ _ (by assumption)).mono ?_; rintro e w5 ⟨v5, rfl, ho5, hx5⟩; have hxS : Ext W2 w5 := Ext.trans (by first | exact hxS | exact hxS.drew) hx5; replace hoO := (hoO.ext (by first | exact Ext.refl _ | exact (Ext.refl _).drew)).ext hx5; have hsW := hxS.size; obtain ⟨g5, c5, rfl, hn5⟩ := ho5.newsAt (by first | exact hux.1 | exact huy.1); clear ho5)
            | (refine step_append_lies _ (by rfl) _ _ _ (by rfl) W2.heap.size 5 i0 _ 1 1 Try.underlying34 hi hz0 hz1 hz2 rfl (by omega) _ _ _ (by rfl) (hoO.ext (by first | exact Ext.refl _ | exact (Ext.refl _).drew)) ⟨g5, 0, none⟩ _ c5 _ (by rfl) (by simp) (hn5 _ (by first | exact Ext.refl _ | exact (Ext.refl _).drew)) (vbs_one _) (by first | exact hux.1 | exact huy.1) (by simp only [maxLen]; (try simp only [List.length_append]); omega) (by (try simp only [List.length_append]); omega) (by first | exact hsW | (simp; exact hsW)) _ rfl ?_; intro gg cap w6 hown6 hgrow hat hlt6; have hxS : Ext W2 w6 := (show Ext W2 _ from (by first | exact hxS | exact hxS.drew)).grown hgrow (fun k e => (hoO.lt k e).1); replace hoO := own_app hown6; have hsW := hxS.size))
        simp only [List.length_append] at hoO
        rw [← vbs_app, ← vbs_app, ← hst.out] at hoO
        clear hn5
        go_wp2
        go_roundw
        case rel => exact ⟨k + 1, by omega, by go_num, hoO, hxS⟩
        case measure => simp [intOf]; omega
      · rw [List.take_of_length_le (by omega), HD.out] at hoO
        clear q3
        go_wp2
        go_ret
        rw [HA.out, HC.out, if_pos rfl]
        exact ⟨_, rfl, hoO.mono hx1.size, hx1.trans hxS⟩
end Go.Proofs.Ytbcjikiakanncaa
