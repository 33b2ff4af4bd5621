/- package bag: the reference's Of: contract. -/
import Derived.Test.YtbcjikiakanncaaBo1
namespace Go.Proofs.Ytbcjikiakanncaa
open Go.RowKit
set_option linter.unusedVariables false

theorem own_store {w : World} {base g cap n : Nat} {e : TypeId} {l : List Int} (h : Own w base e (.slice (some ⟨g, 0, none⟩) n cap) (vis l)) (hl : l.length = n) {k : Nat} (hk : k < n) :
    w.cell? ⟨g, k, none⟩ = some (.int .i64 (l.getD k 0)) ∧ w.frozen? ⟨g, k, none⟩ = false ∧ ∀ x, Own (w.setCell ⟨g, k, none⟩ (.int .i64 x)) base e (.slice (some ⟨g, 0, none⟩) n cap) (vis (l.set k x)) := by
  subst hl
  have h' : Own w base e (.slice (some ⟨g, 0, none⟩) (vis l).length cap) (vis l) := by rw [vis_len]; exact h
  obtain ⟨-, h2, h3⟩ := h'.fill (k := k) (by rw [vis_len]; exact hk)
  obtain ⟨g', cap', hv, -, -, hc, -, -⟩ := h'.at (by rw [vis_len]; omega)
  injection hv with e1 _ _
  injection e1 with e1
  injection e1 with e1
  subst e1
  refine ⟨hc w (Ext.refl w) k _ (by simp [vis, hk]), h2, fun x => ?_⟩
  have := h3 (.int .i64 x)
  rw [vis_len, vis_set] at this
  exact this

set_option maxRecDepth 100000 in
set_option maxHeartbeats 4000000 in
theorem ofR_any (n : Int) (v : Value) (l : List Amt) (w : World) (hn : inI64 n) (h : RdA w v l) (hl : AmtsOk l) :
    Calls Try.prog 31 #[.int .i64 n, v] w fun e w' => ∃ v', e = .returned (.tuple #[v', .int .i64 (ofB n l).2]) ∧ Own w' w.heap.size 3 v' (vis (ofB n l).1) ∧ Ext w w' := by
  have HA : Hid (ofB n l = if properB n l then (match ofGo (List.replicate n.toNat 0) l with | some o => (o, (0 : Int)) | none => ([], 4)) else ([], 1)) := Lib.hid rfl
  obtain ⟨A, c, rfl, a1, a2, a3⟩ := h.form
  simp only [maxLen] at a2
  go_enter Try.func31, Try.ntmps31
  go_wp2_with fail
  refine (properR_any n _ l _ hn h hl).mono ?_
  rintro e w1 ⟨rfl, hx1⟩
  rcases hc : properB n l with _ | _
  · have HC := Lib.hid hc
    clear hc
    go_wp2
    go_ret2
    rw [HA.out, HC.out]
    exact ⟨_, rfl, Own.of_nil, hx1⟩
  · have HC := Lib.hid hc
    obtain ⟨hpr, hn0, hn64⟩ := (properB_iff n l).1 hc
    have HP := Lib.hid hpr
    clear hc hpr
    obtain ⟨N, hN⟩ : ∃ N : Nat, n = (N : Int) := ⟨n.toNat, by omega⟩
    subst hN
    have hs1 := hx1.size
    go_wp2_with fail
    refine (zero_any N _ (by omega)).mono ?_
    rintro e w2 ⟨vz, rfl, ho2, hx2⟩
    obtain ⟨Az, cz, hvz, hAz⟩ := ho2.form'
    rw [vis_len, List.length_replicate] at hvz hAz
    subst hvz
    have HO0 : Hid (ofGo (List.replicate N 0) (l.drop 0) = ofGo (List.replicate (N : Int).toNat 0) l) := Lib.hid (by rw [List.drop_zero]; rfl)
    go_wp2_with fail
    go_loopw [8] (fun i wr => ∃ k : Nat, ∃ O : List Int, k ≤ l.length ∧ i = .int .i64 k ∧ Hid (O.length = N) ∧ Own wr w1.heap.size 3 (.slice Az N cz) (vis O) ∧ Ext w1 wr ∧ Hid (∀ i (h : i < O.length), 0 ≤ O[i] ∧ O[i] ≤ 1099511627776) ∧ Hid (ofGo O (l.drop k) = ofGo (List.replicate (N : Int).toNat 0) l)) (fun i _ => l.length - (intOf i).toNat)
    case atStart => exact ⟨0, _, by omega, rfl, Lib.hid (by simp), ho2, hx2, Lib.hid (by intro i h; simp), HO0⟩
    case round =>
      obtain ⟨k, O, hk, rfl, HON, ho, hxr, hP, hD⟩ := hrel
      have hszr := hxr.size
      by_cases hlt : k < l.length
      · obtain ⟨b, off, rfl, hcx⟩ := a3 (by omega)
        obtain ⟨c1, c2⟩ := hcx wr (hx1.trans hxr) k hlt
        obtain ⟨p1, p2, p3, p4⟩ := HP.out l[k] (by simp)
        obtain ⟨x, hx⟩ : ∃ x : Nat, l[k].1 = (x : Int) := ⟨l[k].1.toNat, by omega⟩
        have hxlt : x < N := by omega
        have hxO : x < O.length := by have := HON.out; omega
        have HD := Lib.hid (hD.out.symm.trans (ofGo_step hlt x hx hxO))
        obtain ⟨o1, o2⟩ := hP.out x hxO
        rw [hx] at c1 p1 p2
        obtain ⟨gz, rfl⟩ := hAz (by omega)
        have hgz := (ho.lt gz rfl).1
        obtain ⟨d1, f1, hset⟩ := own_store ho HON.out hxlt
        rw [show O.getD x 0 = O[x] by rw [List.getD_eq_getElem?_getD, List.getElem?_eq_getElem hxO]; rfl] at d1
        generalize l[k].2 = y at *
        have hxs : Hid (∀ z, 0 ≤ z → z ≤ 1099511627776 → ∀ i (h : i < (O.set x z).length), 0 ≤ (O.set x z)[i] ∧ (O.set x z)[i] ≤ 1099511627776) := Lib.hid (fun z h0 h1 i h => by
          rw [List.getElem_set]
          split
          · omega
          · exact hP.out i (by simpa using h))
        generalize O[x] = q at *
        have HSET := Lib.hid hset
        have HX := Lib.hid hx
        have HSL : Hid (∀ z, (O.set x z).length = N ∧ (O.set x z).getD x 0 = z) := Lib.hid (fun z => ⟨by rw [List.length_set]; exact HON.out, by simp [List.getD, hxO]⟩)
        have HXN : Hid (∀ z, Ext w1 (wr.setCell ⟨gz, x, none⟩ (.int .i64 z))) := Lib.hid (fun z => hxr.setCell (p := ⟨gz, x, none⟩) hgz (.int .i64 z))
        have HCX := Lib.hid hcx
        have e0 : (0 : Int) ≤ (x : Int) := by omega
        have e1 : (x : Int) < (N : Int) := by omega
        have k0 : (0 : Int) ≤ (k : Int) := by omega
        have hlt' : (k : Int) < (l.length : Int) := by omega
        have hq : inI64 (q + y) := ⟨by omega, by omega⟩
        clear hx hcx a3 hxO hP hD hl ho hset
        go_wp2_with fail
        go_region
        obtain ⟨wn, hwn⟩ : ∃ wn : World, wn = (wr.setCell ⟨gz, x, none⟩ (.int .i64 (q + y))).drew := ⟨_, rfl⟩
        rw [← hwn]
        have hxn : Ext w1 wn := by rw [hwn]; exact (HXN.out _).drew
        have hon : Own wn w1.heap.size 3 (.slice (some ⟨gz, 0, none⟩) N cz) (vis (O.set x (q + y))) := by rw [hwn]; exact (HSET.out _).ext (Ext.refl _).drew
        clear hwn c1 c2 d1 f1
        obtain ⟨hsl, hsg⟩ := HSL.out (q + y)
        obtain ⟨c1, -⟩ := HCX.out wn (hx1.trans hxn) k hlt
        obtain ⟨d1, -, -⟩ := own_store hon hsl hxlt
        rw [HX.out] at c1
        rw [hsg] at d1
        have HSL2 := Lib.hid hsl
        clear hsl hsg
        by_cases hbig : 1099511627776 < q + y
        · rw [if_pos hbig] at HD
          go_wp2_with fail
          go_ret2
          rw [HA.out, HC.out, if_pos rfl, HD.out]
          exact ⟨_, rfl, Own.of_nil, hx1.trans hxn⟩
        · rw [if_neg hbig] at HD
          have HS := Lib.hid (hxs.out (q + y) (by omega) (by omega))
          go_wp2_with fail
          go_roundw
          case rel => exact ⟨k + 1, _, by omega, by go_num, HSL2, hon, hxn, HS, HD.out.symm⟩
          case measure => simp [intOf]; omega
      · have hke : l.drop k = [] := List.drop_eq_nil_of_le (by omega)
        rw [hke] at hD
        have HD := Lib.hid hD.out.symm
        have hown := ho.mono hs1
        clear a3 hl hke hD ho
        go_wp2
        go_ret2
        rw [HA.out, HC.out, if_pos rfl, HD.out]
        exact ⟨_, rfl, hown, hx1.trans hxr⟩
end Go.Proofs.Ytbcjikiakanncaa
