/- package bag: the parts of a bag: rows of numbers in a slice of slices; sums of parts. -/
import Derived.Test.YtbcjikiakanncaaBz
import Derived.Test.YtbcjikiakanncaaSq
import Derived.Test.YtbcjikiakanncaaBl
namespace Go.Proofs.Ytbcjikiakanncaa
open Go.RowKit
set_option linter.unusedVariables false

theorem info_isl : (Try.prog.info? 22).map (fun i => (i.zero, i.size, i.bytes)) = some (some (.slice none 0 0), 1, 24) := by kernel_rfl

/-- two slices that lie apart -/
def Apart (v v' : Value) : Prop := ∀ k, v.ownBlock = some k → v'.ownBlock ≠ some k
theorem Apart.symm {v v' : Value} (h : Apart v v') : Apart v' v := fun k h1 h2 => h k h2 h1
theorem apart_nil (v : Value) : Apart (.slice none 0 0) v := fun k h => by simp [Value.ownBlock] at h
theorem app_apart {w a b : World} {base : Nat} {e e' : TypeId} {o : Obj} {v v' v2 : Value} {ys : List Value} (h2 : Own a base e v2 ys) (hg : (a.alloc o).grownBy b v.ownBlock)
    (hv : v'.ownBlock = v.ownBlock ∨ v'.ownBlock = some (a.alloc o).heap.size) (hs : Apart v v2) : Own b base e v2 ys ∧ Apart v' v2 := by
  have ha : Ext a (a.alloc o) := (Ext.refl a).alloc o
  have h3 := h2.ext ha
  refine ⟨h3.of_block fun k hk => World.grownBy.block hg k (h3.lt k hk).2 (fun e' => hs k e'.symm hk), fun k hk hk2 => ?_⟩
  rcases hv with hv | hv
  · exact hs k (hv ▸ hk) hk2
  · rw [hv] at hk
    injection hk with hk
    have := (h3.lt k hk2).2
    omega

/-- a slice x of the slices vs; the row q holds M q (k numbers) -/
structure Mat (W : World) (base k : Nat) (x : Value) (vs : List Value) (M : Nat → List Int) : Prop where
  own : Own W base 22 x vs
  row : ∀ (q : Nat) (v : Value), vs[q]? = some v → (∃ g c, v = .slice (some ⟨g, 0, none⟩) k c) ∧ Own W base 3 v (vis (M q)) ∧ (M q).length = k
  sep : ∀ (q q' : Nat) (v v' : Value), vs[q]? = some v → vs[q']? = some v' → q ≠ q' → Apart v v'
  far : ∀ (q : Nat) (v : Value), vs[q]? = some v → Apart x v
section
variable {W W' : World} {base k : Nat} {x : Value} {vs : List Value} {M M' : Nat → List Int}
theorem Mat.ext (h : Mat W base k x vs M) (hx : Ext W W') : Mat W' base k x vs M :=
  ⟨h.own.ext hx, fun q v hq => ⟨(h.row q v hq).1, (h.row q v hq).2.1.ext hx, (h.row q v hq).2.2⟩, h.sep, h.far⟩
theorem Mat.congr (h : Mat W base k x vs M) (he : ∀ q, q < vs.length → M' q = M q) : Mat W base k x vs M' :=
  ⟨h.own, fun q v hq => by
    have hl : q < vs.length := by
      rcases Nat.lt_or_ge q vs.length with h | h
      · exact h
      · rw [List.getElem?_eq_none h] at hq; cases hq
    rw [he q hl]; exact h.row q v hq, h.sep, h.far⟩
theorem Mat.nil (W : World) (base k : Nat) (M : Nat → List Int) : Mat W base k (.slice none 0 0) [] M :=
  ⟨Own.nil _ _ _, fun q v h => by simp at h, fun q q' v v' h => by simp at h, fun q v h => by simp at h⟩
theorem Mat.snoc {b w0 : World} {o : Obj} {v' nv : Value} (h : Mat W base k x vs M) (hw : Ext w0 W) (hbase : base ≤ w0.heap.size) (hm0 : Mat w0 base k x vs M) (hn : Own W w0.heap.size 3 nv (vis (M vs.length))) (hns : ∃ g c, nv = .slice (some ⟨g, 0, none⟩) k c) (hnl : (M vs.length).length = k)
    (hg : (W.alloc o).grownBy b x.ownBlock) (hv : v'.ownBlock = x.ownBlock ∨ v'.ownBlock = some (W.alloc o).heap.size) (ho : Own b base 22 v' (vs ++ [nv])) : Mat b base k v' (vs ++ [nv]) M := by
  have hxn : Apart x nv := fun k' h1 h2 => by
    have a1 := (hm0.own.lt k' h1).2
    have a2 := (hn.lt k' h2).1
    omega
  have hnn := app_apart (v := x) (hn.mono hbase) hg hv hxn (w := W) (e' := 0)
  refine ⟨ho, fun q v hq => ?_, fun q q' v1 v2 h1 h2 hne => ?_, fun q v hq => ?_⟩
  · rcases Nat.lt_or_ge q vs.length with hl | hl
    · rw [List.getElem?_append_left hl] at hq
      obtain ⟨r1, r2, r3⟩ := h.row q v hq
      exact ⟨r1, (app_apart (v := x) r2 hg hv (h.far q v hq) (w := W) (e' := 0)).1, r3⟩
    · rw [List.getElem?_append_right hl] at hq
      have hq0 : q = vs.length := by
        rcases Nat.eq_zero_or_pos (q - vs.length) with h0 | h0
        · omega
        · rw [List.getElem?_eq_none (by simp; omega)] at hq; cases hq
      subst hq0
      simp at hq
      subst hq
      exact ⟨hns, hnn.1, hnl⟩
  · have key : ∀ i (u : Value), vs[i]? = some u → Apart u nv := fun i u hu k' h1 h2 => by
      have a1 := ((hm0.row i u hu).2.1.lt k' h1).2
      have a2 := (hn.lt k' h2).1
      omega
    rcases Nat.lt_or_ge q vs.length with hl | hl <;> rcases Nat.lt_or_ge q' vs.length with hl' | hl'
    · rw [List.getElem?_append_left hl] at h1
      rw [List.getElem?_append_left hl'] at h2
      exact h.sep q q' v1 v2 h1 h2 hne
    · rw [List.getElem?_append_left hl] at h1
      rw [List.getElem?_append_right hl'] at h2
      have hq0 : q' - vs.length = 0 := by
        rcases Nat.eq_zero_or_pos (q' - vs.length) with h0 | h0
        · exact h0
        · rw [List.getElem?_eq_none (by simp; omega)] at h2; cases h2
      rw [hq0] at h2
      simp at h2
      subst h2
      exact key q v1 h1
    · rw [List.getElem?_append_right hl] at h1
      rw [List.getElem?_append_left hl'] at h2
      have hq0 : q - vs.length = 0 := by
        rcases Nat.eq_zero_or_pos (q - vs.length) with h0 | h0
        · exact h0
        · rw [List.getElem?_eq_none (by simp; omega)] at h1; cases h1
      rw [hq0] at h1
      simp at h1
      subst h1
      exact (key q' v2 h2).symm
    · rw [List.getElem?_append_right hl] at h1
      rw [List.getElem?_append_right hl'] at h2
      have e1 : q = vs.length := by
        rcases Nat.eq_zero_or_pos (q - vs.length) with h0 | h0
        · omega
        · rw [List.getElem?_eq_none (by simp; omega)] at h1; cases h1
      have e2 : q' = vs.length := by
        rcases Nat.eq_zero_or_pos (q' - vs.length) with h0 | h0
        · omega
        · rw [List.getElem?_eq_none (by simp; omega)] at h2; cases h2
      omega
  · rcases Nat.lt_or_ge q vs.length with hl | hl
    · rw [List.getElem?_append_left hl] at hq
      exact (app_apart (v := x) (h.row q v hq).2.1 hg hv (h.far q v hq) (w := W) (e' := 0)).2
    · rw [List.getElem?_append_right hl] at hq
      have hq0 : q - vs.length = 0 := by
        rcases Nat.eq_zero_or_pos (q - vs.length) with h0 | h0
        · exact h0
        · rw [List.getElem?_eq_none (by simp; omega)] at hq; cases hq
      rw [hq0] at hq
      simp at hq
      subst hq
      exact hnn.2
/-- one number stored in row p -/
theorem Mat.store {p g c i : Nat} {y : Int} (h : Mat W base k x vs M) (hp : vs[p]? = some (.slice (some ⟨g, 0, none⟩) k c)) (hi : i < k) :
    (∃ u, W.cell? ⟨g, i, none⟩ = some u) ∧ W.frozen? ⟨g, i, none⟩ = false ∧ base ≤ g ∧ Mat (W.setCell ⟨g, i, none⟩ (.int .i64 y)) base k x vs (fun q => if q = p then (M p).set i y else M q) := by
  obtain ⟨-, ho, hl⟩ := h.row p _ hp
  have ho' : Own W base 3 (.slice (some ⟨g, 0, none⟩) (vis (M p)).length c) (vis (M p)) := by rw [vis_len, hl]; exact ho
  obtain ⟨h1, h2, h3⟩ := ho'.fill (k := i) (by rw [vis_len, hl]; exact hi)
  have h3 := h3 (.int .i64 y)
  rw [vis_len, hl, vis_set] at h3
  have hc := Chg.set g i W (.int .i64 y)
  refine ⟨h1, h2, (ho.lt g rfl).1, h.own.chg hc (fun e => h.far p _ hp g e rfl), fun q v hq => ?_, h.sep, h.far⟩
  by_cases e : q = p
  · subst e
    rw [hq] at hp
    injection hp with hp
    subst hp
    rw [if_pos rfl]
    exact ⟨(h.row q _ hq).1, h3, by rw [List.length_set]; exact hl⟩
  · rw [if_neg e]
    obtain ⟨r1, r2, r3⟩ := h.row q v hq
    exact ⟨r1, r2.chg hc (fun e' => h.sep q p v _ hq hp e g e' rfl), r3⟩
end

/-- the parts: Xs: for each item so far its split; row p: the p-th part of each, then zeros -/
def rowM (Xs : List (List Int)) (k p : Nat) : List Int := Xs.map (fun x => x.getD p 0) ++ List.replicate (k - Xs.length) 0
theorem rowM_nil (k p : Nat) : rowM [] k p = List.replicate k 0 := by simp [rowM]
theorem rowM_len (Xs : List (List Int)) (k p : Nat) (h : Xs.length ≤ k) : (rowM Xs k p).length = k := by simp [rowM]; omega
theorem rowM_set (Xs : List (List Int)) (x : List Int) (k p : Nat) (h : Xs.length < k) : (rowM Xs k p).set Xs.length (x.getD p 0) = rowM (Xs ++ [x]) k p := by
  unfold rowM
  rw [List.set_append_right _ _ (by simp)]
  have : k - Xs.length = (k - (Xs ++ [x]).length) + 1 := by simp; omega
  rw [this, List.replicate_succ, List.length_map, Nat.sub_self, List.set_cons_zero]
  simp
theorem rowM_full (Xs : List (List Int)) (k p : Nat) (h : Xs.length = k) : rowM Xs k p = Xs.map (fun x => x.getD p 0) := by simp [rowM, h]

/-- each item's split: n parts, none below 0, together the item's number -/
def GoodX (a : List Int) (n : Nat) (Xs : List (List Int)) : Prop := ∀ (j : Nat) (x : List Int), Xs[j]? = some x → x.length = n ∧ (∀ y ∈ x, 0 ≤ y) ∧ totS x = a.getD j 0
theorem GoodX.snoc {a : List Int} {n : Nat} {Xs : List (List Int)} {x : List Int} (h : GoodX a n Xs) (hl : x.length = n) (h0 : ∀ y ∈ x, 0 ≤ y) (hs : totS x = a.getD Xs.length 0) : GoodX a n (Xs ++ [x]) := fun j y hj => by
  rcases Nat.lt_or_ge j Xs.length with h1 | h1
  · rw [List.getElem?_append_left h1] at hj
    exact h j y hj
  · rw [List.getElem?_append_right h1] at hj
    have e : j = Xs.length := by
      rcases Nat.eq_zero_or_pos (j - Xs.length) with h0 | h0
      · omega
      · rw [List.getElem?_eq_none (by simp; omega)] at hj; cases hj
    subst e
    simp at hj
    subst hj
    exact ⟨hl, h0, hs⟩
theorem GoodX.mem {a : List Int} {n : Nat} {Xs : List (List Int)} (h : GoodX a n Xs) {x : List Int} (hx : x ∈ Xs) : x.length = n ∧ (∀ y ∈ x, 0 ≤ y) ∧ ∃ j, j < Xs.length ∧ totS x = a.getD j 0 := by
  obtain ⟨j, hj, rfl⟩ := List.getElem_of_mem hx
  obtain ⟨h1, h2, h3⟩ := h j _ (List.getElem?_eq_getElem hj)
  exact ⟨h1, h2, j, hj, h3⟩
theorem GoodX.tot {a : List Int} {n : Nat} {Xs : List (List Int)} (h : GoodX a n Xs) (hl : Xs.length = a.length) : Xs.map totS = a := by
  apply List.ext_getElem
  · simp [hl]
  · intro j h1 h2
    have hj : j < Xs.length := by simpa using h1
    have := (h j _ (List.getElem?_eq_getElem hj)).2.2
    simp only [List.getElem_map, this]
    simp [List.getD_eq_getElem?_getD, h2]

/-- a list turned -/
def rotL (x : List Int) (t : Nat) : List Int := x.drop t ++ x.take t
theorem rotL_tot (x : List Int) (t : Nat) : totS (rotL x t) = totS x := by
  unfold rotL
  rw [totS_app]
  conv => rhs; rw [← List.take_append_drop t x, totS_app]
  omega
theorem rotL_len (x : List Int) (t : Nat) : (rotL x t).length = x.length := by
  have := congrArg List.length (List.take_append_drop t x)
  unfold rotL
  simp only [List.length_append] at *; omega
theorem rotL_at (x : List Int) (t p : Nat) (ht : t < x.length) (hp : p < x.length) : (rotL x t)[p]? = some (x.getD ((p + t) % x.length) 0) := by
  unfold rotL
  rcases Nat.lt_or_ge p (x.length - t) with h | h
  · rw [List.getElem?_append_left (by simp; omega), List.getElem?_drop, Nat.mod_eq_of_lt (by omega), Nat.add_comm t p, List.getElem?_eq_getElem (by omega)]
    simp [List.getD_eq_getElem?_getD, show p + t < x.length by omega]
  · rw [List.getElem?_append_right (by simp; omega)]
    have e : (p + t) % x.length = p + t - x.length := by
      rw [Nat.mod_eq_sub_mod (by omega), Nat.mod_eq_of_lt (by omega)]
    rw [e, List.length_drop, List.getElem?_take, if_pos (by omega), show p - (x.length - t) = p + t - x.length by omega, List.getElem?_eq_getElem (by omega)]
    simp [List.getD_eq_getElem?_getD, show p + t - x.length < x.length by omega]
/-- the sum of the first p parts, counted from part t on -/
def partS (Xs : List (List Int)) (t p : Nat) : List Int := Xs.map fun x => totS ((rotL x t).take p)
theorem partS_zero (Xs : List (List Int)) (t : Nat) : partS Xs t 0 = List.replicate Xs.length 0 := by
  unfold partS
  rw [List.eq_replicate_iff]
  simp [totS]
theorem partS_end {Xs : List (List Int)} {a : List Int} {n : Nat} (h : GoodX a n Xs) (hl : Xs.length = a.length) (t : Nat) : partS Xs t n = a := by
  rw [← h.tot hl]
  unfold partS
  apply List.map_congr_left
  intro x hx
  rw [List.take_of_length_le (by rw [rotL_len, (h.mem hx).1]; omega), rotL_tot]
theorem partS_step {Xs : List (List Int)} {a : List Int} {n : Nat} (h : GoodX a n Xs) (t p : Nat) (ht : t < n) (hp : p < n) : List.zipWith (· + ·) (partS Xs t p) (Xs.map (fun x => x.getD ((p + t) % n) 0)) = partS Xs t (p + 1) := by
  unfold partS
  rw [List.zipWith_map]
  apply List.ext_getElem
  · simp
  · intro j h1 h2
    have hj : j < Xs.length := by simpa using h2
    have hx := (h.mem (List.getElem_mem hj)).1
    simp only [List.getElem_zipWith, List.getElem_map]
    have hp' : p < (rotL Xs[j] t).length := by rw [rotL_len, hx]; exact hp
    have he := rotL_at Xs[j] t p (by omega) (by omega)
    rw [List.getElem?_eq_getElem hp'] at he
    injection he with he
    rw [hx] at he
    rw [List.take_succ_eq_append_getElem hp', totS_snoc, he]
theorem partS_bag {Xs : List (List Int)} {a : List Int} {n : Nat} (h : GoodX a n Xs) (ha : isB a = true) (hl : Xs.length = a.length) (t p : Nat) : isB (partS Xs t p) = true := by
  refine isB_of (fun i hi => ?_) (by have := isB_len ha; simp [partS]; omega)
  have hj : i < Xs.length := by simpa [partS] using hi
  obtain ⟨h1, h2, h3⟩ := h i _ (List.getElem?_eq_getElem hj)
  have hr : ∀ y ∈ rotL Xs[i] t, 0 ≤ y := fun y hy => by
    rcases List.mem_append.1 hy with hy | hy
    · exact h2 y (List.mem_of_mem_drop hy)
    · exact h2 y (List.mem_of_mem_take hy)
  have e : (partS Xs t p)[i] = totS ((rotL Xs[i] t).take p) := by simp [partS]
  rw [e]
  have hai := isB_get ha i (by omega)
  have hsum : totS ((rotL Xs[i] t).take p) + totS ((rotL Xs[i] t).drop p) = a.getD i 0 := by
    rw [← totS_app, List.take_append_drop, rotL_tot, h3]
  have h4 := totS_nonneg (fun y hy => hr y (List.mem_of_mem_take hy)) (l := (rotL Xs[i] t).take p)
  have h5 := totS_nonneg (fun y hy => hr y (List.mem_of_mem_drop hy)) (l := (rotL Xs[i] t).drop p)
  have h6 : a.getD i 0 = a[i]'(by omega) := getD_of (by omega)
  omega
theorem row_bag {Xs : List (List Int)} {a : List Int} {n : Nat} (h : GoodX a n Xs) (ha : isB a = true) (hl : Xs.length = a.length) (q : Nat) : isB (Xs.map (fun x => x.getD q 0)) = true := by
  refine isB_of (fun i hi => ?_) (by have := isB_len ha; simp; omega)
  have hj : i < Xs.length := by simpa using hi
  obtain ⟨h1, h2, h3⟩ := h i _ (List.getElem?_eq_getElem hj)
  simp only [List.getElem_map]
  have h0 : 0 ≤ (Xs[i]).getD q 0 := getD_mem0 (P := fun y => 0 ≤ y) (by omega) h2 q
  have hai := isB_get ha i (by omega)
  have h6 : a.getD i 0 = a[i]'(by omega) := getD_of (by omega)
  have h7 : (Xs[i]).getD q 0 ≤ totS Xs[i] := by
    rcases Nat.lt_or_ge q (Xs[i]).length with hq | hq
    · rw [getD_of hq]; exact totS_mem h2 _ (List.getElem_mem hq)
    · rw [List.getD_eq_getElem?_getD, List.getElem?_eq_none hq]
      have := totS_nonneg h2
      simpa using this
  omega
theorem add_parts {Xs : List (List Int)} {a : List Int} {n : Nat} (h : GoodX a n Xs) (ha : isB a = true) (hl : Xs.length = a.length) (t p : Nat) (ht : t < n) (hp : p < n) :
    addB (partS Xs t p) (Xs.map (fun x => x.getD ((p + t) % n) 0)) = (partS Xs t (p + 1), 0) := by
  unfold addB
  have hf : fitB (partS Xs t p) (Xs.map (fun x => x.getD ((p + t) % n) 0)) = true := (fitB_iff _ _).2 ⟨partS_bag h ha hl t p, row_bag h ha hl _, by simp [partS]⟩
  rw [if_pos hf, partS_step h t p ht hp, if_pos (partS_bag h ha hl t (p + 1))]
end Go.Proofs.Ytbcjikiakanncaa
