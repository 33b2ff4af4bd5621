/- The plain side of package bag: its laws, over lists of integers. Nothing of the program is named. -/
import Derived.Test.YtbcjikiakanncaaBp
namespace Go.Proofs.Ytbcjikiakanncaa
open Go.RowKit
set_option linter.unusedVariables false

theorem addB_cases (a b : List Int) (h : fitB a b = true) :
    (isB (List.zipWith (· + ·) a b) = true ∧ addB a b = (List.zipWith (· + ·) a b, 0)) ∨ (isB (List.zipWith (· + ·) a b) = false ∧ addB a b = ([], 4)) := by
  unfold addB
  rw [h]
  cases hz : isB (List.zipWith (· + ·) a b)
  · exact .inr ⟨rfl, rfl⟩
  · exact .inl ⟨rfl, rfl⟩
theorem subB_cases (a b : List Int) (h : fitB a b = true) :
    (isB (List.zipWith (· - ·) a b) = true ∧ subB a b = (List.zipWith (· - ·) a b, 0)) ∨ (isB (List.zipWith (· - ·) a b) = false ∧ subB a b = ([], 10)) := by
  unfold subB
  rw [h]
  cases hz : isB (List.zipWith (· - ·) a b)
  · exact .inr ⟨rfl, rfl⟩
  · exact .inl ⟨rfl, rfl⟩
theorem timesB_cases (b : List Int) (k : Int) (h : timesOk b k = true) :
    (isB (b.map (· * k)) = true ∧ timesB b k = (b.map (· * k), 0)) ∨ (isB (b.map (· * k)) = false ∧ timesB b k = ([], 4)) := by
  unfold timesB
  rw [h]
  cases hz : isB (b.map (· * k))
  · exact .inr ⟨rfl, rfl⟩
  · exact .inl ⟨rfl, rfl⟩
theorem fitB_mk {a b : List Int} (ha : isB a = true) (hb : isB b = true) (hl : a.length = b.length) : fitB a b = true := (fitB_iff a b).2 ⟨ha, hb, hl⟩
theorem fitB_symm {a b : List Int} (h : fitB a b = true) : fitB b a = true := by
  obtain ⟨ha, hb, hl⟩ := (fitB_iff a b).1 h
  exact fitB_mk hb ha hl.symm
theorem zw_comm (f : Int → Int → Int) (hf : ∀ x y, f x y = f y x) (a b : List Int) : List.zipWith f a b = List.zipWith f b a := by
  refine List.ext_getElem (by simp; omega) (fun i h1 h2 => ?_)
  simp [hf]
theorem addB_comm (a b : List Int) : addB a b = addB b a := by
  have h1 : fitB a b = fitB b a := by
    cases h : fitB b a with
    | true => exact fitB_symm h
    | false =>
      cases h' : fitB a b with
      | false => rfl
      | true => rw [fitB_symm h'] at h; cases h
  unfold addB
  rw [h1, zw_comm (· + ·) (fun x y => Int.add_comm x y) a b]
/-- a sum within the limit is a bag again, of the same length -/
theorem addB_ok {a b : List Int} (h : fitB a b = true) (h0 : (addB a b).2 = 0) : isB (addB a b).1 = true ∧ (addB a b).1.length = a.length ∧ (addB a b).1 = List.zipWith (· + ·) a b ∧ isB (List.zipWith (· + ·) a b) = true := by
  rcases addB_cases a b h with ⟨hz, he⟩ | ⟨hz, he⟩
  · rw [he]
    exact ⟨hz, zw_len _ _ _ ((fitB_iff a b).1 h).2.2, rfl, hz⟩
  · rw [he] at h0
    simp at h0
theorem addB_limit {a b : List Int} (h : fitB a b = true) (h0 : ¬ (addB a b).2 = 0) : (addB a b).2 = 4 := by
  rcases addB_cases a b h with ⟨hz, he⟩ | ⟨hz, he⟩
  · rw [he] at h0; exact absurd rfl h0
  · rw [he]
theorem sub_back {a b : List Int} (h : fitB a b = true) (h0 : (addB a b).2 = 0) : subB (addB a b).1 b = (a, 0) := by
  obtain ⟨ha, hb, hl⟩ := (fitB_iff a b).1 h
  obtain ⟨h1, h2, h3, h4⟩ := addB_ok h h0
  rw [h3]
  have hf : fitB (List.zipWith (· + ·) a b) b = true := fitB_mk h4 hb (by rw [zw_len _ _ _ hl]; exact hl)
  have hz : List.zipWith (· - ·) (List.zipWith (· + ·) a b) b = a := by
    refine List.ext_getElem (by simp; omega) (fun i h1 h2 => ?_)
    simp <;> omega
  unfold subB
  rw [hf, hz, ha]
  rfl
theorem join_meet {a b : List Int} (h : fitB a b = true) (h0 : (addB a b).2 = 0) : addB (joinB a b) (meetB a b) = ((addB a b).1, 0) := by
  obtain ⟨ha, hb, hl⟩ := (fitB_iff a b).1 h
  obtain ⟨h1, h2, h3, h4⟩ := addB_ok h h0
  have hf : fitB (joinB a b) (meetB a b) = true := fitB_mk (joinB_isB a b) (meetB_isB a b) (by
    unfold joinB meetB; rw [h]; simp)
  have hz : List.zipWith (· + ·) (joinB a b) (meetB a b) = List.zipWith (· + ·) a b := by
    unfold joinB meetB
    rw [h]
    refine List.ext_getElem (by simp) (fun i h1 h2 => ?_)
    simp
    omega
  unfold addB at *
  rw [hf, hz, h4, h]
  rfl
theorem add_three {a b c : List Int} (h : fitB a b = true) (hbc : fitB b c = true) (h0 : (addB a b).2 = 0) (hj : ¬ (addB b c).2 = 0) : (addB (addB a b).1 c).2 = 4 := by
  obtain ⟨ha, hb, hl⟩ := (fitB_iff a b).1 h
  obtain ⟨_, hc, hl2⟩ := (fitB_iff b c).1 hbc
  obtain ⟨h1, h2, h3, h4⟩ := addB_ok h h0
  have hf : fitB (addB a b).1 c = true := fitB_mk h1 hc (by omega)
  rcases addB_cases _ _ hf with ⟨hz, he⟩ | ⟨hz, he⟩
  · exfalso
    rcases addB_cases b c hbc with ⟨hz', he'⟩ | ⟨hz', he'⟩
    · rw [he'] at hj; exact hj rfl
    · rw [← Bool.not_eq_true, isB_zw_add b c hbc] at hz'
      refine hz' (fun i hi1 hi2 => ?_)
      have := (isB_zw_add _ _ hf).1 hz i (by omega) hi2
      have ha0 := isB_get ha i (by omega)
      simp only [h3] at this
      simp at this
      omega
  · rw [he]
theorem add_assoc {a b c : List Int} (h : fitB a b = true) (hbc : fitB b c = true) (h0 : (addB a b).2 = 0) (hj : (addB b c).2 = 0) : addB (addB a b).1 c = addB a (addB b c).1 := by
  obtain ⟨ha, hb, hl⟩ := (fitB_iff a b).1 h
  obtain ⟨_, hc, hl2⟩ := (fitB_iff b c).1 hbc
  obtain ⟨h1, h2, h3, h4⟩ := addB_ok h h0
  obtain ⟨g1, g2, g3, g4⟩ := addB_ok hbc hj
  have hf : fitB (List.zipWith (· + ·) a b) c = true := fitB_mk h4 hc (by rw [zw_len _ _ _ hl]; omega)
  have hg : fitB a (List.zipWith (· + ·) b c) = true := fitB_mk ha g4 (by rw [zw_len _ _ _ hl2]; omega)
  have hz : List.zipWith (· + ·) (List.zipWith (· + ·) a b) c = List.zipWith (· + ·) a (List.zipWith (· + ·) b c) := by
    refine List.ext_getElem (by simp <;> omega) (fun i h1 h2 => ?_)
    simp; omega
  rw [h3, g3]
  unfold addB
  rw [hf, hg, hz]

/-- most -/
theorem most_le : ∀ (l : List (Int × Int)) (k x : Int), (x ≤ l.foldl mostStep k ↔ x ≤ k ∧ ∀ p ∈ l, 0 < p.2 → x ≤ p.1 / p.2)
  | [], k, x => by simp
  | p :: r, k, x => by
    rw [List.foldl_cons, most_le r _ x]
    unfold mostStep
    constructor
    · rintro ⟨h1, h2⟩
      split at h1
      · rename_i hp
        refine ⟨by omega, fun q hq hq0 => ?_⟩
        rcases List.mem_cons.1 hq with rfl | hq
        · omega
        · exact h2 q hq hq0
      · rename_i hp
        refine ⟨h1, fun q hq hq0 => ?_⟩
        rcases List.mem_cons.1 hq with rfl | hq
        · omega
        · exact h2 q hq hq0
    · rintro ⟨h1, h2⟩
      refine ⟨?_, fun q hq hq0 => h2 q (by simp [hq]) hq0⟩
      split
      · rename_i hp
        have := h2 p (by simp) hp
        omega
      · exact h1
theorem coversB_iff {a b : List Int} (h : fitB a b = true) : coversB a b = true ↔ ∀ i (h1 : i < a.length) (h2 : i < b.length), b[i] ≤ a[i] := by
  rw [← isB_zw_sub a b h]
  unfold coversB
  rcases subB_cases a b h with ⟨hz, he⟩ | ⟨hz, he⟩
  · rw [he, hz]; simp
  · rw [he, hz]; simp
theorem timesB_len {b : List Int} {k : Int} (h : timesOk b k = true) (h0 : (timesB b k).2 = 0) : isB (timesB b k).1 = true ∧ (timesB b k).1 = b.map (· * k) := by
  rcases timesB_cases b k h with ⟨hz, he⟩ | ⟨hz, he⟩
  · rw [he]; exact ⟨hz, rfl⟩
  · rw [he] at h0; simp at h0
theorem most_covers {a b : List Int} {x : Int} (h : fitB a b = true) (hx0 : 0 ≤ x) (hx : x ≤ 40) :
    ((timesB b x).2 = 0 ∧ coversB a (timesB b x).1 = true) ↔ x ≤ mostB a b := by
  obtain ⟨ha, hb, hl⟩ := (fitB_iff a b).1 h
  have ht : timesOk b x = true := (timesOk_iff b x).2 ⟨hb, hx0, by omega⟩
  have hm : x ≤ mostB a b ↔ ∀ i (h1 : i < a.length) (h2 : i < b.length), b[i] * x ≤ a[i] := by
    unfold mostB
    rw [h, if_pos rfl, most_le]
    constructor
    · rintro ⟨_, h2⟩ i hi1 hi2
      have hbi := isB_get hb i hi2
      have hai := isB_get ha i hi1
      by_cases hp : 0 < b[i]
      · have hmem : (a[i], b[i]) ∈ a.zip b := by
          have : (a.zip b)[i]'(by simp; omega) = (a[i], b[i]) := by simp
          rw [← this]; exact List.getElem_mem _
        have := h2 _ hmem hp
        have h3 := Int.mul_le_mul_of_nonneg_left this (show 0 ≤ b[i] by omega)
        have h4 := Int.mul_ediv_self_le (x := a[i]) (k := b[i]) (by omega)
        simp only at h3
        omega
      · have h0 : b[i] = 0 := by omega
        rw [h0]; omega
    · intro hi
      refine ⟨by omega, fun p hp hp0 => ?_⟩
      obtain ⟨i, hil, rfl⟩ := List.getElem_of_mem hp
      simp at hil
      have := hi i (by omega) (by omega)
      simp at hp0 ⊢
      exact (Int.le_ediv_iff_mul_le hp0).2 (by rw [Int.mul_comm]; exact this)
  rw [hm]
  rcases timesB_cases b x ht with ⟨hz, he⟩ | ⟨hz, he⟩
  · rw [he]
    have hf : fitB a (b.map (· * x)) = true := fitB_mk ha hz (by simp; exact hl)
    rw [coversB_iff hf]
    constructor
    · rintro ⟨_, hc⟩ i h1 h2
      have := hc i h1 (by simpa using h2)
      simpa using this
    · intro hc
      refine ⟨rfl, fun i h1 h2 => ?_⟩
      have := hc i h1 (by simpa using h2)
      simpa using this
  · rw [he]
    constructor
    · rintro ⟨h4, _⟩; simp at h4
    · intro hc
      rw [← Bool.not_eq_true, isB_map_mul b x ht] at hz
      exact absurd (fun i h1 => by
        have := hc i (by omega) h1
        have := isB_get ha i (by omega)
        omega) hz
theorem times_limit {b : List Int} {k : Int} (h : timesOk b k = true) (h0 : ¬ (timesB b k).2 = 0) : (timesB b k).2 = 4 := by
  rcases timesB_cases b k h with ⟨hz, he⟩ | ⟨hz, he⟩
  · rw [he] at h0; exact absurd rfl h0
  · rw [he]
theorem times_add {b : List Int} {x y : Int} (hb : isB b = true) (hx0 : 0 ≤ x) (hx : x ≤ 40) (hy0 : 0 ≤ y) (hy : y ≤ 40) (h0 : (timesB b (x + y)).2 = 0) :
    (timesB b x).2 = 0 ∧ (timesB b y).2 = 0 ∧ addB (timesB b x).1 (timesB b y).1 = ((timesB b (x + y)).1, 0) := by
  have tx : timesOk b x = true := (timesOk_iff b x).2 ⟨hb, hx0, by omega⟩
  have ty : timesOk b y = true := (timesOk_iff b y).2 ⟨hb, hy0, by omega⟩
  have tz : timesOk b (x + y) = true := (timesOk_iff b (x + y)).2 ⟨hb, by omega, by omega⟩
  obtain ⟨h1, h2⟩ := timesB_len tz h0
  rw [h2] at h1
  have hm := (isB_map_mul b (x + y) tz).1 h1
  have kx : isB (b.map (· * x)) = true := (isB_map_mul b x tx).2 (fun i hi => by
    have := hm i hi
    have hbi := isB_get hb i hi
    have hn := Int.mul_nonneg hbi.1 hy0
    rw [Int.mul_add] at this
    omega)
  have ky : isB (b.map (· * y)) = true := (isB_map_mul b y ty).2 (fun i hi => by
    have := hm i hi
    have hbi := isB_get hb i hi
    have hn := Int.mul_nonneg hbi.1 hx0
    rw [Int.mul_add] at this
    omega)
  have ex : timesB b x = (b.map (· * x), 0) := by unfold timesB; rw [tx, kx]; rfl
  have ey : timesB b y = (b.map (· * y), 0) := by unfold timesB; rw [ty, ky]; rfl
  rw [ex, ey, h2]
  refine ⟨rfl, rfl, ?_⟩
  have hf : fitB (b.map (· * x)) (b.map (· * y)) = true := fitB_mk kx ky (by simp)
  have hz : List.zipWith (· + ·) (b.map (· * x)) (b.map (· * y)) = b.map (· * (x + y)) := by
    refine List.ext_getElem (by simp) (fun i h1 h2 => ?_)
    simp [Int.mul_add]
  show addB (b.map (· * x)) (b.map (· * y)) = _
  unfold addB
  rw [hf, hz, h1]
  rfl

/-- the lattice -/
theorem joinB_eq {a b : List Int} (h : fitB a b = true) : joinB a b = List.zipWith max a b := by unfold joinB; rw [h]; rfl
theorem meetB_eq {a b : List Int} (h : fitB a b = true) : meetB a b = List.zipWith min a b := by unfold meetB; rw [h]; rfl
theorem joinB_len {a b : List Int} (h : fitB a b = true) : (joinB a b).length = a.length := by rw [joinB_eq h]; exact zw_len _ _ _ ((fitB_iff a b).1 h).2.2
theorem meetB_len {a b : List Int} (h : fitB a b = true) : (meetB a b).length = a.length := by rw [meetB_eq h]; exact zw_len _ _ _ ((fitB_iff a b).1 h).2.2
theorem joinB_fit {a b c : List Int} (h : fitB a b = true) (hc : isB c = true) (hl : a.length = c.length) : fitB (joinB a b) c = true := fitB_mk (joinB_isB a b) hc (by rw [joinB_len h]; exact hl)
theorem meetB_fit {a b c : List Int} (h : fitB a b = true) (hc : isB c = true) (hl : a.length = c.length) : fitB (meetB a b) c = true := fitB_mk (meetB_isB a b) hc (by rw [meetB_len h]; exact hl)
theorem join_covers {a b : List Int} (h : fitB a b = true) : coversB (joinB a b) a = true ∧ coversB (joinB a b) b = true := by
  obtain ⟨ha, hb, hl⟩ := (fitB_iff a b).1 h
  constructor
  · rw [coversB_iff (joinB_fit h ha rfl)]
    intro i h1 h2
    simp only [joinB_eq h, zw_get]
    omega
  · rw [coversB_iff (joinB_fit h hb hl)]
    intro i h1 h2
    simp only [joinB_eq h, zw_get]
    omega
theorem meet_covers {a b : List Int} (h : fitB a b = true) : coversB a (meetB a b) = true ∧ coversB b (meetB a b) = true := by
  obtain ⟨ha, hb, hl⟩ := (fitB_iff a b).1 h
  constructor
  · rw [coversB_iff (fitB_symm (meetB_fit h ha rfl))]
    intro i h1 h2
    simp only [meetB_eq h, zw_get]
    omega
  · rw [coversB_iff (fitB_symm (meetB_fit h hb hl))]
    intro i h1 h2
    simp only [meetB_eq h, zw_get]
    omega
theorem join_least {a b c : List Int} (h : fitB a b = true) (hc : isB c = true) (hl : a.length = c.length) (h1 : coversB c a = true) (h2 : coversB c b = true) : coversB c (joinB a b) = true := by
  obtain ⟨ha, hb, hl2⟩ := (fitB_iff a b).1 h
  rw [coversB_iff (fitB_mk hc ha hl.symm)] at h1
  rw [coversB_iff (fitB_mk hc hb (by omega))] at h2
  rw [coversB_iff (fitB_symm (joinB_fit h hc hl))]
  intro i hi1 hi2
  have := h1 i hi1 (by omega)
  have := h2 i hi1 (by omega)
  simp only [joinB_eq h, zw_get]
  omega
theorem meet_most {a b c : List Int} (h : fitB a b = true) (hc : isB c = true) (hl : a.length = c.length) (h1 : coversB a c = true) (h2 : coversB b c = true) : coversB (meetB a b) c = true := by
  obtain ⟨ha, hb, hl2⟩ := (fitB_iff a b).1 h
  rw [coversB_iff (fitB_mk ha hc hl)] at h1
  rw [coversB_iff (fitB_mk hb hc (by omega))] at h2
  rw [coversB_iff (meetB_fit h hc hl)]
  intro i hi1 hi2
  have := h1 i (by omega) hi2
  have := h2 i (by omega) hi2
  simp only [meetB_eq h, zw_get]
  omega
theorem join_self {a : List Int} (ha : isB a = true) : joinB a a = a := by
  rw [joinB_eq (fitB_mk ha ha rfl)]
  refine List.ext_getElem (by simp) (fun i h1 h2 => ?_)
  simp
theorem meet_join {a b : List Int} (h : fitB a b = true) : meetB a (joinB a b) = a := by
  obtain ⟨ha, hb, hl⟩ := (fitB_iff a b).1 h
  rw [meetB_eq (fitB_symm (joinB_fit h ha rfl)), joinB_eq h]
  refine List.ext_getElem (by simp; omega) (fun i h1 h2 => ?_)
  simp
  omega
theorem join_meet_self {a b : List Int} (h : fitB a b = true) : joinB a (meetB a b) = a := by
  obtain ⟨ha, hb, hl⟩ := (fitB_iff a b).1 h
  rw [joinB_eq (fitB_symm (meetB_fit h ha rfl)), meetB_eq h]
  refine List.ext_getElem (by simp; omega) (fun i h1 h2 => ?_)
  simp
  omega
end Go.Proofs.Ytbcjikiakanncaa
