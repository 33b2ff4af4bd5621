/- The plain side of package hash: mixing is injective in each argument; what follows for sums. Nothing of the program is named. -/
import Derived.Test.YtjgpdimhgcacgaaHp
namespace Go.Proofs.Ytjgpdimhgcacgaa
open Go.RowKit
set_option linter.unusedVariables false

def inU64 (n : Int) : Prop := 0 ≤ n ∧ n ≤ 18446744073709551615

theorem xor_cancel_r {a b c : Nat} (h : a ^^^ c = b ^^^ c) : a = b := by
  have := congrArg (· ^^^ c) h
  simpa [Nat.xor_assoc] using this
theorem xor_cancel_l {a b c : Nat} (h : c ^^^ a = c ^^^ b) : a = b := by
  rw [Nat.xor_comm c, Nat.xor_comm c] at h; exact xor_cancel_r h

theorem xor_shift_inj (m n : Nat) (hm : m < 18446744073709551616) (hn : n < 18446744073709551616) (h : m ^^^ (m / 4294967296) = n ^^^ (n / 4294967296)) : m = n := by
  have sh : ∀ x : Nat, x / 4294967296 = x >>> 32 := fun x => by rw [Nat.shiftRight_eq_div_pow]
  rw [sh, sh] at h
  have top : ∀ x : Nat, x < 18446744073709551616 → (x ^^^ (x >>> 32)) >>> 32 = x >>> 32 := by
    intro x hx
    rw [Nat.shiftRight_xor_distrib, ← Nat.shiftRight_add]
    have : x >>> (32 + 32) = 0 := by rw [Nat.shiftRight_eq_div_pow]; exact Nat.div_eq_of_lt (by omega)
    rw [this, Nat.xor_zero]
  have h2 : m >>> 32 = n >>> 32 := by rw [← top m hm, ← top n hn, h]
  rw [h2] at h
  exact xor_cancel_r h

theorem mul_inj (x y : Nat) (hx : x < 18446744073709551616) (hy : y < 18446744073709551616) (h : x * 11400714819323198485 % 18446744073709551616 = y * 11400714819323198485 % 18446744073709551616) : x = y := by
  have key : ∀ z : Nat, z < 18446744073709551616 → (z * 11400714819323198485 % 18446744073709551616) * 17428512612931826493 % 18446744073709551616 = z := by
    intro z hz
    rw [Nat.mod_mul_mod, Nat.mul_assoc, show 11400714819323198485 * 17428512612931826493 = 10771413168148108919 * 18446744073709551616 + 1 by decide]
    rw [Nat.mul_add, ← Nat.mul_assoc, Nat.mul_one, Nat.mul_add_mod_self_right]
    exact Nat.mod_eq_of_lt hz
  rw [← key x hx, ← key y hy, h]


def mixN (a b : Nat) : Nat := ((a ^^^ b) * 11400714819323198485 % 18446744073709551616) ^^^ ((a ^^^ b) * 11400714819323198485 % 18446744073709551616 / 4294967296)

theorem xor_lt64 {a b : Nat} (ha : a < 18446744073709551616) (hb : b < 18446744073709551616) : a ^^^ b < 18446744073709551616 :=
  Nat.xor_lt_two_pow (n := 64) ha hb

theorem mixI_nat (a b : Nat) (ha : a < 18446744073709551616) (hb : b < 18446744073709551616) : mixI (a : Int) (b : Int) = ((mixN a b : Nat) : Int) := by
  unfold mixI mixN
  have hx := xor_lt64 ha hb
  rw [u64_xor_nat a b ha hb]
  have e : IntKind.u64.wrap (((a ^^^ b : Nat) : Int) * 11400714819323198485) = (((a ^^^ b) * 11400714819323198485 % 18446744073709551616 : Nat) : Int) := by
    rw [IntKind.wrap_u64]; omega
  rw [e]
  have hm : (a ^^^ b) * 11400714819323198485 % 18446744073709551616 < 18446744073709551616 := Nat.mod_lt _ (by omega)
  generalize (a ^^^ b) * 11400714819323198485 % 18446744073709551616 = m at *
  have e2 : ((m : Int) / 4294967296) = ((m / 4294967296 : Nat) : Int) := by omega
  rw [e2, u64_xor_nat _ _ hm (by omega)]

theorem mixN_inj_r {a b c : Nat} (ha : a < 18446744073709551616) (hb : b < 18446744073709551616) (hc : c < 18446744073709551616) (h : mixN c a = mixN c b) : a = b := by
  unfold mixN at h
  have h1 := xor_shift_inj _ _ (Nat.mod_lt _ (by omega)) (Nat.mod_lt _ (by omega)) h
  exact xor_cancel_l (mul_inj _ _ (xor_lt64 hc ha) (xor_lt64 hc hb) h1)
theorem mixN_inj_l {a b c : Nat} (ha : a < 18446744073709551616) (hb : b < 18446744073709551616) (hc : c < 18446744073709551616) (h : mixN a c = mixN b c) : a = b := by
  unfold mixN at h
  have h1 := xor_shift_inj _ _ (Nat.mod_lt _ (by omega)) (Nat.mod_lt _ (by omega)) h
  exact xor_cancel_r (mul_inj _ _ (xor_lt64 ha hc) (xor_lt64 hb hc) h1)

theorem mixI_inj_r {a b c : Int} (ha : inU64 a) (hb : inU64 b) (hc : inU64 c) (h : mixI c a = mixI c b) : a = b := by
  obtain ⟨a1, a2⟩ := ha
  obtain ⟨b1, b2⟩ := hb
  obtain ⟨c1, c2⟩ := hc
  obtain ⟨a, rfl⟩ := Int.eq_ofNat_of_zero_le a1
  obtain ⟨b, rfl⟩ := Int.eq_ofNat_of_zero_le b1
  obtain ⟨c, rfl⟩ := Int.eq_ofNat_of_zero_le c1
  rw [mixI_nat _ _ (by omega) (by omega), mixI_nat _ _ (by omega) (by omega)] at h
  rw [mixN_inj_r (by omega) (by omega) (by omega) (Int.ofNat.inj h)]
theorem mixI_inj_l {a b c : Int} (ha : inU64 a) (hb : inU64 b) (hc : inU64 c) (h : mixI a c = mixI b c) : a = b := by
  obtain ⟨a1, a2⟩ := ha
  obtain ⟨b1, b2⟩ := hb
  obtain ⟨c1, c2⟩ := hc
  obtain ⟨a, rfl⟩ := Int.eq_ofNat_of_zero_le a1
  obtain ⟨b, rfl⟩ := Int.eq_ofNat_of_zero_le b1
  obtain ⟨c, rfl⟩ := Int.eq_ofNat_of_zero_le c1
  rw [mixI_nat _ _ (by omega) (by omega), mixI_nat _ _ (by omega) (by omega)] at h
  rw [mixN_inj_l (by omega) (by omega) (by omega) (Int.ofNat.inj h)]

/-- folding a list of words into a state -/
theorem fold_range (l : List Int) (a : Int) (ha : inU64 a) : inU64 (l.foldl mixI a) := by
  induction l generalizing a with
  | nil => exact ha
  | cons x r ih => exact ih _ (mixI_range _ _)

theorem fold_inj_acc (l : List Int) (hl : ∀ x ∈ l, inU64 x) (a b : Int) (ha : inU64 a) (hb : inU64 b) (h : l.foldl mixI a = l.foldl mixI b) : a = b := by
  induction l generalizing a b with
  | nil => exact h
  | cons x r ih =>
    exact mixI_inj_l ha hb (hl x (by simp)) (ih (fun y hy => hl y (by simp [hy])) _ _ (mixI_range _ _) (mixI_range _ _) h)

/-- one word replaced: the state changes just where the word does -/
theorem fold_set (l : List Int) (hl : ∀ x ∈ l, inU64 x) (k : Nat) (hk : k < l.length) (v : Int) (hv : inU64 v) (a : Int) (ha : inU64 a) :
    l.foldl mixI a = (l.set k v).foldl mixI a ↔ l[k] = v := by
  induction l generalizing k a with
  | nil => simp at hk
  | cons x r ih =>
    cases k with
    | zero =>
      simp only [List.set_cons_zero, List.foldl_cons, List.getElem_cons_zero]
      refine ⟨fun h => ?_, fun h => by rw [h]⟩
      have := fold_inj_acc r (fun y hy => hl y (by simp [hy])) _ _ (mixI_range _ _) (mixI_range _ _) h
      exact mixI_inj_r (hl x (by simp)) hv ha this
    | succ k =>
      simp only [List.set_cons_succ, List.foldl_cons, List.getElem_cons_succ]
      exact ih (fun y hy => hl y (by simp [hy])) k (by simpa using hk) _ (mixI_range _ _)

theorem wrapU_range (n : Int) : inU64 (IntKind.u64.wrap n) := by unfold inU64; rw [IntKind.wrap_u64]; omega
theorem wrapU_inj {a b : Int} (ha : inI64 a) (hb : inI64 b) (h : IntKind.u64.wrap a = IntKind.u64.wrap b) : a = b := by
  unfold inI64 at ha hb; rw [IntKind.wrap_u64, IntKind.wrap_u64] at h; omega
theorem wrap64_range (n : Int) : inI64 (wrap64 n) := by unfold inI64 wrap64; omega
theorem wrapU_wrap64 {a : Int} (ha : inU64 a) : IntKind.u64.wrap (wrap64 a) = a := by
  unfold inU64 at ha; rw [IntKind.wrap_u64]; unfold wrap64; omega
theorem wrap64_inj {a b : Int} (ha : inU64 a) (hb : inU64 b) (h : wrap64 a = wrap64 b) : a = b := by
  rw [← wrapU_wrap64 ha, ← wrapU_wrap64 hb, h]

theorem sumI_eq (label : List UInt8) (l : List Int) : sumI label l = mixI ((l.map IntKind.u64.wrap).foldl mixI (mixI (mixI ((wordsOf label).foldl mixI 0) label.length) l.length)) 0 := by
  unfold sumI; rw [List.foldl_map]

theorem in0 : inU64 0 := by unfold inU64; omega

/-- the sum changes just where one replaced integer does -/
theorem sumI_set (label : List UInt8) (l : List Int) (hl : ∀ x ∈ l, inI64 x) (k : Nat) (hk : k < l.length) (v : Int) (hv : inI64 v) :
    sumI label l = sumI label (l.set k v) ↔ l[k] = v := by
  rw [sumI_eq, sumI_eq, List.length_set, List.map_set]
  have hr : ∀ x ∈ l.map IntKind.u64.wrap, inU64 x := by intro x hx; obtain ⟨y, _, rfl⟩ := List.mem_map.1 hx; exact wrapU_range y
  have hs := fold_set (l.map IntKind.u64.wrap) hr k (by simpa using hk) (IntKind.u64.wrap v) (wrapU_range v) (mixI (mixI ((wordsOf label).foldl mixI 0) label.length) l.length) (mixI_range _ _)
  constructor
  · intro h
    have h1 := mixI_inj_l (fold_range _ _ (mixI_range _ _)) (fold_range _ _ (mixI_range _ _)) in0 h
    have h2 := hs.1 h1
    rw [List.getElem_map] at h2
    exact wrapU_inj (hl _ (List.getElem_mem _)) hv h2
  · intro h
    rw [hs.2 (by rw [List.getElem_map, h])]

theorem nat_inU64 {n : Nat} (h : n ≤ 1000000) : inU64 (n : Int) := by unfold inU64; omega

/-- equal sums of one list under two labels of one length: equal states of the labels' words -/
theorem sumI_label (l1 l2 : List UInt8) (l : List Int) (hlen : l1.length = l2.length) (hb : l1.length ≤ 1000000) (hn : l.length ≤ 1000000) (h : sumI l1 l = sumI l2 l) : (wordsOf l1).foldl mixI 0 = (wordsOf l2).foldl mixI 0 := by
  rw [sumI_eq, sumI_eq] at h
  have hr : ∀ x ∈ l.map IntKind.u64.wrap, inU64 x := by intro x hx; obtain ⟨y, _, rfl⟩ := List.mem_map.1 hx; exact wrapU_range y
  have h1 := mixI_inj_l (fold_range _ _ (mixI_range _ _)) (fold_range _ _ (mixI_range _ _)) in0 h
  have h2 := fold_inj_acc _ hr _ _ (mixI_range _ _) (mixI_range _ _) h1
  rw [← hlen] at h2
  have h3 := mixI_inj_l (mixI_range _ _) (mixI_range _ _) (nat_inU64 hn) h2
  exact mixI_inj_l (fold_range _ _ in0) (fold_range _ _ in0) (nat_inU64 hb) h3

theorem leI_inj : ∀ (x y : List UInt8), x.length = y.length → leI x = leI y → x = y
  | [], [], _, _ => rfl
  | [], b :: s, h, _ => by simp at h
  | a :: r, [], h, _ => by simp at h
  | a :: r, b :: s, h, e => by
    simp only [leI] at e
    have ha := u8_lt a
    have hb := u8_lt b
    have e1 : leI r = leI s := by omega
    have e2 : a.toNat = b.toNat := by omega
    rw [leI_inj r s (by simpa using h) e1, UInt8.toNat_inj.1 e2]

theorem words_range (bs : List UInt8) : ∀ x ∈ wordsOf bs, inU64 x := by
  intro x hx
  unfold wordsOf wordsUpto at hx
  obtain ⟨q, _, rfl⟩ := List.mem_map.1 hx
  exact wordAt_range bs q

/-- two byte lists of one length that agree outside group q -/
def SameBut (q : Nat) (x y : List UInt8) : Prop := x.length = y.length ∧ ∀ j, j / 8 ≠ q → x[j]? = y[j]?

theorem SameBut.word {q : Nat} {x y : List UInt8} (h : SameBut q x y) {p : Nat} (hp : p ≠ q) : wordAt x p = wordAt y p := by
  unfold wordAt
  congr 1
  apply List.ext_getElem?
  intro j
  rw [List.getElem?_take, List.getElem?_take]
  split
  · rw [List.getElem?_drop, List.getElem?_drop]
    exact h.2 _ (by omega)
  · rfl

theorem SameBut.words {q : Nat} {x y : List UInt8} (h : SameBut q x y) : wordsOf y = (wordsOf x).set q (wordAt y q) := by
  have hn : nWords x = nWords y := by unfold nWords; rw [h.1]
  unfold wordsOf
  rw [hn]
  unfold wordsUpto
  apply List.ext_getElem
  · simp
  · intro j h1 h2
    rw [List.getElem_set]
    simp only [List.getElem_map, List.getElem_range]
    split
    · rename_i e; rw [e]
    · rename_i e; exact (h.word (fun e' => e e'.symm)).symm

theorem SameBut.eq_of_word {q : Nat} {x y : List UInt8} (h : SameBut q x y) (hw : wordAt x q = wordAt y q) : x = y := by
  have hg := leI_inj _ _ (by simp [h.1]) hw
  apply List.ext_getElem?
  intro j
  by_cases hj : j / 8 = q
  · have h1 := congrArg (fun l : List UInt8 => l[j - 8 * q]?) hg
    simp only [List.getElem?_take, List.getElem?_drop] at h1
    have : j - 8 * q < 8 := by omega
    rw [if_pos this, if_pos this, show 8 * q + (j - 8 * q) = j by omega] at h1
    exact h1
  · exact h.2 j hj

theorem SameBut.far {q : Nat} {x y : List UInt8} (h : SameBut q x y) (hq : nWords x ≤ q) : x = y := by
  apply List.ext_getElem?
  intro j
  by_cases hj : j / 8 = q
  · unfold nWords at hq
    rw [List.getElem?_eq_none (by omega), List.getElem?_eq_none (by have := h.1; omega)]
  · exact h.2 j hj

/-- bytes changed within one group: the hash changes just where the bytes do -/
theorem bytesI_group (label : List UInt8) {q : Nat} {x y : List UInt8} (h : SameBut q x y) (hb : x.length ≤ 1000000) : bytesI label x = bytesI label y ↔ x = y := by
  refine ⟨fun e => ?_, fun e => by rw [e]⟩
  rcases Nat.lt_or_ge q (nWords x) with hq | hq
  · have hl : (wordsOf x).length = nWords x := by rw [wordsOf, wordsUpto_len]
    unfold bytesI at e
    rw [h.words, List.map_set, ← h.1, ← List.set_append_left _ _ (by rw [List.length_map, hl]; exact hq)] at e
    have hi : ∀ z ∈ (wordsOf x).map wrap64 ++ [(x.length : Int)], inI64 z := by
      intro z hz
      rcases List.mem_append.1 hz with hz | hz
      · obtain ⟨y, _, rfl⟩ := List.mem_map.1 hz; exact wrap64_range y
      · simp at hz; subst hz; unfold inI64; omega
    have h1 := (sumI_set label _ hi q (by rw [List.length_append, List.length_map, hl]; omega) _ (wrap64_range _)).1 e
    rw [List.getElem_append_left (by rw [List.length_map, hl]; exact hq), List.getElem_map] at h1
    have hw : (wordsOf x)[q]'(by rw [hl]; exact hq) = wordAt x q := by simp [wordsOf, wordsUpto]
    rw [hw] at h1
    exact h.eq_of_word (wrap64_inj (wordAt_range x q) (wordAt_range y q) h1)
  · exact h.far hq

/-- a label changed within one group -/
theorem sumI_label_group {q : Nat} {x y : List UInt8} (h : SameBut q x y) (hb : x.length ≤ 1000000) (l : List Int) (hn : l.length ≤ 1000000) : sumI x l = sumI y l ↔ x = y := by
  refine ⟨fun e => ?_, fun e => by rw [e]⟩
  rcases Nat.lt_or_ge q (nWords x) with hq | hq
  · have hl : (wordsOf x).length = nWords x := by rw [wordsOf, wordsUpto_len]
    have h1 := sumI_label x y l h.1 hb hn e
    rw [h.words] at h1
    have h2 := (fold_set (wordsOf x) (words_range x) q (by rw [hl]; exact hq) _ (wordAt_range y q) 0 in0).1 h1
    have hw : (wordsOf x)[q]'(by rw [hl]; exact hq) = wordAt x q := by simp [wordsOf, wordsUpto]
    rw [hw] at h2
    exact h.eq_of_word h2
  · exact h.far hq

/-- a zero byte appended where the group is not full: the words stay, the length does not -/
theorem bytesI_longer (label : List UInt8) (x : List UInt8) (h : x.length % 8 ≠ 0) (hb : x.length ≤ 1000000) : bytesI label (x ++ [0]) ≠ bytesI label x := by
  have hn : nWords (x ++ [0]) = nWords x := by unfold nWords; rw [List.length_append]; simp; omega
  have hw : wordsOf (x ++ [0]) = wordsOf x := by
    unfold wordsOf
    rw [hn]
    unfold wordsUpto
    apply List.map_congr_left
    intro q hq
    have hq' : q < nWords x := by simpa using hq
    unfold nWords at hq'
    unfold wordAt
    rcases Nat.lt_or_ge (8 * q + 7) x.length with hf | hf
    · congr 1
      rw [List.drop_append_of_le_length (by omega), List.take_append_of_le_length (by simp; omega)]
    · rw [List.drop_append_of_le_length (by omega), List.take_of_length_le (by simp; omega), List.take_of_length_le (by simp; omega), leI_snoc]
      simp
  intro e
  unfold bytesI at e
  rw [hw] at e
  have hl : ((wordsOf x).map wrap64 ++ [((x ++ [0]).length : Int)]) = ((wordsOf x).map wrap64 ++ [(x.length : Int)]).set (wordsOf x).length ((x ++ [0]).length : Int) := by
    rw [List.set_append_right _ _ (by simp)]; simp
  rw [hl] at e
  have hi : ∀ z ∈ (wordsOf x).map wrap64 ++ [(x.length : Int)], inI64 z := by
    intro z hz
    rcases List.mem_append.1 hz with hz | hz
    · obtain ⟨y, _, rfl⟩ := List.mem_map.1 hz; exact wrap64_range y
    · simp at hz; subst hz; unfold inI64; omega
  have h1 := (sumI_set label _ hi (wordsOf x).length (by simp) _ (by unfold inI64; simp; omega)).1 e.symm
  simp at h1
  omega

theorem sumI_inj2 (label : List UInt8) (a b c d : Int) (ha : inI64 a) (hb : inI64 b) (hc : inI64 c) : (sumI label [a, c] = sumI label [b, c] ↔ a = b) ∧ (sumI label [c, a] = sumI label [c, b] ↔ a = b) := by
  have h1 := sumI_set label [a, c] (by simp [ha, hc]) 0 (by simp) b hb
  have h2 := sumI_set label [c, a] (by simp [ha, hc]) 1 (by simp) b hb
  simp at h1 h2
  exact ⟨h1, h2⟩

theorem pairI_inj (a b c : Int) (ha : inU64 a) (hb : inU64 b) (hc : inU64 c) : (pairI a c = pairI b c ↔ a = b) ∧ (pairI c a = pairI c b ↔ a = b) := by
  have h := sumI_inj2 [112, 97, 105, 114] (wrap64 a) (wrap64 b) (wrap64 c) 0 (wrap64_range _) (wrap64_range _) (wrap64_range _)
  have e : wrap64 a = wrap64 b ↔ a = b := ⟨wrap64_inj ha hb, fun h => by rw [h]⟩
  unfold pairI
  exact ⟨h.1.trans e, h.2.trans e⟩

end Go.Proofs.Ytjgpdimhgcacgaa
