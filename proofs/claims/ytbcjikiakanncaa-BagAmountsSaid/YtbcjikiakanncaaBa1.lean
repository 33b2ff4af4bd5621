/- package bag: amounts: plain functions, and how they lie in memory. -/
import Derived.Test.YtbcjikiakanncaaBc8
namespace Go.Proofs.Ytbcjikiakanncaa
open Go.RowKit
set_option linter.unusedVariables false

/-- an amount of one item -/
abbrev Amt := Int × Int
def okA (n : Int) (p : Amt) : Bool := ((decide (0 ≤ p.1) && decide (p.1 < n)) && decide (1 ≤ p.2)) && decide (p.2 ≤ 1099511627776)
def properB (n : Int) (l : List Amt) : Bool := l.all (okA n) && (decide (0 ≤ n) && decide (n ≤ 64))
def ofGo : List Int → List Amt → Option (List Int)
  | out, [] => some out
  | out, p :: r => if 1099511627776 < out.getD p.1.toNat 0 + p.2 then none else ofGo (out.set p.1.toNat (out.getD p.1.toNat 0 + p.2)) r
def ofB (n : Int) (l : List Amt) : List Int × Int :=
  if properB n l then (match ofGo (List.replicate n.toNat 0) l with | some o => (o, 0) | none => ([], 4)) else ([], 1)
def amtsFrom : Nat → List Int → List Amt
  | _, [] => []
  | i, n :: r => if 0 < n then ((i : Int), n) :: amtsFrom (i + 1) r else amtsFrom (i + 1) r
def amtsB (b : List Int) : List Amt := if isB b then amtsFrom 0 b else []
def sortedB : List Amt → Bool
  | [] => true
  | [_] => true
  | p :: q :: r => decide (p.1 < q.1) && sortedB (q :: r)
def validB (n : Int) (l : List Amt) : Bool := sortedB l && properB n l
/-- the encoding -/
def pairsW (l : List Amt) : List UInt8 := l.flatMap fun p => uvar (zig p.1) ++ uvar (zig p.2)
def bagW (b : List Int) : List UInt8 := if isB b then uvar (zig b.length) ++ (uvar (zig (amtsB b).length) ++ pairsW (amtsB b)) else []

theorem okA_iff (n : Int) (p : Amt) : okA n p = true ↔ 0 ≤ p.1 ∧ p.1 < n ∧ 1 ≤ p.2 ∧ p.2 ≤ 1099511627776 := by simp [okA, and_assoc]
theorem okA_not {n : Int} {p : Amt} (h : ¬ (0 ≤ p.1 ∧ p.1 < n ∧ 1 ≤ p.2 ∧ p.2 ≤ 1099511627776)) : okA n p = false := by
  rw [← Bool.not_eq_true, okA_iff]; exact h
theorem properB_iff (n : Int) (l : List Amt) : properB n l = true ↔ (∀ p ∈ l, 0 ≤ p.1 ∧ p.1 < n ∧ 1 ≤ p.2 ∧ p.2 ≤ 1099511627776) ∧ 0 ≤ n ∧ n ≤ 64 := by
  simp only [properB, Bool.and_eq_true, List.all_eq_true, okA_iff, decide_eq_true_eq]
theorem proper_bad {n : Int} {l : List Amt} {k : Nat} (hk : k < l.length) (h : okA n l[k] = false) : properB n l = false := by
  rw [← Bool.not_eq_true, properB_iff]
  intro hh
  have := (okA_iff n l[k]).2 (hh.1 _ (List.getElem_mem hk))
  rw [h] at this; cases this
theorem proper_end {n : Int} {l : List Amt} (h : ∀ p ∈ l, okA n p = true) : properB n l = (decide (0 ≤ n) && decide (n ≤ 64)) := by
  unfold properB
  rw [List.all_eq_true.2 h]; simp
theorem okA_step {n : Int} {l : List Amt} {k : Nat} (hk : k < l.length) (h : ∀ p ∈ l.take k, okA n p = true) (ha : okA n l[k] = true) : ∀ p ∈ l.take (k + 1), okA n p = true := by
  rw [List.take_succ_eq_append_getElem hk]
  intro p hp
  rcases List.mem_append.1 hp with hp | hp
  · exact h p hp
  · simp only [List.mem_singleton] at hp; subst hp; exact ha
theorem amtsFrom_snoc : ∀ (l : List Int) (i : Nat) (n : Int), amtsFrom i (l ++ [n]) = amtsFrom i l ++ (if 0 < n then [(((i + l.length : Nat) : Int), n)] else [])
  | [], i, n => by simp [amtsFrom]
  | x :: r, i, n => by
    have := amtsFrom_snoc r (i + 1) n
    simp only [List.cons_append, amtsFrom, List.length_cons]
    rw [this, show i + 1 + r.length = i + (r.length + 1) by omega]
    split <;> simp
theorem amtsFrom_len : ∀ (l : List Int) (i : Nat), (amtsFrom i l).length ≤ l.length
  | [], i => by simp [amtsFrom]
  | x :: r, i => by
    have := amtsFrom_len r (i + 1)
    simp only [amtsFrom]
    split <;> simp <;> omega

/-- the cells of amounts -/
def cells2 (l : List Amt) : List Value := l.flatMap fun p => [.int .i64 p.1, .int .i64 p.2]
theorem cells2_app (a b : List Amt) : cells2 (a ++ b) = cells2 a ++ cells2 b := by simp [cells2]
theorem cells2_len (l : List Amt) : (cells2 l).length = l.length * 2 := by
  induction l with
  | nil => rfl
  | cons p r ih => simp [cells2] at ih ⊢; omega
theorem cells2_at : ∀ (l : List Amt) (i : Nat) (h : i < l.length), (cells2 l)[i * 2]? = some (.int .i64 l[i].1) ∧ (cells2 l)[i * 2 + 1]? = some (.int .i64 l[i].2)
  | p :: r, 0, h => ⟨rfl, rfl⟩
  | p :: r, i + 1, h => by
    have := cells2_at r i (by simpa using h)
    show ([Value.int .i64 p.1, .int .i64 p.2] ++ cells2 r)[(i + 1) * 2]? = _ ∧ ([Value.int .i64 p.1, .int .i64 p.2] ++ cells2 r)[(i + 1) * 2 + 1]? = _
    rw [List.getElem?_append_right (by simp; omega), List.getElem?_append_right (by simp; omega)]
    simp only [List.length_cons, List.length_nil, List.getElem_cons_succ]
    rw [show (i + 1) * 2 - (0 + 1 + 1) = i * 2 by omega, show (i + 1) * 2 + 1 - (0 + 1 + 1) = i * 2 + 1 by omega]
    exact this
theorem cells2_one (l : List Amt) : ∀ u ∈ cells2 l, u.oneCell' = true := by
  intro u hu
  simp only [cells2, List.mem_flatMap, List.mem_cons, List.not_mem_nil, or_false] at hu
  obtain ⟨p, _, rfl | rfl⟩ := hu <;> rfl

/-- a slice of amounts that reads as l -/
def RdA (w : World) (v : Value) (l : List Amt) : Prop :=
  ∃ A c, v = .slice A l.length c ∧ l.length ≤ c ∧ c ≤ maxLen ∧
    (l = [] ∨ ∃ b off, A = some ⟨b, off, none⟩ ∧ ∀ i (h : i < l.length), w.cell? ⟨b, off + i * 2, none⟩ = some (.int .i64 l[i].1) ∧ w.cell? ⟨b, off + i * 2 + 1, none⟩ = some (.int .i64 l[i].2))
theorem RdA.ext {w w' : World} {v : Value} {l : List Amt} (h : RdA w v l) (hx : Ext w w') : RdA w' v l := by
  obtain ⟨A, c, rfl, h1, h2, h3⟩ := h
  refine ⟨A, c, rfl, h1, h2, ?_⟩
  rcases h3 with h3 | ⟨b, off, rfl, hc⟩
  · exact .inl h3
  · exact .inr ⟨b, off, rfl, fun i hi => ⟨hx.cell (hc i hi).1, hx.cell (hc i hi).2⟩⟩
theorem RdA.nil (w : World) : RdA w (.slice none 0 0) [] := ⟨none, 0, rfl, Nat.le_refl _, by simp [maxLen], .inl rfl⟩
theorem RdA.form {w : World} {v : Value} {l : List Amt} (h : RdA w v l) : ∃ A c, v = .slice A l.length c ∧ l.length ≤ c ∧ c ≤ maxLen ∧
    (0 < l.length → ∃ b off, A = some ⟨b, off, none⟩ ∧ ∀ (w' : World), Ext w w' → ∀ i (h : i < l.length), w'.cell? ⟨b, off + i * 2, none⟩ = some (.int .i64 l[i].1) ∧ w'.cell? ⟨b, off + i * 2 + 1, none⟩ = some (.int .i64 l[i].2)) := by
  obtain ⟨A, c, rfl, h1, h2, h3⟩ := h
  refine ⟨A, c, rfl, h1, h2, fun h0 => ?_⟩
  rcases h3 with rfl | ⟨b, off, rfl, hc⟩
  · simp at h0
  · exact ⟨b, off, rfl, fun w' hx i hi => ⟨hx.cell (hc i hi).1, hx.cell (hc i hi).2⟩⟩
def OwnA (w : World) (base : Nat) (v : Value) (l : List Amt) : Prop := w.ownsRow base 75 2 v l.length (cells2 l)
theorem OwnA.nil (w : World) (base : Nat) : OwnA w base (.slice none 0 0) [] := World.ownsRow_nil _ _ _ _
theorem OwnA.rd {w : World} {base : Nat} {v : Value} {l : List Amt} (h : OwnA w base v l) : RdA w v l := by
  have h0 := h
  rcases h.2 with ⟨rfl, hn⟩ | ⟨g, cap, cur, rfl, hb, hg, hn, hm, hs, ht⟩
  · have : l = [] := List.eq_nil_of_length_eq_zero hn
    subst this
    exact RdA.nil w
  · refine ⟨_, cap, rfl, hn, hm, .inr ⟨g, 0, rfl, fun i hi => ?_⟩⟩
    have hc := World.ownsRow.cells h0 (g := g) rfl
    obtain ⟨q1, q2⟩ := cells2_at l i hi
    have r1 := hc (i * 2) _ q1
    have r2 := hc (i * 2 + 1) _ q2
    rw [addr_add] at r1 r2
    exact ⟨r1, by rw [Nat.add_assoc]; exact r2⟩
theorem OwnA.ext {w w' : World} {base : Nat} {v : Value} {l : List Amt} (h : OwnA w base v l) (hx : Ext w w') : OwnA w' base v l := by
  refine ⟨h.1, ?_⟩
  rcases h.2 with hn | ⟨g, cap, cur, rfl, hb, hg, rest⟩
  · exact .inl hn
  · exact .inr ⟨g, cap, cur, rfl, hb, (hx.block (Array.getElem?_eq_some_iff.1 hg).1).trans hg, rest⟩
theorem OwnA.lt {w : World} {base : Nat} {v : Value} {l : List Amt} (h : OwnA w base v l) : ∀ k, v.ownBlock = some k → base ≤ k ∧ k < w.heap.size := World.ownsRow.lt h

theorem info_amt : (Try.prog.info? 75).map (fun i => (i.zero, i.size, i.bytes)) = some (some (.agg #[.int .i64 0, .int .i64 0]), 2, 16) := by kernel_rfl

/-- append of amounts -/
theorem wpList_appA (w : World) {ops : Array Oper} {rest : List Oper} {o : Oper} {a : Act} {Q : Exit → Act → World → Prop} (hgd : o.guard = none) (s x : Operand)
    (ho : o.op = .call { callee := .builtin .append, args := #[s, x], argTypes := #[46, 46] })
    (base : Nat) (v : Value) (xs : List Amt) (hs : a.eval s = v) (hown : OwnA w base v xs)
    (ad : Addr) (m c : Nat) (news : List Amt) (hx : a.eval x = .slice (some ad) m c) (hm : news.length = m)
    (hnews : ∀ j u, (cells2 news)[j]? = some u → w.cell? (ad.add j) = some u) (hlen : xs.length + m ≤ 1000000) (hbase : base ≤ w.heap.size)
    (h : ∀ v' w', OwnA w' base v' (xs ++ news) → w.grownBy w' v.ownBlock → wpList Try.prog ops Q rest (a.put o.dst v') w') : wpList Try.prog ops Q (o :: rest) a w := by
  obtain ⟨i0, hi, hz0, hz1, hz2⟩ := info_parts info_amt
  refine wpList_append_own_at w hgd s x _ ho base 75 i0 _ 2 16 Try.underlying46 hi hz0 hz1 hz2 rfl (by omega) v xs.length (cells2 xs) hs hown ad m c (cells2 news) hx ?_ hnews (cells2_one news) ?_ ?_ hbase ?_
  · rw [cells2_len, hm]
  · simp only [maxLen]; omega
  · omega
  · intro v' w' h3 hg _ _
    refine h v' w' ?_ hg
    unfold OwnA
    rw [List.length_append, hm, cells2_app]
    exact h3
theorem newsA (W : World) (H : Nat) (hH : W.heap.size = H) (l : List Amt) (t : TypeId) : ∀ j u, (cells2 l)[j]? = some u → (W.alloc (.cells (cells2 l).toArray t)).cell? ((⟨H, 0, none⟩ : Addr).add j) = some u := fun j u hu => by
  subst hH
  exact World.news_of_block (cs := (cells2 l).toArray) (t := t) (fr := (0, 0)) (heap_alloc_new W _) j u (by simpa using hu)
end Go.Proofs.Ytbcjikiakanncaa
