/- package bag: lists of amounts that grow side by side; Around for every bound. -/
import Derived.Test.YtbcjikiakanncaaBo2
namespace Go.Proofs.Ytbcjikiakanncaa
open Go.RowKit
set_option linter.unusedVariables false

theorem around3w_any (n most : Int) (w : World) (hn : inI64 n) (h1 : 1 ≤ most) (h2 : most ≤ 9223372036854775807) :
    Calls Try.prog 12 #[.int .i64 n, .int .i64 most] w fun e w' => e = .returned (.int .i64 (n % most)) ∧ w = w' := by
  obtain ⟨hn1, hn2⟩ := hn
  have he := emod_of_tmod n most (by omega)
  have b2 : n.tmod most < most := Int.tmod_lt_of_pos n (by omega)
  have b3 : -most < n.tmod most := by
    have := Int.tmod_lt_of_pos (-n) (show 0 < most by omega)
    rw [Int.neg_tmod] at this; omega
  have HE := Lib.hid he
  clear he
  by_cases h0 : 0 ≤ n
  · have hp := Int.emod_nonneg n (show most ≠ 0 by omega)
    have hq : ¬ (n % most < 0) := by omega
    clear b2 b3
    go_enter Try.func12, Try.ntmps12
    go_wp2
    go_ret
    exact ⟨rfl, rfl⟩
  · by_cases ht : n.tmod most < 0
    · go_enter Try.func12, Try.ntmps12
      go_wp2
      go_ret
      exact ⟨ret_int (by rw [HE.out, if_pos ht]), rfl⟩
    · go_enter Try.func12, Try.ntmps12
      go_wp2
      go_ret
      exact ⟨ret_int (by rw [HE.out, if_neg (by omega)]), rfl⟩

/-- what an append of amounts reads: m amounts from A on, or nothing -/
def SrcA (w : World) (A : Option Addr) (m : Nat) (news : List Amt) : Prop :=
  news.length = m ∧ (m = 0 ∨ ∃ ad, A = some ad ∧ ∀ (j : Nat) (u : Value), (cells2 news)[j]? = some u → w.cell? (ad.add j) = some u)
theorem run_appA (w : World) (base : Nat) (ty : TypeId) (v : Value) (xs : List Amt) (hown : OwnA w base v xs) (A : Option Addr) (m c : Nat) (news : List Amt) (hr : SrcA w A m news)
    (hlen : xs.length + m ≤ 1000000) (hbase : base ≤ w.heap.size) :
    ∃ v' w', (Builtin.append_ #[46, 46] ty #[v, .slice A m c]).run Try.prog w = .ok v' w' ∧ OwnA w' base v' (xs ++ news) ∧ w.grownBy w' v.ownBlock ∧
      (v'.ownBlock = v.ownBlock ∨ v'.ownBlock = some w.heap.size) := by
  obtain ⟨i0, hi, hz0, hz1, hz2⟩ := info_parts info_amt
  have ht := Try.underlying46
  obtain ⟨hl, hr⟩ := hr
  have some_case : ∀ ad : Addr, (∀ j u, (cells2 news)[j]? = some u → w.cell? (ad.add j) = some u) → ∃ v' w', (Builtin.append_ #[46, 46] ty #[v, .slice (some ad) m c]).run Try.prog w = .ok v' w' ∧ OwnA w' base v' (xs ++ news) ∧ w.grownBy w' v.ownBlock ∧
      (v'.ownBlock = v.ownBlock ∨ v'.ownBlock = some w.heap.size) := by
    intro ad hc
    obtain ⟨v', w', hrun, h2, h3, _, h5⟩ := run_append_own_at (P := Try.prog) w base 46 ty 75 i0 _ 2 16 ht hi hz0 hz1 hz2 rfl (by omega) v xs.length (cells2 xs) hown ad m c (cells2 news) (by rw [cells2_len, hl]) hc (cells2_one news) (by simp only [maxLen]; omega) (by omega) hbase
    exact ⟨v', w', hrun, by unfold OwnA; rw [List.length_append, hl, cells2_app]; exact h2, h3, h5⟩
  rcases hr with rfl | ⟨ad, rfl, hc⟩
  · have hn : news = [] := List.eq_nil_of_length_eq_zero hl
    subst hn
    rcases A with _ | ad
    · refine ⟨v, w, ?_, by simpa using hown, World.grownBy.refl w _, .inl rfl⟩
      rcases hown.2 with ⟨rfl, h0⟩ | ⟨g, cap, cur, rfl, _, _, hnc, _⟩
      · simp [Builtin.append_, run_underlying ht, sizeOf, typeInfo, hi, Builtin.lenOf, Builtin.firstCells]
      · simp [Builtin.append_, run_underlying ht, sizeOf, typeInfo, hi, Builtin.lenOf, Builtin.firstCells, hnc, storeCells]
    · exact some_case ad (by simp [cells2])
  · exact some_case _ hc
theorem wpList_appA2 (w : World) {ops : Array Oper} {rest : List Oper} {o : Oper} {a : Act} {Q : Exit → Act → World → Prop} (hgd : o.guard = none) (s x : Operand)
    (ho : o.op = .call { callee := .builtin .append, args := #[s, x], argTypes := #[46, 46] })
    (base : Nat) (v : Value) (xs : List Amt) (hs : a.eval s = v) (hown : OwnA w base v xs)
    (A : Option Addr) (m c : Nat) (news : List Amt) (hx : a.eval x = .slice A m c) (hr : SrcA w A m news) (hlen : xs.length + m ≤ 1000000) (hbase : base ≤ w.heap.size)
    (h : ∀ v' w', OwnA w' base v' (xs ++ news) → w.grownBy w' v.ownBlock → (v'.ownBlock = v.ownBlock ∨ v'.ownBlock = some w.heap.size) → wpList Try.prog ops Q rest (a.put o.dst v') w') : wpList Try.prog ops Q (o :: rest) a w := by
  refine wpList_plain hgd fun K hK => ?_
  obtain ⟨v', w', hrun, h2, h3, h4⟩ := run_appA w base o.type v xs hown A m c news hr hlen hbase
  unfold Oper.wp execOp
  simp only [ho, resolve, invoke, builtin, Sem.run_bind, Sem.run_pure, Result.andThen_ok, List.map_toArray, List.map_cons, List.map_nil, hs, hx, hrun]
  exact hK _ _ (h v' w' h2 h3 h4)

theorem RdA.srcTake {w : World} {A : Option Addr} {n c : Nat} {l : List Amt} (h : RdA w (.slice A n c) l) {m : Nat} (hm : m ≤ l.length) : SrcA w A m (l.take m) := by
  obtain ⟨A', c', hv, h1, h2, h3⟩ := h
  injection hv with e1 e2 e3
  subst e1 e2 e3
  refine ⟨by rw [List.length_take]; omega, ?_⟩
  rcases h3 with rfl | ⟨b, off, rfl, hc⟩
  · left; simpa using hm
  · right
    refine ⟨_, rfl, fun j u hu => ?_⟩
    have hj : j < m * 2 := by
      rcases Nat.lt_or_ge j (m * 2) with h | h
      · exact h
      · rw [List.getElem?_eq_none (by rw [cells2_len, List.length_take]; omega)] at hu; cases hu
    obtain ⟨i, hi⟩ : ∃ i, j = i * 2 ∨ j = i * 2 + 1 := ⟨j / 2, by omega⟩
    have hil : i < (l.take m).length := by rw [List.length_take]; omega
    obtain ⟨q1, q2⟩ := cells2_at (l.take m) i hil
    obtain ⟨c1, c2⟩ := hc i (by omega)
    rw [addr_add]
    rcases hi with rfl | rfl
    · rw [q1] at hu; injection hu with hu; rw [c1, ← hu, List.getElem_take]
    · rw [q2] at hu; injection hu with hu; rw [← Nat.add_assoc, c2, ← hu, List.getElem_take]

def SepA (v v' : Value) : Prop := ∀ k, v.ownBlock = some k → v'.ownBlock ≠ some k
theorem SepA.symm {v v' : Value} (h : SepA v v') : SepA v' v := fun k h1 h2 => h k h2 h1
theorem OwnA.of_grown {a b : World} {base : Nat} {v v2 : Value} {ys : List Amt} (h2 : OwnA a base v2 ys) (hg : a.grownBy b v.ownBlock) (hs : SepA v v2) : OwnA b base v2 ys := by
  refine World.ownsRow.kept h2 hg ?_
  cases hv : v2.ownBlock with
  | none => exact .inl rfl
  | some k => exact .inr (fun e => hs k e.symm hv)
theorem sepA_grown {a : World} {base : Nat} {v v' v2 : Value} {ys : List Amt} (h2 : OwnA a base v2 ys) (hv : v'.ownBlock = v.ownBlock ∨ v'.ownBlock = some a.heap.size) (hs : SepA v v2) : SepA v' v2 := fun k hk hk2 => by
  rcases hv with hv | hv
  · exact hs k (hv ▸ hk) hk2
  · rw [hv] at hk
    injection hk with hk
    have := (h2.lt k hk2).2
    omega
theorem sepA_nil (v : Value) : SepA (.slice none 0 0) v := fun k h => by simp [Value.ownBlock] at h

/-- a slice of three lists of amounts -/
def Mats (w : World) (v : Value) (L : Nat → List Amt) : Prop :=
  ∃ (g : Nat) (f : Nat → Value), v = .slice (some ⟨g, 0, none⟩) 3 3 ∧ ∀ i, i < 3 → w.cell? ⟨g, i, none⟩ = some (f i) ∧ RdA w (f i) (L i)
theorem Mats.ext {w w' : World} {v : Value} {L : Nat → List Amt} (h : Mats w v L) (hx : Ext w w') : Mats w' v L := by
  obtain ⟨g, f, rfl, h⟩ := h
  exact ⟨g, f, rfl, fun i hi => ⟨hx.cell (h i hi).1, (h i hi).2.ext hx⟩⟩
theorem Mats.mk (w : World) (a b c : List Amt) (va vb vc : Value) (ha : RdA w va a) (hb : RdA w vb b) (hc : RdA w vc c) :
    Mats (w.alloc (.cells #[va, vb, vc] 46)) (.slice (some ⟨w.heap.size, 0, none⟩) 3 3) (pick3 a b c) := by
  have hx : Ext w (w.alloc (.cells #[va, vb, vc] 46)) := (Ext.refl w).alloc _
  refine ⟨_, pick3 va vb vc, rfl, fun i hi => ?_⟩
  have hb0 := Blk.new w 46 [va, vb, vc]
  have h3 : i = 0 ∨ i = 1 ∨ i = 2 := by omega
  rcases h3 with rfl | rfl | rfl
  · exact ⟨hb0.cell 0, ha.ext hx⟩
  · exact ⟨hb0.cell 1, hb.ext hx⟩
  · exact ⟨hb0.cell 2, hc.ext hx⟩
theorem matsOk {a b c : List Amt} (ha : AmtsOk a) (hb : AmtsOk b) (hc : AmtsOk c) : ∀ i, i < 3 → AmtsOk (pick3 a b c i) := fun i hi => by
  have h3 : i = 0 ∨ i = 1 ∨ i = 2 := by omega
  rcases h3 with rfl | rfl | rfl
  · exact ha
  · exact hb
  · exact hc
theorem amtsOk_take {l : List Amt} (h : AmtsOk l) (m : Nat) : AmtsOk (l.take m) := fun p hp => h p (List.mem_of_mem_take hp)
theorem amtsOk_snoc {l : List Amt} (h : AmtsOk l) {p : Amt} (h1 : inI64 p.1) (h2 : inI64 p.2) : AmtsOk (l ++ [p]) := fun q hq => by
  rcases List.mem_append.1 hq with hq | hq
  · exact h q hq
  · simp only [List.mem_singleton] at hq; subst hq; exact ⟨h1, h2⟩
end Go.Proofs.Ytbcjikiakanncaa
