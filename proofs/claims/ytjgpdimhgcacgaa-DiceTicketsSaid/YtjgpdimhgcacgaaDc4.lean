/- package dice: the iterator over the words, which moves the position on: its contract. -/
import Derived.Test.YtjgpdimhgcacgaaDc3
import Derived.Test.YtjgpdimhgcacgaaDr
namespace Go.Proofs.Ytjgpdimhgcacgaa
open Go.RowKit Go.Shelf
set_option linter.unusedVariables false
attribute [local go_sem] Oper.semAt_some
theorem wide_fn (f : FuncId) : Fence.wide.fn f = True := eq_true trivial
attribute [local go_sem] wide_fn

theorem posD_range (p : Int) (hp : inI64 p) (k : Nat) : inI64 (posD p k) := by
  cases k with
  | zero => exact hp
  | succ k => exact wrap64_range _

set_option maxRecDepth 100000 in
set_option maxHeartbeats 1000000 in
theorem dwords1_seq (R : Nat → Prop) (n : Nat) (hn : 1 ≤ n) (Bn g : Nat) (seed : List UInt8) (label : ByteArray) (p : Int) (hl : seed.length ≤ 1000000) (hs : label.size ≤ 1000000) :
    SeqD Fence.wide n Try.prog 72 #[.pointer (some ⟨Bn, 0, none⟩)] (fun k => #[.int .u64 (wordD seed label.data.toList (posD p k))]) 128
      (fun k A => A.cell? ⟨Bn, 0, none⟩ = some (.pointer (some ⟨g, 0, none⟩)) ∧ DiceAt A R g seed label (posD p k))
      (fun k A B => ∃ A2, Ext A A2 ∧ B = A2.setCell ⟨g, 2, none⟩ (.int .i64 (wrap64 (posD p k + 1)))) := by
  intro l J Jm Jx W hrd hst hY h0
  refine callsIn_of_wp Try.func72 rfl trivial ?_ rfl
  simp only [Try.ntmps72, List.size_toArray, List.length_cons, List.length_nil, Nat.reduceAdd, Nat.reduceSub, Array.replicate_succ, Array.replicate_zero, List.push_toArray, List.append_toArray, List.nil_append, List.cons_append]
  gi_wp2
  gi_loopw [4] (fun i wr => ∃ k : Nat, k ≤ 128 ∧ i = .int .i64 k ∧ J k wr) (fun i wr => 128 - (intOf i).toNat)
  case atStart => exact ⟨0, by omega, rfl, h0⟩
  case round =>
    obtain ⟨k, hk, rfl, hJ⟩ := hrel
    by_cases hlt : k < 128
    · obtain ⟨hcB, v, hb, hr, hne⟩ := hrd k wr hJ
      have c0 := hb.cell 0
      have c1 := hb.cell 1
      have c2 := hb.cell 2
      simp only [List.getElem?_cons_succ, List.getElem?_cons_zero] at c0 c1 c2
      have d0 : ∀ x : ExtW wr, x.w.cell? ⟨Bn, 0, none⟩ = some (.pointer (some ⟨g, 0, none⟩)) := fun x => x.ext.cell hcB
      have d1 : ∀ x : ExtW wr, x.w.cell? ⟨g, 0, none⟩ = some v := fun x => x.ext.cell c0
      have d2 : ∀ x : ExtW wr, x.w.cell? ⟨g, 1, none⟩ = some (.string label) := fun x => x.ext.cell c1
      have d3 : ∀ x : ExtW wr, x.w.cell? ⟨g, 2, none⟩ = some (.int .i64 (posD p k)) := fun x => x.ext.cell c2
      gi_wp2
      refine wpIn_region_ext wr rfl (Ext.refl _) (by kernel_rfl) (by kernel_rfl) ?_
      repeat (gi_big_quiet_step (fail))
      refine BigFrame.wpQuietIn_want (fun _ _ _ _ => trivial) rfl (fun K hK => ?_)
      gi_big_quiet_op
      apply Exists.intro
      refine ⟨fun _ => ?_, hK _ ?_⟩
      · exact callsIn_ext (dword_any v seed label (posD p k) _ (hr.ext (ExtW.ext _)) hl hs)
      clear hK K
      repeat (gi_big_quiet_step (fail))
      refine wpQuietIn_nil ?_
      intro _ hw'
      obtain ⟨x, rfl⟩ := hw'
      have hx1 := x.ext
      generalize x.w = w1 at *
      clear x
      have d2' := hx1.cell c2
      have dB' := hx1.cell hcB
      have hb1 := hb.ext hx1
      have f2 := hb1.frozen 2
      have hJm := hst k wr _ hJ ⟨w1, hx1, rfl⟩
      obtain ⟨fn, tmps, assign, body, hy, hR⟩ := hY k _ hJm hlt
      clear d0 d1 d2 d3 c0 c1 c2 hb hr
      gi_wp2
      refine hR.mono ?_
      rintro e W3 (⟨rfl, hJ3⟩ | ⟨rfl, hJx3⟩)
      · gi_wp2
        go_roundw
        case rel => exact ⟨k + 1, by omega, by go_num, hJ3⟩
        case measure => simp [intOf]; omega
      · gi_wp2
        refine bodyPost_ret (results_none rfl _ _ _) rfl ?_
        exact ⟨⟨_, rfl⟩, .inr ⟨k, hlt, hJx3⟩⟩
    · have hke : k = 128 := by omega
      subst hke
      gi_wp2
      go_end0
      exact ⟨⟨_, rfl⟩, .inl hJ⟩

end Go.Proofs.Ytjgpdimhgcacgaa
