/- package wire: the Reader: Int, Bool, End, Read. -/
import Derived.Test.YtjgpdimhgcacgaaWd2
namespace Go.Proofs.Ytjgpdimhgcacgaa
open Go.RowKit
set_option linter.unusedVariables false

theorem i64_xor_zero (a : Int) (h0 : 0 ≤ a) (h1 : a < 9223372036854775808) : bits BinOp.xor IntKind.i64 a 0 = a := by
  obtain ⟨n, rfl⟩ := Int.eq_ofNat_of_zero_le h0
  show IntKind.i64.wrap ((BitVec.ofInt 64 (n : Int) ^^^ BitVec.ofInt 64 0).toNat : Int) = _
  rw [BitVec.toNat_xor, ofInt_u64 n (by omega), show (BitVec.ofInt 64 0).toNat = 0 by decide, Nat.xor_zero, IntKind.wrap_i64]
  omega
theorem i64_xor_ones (a : Int) (h0 : 0 ≤ a) (h1 : a < 9223372036854775808) : bits BinOp.xor IntKind.i64 a (-1) = -a - 1 := by
  obtain ⟨n, rfl⟩ := Int.eq_ofNat_of_zero_le h0
  show IntKind.i64.wrap ((BitVec.ofInt 64 (n : Int) ^^^ BitVec.ofInt 64 (-1)).toNat : Int) = _
  rw [BitVec.toNat_xor, ofInt_u64 n (by omega), show (BitVec.ofInt 64 (-1)).toNat = 2 ^ 64 - 1 by decide, nat_ones 64 n (by omega), IntKind.wrap_i64]
  omega

set_option maxHeartbeats 1000000 in
theorem unzigzag_any (z : Int) (w : World) (hz : 0 ≤ z ∧ z ≤ 18446744073709551615) :
    Calls Try.prog 65 #[.int .u64 z] w fun e w' => e = .returned (.int .i64 (unzig z)) ∧ w = w' := by
  obtain ⟨hz1, hz2⟩ := hz
  have h1 : bits BinOp.and IntKind.u64 z 1 = z % 2 := by
    rw [u64_and z 1 (by omega) (by omega) (by omega) (by omega), show (1 : Int).toNat = 1 from rfl, nat_mask1]; omega
  have h2 : z % 2 = 0 ∨ z % 2 = 1 := by omega
  rcases h2 with h | h
  · rw [h] at h1
    go_enter Try.func65, Try.ntmps65
    go_wp2
    go_ret
    refine ⟨ret_int ?_, rfl⟩
    rw [i64_xor_zero _ (by omega) (by omega), unzig, if_pos h]
  · rw [h] at h1
    go_enter Try.func65, Try.ntmps65
    go_wp2
    go_ret
    refine ⟨ret_int ?_, rfl⟩
    rw [i64_xor_ones _ (by omega) (by omega), unzig, if_neg (by omega)]

set_option maxHeartbeats 1000000 in
theorem rint_any (B : Nat → Prop) (g : Nat) (s : RS) (w : World) (h : RAt w B g s) :
    Calls Try.prog 47 #[.pointer (some ⟨g, 0, none⟩)] w fun e' w' => e' = .returned (.int .i64 (intR s).1) ∧ RAt w' B g (intR s).2 ∧ Chg g w w' := by
  go_enter Try.func47, Try.ntmps47
  go_wp2_with fail
  refine (ruint_any B g s _ h).mono ?_
  rintro e1 w1 ⟨rfl, h1, hx1⟩
  go_wp2_with fail
  refine (unzigzag_any _ _ (uintR_range s)).mono ?_
  rintro e1 w2 ⟨rfl, rfl⟩
  go_wp2
  go_ret
  exact ⟨rfl, h1, hx1⟩


set_option maxHeartbeats 1000000 in
theorem read_any (v : Value) (bs : List UInt8) (w : World) (hr : Rd w v (vbs bs)) (hl : bs.length ≤ 1000000000) :
    Calls Try.prog 44 #[v] w fun e w' => ∃ g, e = .returned (.pointer (some ⟨g, 0, none⟩)) ∧ w.heap.size ≤ g ∧ g < w'.heap.size ∧ RAt w' (fun k => w.heap.size ≤ k ∧ k < g) g (.ok bs) ∧ Ext w w' := by
  go_enter Try.func44, Try.ntmps44
  go_wp2_with fail
  refine (clone_any v bs _ hr hl).mono ?_
  rintro e w1 ⟨v1, rfl, ho1, hx1⟩
  have hlt := ho1.lt
  have hrd := ho1.rd
  obtain ⟨A1, m1, c1, rfl⟩ := ho1.shape
  go_wp2
  go_ret
  exact ⟨_, rfl, hx1.size, by simp, ⟨bs, 0, ⟨_, Blk.new w1 _ _, hrd.ext ((Ext.refl _).alloc _), fun k hk => ⟨by have := (hlt k hk).2; omega, hlt k hk⟩⟩, rfl, rfl⟩, hx1.alloc _⟩
set_option maxHeartbeats 1000000 in
theorem rend_any (B : Nat → Prop) (g : Nat) (s : RS) (w : World) (h : RAt w B g s) :
    Calls Try.prog 48 #[.pointer (some ⟨g, 0, none⟩)] w fun e' w' => e' = .returned (.int .i64 (endR s)) ∧ w = w' := by
  cases s with
  | error e =>
    obtain ⟨he, bs, hraw⟩ := h.err
    have c1 := hraw.cell1
    have he' : (e == 0) = false := by simpa using he
    go_enter Try.func48, Try.ntmps48
    go_wp2
    go_ret
    exact ⟨rfl, rfl⟩
  | ok bs =>
    obtain ⟨v, hb, hr, hf⟩ := h.ok
    have c0 := hb.cell 0
    have c1 := hb.cell 1
    simp only [List.getElem?_cons_succ, List.getElem?_cons_zero] at c0 c1
    obtain ⟨A, c, rfl, -⟩ := hr
    rw [vbs_len] at c0
    rcases bs with _ | ⟨b, r⟩
    · go_enter Try.func48, Try.ntmps48
      go_wp2
      go_ret
      exact ⟨rfl, rfl⟩
    · have hl : decide (0 < (b :: r).length) = true := by simp
      generalize (b :: r).length = m at *
      go_enter Try.func48, Try.ntmps48
      go_wp2
      go_ret
      exact ⟨rfl, rfl⟩
end Go.Proofs.Ytjgpdimhgcacgaa
