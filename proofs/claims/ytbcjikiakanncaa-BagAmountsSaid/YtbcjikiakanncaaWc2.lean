/- package wire: the Writer: its contracts: the rest. -/
import Derived.Test.YtbcjikiakanncaaWc1
import Derived.Lib.AppendStr
import Derived.Laws.IdiomStrings
import Derived.Laws.BytesArg
namespace Go.Proofs.Ytbcjikiakanncaa
open Go.RowKit
set_option linter.unusedVariables false

/-- string(b) of a slice that reads -/
theorem conv_str {P : Program} (w : World) (src dst e : TypeId) (v : Value) (bs : List UInt8) (hs : P.underlying src = some (.slice e)) (he : P.underlying e = some (.int .u8)) (hd : P.underlying dst = some .string)
    (h : Rd w v (vbs bs)) : (convert src dst v).run P w = .ok (.string ⟨bs.toArray⟩) w := by
  have h0 := h
  obtain ⟨A, c, rfl, _⟩ := h
  obtain ⟨_, a1, a2, a3⟩ := h0.at
  rw [vbs_len] at *
  rcases A with _ | ad
  · have hb : bs = [] := by
      rcases bs with _ | ⟨b, r⟩
      · rfl
      · obtain ⟨b, off, hh, _⟩ := a3 (by simp)
        cases hh
    subst hb
    exact run_convert_bytes_nil w src e hs he _ _ dst hd
  · refine run_convert_bytes_back w src dst e ad c bs hs he hd (fun j hj => ?_)
    obtain ⟨b, off, hh, hc⟩ := a3 (by omega)
    injection hh with hh
    subst hh
    rw [addr_add]
    exact hc w (Ext.refl _) j _ (by simp [vbs, hj])

theorem nat_ones (n x : Nat) (h : x < 2 ^ n) : x ^^^ (2 ^ n - 1) = 2 ^ n - 1 - x := by
  refine Nat.eq_of_testBit_eq fun i => ?_
  rw [show 2 ^ n - 1 - x = 2 ^ n - (x + 1) by omega, Nat.testBit_two_pow_sub_succ h, Nat.testBit_xor, Nat.testBit_two_pow_sub_one]
  by_cases hi : i < n
  · simp [hi]
  · have : x.testBit i = false := Nat.testBit_lt_two_pow (Nat.lt_of_lt_of_le h (Nat.pow_le_pow_right (by omega) (by omega)))
    simp [hi, this]
theorem xor_zero (a : Int) (h0 : 0 ≤ a) (h1 : a < 18446744073709551616) : bits BinOp.xor IntKind.u64 a 0 = a := by
  rw [u64_xor a 0 h0 h1 (by omega) (by omega)]; simp; omega
theorem xor_ones (a : Int) (h0 : 0 ≤ a) (h1 : a < 18446744073709551616) : bits BinOp.xor IntKind.u64 a 18446744073709551615 = 18446744073709551615 - a := by
  rw [u64_xor a _ h0 h1 (by omega) (by omega)]
  have := nat_ones 64 a.toNat (by omega)
  rw [show (18446744073709551615 : Int).toNat = 2 ^ 64 - 1 from rfl, this]
  omega

set_option maxHeartbeats 1000000 in
theorem zigzag_any (n : Int) (w : World) (hn : inI64 n) :
    Calls Try.prog 80 #[.int .i64 n] w fun e w' => e = .returned (.int .u64 (zig n)) ∧ w = w' := by
  obtain ⟨hn1, hn2⟩ := hn
  by_cases h : 0 ≤ n
  · go_enter Try.func80, Try.ntmps80
    go_wp2
    go_ret
    refine ⟨ret_int ?_, rfl⟩
    rw [show n / 9223372036854775808 = 0 by omega, xor_zero _ (by omega) (by omega), zig, if_pos h]; omega
  · go_enter Try.func80, Try.ntmps80
    go_wp2
    go_ret
    refine ⟨ret_int ?_, rfl⟩
    rw [show n / 9223372036854775808 = -1 by omega, show IntKind.u64.wrap (-1) = 18446744073709551615 by decide, IntKind.wrap_u64, IntKind.wrap_u64, xor_ones _ (by omega) (by omega), zig, if_neg (by omega)]; omega

set_option maxHeartbeats 1000000 in
theorem wint_any (b g : Nat) (bs : List UInt8) (n : Int) (w : World) (hn : inI64 n) (h : WAt w b g bs) (hl : bs.length ≤ 1000000000) :
    Calls Try.prog 59 #[.pointer (some ⟨g, 0, none⟩), .int .i64 n] w fun e w' => e = .returned (.tuple #[]) ∧ WAt w' b g (bs ++ uvar (zig n)) ∧ Below b w w' := by
  go_enter Try.func59, Try.ntmps59
  go_wp2_with fail
  refine (zigzag_any n _ hn).mono ?_
  rintro e w1 ⟨rfl, rfl⟩
  go_wp2_with fail
  refine (wuint_any b g bs (zig n) _ (zig_range n hn) h hl).mono ?_
  rintro e w1 ⟨rfl, h1, h2⟩
  go_wp2
  go_end0
  exact ⟨rfl, h1, h2⟩

theorem boolW_uvar (t : Bool) : boolW t = uvar (if t then 1 else 0) := by cases t <;> rw [uvar_lo _ (by decide)] <;> rfl



set_option maxHeartbeats 1000000 in
theorem wdone_any (b g : Nat) (bs : List UInt8) (w : World) (h : WAt w b g bs) (hl : bs.length ≤ 1000000000) :
    Calls Try.prog 60 #[.pointer (some ⟨g, 0, none⟩)] w fun e w' => ∃ v, e = .returned v ∧ Own w' w.heap.size 5 v (vbs bs) ∧ Ext w w' := by
  obtain ⟨hbg, v, hb, ho⟩ := h
  have c0 := hb.cell 0
  simp only [List.getElem?_cons_zero] at c0
  have hr := ho.rd
  obtain ⟨A1, m1, cc1, rfl⟩ := ho.shape
  go_enter Try.func60, Try.ntmps60
  go_wp2_with fail
  refine (clone_any _ bs _ hr hl).mono ?_
  rintro e w1 ⟨v, rfl, h1, h2⟩
  go_wp2
  go_ret
  exact ⟨v, rfl, h1, h2⟩
theorem Rd.below {w w' : World} {b : Nat} {v : Value} {xs : List Value} (h : Rd w v xs) (hx : Below b w w') (hlt : ∀ k, v.ownBlock = some k → k < b) : Rd w' v xs := by
  obtain ⟨A, c, rfl, h1, h2, h3⟩ := h
  refine ⟨A, c, rfl, h1, h2, ?_⟩
  rcases h3 with h3 | ⟨b', off, rfl, hcx⟩
  · exact .inl h3
  · refine .inr ⟨b', off, rfl, fun j u hu => ?_⟩
    exact (World.cell?_of_block (Below.block hx _ (hlt b' rfl))).trans (hcx j u hu)
/-- a slice's block that holds something lies in the heap -/
theorem Rd.lt {w : World} {v : Value} {xs : List Value} (h : Rd w v xs) (hx : xs ≠ []) : ∀ k, v.ownBlock = some k → k < w.heap.size := by
  intro k hk
  rcases Nat.lt_or_ge k w.heap.size with h1 | h1
  · exact h1
  · exact absurd hk (h.ne_new h1 hx)

end Go.Proofs.Ytbcjikiakanncaa
