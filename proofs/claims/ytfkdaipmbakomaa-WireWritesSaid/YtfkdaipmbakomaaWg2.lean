/- package wire: the laws' own functions: write, encode; the reference's Encode, Same. -/
import Derived.Test.YtfkdaipmbakomaaWg1
import Derived.Test.YtfkdaipmbakomaaWe1
import Derived.Test.YtfkdaipmbakomaaWo
namespace Go.Proofs.Ytfkdaipmbakomaa
open Go.RowKit
set_option linter.unusedVariables false

/-- a value, by value -/
abbrev aggV (x : WV) (vb vl : Value) : Value := .agg #[.int .i64 x.k, .int .u64 x.u, .int .i64 x.n, vb, vl]

set_option maxHeartbeats 2000000 in
theorem write_any (b g : Nat) (done : List UInt8) (x : WV) (vb vl : Value) (w : World) (hx : x.ok) (h1 : Rd w vb (vbs x.b)) (h2 : Rd w vl (vis x.l)) (h3 : ∀ k, vl.ownBlock = some k → k < b)
    (h : WAt w b g done) (hl : done.length ≤ 100000000) :
    Calls Try.prog 34 #[.pointer (some ⟨g, 0, none⟩), aggV x vb vl] w fun e w' => e = .returned (.tuple #[]) ∧ WAt w' b g (done ++ encV x) ∧ Below b w w' := by
  have hgl := h.lt
  have hbg : b ≤ w.heap.size := by have := h.1; omega
  rcases hx with ⟨n, rfl, hn⟩ | ⟨n, rfl, hn⟩ | ⟨t, rfl⟩ | ⟨bs, rfl, hn⟩ | ⟨bs, rfl, hn⟩ | ⟨xs, rfl, hn, hxs⟩
  · change Calls Try.prog 34 #[.pointer (some ⟨g, 0, none⟩), .agg #[.int .i64 0, .int .u64 n, .int .i64 0, vb, vl]] w _
    rw [encV_U]
    go_enter Try.func34, Try.ntmps34
    go_wp2_with fail
    refine (wuint_any b g done n _ hn (h.ext ((Ext.refl w).alloc _)) (by omega)).mono ?_
    rintro e w1 ⟨rfl, h4, h5⟩
    go_wp2
    go_end0
    exact ⟨rfl, h4, (Below.alloc (Below.refl b w) hbg _).trans h5⟩
  · change Calls Try.prog 34 #[.pointer (some ⟨g, 0, none⟩), .agg #[.int .i64 1, .int .u64 0, .int .i64 n, vb, vl]] w _
    rw [encV_I]
    go_enter Try.func34, Try.ntmps34
    go_wp2_with fail
    refine (wint_any b g done n _ hn (h.ext ((Ext.refl w).alloc _)) (by omega)).mono ?_
    rintro e w1 ⟨rfl, h4, h5⟩
    go_wp2
    go_end0
    exact ⟨rfl, h4, (Below.alloc (Below.refl b w) hbg _).trans h5⟩
  · rw [encV_T]
    cases t
    · change Calls Try.prog 34 #[.pointer (some ⟨g, 0, none⟩), .agg #[.int .i64 2, .int .u64 0, .int .i64 0, vb, vl]] w _
      go_enter Try.func34, Try.ntmps34
      go_wp2_with fail
      refine (wbool_any b g done false _ (h.ext ((Ext.refl w).alloc _)) (by omega)).mono ?_
      rintro e w1 ⟨rfl, h4, h5⟩
      go_wp2
      go_end0
      exact ⟨rfl, h4, (Below.alloc (Below.refl b w) hbg _).trans h5⟩
    · change Calls Try.prog 34 #[.pointer (some ⟨g, 0, none⟩), .agg #[.int .i64 2, .int .u64 0, .int .i64 1, vb, vl]] w _
      go_enter Try.func34, Try.ntmps34
      go_wp2_with fail
      refine (wbool_any b g done true _ (h.ext ((Ext.refl w).alloc _)) (by omega)).mono ?_
      rintro e w1 ⟨rfl, h4, h5⟩
      go_wp2
      go_end0
      exact ⟨rfl, h4, (Below.alloc (Below.refl b w) hbg _).trans h5⟩
  · change Calls Try.prog 34 #[.pointer (some ⟨g, 0, none⟩), .agg #[.int .i64 3, .int .u64 0, .int .i64 0, vb, vl]] w _
    rw [encV_S]
    have hk := conv_str (P := Try.prog) (w.alloc (.cells #[.int .i64 3, .int .u64 0, .int .i64 0, vb, vl] 47)) 24 9 5 vb bs Try.underlying24 Try.underlying5 Try.underlying9 (h1.ext ((Ext.refl w).alloc _))
    go_enter Try.func34, Try.ntmps34
    go_wp2_with fail
    refine (wtext_any b g done ⟨bs.toArray⟩ _ (h.ext ((Ext.refl w).alloc _)) (by omega) (by show bs.toArray.size ≤ _; simp; omega)).mono ?_
    rintro e w1 ⟨rfl, h4, h5⟩
    go_wp2
    go_end0
    exact ⟨rfl, h4, (Below.alloc (Below.refl b w) hbg _).trans h5⟩
  · change Calls Try.prog 34 #[.pointer (some ⟨g, 0, none⟩), .agg #[.int .i64 4, .int .u64 0, .int .i64 0, vb, vl]] w _
    rw [encV_R]
    go_enter Try.func34, Try.ntmps34
    go_wp2_with fail
    refine (wraw_any b g done vb bs _ (h.ext ((Ext.refl w).alloc _)) (by omega) (h1.ext ((Ext.refl w).alloc _)) (by omega)).mono ?_
    rintro e w1 ⟨rfl, h4, h5⟩
    go_wp2
    go_end0
    exact ⟨rfl, h4, (Below.alloc (Below.refl b w) hbg _).trans h5⟩
  · change Calls Try.prog 34 #[.pointer (some ⟨g, 0, none⟩), .agg #[.int .i64 5, .int .u64 0, .int .i64 0, vb, vl]] w _
    rw [encV_L]
    go_enter Try.func34, Try.ntmps34
    go_wp2_with fail
    refine (wints_any b g done vl xs _ (h.ext ((Ext.refl w).alloc _)) (by omega) (h2.ext ((Ext.refl w).alloc _)) hxs h3).mono ?_
    rintro e w1 ⟨rfl, h4, h5⟩
    go_wp2
    go_end0
    exact ⟨rfl, h4, (Below.alloc (Below.refl b w) hbg _).trans h5⟩

def sameV (x y : WV) : Bool := (((decide (x.k = y.k) && decide (x.u = y.u)) && decide (x.n = y.n)) && decide (x.b = y.b)) && decide (x.l = y.l)
theorem sameV_self (x : WV) : sameV x x = true := by simp [sameV]
theorem sameV_iff (x y : WV) : sameV x y = true ↔ x = y := by
  obtain ⟨xk, xu, xn, xb, xl⟩ := x
  obtain ⟨yk, yu, yn, yb, yl⟩ := y
  simp [sameV, and_assoc]
set_option maxHeartbeats 2000000 in
theorem same2_any (x y : WV) (vb vl vb' vl' : Value) (w : World) (h1 : Rd w vb (vbs x.b)) (h2 : Rd w vl (vis x.l)) (h3 : Rd w vb' (vbs y.b)) (h4 : Rd w vl' (vis y.l)) :
    Calls Try.prog 22 #[aggV x vb vl, aggV y vb' vl'] w fun e w' => e = .returned (.bool (sameV x y)) ∧ Ext w w' := by
  have HS := Lib.hid (show sameV x y = _ from rfl)
  obtain ⟨xk, xu, xn, xb, xl⟩ := x
  obtain ⟨yk, yu, yn, yb, yl⟩ := y
  simp only at h1 h2 h3 h4
  have hxa : ∀ o1 o2, Ext w ((w.alloc o1).alloc o2) := fun o1 o2 => ((Ext.refl w).alloc _).alloc _
  go_enter Try.func22, Try.ntmps22
  go_wp2_with fail
  have c00 : ((w.alloc (.cells #[.int .i64 xk, .int .u64 xu, .int .i64 xn, vb, vl] 47)).alloc (.cells #[.int .i64 yk, .int .u64 yu, .int .i64 yn, vb', vl'] 47)).cell? ⟨w.heap.size, 0, none⟩ = some (.int .i64 xk) := by go_simp
  have c01 : ((w.alloc (.cells #[.int .i64 xk, .int .u64 xu, .int .i64 xn, vb, vl] 47)).alloc (.cells #[.int .i64 yk, .int .u64 yu, .int .i64 yn, vb', vl'] 47)).cell? ⟨w.heap.size, 1, none⟩ = some (.int .u64 xu) := by go_simp
  have c02 : ((w.alloc (.cells #[.int .i64 xk, .int .u64 xu, .int .i64 xn, vb, vl] 47)).alloc (.cells #[.int .i64 yk, .int .u64 yu, .int .i64 yn, vb', vl'] 47)).cell? ⟨w.heap.size, 2, none⟩ = some (.int .i64 xn) := by go_simp
  have c04 : ((w.alloc (.cells #[.int .i64 xk, .int .u64 xu, .int .i64 xn, vb, vl] 47)).alloc (.cells #[.int .i64 yk, .int .u64 yu, .int .i64 yn, vb', vl'] 47)).cell? ⟨w.heap.size, 4, none⟩ = some vl := by go_simp
  have c10 : ((w.alloc (.cells #[.int .i64 xk, .int .u64 xu, .int .i64 xn, vb, vl] 47)).alloc (.cells #[.int .i64 yk, .int .u64 yu, .int .i64 yn, vb', vl'] 47)).cell? ⟨w.heap.size + 1, 0, none⟩ = some (.int .i64 yk) := by go_simp
  have c11 : ((w.alloc (.cells #[.int .i64 xk, .int .u64 xu, .int .i64 xn, vb, vl] 47)).alloc (.cells #[.int .i64 yk, .int .u64 yu, .int .i64 yn, vb', vl'] 47)).cell? ⟨w.heap.size + 1, 1, none⟩ = some (.int .u64 yu) := by go_simp
  have c12 : ((w.alloc (.cells #[.int .i64 xk, .int .u64 xu, .int .i64 xn, vb, vl] 47)).alloc (.cells #[.int .i64 yk, .int .u64 yu, .int .i64 yn, vb', vl'] 47)).cell? ⟨w.heap.size + 1, 2, none⟩ = some (.int .i64 yn) := by go_simp
  have c14 : ((w.alloc (.cells #[.int .i64 xk, .int .u64 xu, .int .i64 xn, vb, vl] 47)).alloc (.cells #[.int .i64 yk, .int .u64 yu, .int .i64 yn, vb', vl'] 47)).cell? ⟨w.heap.size + 1, 4, none⟩ = some vl' := by go_simp
  refine (sameBytes_any vb vb' xb yb _ (h1.ext (hxa _ _)) (h3.ext (hxa _ _))).mono ?_
  rintro e w1 ⟨rfl, hx1⟩
  have hw1 := (hxa _ _).trans hx1
  have c00 := hx1.cell c00
  have c01 := hx1.cell c01
  have c02 := hx1.cell c02
  have c04 := hx1.cell c04
  have c10 := hx1.cell c10
  have c11 := hx1.cell c11
  have c12 := hx1.cell c12
  have c14 := hx1.cell c14
  clear hxa
  go_wp2_with fail
  refine (sameInts_any vl vl' xl yl _ (h2.ext hw1) (h4.ext hw1)).mono ?_
  rintro e w2 ⟨rfl, hx2⟩
  have c00 := hx2.cell c00
  have c01 := hx2.cell c01
  have c02 := hx2.cell c02
  have c10 := hx2.cell c10
  have c11 := hx2.cell c11
  have c12 := hx2.cell c12
  clear c04 c14
  generalize hA : decide (xb = yb) = A
  generalize hB : decide (xl = yl) = B
  have HA := Lib.hid hA
  have HB := Lib.hid hB
  clear hA hB
  by_cases hk : xk = yk
  · subst hk
    by_cases hu : xu = yu
    · subst hu
      by_cases hn : xn = yn
      · subst hn
        cases A <;> cases B
        all_goals
          go_wp2
          go_ret
          exact ⟨by simp [sameV, HA.out, HB.out], hw1.trans hx2⟩
      · have hn' : (xn == yn) = false := by simpa using hn
        go_wp2
        go_ret
        exact ⟨by simp [sameV, hn], hw1.trans hx2⟩
    · have hu' : (xu == yu) = false := by simpa using hu
      go_wp2
      go_ret
      exact ⟨by simp [sameV, hu], hw1.trans hx2⟩
  · have hk' : (((xk : Nat) : Int) == ((yk : Nat) : Int)) = false := by simp; omega
    go_wp2
    go_ret
    exact ⟨by simp [sameV, hk], hw1.trans hx2⟩
end Go.Proofs.Ytfkdaipmbakomaa
