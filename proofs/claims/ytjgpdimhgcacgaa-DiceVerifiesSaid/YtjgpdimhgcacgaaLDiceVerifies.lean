/- DiceVerifies: the walk of the law. -/
import Derived.Test.YtjgpdimhgcacgaaDv
namespace Go.Proofs.Ytjgpdimhgcacgaa
open Go.RowKit
set_option linter.unusedVariables false

theorem verify_own (seed label : List UInt8) (p n : Int) : verifyD (commitD seed) seed label p n (rollD seed label n p).1 = ((rollD seed label n p).2.1 == 0) := by
  unfold verifyD; simp
theorem verify_other (seed label : List UInt8) (p n r : Int) (h : r ≠ (rollD seed label n p).1) : verifyD (commitD seed) seed label p n r = false := by
  unfold verifyD
  have : ((rollD seed label n p).1 == r) = false := by simpa using fun e => h e.symm
  rw [this]; simp
theorem verify_commit (seed label : List UInt8) (p n r c : Int) (h : c ≠ commitD seed) : verifyD c seed label p n r = false := by
  unfold verifyD
  have : (commitD seed == c) = false := by simpa using fun e => h e.symm
  rw [this]; simp
theorem wrap64_succ_ne (r : Int) : wrap64 (r + 1) ≠ r := by unfold wrap64; omega
theorem wrapU_succ_ne (r : Int) : IntKind.u64.wrap (r + 1) ≠ r := by rw [IntKind.wrap_u64]; omega

set_option maxRecDepth 100000 in
set_option maxHeartbeats 4000000 in
theorem DiceVerifies_law (w : World) (v0 : Value) (b0 : List UInt8) (h0 : Rd w v0 (vbs b0)) (s1 : ByteArray) (hs1 : s1.size ≤ maxLen) (p : Int) (hp : inI64 p) (n : Int) (hn : inI64 n) (cm : Int) (hcm : 0 ≤ cm ∧ cm ≤ 18446744073709551615) (res : Int) (hres : inI64 res) :
    Calls Try.prog 6 #[v0, .string s1, .int .i64 p, .int .i64 n, .int .u64 cm, .int .i64 res] w fun e w' => e = .returned (.bool true) ∧ Ext w w' := by
  have hbl : (b0.take 20).length ≤ 20 := List.length_take_le _ _
  go_enter Try.func6, Try.ntmps6
  go_wp2_with fail
  refine (few_any v0 b0 20 _ h0 (by omega)).mono ?_
  rintro e w1 ⟨va, rfl, ho1, hx1⟩
  obtain ⟨bs, hbs⟩ : ∃ bs, bs = b0.take 20 := ⟨_, rfl⟩
  rw [← hbs] at hbl ho1
  clear hbs
  have hr1 := ho1.rd
  have hlt1 := ho1.lt
  go_wp2_with fail
  refine (short_any s1 10 _ hs1 (by omega)).mono ?_
  rintro e w2 ⟨lab, rfl, hs, rfl⟩
  have hsl : lab.size ≤ 10 := by
    have : lab.data.toList.length ≤ 10 := by rw [hs]; exact List.length_take_le _ _
    simpa using this
  clear hs
  go_wp2_with fail
  refine (sides_any n _ hn).mono ?_
  rintro e w2 ⟨rfl, rfl⟩
  have hsr := sides_range n
  generalize sidesD n = m at *
  go_wp2_with fail
  have hx2 : Ext w1 (w1.alloc (.cells #[.int .i64 n, .int .i64 m] 3)) := (Ext.refl _).alloc _
  have hb2 := Blk.new w1 3 [.int .i64 n, .int .i64 m]
  have hr2 := hr1.ext hx2
  have hs2 := hx2.size
  generalize hg : w1.heap.size = g2 at *
  generalize hw2 : w1.alloc (.cells #[.int .i64 n, .int .i64 m] 3) = w2 at *
  have hxw : Ext w w2 := hx1.trans hx2
  clear hr1 ho1 hx1 hx2 hw2
  refine (commit_any va bs _ hr2 (by omega)).mono ?_
  rintro e w3 ⟨rfl, hx3⟩
  have hxw := hxw.trans hx3
  have hr2 := hr2.ext hx3
  have hb2 := hb2.ext hx3
  have hs3 := hx3.size
  clear hx3
  have hcr := commitD_range bs
  go_wp2_with fail
  go_loopw [17] (fun i wr => ∃ k : Nat, i = .int .i64 k ∧ k ≤ 2 ∧ Rd wr va (vbs bs) ∧ Blk wr g2 3 [.int .i64 n, .int .i64 m] ∧ Ext w wr ∧ w3.heap.size ≤ wr.heap.size) (fun i _ => 2 - (intOf i).toNat)
  case atStart => exact ⟨0, rfl, by omega, hr2, hb2, hxw, by omega⟩
  case round =>
    obtain ⟨k, rfl, hk, hr, hb, hxw, hsz⟩ := hrel
    by_cases hlt : (k : Int) < 2
    · obtain ⟨sd, hsd, hcell⟩ : ∃ sd, inI64 sd ∧ wr.cell? ⟨g2, k, none⟩ = some (.int .i64 sd) := by
        have h2 : k = 0 ∨ k = 1 := by omega
        rcases h2 with rfl | rfl
        · exact ⟨n, hn, hb.cell 0⟩
        · exact ⟨m, ⟨by omega, hsr.2⟩, hb.cell 1⟩
      go_wp2_with fail
      refine (around_any res 7 _ hres (by omega) (by omega)).mono ?_
      rintro e w4 ⟨rfl, rfl⟩
      have hnear := around_range res 7 (by omega)
      obtain ⟨near, hne⟩ : ∃ x, x = around res 7 := ⟨_, rfl⟩
      rw [← hne] at hnear ⊢
      clear hne hcell
      go_wp2_with fail
      refine (verify_any cm va bs lab p sd res _ hr hp hsd (by omega) (by omega)).mono ?_
      rintro e w4 ⟨rfl, hx4⟩
      have hs4 := hx4.size
      go_wp2_with fail
      refine (rverify_any cm va bs lab p sd res _ (hr.ext hx4) (fun k hk => by have := hlt1 k hk; omega) hp hsd (by omega) (by omega)).mono ?_
      rintro e w5 ⟨rfl, hx5⟩
      have hs5 := hx5.size
      have hq1 : (verifyD cm bs lab.data.toList p sd res != verifyD cm bs lab.data.toList p sd res) = false := by simp
      generalize verifyD cm bs lab.data.toList p sd res = t1 at *
      have hr5 := (hr.ext hx4).ext hx5
      go_wp2_with fail
      refine (verify_any _ va bs lab p sd near _ hr5 hp hsd (by omega) (by omega)).mono ?_
      rintro e w6 ⟨rfl, hx6⟩
      have hs6 := hx6.size
      go_wp2_with fail
      refine (rverify_any _ va bs lab p sd near _ (hr5.ext hx6) (fun k hk => by have := hlt1 k hk; omega) hp hsd (by omega) (by omega)).mono ?_
      rintro e w7 ⟨rfl, hx7⟩
      have hs7 := hx7.size
      have hq2 : (verifyD (commitD bs) bs lab.data.toList p sd near != verifyD (commitD bs) bs lab.data.toList p sd near) = false := by simp
      generalize verifyD (commitD bs) bs lab.data.toList p sd near = t2 at *
      have hr7 := (hr5.ext hx6).ext hx7
      have hx47 := (hx4.trans hx5).trans (hx6.trans hx7)
      clear hr5 hx4 hx5 hx6 hx7
      go_wp2_with fail
      refine (new_any va bs _ _ hr7 (by omega)).mono ?_
      rintro e w8 ⟨g, rfl, hg1, hg2, hD, hx8⟩
      go_wp2_with fail
      refine (seek_any _ g bs _ 0 p _ hD).mono ?_
      rintro e w9 ⟨rfl, hD, hc9⟩
      go_wp2_with fail
      refine (roll_any _ g bs _ p sd _ hD hp hsd (by omega) (by omega)).mono ?_
      rintro e w10 ⟨rfl, hD, hc10⟩
      have hx10 : Ext w7 w10 := hc10.ext (hc9.ext hx8 hg1) hg1
      have hr10 := hr7.ext hx10
      have hb10 := (hb.ext hx47).ext hx10
      have hxw10 := (hxw.trans hx47).trans hx10
      have hs10 := hx10.size
      have V1 := Lib.hid (verify_own bs lab.data.toList p sd)
      have V2 := Lib.hid (fun r => verify_other bs lab.data.toList p sd r)
      clear hD hc9 hc10 hx8 hr7 hb hr hxw hx47 hx10
      generalize (rollD bs lab.data.toList sd p).1 = r at *
      generalize (rollD bs lab.data.toList sd p).2.1 = er at *
      go_wp2_with fail
      refine (verify_any _ va bs lab p sd r _ hr10 hp hsd (by omega) (by omega)).mono ?_
      rintro e w11 ⟨rfl, hx11⟩
      rw [V1.out]
      cases het : (er == 0)
      all_goals
        go_wp2_with fail
        refine (verify_any _ va bs lab p sd (wrap64 (r + 1)) _ (hr10.ext hx11) hp hsd (by omega) (by omega)).mono ?_
        rintro e w12 ⟨rfl, hx12⟩
        rw [V2.out _ (wrap64_succ_ne r)]
        go_wp2_with fail
        refine (verify_any _ va bs lab p sd r _ ((hr10.ext hx11).ext hx12) hp hsd (by omega) (by omega)).mono ?_
        rintro e w13 ⟨rfl, hx13⟩
        rw [verify_commit bs lab.data.toList p sd r _ (wrapU_succ_ne _)]
        have hx1113 := hx11.trans (hx12.trans hx13)
        have hs13 := hx1113.size
        go_wp2_with fail
        go_roundw
        case rel => exact ⟨k + 1, by go_num, by omega, hr10.ext hx1113, hb10.ext hx1113, hxw10.trans hx1113, by omega⟩
        case measure => simp [intOf]; omega
    · go_wp2_with fail
      refine (lives04_any _).mono ?_
      rintro e w10 ⟨rfl, hx10⟩
      go_wp2
      go_ret
      exact ⟨rfl, hxw.trans hx10⟩
end Go.Proofs.Ytjgpdimhgcacgaa
