/- math/bits.Div64: contract. -/
import Derived.Test.YtbcjikiakanncaaSc1
import Derived.Test.YtbcjikiakanncaaSdp
import Derived.Test.YtbcjikiakanncaaHp
import Derived.Lib.Hide
import Derived.Outline
import Derived.Laws.BitsAllLaws
import Derived.Deep.DeepCutAuto
import Derived.Deep.CutBlock
namespace Go.Proofs.Ytbcjikiakanncaa
open Go.RowKit Go.Lib
set_option linter.unusedVariables false

theorem and_mask (x : Int) (h0 : 0 ≤ x) (h1 : x < 18446744073709551616) : bits .and .u64 x 4294967295 = x % 4294967296 := by
  obtain ⟨n, rfl⟩ : ∃ n : Nat, x = (n : Int) := ⟨x.toNat, by omega⟩
  rw [Mul64.maskN n (by omega)]; omega
theorem or_join (u v : Int) (s : Nat) (hu : 0 ≤ u * 2 ^ s) (hu0 : 0 ≤ u) (hu1 : u * 2 ^ s < 18446744073709551616) (hv : 0 ≤ v) (hv1 : v < 2 ^ s) (hv2 : v < 18446744073709551616) : bits .or .u64 (u * 2 ^ s) v = u * 2 ^ s + v := by
  obtain ⟨n, rfl⟩ : ∃ n : Nat, u = (n : Int) := ⟨u.toNat, by omega⟩
  obtain ⟨m, rfl⟩ : ∃ n : Nat, v = (n : Int) := ⟨v.toNat, by omega⟩
  have e : (n : Int) * 2 ^ s = ((n * 2 ^ s : Nat) : Int) := by simp
  have hm : m < 2 ^ s := by
    have : ((2 ^ s : Nat) : Int) = (2 : Int) ^ s := by simp
    omega
  rw [e] at hu1 ⊢
  rw [u64_or_nat _ _ (by omega) (by omega), nat_join s (n * 2 ^ s) m (Nat.mul_mod_left _ _) hm]
  omega

structure DivPre (hi lo y : Int) (s : Nat) (Y U a b v1 v0 : Int) : Prop where
  eY : y * 2 ^ s = Y
  eU : bits .or .u64 (IntKind.u64.wrap (hi * 2 ^ s)) (lo / 2 ^ (64 - s)) = U
  ea : y * 2 ^ s / 4294967296 = a
  eb : bits .and .u64 (y * 2 ^ s) 4294967295 = b
  e1 : IntKind.u64.wrap (lo * 2 ^ s) / 4294967296 = v1
  e0 : bits .and .u64 (IntKind.u64.wrap (lo * 2 ^ s)) 4294967295 = v0
  arg : DArg U v1 a b
  yab : Y = a * 4294967296 + b
  Y1 : Y < 18446744073709551616
  w0 : 0 ≤ v0
  w1 : v0 < 4294967296
  all : (hi * 18446744073709551616 + lo) * 2 ^ s = (U * 4294967296 + v1) * 4294967296 + v0

theorem div_pre {hi lo y : Int} {s : Nat} (h0 : 1 ≤ hi) (h1 : hi < y) (l0 : 0 ≤ lo) (l1 : lo < 18446744073709551616) (hs : s ≤ 63)
    (hTR : (2 : Int) ^ (64 - s) * 2 ^ s = 18446744073709551616) (hY1 : 9223372036854775808 ≤ y * 2 ^ s) (hY2 : y * 2 ^ s < 18446744073709551616) :
    ∃ Y U a b v1 v0, DivPre hi lo y s Y U a b v1 v0 := by
  have hT : 1 ≤ (2 : Int) ^ s := by
    have := Nat.pow_pos (show 0 < 2 by omega) (n := s)
    have e : ((2 ^ s : Nat) : Int) = (2 : Int) ^ s := by simp
    omega
  have hR : 1 ≤ (2 : Int) ^ (64 - s) := by
    have := Nat.pow_pos (show 0 < 2 by omega) (n := 64 - s)
    have e : ((2 ^ (64 - s) : Nat) : Int) = (2 : Int) ^ (64 - s) := by simp
    omega
  obtain ⟨d1, d2, d3, d4, d5⟩ := dshift (T := 2 ^ s) (R := 2 ^ (64 - s)) hT hR hTR (show 0 ≤ hi by omega) h1 l0 l1
  have hw : IntKind.u64.wrap (hi * 2 ^ s) = hi * 2 ^ s := by rw [IntKind.wrap_u64]; omega
  have hwl : IntKind.u64.wrap (lo * 2 ^ s) = lo * 2 ^ s % 18446744073709551616 := by rw [IntKind.wrap_u64]
  have hor := or_join hi (lo / 2 ^ (64 - s)) s d3 (by omega) (by omega) d1 d2 (by omega)
  refine ⟨_, _, _, _, _, _, ⟨rfl, rfl, rfl, rfl, rfl, rfl, ?_, ?_, hY2, ?_, ?_, ?_⟩⟩
  · rw [hw, hor, hwl, and_mask _ (by omega) hY2]
    generalize hi * 2 ^ s = A at *
    generalize lo / 2 ^ (64 - s) = B at *
    generalize y * 2 ^ s = C at *
    generalize lo * 2 ^ s = D at *
    constructor <;> omega
  · rw [and_mask _ (by omega) hY2]; omega
  · rw [hwl, and_mask _ (by omega) (by omega)]; omega
  · rw [hwl, and_mask _ (by omega) (by omega)]; omega
  · rw [d5, hw, hor, hwl, and_mask _ (by omega) (by omega)]
    generalize lo * 2 ^ s = D at *
    omega

theorem un_left {U v q Y r : Int} (h : (U * 4294967296 + v - q * Y) % 18446744073709551616 = r) :
    IntKind.u64.wrap (IntKind.u64.wrap (IntKind.u64.wrap (U * 4294967296) + v) - IntKind.u64.wrap (q * Y)) = r := by
  rw [← h]
  generalize q * Y = B
  generalize U * 4294967296 = A
  simp only [IntKind.wrap_u64]; omega

set_option maxHeartbeats 4000000 in
set_option maxRecDepth 1000000 in
theorem div64_hi (hi lo y : Int) (w : World) (h0 : 1 ≤ hi) (h1 : hi < y) (hy : y ≤ 1152921504606846976) (l0 : 0 ≤ lo) (l1 : lo < 18446744073709551616) :
    Calls Try.prog 76 #[.int .u64 hi, .int .u64 lo, .int .u64 y] w fun e w' => e = .returned (.tuple #[.int .u64 ((hi * 18446744073709551616 + lo) / y), .int .u64 ((hi * 18446744073709551616 + lo) % y)]) ∧ w = w' := by
  obtain ⟨s, hs, hs3, hs63, hTR, hY1, hY2⟩ := shift_facts y (by omega) hy
  have HS := Lib.hid hs
  have HP0 := Lib.hid (div_pre h0 h1 l0 l1 hs63 hTR hY1 hY2)
  clear hs hTR
  go_enter Try.func76, Try.ntmps76
  go_wp2_with fail
  refine (lz64_any y _ (by omega) (by omega)).mono ?_
  rintro e w1 ⟨rfl, rfl⟩
  rw [HS.out]
  go_upto_region 14 with fail
  obtain ⟨Y, U, a, b, v1, v0, hp⟩ := HP0.out
  have HP := Lib.hid hp
  clear hp HP0
  go_cut [2, 8, 9, 10, 11, 13, 14] (fun s2 s8 s9 s10 s11 s13 s14 wx => s2 = .int .u64 Y ∧ s8 = .int .u64 s ∧ s9 = .int .u64 a ∧ s10 = .int .u64 b ∧ s11 = .int .u64 U ∧ s13 = .int .u64 v1 ∧ s14 = .int .u64 v0 ∧ w = wx)
  case first =>
    go_wp2_with fail
    go_meet
    obtain ⟨eY, eU, ea, eb, e1, e0⟩ := HP.out
    exact ⟨congrArg _ eY, rfl, congrArg _ ea, congrArg _ eb, congrArg _ eU, congrArg _ e1, congrArg _ e0, rfl⟩
  case rest =>
    obtain ⟨rfl, rfl, rfl, rfl, rfl, rfl, rfl, rfl⟩ := hcut
    clear HS hY1 hY2
    obtain ⟨eY, eU, ea, eb, e1, e0, harg, hyab, hY1, w0, w1, hall⟩ := HP.out
    have HA := Lib.hid harg
    have HAB := Lib.hid hyab
    have HALL := Lib.hid hall
    have HEY := Lib.hid eY
    obtain ⟨a1, a2, b1, b2, u1, u2, v11, v12⟩ := harg
    have hUr : U < 18446744073709551616 := by omega
    have hst := dstart HA.out
    have hU0 : 0 ≤ U / a := hst.1.2.2.1
    have hU1 : U / a ≤ 4294967297 := hst.1.2.2.2.2
    have hU2 : 0 ≤ U - U / a * a := hst.1.2.1
    have hU3 := hst.2
    have HST := Lib.hid hst.1
    have hUm0 : 0 ≤ U / a * a := Int.mul_nonneg hU0 (by omega)
    have hUm1 : U / a * a ≤ U := by omega
    clear eY eU ea eb e1 e0 hyab hall HP hst
    go_upto_block 0 with fail
    go_cut [15] (fun s15 wx => s15 = .int .u64 (dQ U v1 a b) ∧ w = wx)
    case first =>
      go_wp2_with fail
      go_loop [15, 16] (fun x15 x16 => ∃ q r : Int, x15 = .int .u64 q ∧ x16 = .int .u64 r ∧ Hid (DInv U v1 a b q r) ∧ r < 4294967296) (fun x15 _ => (RowKit.intOf x15).toNat)
      case atStart => exact ⟨_, _, rfl, rfl, HST, hU3⟩
      case round =>
        obtain ⟨q, r, rfl, rfl, HI, hr1⟩ := hrel
        clear hU0 hU1 hU2 hU3 HST hUm0 hUm1
        have hq0 : 0 ≤ q := HI.out.2.2.1
        have hq1 : q ≤ 4294967297 := HI.out.2.2.2.2
        have hr0 : 0 ≤ r := HI.out.2.1
        have HGO := Lib.hid (dgo HA.out HI.out)
        have HSTOP := Lib.hid (dstop HA.out HI.out)
        by_cases c1 : 4294967296 ≤ q
        · have HG := Lib.hid (HGO.out (.inl c1))
          have HB := Lib.hid (fun h => dbreak HA.out HG.out.1 (show q - 1 ≤ 4294967296 by omega) h)
          by_cases c2 : 4294967296 ≤ r + a
          · go_wp2_with fail
            go_meet
            exact ⟨by rw [HB.out c2], rfl⟩
          · go_wp2_with fail
            go_round
            case rel => exact ⟨_, _, rfl, rfl, Lib.hid HG.out.1, by omega⟩
            case measure => simp [RowKit.intOf]; omega
        · obtain ⟨p0, p1⟩ := dprod hq0 (show q < 4294967296 by omega) b1 b2
          by_cases c3 : 4294967296 * r + v1 < q * b
          · have HG := Lib.hid (HGO.out (.inr c3))
            have HB := Lib.hid (fun h => dbreak HA.out HG.out.1 (show q - 1 ≤ 4294967296 by omega) h)
            have hq2 : 1 ≤ q := HG.out.2
            by_cases c2 : 4294967296 ≤ r + a
            · go_wp2_with fail
              go_meet
              exact ⟨by rw [HB.out c2], rfl⟩
            · go_wp2_with fail
              go_round
              case rel => exact ⟨_, _, rfl, rfl, Lib.hid HG.out.1, by omega⟩
              case measure => simp [RowKit.intOf]; omega
          · have HE := Lib.hid (HSTOP.out (by omega))
            go_wp2_with fail
            go_meet
            exact ⟨by rw [HE.out], rfl⟩
    case rest =>
      obtain ⟨rfl, rfl⟩ := hcut
      clear hU0 hU1 hU2 hU3 HST hUm0 hUm1
      have HQ1 := Lib.hid (dQ_range HA.out)
      have hD := dR_range HA.out
      have HQR := Lib.hid (dQR U v1 a b)
      have hun := un_left (dleft HA.out Y HAB.out)
      have HA2 : Hid (DArg (dR U v1 a b) v0 a b) := Lib.hid ⟨a1, a2, b1, b2, hD.1, hD.2, w0, w1⟩
      generalize dQ U v1 a b = q1 at *
      generalize dR U v1 a b = D at *
      obtain ⟨D0, D1⟩ := hD
      have hst := dstart HA2.out
      have hU0 : 0 ≤ D / a := hst.1.2.2.1
      have hU1 : D / a ≤ 4294967297 := hst.1.2.2.2.2
      have hU2 : 0 ≤ D - D / a * a := hst.1.2.1
      have hU3 := hst.2
      have HST := Lib.hid hst.1
      have hUm0 : 0 ≤ D / a * a := Int.mul_nonneg hU0 (by omega)
      have hUm1 : D / a * a ≤ D := by omega
      clear hst
      go_upto_block 2 with fail
      clear hun
      go_cut [18] (fun s18 wx => s18 = .int .u64 (dQ D v0 a b) ∧ w = wx)
      case first =>
        go_wp2_with fail
        go_loop [18, 16] (fun x15 x16 => ∃ q r : Int, x15 = .int .u64 q ∧ x16 = .int .u64 r ∧ Hid (DInv D v0 a b q r) ∧ r < 4294967296) (fun x15 _ => (RowKit.intOf x15).toNat)
        case atStart => exact ⟨_, _, rfl, rfl, HST, hU3⟩
        case round =>
          obtain ⟨q, r, rfl, rfl, HI, hr1⟩ := hrel
          clear hU0 hU1 hU2 hU3 HST hUm0 hUm1
          have hq0 : 0 ≤ q := HI.out.2.2.1
          have hq1 : q ≤ 4294967297 := HI.out.2.2.2.2
          have hr0 : 0 ≤ r := HI.out.2.1
          have HGO := Lib.hid (dgo HA2.out HI.out)
          have HSTOP := Lib.hid (dstop HA2.out HI.out)
          by_cases c1 : 4294967296 ≤ q
          · have HG := Lib.hid (HGO.out (.inl c1))
            have HB := Lib.hid (fun h => dbreak HA2.out HG.out.1 (show q - 1 ≤ 4294967296 by omega) h)
            by_cases c2 : 4294967296 ≤ r + a
            · go_wp2_with fail
              go_meet
              exact ⟨by rw [HB.out c2], rfl⟩
            · go_wp2_with fail
              go_round
              case rel => exact ⟨_, _, rfl, rfl, Lib.hid HG.out.1, by omega⟩
              case measure => simp [RowKit.intOf]; omega
          · obtain ⟨p0, p1⟩ := dprod hq0 (show q < 4294967296 by omega) b1 b2
            by_cases c3 : 4294967296 * r + v0 < q * b
            · have HG := Lib.hid (HGO.out (.inr c3))
              have HB := Lib.hid (fun h => dbreak HA2.out HG.out.1 (show q - 1 ≤ 4294967296 by omega) h)
              have hq2 : 1 ≤ q := HG.out.2
              by_cases c2 : 4294967296 ≤ r + a
              · go_wp2_with fail
                go_meet
                exact ⟨by rw [HB.out c2], rfl⟩
              · go_wp2_with fail
                go_round
                case rel => exact ⟨_, _, rfl, rfl, Lib.hid HG.out.1, by omega⟩
                case measure => simp [RowKit.intOf]; omega
            · have HE := Lib.hid (HSTOP.out (by omega))
              go_wp2_with fail
              go_meet
              exact ⟨by rw [HE.out], rfl⟩
      case rest =>
        obtain ⟨rfl, rfl⟩ := hcut
        clear hU0 hU1 hU2 hU3 HST hUm0 hUm1
        have HQ2 := Lib.hid (dQ_range HA2.out)
        have hD2 := dR_range HA2.out
        have HQR2 := Lib.hid (dQR D v0 a b)
        have hun := un_left (dleft HA2.out Y HAB.out)
        generalize dQ D v0 a b = q0 at *
        generalize dR D v0 a b = D2 at *
        obtain ⟨E0, E1⟩ := hD2
        obtain ⟨Q0, Q1⟩ := HQ1.out
        obtain ⟨Q2, Q3⟩ := HQ2.out
        have HT : Hid (1 ≤ (2 : Int) ^ s) := Lib.hid (by
          have := Nat.pow_pos (show 0 < 2 by omega) (n := s)
          have e : ((2 ^ s : Nat) : Int) = (2 : Int) ^ s := by simp
          omega)
        have HJ := Lib.hid (djoin (N := hi * 18446744073709551616 + lo) (y := y) (T := 2 ^ s) (Y := Y) (Q := q1 * 4294967296 + q0) (r := D2) HT.out (by omega) HEY.out.symm (by
          rw [HALL.out, ← HQR.out, Int.add_mul, HAB.out, Int.add_assoc, ← HQR2.out, Int.mul_right_comm, Int.add_mul (q1 * 4294967296) q0]
          omega) E0 (by rw [HAB.out]; exact E1))
        clear HA HA2
        go_wp2_with fail
        go_ret2
        refine ⟨?_, rfl⟩
        show Ending.returned (.tuple #[.int .u64 (q1 * 4294967296 + q0), .int .u64 (D2 / 2 ^ s)]) = _
        rw [HJ.out.1, HJ.out.2]

theorem div64_lo (lo y : Int) (w : World) (h1 : 1 ≤ y) (hy : y ≤ 1152921504606846976) (l0 : 0 ≤ lo) (l1 : lo < 18446744073709551616) :
    Calls Try.prog 76 #[.int .u64 0, .int .u64 lo, .int .u64 y] w fun e w' => e = .returned (.tuple #[.int .u64 (lo / y), .int .u64 (lo % y)]) ∧ w' = w.drewN 1 := by
  have hy0 : (y == 0) = false := by simp; omega
  go_enter Try.func76, Try.ntmps76
  go_wp2_with fail
  go_region
  all_goals
    go_wp2
    go_ret2
    exact ⟨rfl, rfl⟩
end Go.Proofs.Ytbcjikiakanncaa
