/- HashPairs: the walk of the law. -/
import Derived.Test.YtmeomkkbgppfkaaHc8
import Derived.Test.YtmeomkkbgppfkaaHq
namespace Go.Proofs.Ytmeomkkbgppfkaa
open Go.RowKit
set_option linter.unusedVariables false

set_option maxHeartbeats 1000000 in
theorem HashPairs_law (w : World) (a : Int) (ha : 0 ≤ a ∧ a ≤ 18446744073709551615) (b : Int) (hb : 0 ≤ b ∧ b ≤ 18446744073709551615) (c : Int) (hc : 0 ≤ c ∧ c ≤ 18446744073709551615) :
    Calls Try.prog 9 #[.int .u64 a, .int .u64 b, .int .u64 c] w fun e w' => e = .returned (.bool true) ∧ Ext w w' := by
  have hi := pairI_inj a b c ha hb hc
  have h1 : ((pairI a c == pairI b c) == (a == b)) = true := by
    rw [beq_iff_eq, Bool.eq_iff_iff, beq_iff_eq, beq_iff_eq]; exact hi.1
  have h2 : ((pairI c a == pairI c b) == (a == b)) = true := by
    rw [beq_iff_eq, Bool.eq_iff_iff, beq_iff_eq, beq_iff_eq]; exact hi.2
  clear hi
  go_enter Try.func9, Try.ntmps9
  go_wp2_with fail
  refine (pair_any a c _).mono ?_
  rintro e w1 ⟨rfl, hx1⟩
  go_wp2_with fail
  refine (pair_any b c _).mono ?_
  rintro e w2 ⟨rfl, hx2⟩
  go_wp2_with fail
  refine (pair_any c a _).mono ?_
  rintro e w3 ⟨rfl, hx3⟩
  go_wp2_with fail
  refine (pair_any c b _).mono ?_
  rintro e w4 ⟨rfl, hx4⟩
  go_wp2_with fail
  refine (pair_any a b _).mono ?_
  rintro e w5 ⟨rfl, hx5⟩
  go_wp2_with fail
  have hr := Rd.lit w5 [.int .i64 (wrap64 a), .int .i64 (wrap64 b)] 3 (by simp)
  refine (sum_any _ _ [wrap64 a, wrap64 b] _ (by decide) hr (by simp)).mono ?_
  rintro e w6 ⟨he, hx6⟩
  have hp : sumI [112, 97, 105, 114] [wrap64 a, wrap64 b] = pairI a b := by unfold pairI; rfl
  have he2 : e = .returned (.int .u64 (pairI a b)) := by rw [← hp]; exact he
  clear he hp
  subst he2
  go_wp2_with fail
  refine (lives01_any _).mono ?_
  rintro e w7 ⟨rfl, hx7⟩
  go_wp2
  go_ret
  exact ⟨rfl, hx1.trans hx2 |>.trans hx3 |>.trans hx4 |>.trans hx5 |>.alloc _ |>.trans hx6 |>.trans hx7⟩

end Go.Proofs.Ytmeomkkbgppfkaa
