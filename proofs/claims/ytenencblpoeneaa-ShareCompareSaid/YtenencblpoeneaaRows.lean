/-
  No cell of these rows narrows 'for every input' (looked for: loops, veiled, ifaces, maps, wideKeys, modest, calm, conditions, laid).
  DERIVED. THE GIVEN ROWS OF THIS SEAT. 9 by the template 'for every input the law returns true; each argument reads behind the call as it read before'; 0 by the template 'total and deterministic' (their statements: YtenencblpoeneaaTotals.lean).
  GIVEN WITH THE SEED: the statements are not yours to turn. If you find one false, say at which input.
  Laid BY PROGRAM, IN A SANDBOX (cutbox-rows.mjs): the forced cells as the released guide's own fill.sh prints them over the translation 721f4a720675d2b9… (all of the seat's roots in one cut). By AI agents, Wed Nov 11 2026. No macro, syntax, notation, axiom, sorry.
-/
import Derived.Test.YtenencblpoeneaaChecked
import GoSem.Claim
import GoSem.ClaimJoined
import GoSem.ClaimMapViews
import Derived.JoinedTies
import Derived.KernelRfl
namespace Go.Proofs.Ytenencblpoeneaa
/- THE CELL 'sum', in the pinned program and in every row, IS THE sha256 OF THE DUMP (.gsa) THAT YtenencblpoeneaaProg.lean LOADS. Nothing in Lean hashes anything: it is a label: what it is worth is what the hold of that sum in a sandbox is worth. -/
noncomputable def Try.pinned : Pinned := { name := "ytenencblpoeneaa", sum := "721f4a720675d2b96d489b24e14bf0327f0dc1531ce02c917e2bd04f6950b594", checked := Try.checked }
namespace Rows
def none {H : Type} : Left H := { results := [], args := [] }

/-- 'worldmintlaw03.ShareWritten': WHATEVER THE INPUT: true; the input reads as it did. -/
def shareWrittenSpec : ChangeSpec := { name := "shareWritten", fn := fun _ => fun
  | [d1, d2] => { results := [.lit (.bool true)], args := [d1, d2] }
  | _ => none }
def shareWrittenRow : OpenClaim := { program := "ytenencblpoeneaa", sum := "721f4a720675d2b96d489b24e14bf0327f0dc1531ce02c917e2bd04f6950b594", func := "worldmint/worldmintlaw03.ShareWritten", spec := "shareWritten", unfollowed := true, recurses := true, named := ["math/bits.divideError", "math/bits.overflowError"], apart := false }
def ShareWrittenSaid : Prop := shareWrittenRow.holds Try.pinned (OpenSpec.ofChange shareWrittenSpec)

/-- ITS FALSE NEIGHBOUR: 'it returns false'. Refute it at one input. -/
def shareWrittenWrong : ChangeSpec := { name := "shareWritten", fn := fun _ => fun
  | [d1, d2] => { results := [.lit (.bool false)], args := [d1, d2] }
  | _ => none }
def ShareWrittenWrongFalsely : Prop := shareWrittenRow.holds Try.pinned (OpenSpec.ofChange shareWrittenWrong)

/-- 'worldmintlaw03.SharePart': WHATEVER THE INPUT: true; the input reads as it did. -/
def sharePartSpec : ChangeSpec := { name := "sharePart", fn := fun _ => fun
  | [d1, d2, d3] => { results := [.lit (.bool true)], args := [d1, d2, d3] }
  | _ => none }
def sharePartRow : OpenClaim := { program := "ytenencblpoeneaa", sum := "721f4a720675d2b96d489b24e14bf0327f0dc1531ce02c917e2bd04f6950b594", func := "worldmint/worldmintlaw03.SharePart", spec := "sharePart", unfollowed := true, recurses := true, named := ["math/bits.divideError", "math/bits.overflowError"], apart := false }
def SharePartSaid : Prop := sharePartRow.holds Try.pinned (OpenSpec.ofChange sharePartSpec)

/-- ITS FALSE NEIGHBOUR: 'it returns false'. Refute it at one input. -/
def sharePartWrong : ChangeSpec := { name := "sharePart", fn := fun _ => fun
  | [d1, d2, d3] => { results := [.lit (.bool false)], args := [d1, d2, d3] }
  | _ => none }
def SharePartWrongFalsely : Prop := sharePartRow.holds Try.pinned (OpenSpec.ofChange sharePartWrong)

/-- 'worldmintlaw03.ShareSplit': WHATEVER THE INPUT: true; the input reads as it did. -/
def shareSplitSpec : ChangeSpec := { name := "shareSplit", fn := fun _ => fun
  | [d1, d2] => { results := [.lit (.bool true)], args := [d1, d2] }
  | _ => none }
def shareSplitRow : OpenClaim := { program := "ytenencblpoeneaa", sum := "721f4a720675d2b96d489b24e14bf0327f0dc1531ce02c917e2bd04f6950b594", func := "worldmint/worldmintlaw03.ShareSplit", spec := "shareSplit", unfollowed := true, recurses := true, named := ["math/bits.divideError", "math/bits.overflowError"], apart := false }
def ShareSplitSaid : Prop := shareSplitRow.holds Try.pinned (OpenSpec.ofChange shareSplitSpec)

/-- ITS FALSE NEIGHBOUR: 'it returns false'. Refute it at one input. -/
def shareSplitWrong : ChangeSpec := { name := "shareSplit", fn := fun _ => fun
  | [d1, d2] => { results := [.lit (.bool false)], args := [d1, d2] }
  | _ => none }
def ShareSplitWrongFalsely : Prop := shareSplitRow.holds Try.pinned (OpenSpec.ofChange shareSplitWrong)

/-- 'worldmintlaw03.ShareQuota': WHATEVER THE INPUT: true; the input reads as it did. -/
def shareQuotaSpec : ChangeSpec := { name := "shareQuota", fn := fun _ => fun
  | [d1, d2] => { results := [.lit (.bool true)], args := [d1, d2] }
  | _ => none }
def shareQuotaRow : OpenClaim := { program := "ytenencblpoeneaa", sum := "721f4a720675d2b96d489b24e14bf0327f0dc1531ce02c917e2bd04f6950b594", func := "worldmint/worldmintlaw03.ShareQuota", spec := "shareQuota", unfollowed := true, recurses := true, named := ["math/bits.divideError", "math/bits.overflowError"], apart := false }
def ShareQuotaSaid : Prop := shareQuotaRow.holds Try.pinned (OpenSpec.ofChange shareQuotaSpec)

/-- ITS FALSE NEIGHBOUR: 'it returns false'. Refute it at one input. -/
def shareQuotaWrong : ChangeSpec := { name := "shareQuota", fn := fun _ => fun
  | [d1, d2] => { results := [.lit (.bool false)], args := [d1, d2] }
  | _ => none }
def ShareQuotaWrongFalsely : Prop := shareQuotaRow.holds Try.pinned (OpenSpec.ofChange shareQuotaWrong)

/-- 'worldmintlaw03.ShareScale': WHATEVER THE INPUT: true; the input reads as it did. -/
def shareScaleSpec : ChangeSpec := { name := "shareScale", fn := fun _ => fun
  | [d1, d2, d3] => { results := [.lit (.bool true)], args := [d1, d2, d3] }
  | _ => none }
def shareScaleRow : OpenClaim := { program := "ytenencblpoeneaa", sum := "721f4a720675d2b96d489b24e14bf0327f0dc1531ce02c917e2bd04f6950b594", func := "worldmint/worldmintlaw03.ShareScale", spec := "shareScale", unfollowed := true, recurses := true, named := ["math/bits.divideError", "math/bits.overflowError"], apart := false }
def ShareScaleSaid : Prop := shareScaleRow.holds Try.pinned (OpenSpec.ofChange shareScaleSpec)

/-- ITS FALSE NEIGHBOUR: 'it returns false'. Refute it at one input. -/
def shareScaleWrong : ChangeSpec := { name := "shareScale", fn := fun _ => fun
  | [d1, d2, d3] => { results := [.lit (.bool false)], args := [d1, d2, d3] }
  | _ => none }
def ShareScaleWrongFalsely : Prop := shareScaleRow.holds Try.pinned (OpenSpec.ofChange shareScaleWrong)

/-- 'worldmintlaw03.ShareBest': WHATEVER THE INPUT: true; the input reads as it did. -/
def shareBestSpec : ChangeSpec := { name := "shareBest", fn := fun _ => fun
  | [d1, d2] => { results := [.lit (.bool true)], args := [d1, d2] }
  | _ => none }
def shareBestRow : OpenClaim := { program := "ytenencblpoeneaa", sum := "721f4a720675d2b96d489b24e14bf0327f0dc1531ce02c917e2bd04f6950b594", func := "worldmint/worldmintlaw03.ShareBest", spec := "shareBest", unfollowed := true, recurses := true, named := ["math/bits.divideError", "math/bits.overflowError"], apart := false }
def ShareBestSaid : Prop := shareBestRow.holds Try.pinned (OpenSpec.ofChange shareBestSpec)

/-- ITS FALSE NEIGHBOUR: 'it returns false'. Refute it at one input. -/
def shareBestWrong : ChangeSpec := { name := "shareBest", fn := fun _ => fun
  | [d1, d2] => { results := [.lit (.bool false)], args := [d1, d2] }
  | _ => none }
def ShareBestWrongFalsely : Prop := shareBestRow.holds Try.pinned (OpenSpec.ofChange shareBestWrong)

/-- 'worldmintlaw03.ShareRest': WHATEVER THE INPUT: true; the input reads as it did. -/
def shareRestSpec : ChangeSpec := { name := "shareRest", fn := fun _ => fun
  | [d1, d2, d3] => { results := [.lit (.bool true)], args := [d1, d2, d3] }
  | _ => none }
def shareRestRow : OpenClaim := { program := "ytenencblpoeneaa", sum := "721f4a720675d2b96d489b24e14bf0327f0dc1531ce02c917e2bd04f6950b594", func := "worldmint/worldmintlaw03.ShareRest", spec := "shareRest", unfollowed := true, recurses := true, named := ["math/bits.divideError", "math/bits.overflowError"], apart := false }
def ShareRestSaid : Prop := shareRestRow.holds Try.pinned (OpenSpec.ofChange shareRestSpec)

/-- ITS FALSE NEIGHBOUR: 'it returns false'. Refute it at one input. -/
def shareRestWrong : ChangeSpec := { name := "shareRest", fn := fun _ => fun
  | [d1, d2, d3] => { results := [.lit (.bool false)], args := [d1, d2, d3] }
  | _ => none }
def ShareRestWrongFalsely : Prop := shareRestRow.holds Try.pinned (OpenSpec.ofChange shareRestWrong)

/-- 'worldmintlaw03.ShareCompare': WHATEVER THE INPUT: true; the input reads as it did. -/
def shareCompareSpec : ChangeSpec := { name := "shareCompare", fn := fun _ => fun
  | [d1, d2, d3, d4] => { results := [.lit (.bool true)], args := [d1, d2, d3, d4] }
  | _ => none }
def shareCompareRow : OpenClaim := { program := "ytenencblpoeneaa", sum := "721f4a720675d2b96d489b24e14bf0327f0dc1531ce02c917e2bd04f6950b594", func := "worldmint/worldmintlaw03.ShareCompare", spec := "shareCompare", unfollowed := true, recurses := true, named := ["math/bits.divideError", "math/bits.overflowError"], apart := false }
def ShareCompareSaid : Prop := shareCompareRow.holds Try.pinned (OpenSpec.ofChange shareCompareSpec)

/-- ITS FALSE NEIGHBOUR: 'it returns false'. Refute it at one input. -/
def shareCompareWrong : ChangeSpec := { name := "shareCompare", fn := fun _ => fun
  | [d1, d2, d3, d4] => { results := [.lit (.bool false)], args := [d1, d2, d3, d4] }
  | _ => none }
def ShareCompareWrongFalsely : Prop := shareCompareRow.holds Try.pinned (OpenSpec.ofChange shareCompareWrong)

/-- 'worldmintlaw03.ShareOrder': WHATEVER THE INPUT: true; the input reads as it did. -/
def shareOrderSpec : ChangeSpec := { name := "shareOrder", fn := fun _ => fun
  | [d1, d2] => { results := [.lit (.bool true)], args := [d1, d2] }
  | _ => none }
def shareOrderRow : OpenClaim := { program := "ytenencblpoeneaa", sum := "721f4a720675d2b96d489b24e14bf0327f0dc1531ce02c917e2bd04f6950b594", func := "worldmint/worldmintlaw03.ShareOrder", spec := "shareOrder", unfollowed := true, recurses := true, named := ["math/bits.divideError", "math/bits.overflowError"], apart := false }
def ShareOrderSaid : Prop := shareOrderRow.holds Try.pinned (OpenSpec.ofChange shareOrderSpec)

/-- ITS FALSE NEIGHBOUR: 'it returns false'. Refute it at one input. -/
def shareOrderWrong : ChangeSpec := { name := "shareOrder", fn := fun _ => fun
  | [d1, d2] => { results := [.lit (.bool false)], args := [d1, d2] }
  | _ => none }
def ShareOrderWrongFalsely : Prop := shareOrderRow.holds Try.pinned (OpenSpec.ofChange shareOrderWrong)

/- THE SECOND FORM. 'bulk': how many values and letters a reading holds, each counted each time it is reached (what is shared counts as often as it is met; a slice's spare places count too). A statement '..UptoSaid' is the law's where the arguments, and the package variables that the reading takes, are together of bulk at most 1048576: NARROWER than '..Said'. Prove '..Said' where nothing that the law and all that it calls make is longer than what came in: it says more and counts as full. Else prove '..UptoSaid'. A law counts once. -/
mutual
def uptoBulk {H : Type} : DataW H → Nat
  | .lit (.string bytes) => bytes.length + 1
  | .lit _ => 1
  | .nil => 1
  | .ptr d => uptoBulk d + 1
  | .slice elems spare => uptoBulkAll elems + uptoBulkAll spare + 1
  | .agg parts => uptoBulkAll parts + 1
  | .iface _ d => uptoBulk d + 1
  | .map entries => uptoBulkEntries entries + 1
  | .held _ => 1
def uptoBulkAll {H : Type} : List (DataW H) → Nat
  | [] => 0
  | d :: r => uptoBulk d + uptoBulkAll r
def uptoBulkEntries {H : Type} : List (Lit × DataW H) → Nat
  | [] => 0
  | x :: r => uptoBulkEntry x + uptoBulkEntries r
def uptoBulkEntry {H : Type} : Lit × DataW H → Nat
  | (.string bytes, d) => bytes.length + uptoBulk d + 1
  | (_, d) => uptoBulk d + 1
 end
def uptoSmall : (H : Type) → List (DataW H) → Bool := fun _ ds => decide (uptoBulkAll ds ≤ 1048576)
def OpenSpec.upto (s : _root_.Go.ChangeSpec) : _root_.Go.OpenSpec := { _root_.Go.OpenSpec.ofChange s with cond := some uptoSmall }

/-- 'worldmintlaw03.ShareWritten', WHERE WHAT IT READS IS OF BULK AT MOST 1048576: true; the input reads as it did. -/
def shareWrittenUptoRow : OpenClaim := { program := "ytenencblpoeneaa", sum := "721f4a720675d2b96d489b24e14bf0327f0dc1531ce02c917e2bd04f6950b594", func := "worldmint/worldmintlaw03.ShareWritten", spec := "shareWritten", unfollowed := true, recurses := true, named := ["math/bits.divideError", "math/bits.overflowError"], apart := false, narrowed := true }
def ShareWrittenUptoSaid : Prop := shareWrittenUptoRow.holds Try.pinned (OpenSpec.upto shareWrittenSpec)

/-- 'worldmintlaw03.SharePart', WHERE WHAT IT READS IS OF BULK AT MOST 1048576: true; the input reads as it did. -/
def sharePartUptoRow : OpenClaim := { program := "ytenencblpoeneaa", sum := "721f4a720675d2b96d489b24e14bf0327f0dc1531ce02c917e2bd04f6950b594", func := "worldmint/worldmintlaw03.SharePart", spec := "sharePart", unfollowed := true, recurses := true, named := ["math/bits.divideError", "math/bits.overflowError"], apart := false, narrowed := true }
def SharePartUptoSaid : Prop := sharePartUptoRow.holds Try.pinned (OpenSpec.upto sharePartSpec)

/-- 'worldmintlaw03.ShareSplit', WHERE WHAT IT READS IS OF BULK AT MOST 1048576: true; the input reads as it did. -/
def shareSplitUptoRow : OpenClaim := { program := "ytenencblpoeneaa", sum := "721f4a720675d2b96d489b24e14bf0327f0dc1531ce02c917e2bd04f6950b594", func := "worldmint/worldmintlaw03.ShareSplit", spec := "shareSplit", unfollowed := true, recurses := true, named := ["math/bits.divideError", "math/bits.overflowError"], apart := false, narrowed := true }
def ShareSplitUptoSaid : Prop := shareSplitUptoRow.holds Try.pinned (OpenSpec.upto shareSplitSpec)

/-- 'worldmintlaw03.ShareQuota', WHERE WHAT IT READS IS OF BULK AT MOST 1048576: true; the input reads as it did. -/
def shareQuotaUptoRow : OpenClaim := { program := "ytenencblpoeneaa", sum := "721f4a720675d2b96d489b24e14bf0327f0dc1531ce02c917e2bd04f6950b594", func := "worldmint/worldmintlaw03.ShareQuota", spec := "shareQuota", unfollowed := true, recurses := true, named := ["math/bits.divideError", "math/bits.overflowError"], apart := false, narrowed := true }
def ShareQuotaUptoSaid : Prop := shareQuotaUptoRow.holds Try.pinned (OpenSpec.upto shareQuotaSpec)

/-- 'worldmintlaw03.ShareScale', WHERE WHAT IT READS IS OF BULK AT MOST 1048576: true; the input reads as it did. -/
def shareScaleUptoRow : OpenClaim := { program := "ytenencblpoeneaa", sum := "721f4a720675d2b96d489b24e14bf0327f0dc1531ce02c917e2bd04f6950b594", func := "worldmint/worldmintlaw03.ShareScale", spec := "shareScale", unfollowed := true, recurses := true, named := ["math/bits.divideError", "math/bits.overflowError"], apart := false, narrowed := true }
def ShareScaleUptoSaid : Prop := shareScaleUptoRow.holds Try.pinned (OpenSpec.upto shareScaleSpec)

/-- 'worldmintlaw03.ShareBest', WHERE WHAT IT READS IS OF BULK AT MOST 1048576: true; the input reads as it did. -/
def shareBestUptoRow : OpenClaim := { program := "ytenencblpoeneaa", sum := "721f4a720675d2b96d489b24e14bf0327f0dc1531ce02c917e2bd04f6950b594", func := "worldmint/worldmintlaw03.ShareBest", spec := "shareBest", unfollowed := true, recurses := true, named := ["math/bits.divideError", "math/bits.overflowError"], apart := false, narrowed := true }
def ShareBestUptoSaid : Prop := shareBestUptoRow.holds Try.pinned (OpenSpec.upto shareBestSpec)

/-- 'worldmintlaw03.ShareRest', WHERE WHAT IT READS IS OF BULK AT MOST 1048576: true; the input reads as it did. -/
def shareRestUptoRow : OpenClaim := { program := "ytenencblpoeneaa", sum := "721f4a720675d2b96d489b24e14bf0327f0dc1531ce02c917e2bd04f6950b594", func := "worldmint/worldmintlaw03.ShareRest", spec := "shareRest", unfollowed := true, recurses := true, named := ["math/bits.divideError", "math/bits.overflowError"], apart := false, narrowed := true }
def ShareRestUptoSaid : Prop := shareRestUptoRow.holds Try.pinned (OpenSpec.upto shareRestSpec)

/-- 'worldmintlaw03.ShareCompare', WHERE WHAT IT READS IS OF BULK AT MOST 1048576: true; the input reads as it did. -/
def shareCompareUptoRow : OpenClaim := { program := "ytenencblpoeneaa", sum := "721f4a720675d2b96d489b24e14bf0327f0dc1531ce02c917e2bd04f6950b594", func := "worldmint/worldmintlaw03.ShareCompare", spec := "shareCompare", unfollowed := true, recurses := true, named := ["math/bits.divideError", "math/bits.overflowError"], apart := false, narrowed := true }
def ShareCompareUptoSaid : Prop := shareCompareUptoRow.holds Try.pinned (OpenSpec.upto shareCompareSpec)

/-- 'worldmintlaw03.ShareOrder', WHERE WHAT IT READS IS OF BULK AT MOST 1048576: true; the input reads as it did. -/
def shareOrderUptoRow : OpenClaim := { program := "ytenencblpoeneaa", sum := "721f4a720675d2b96d489b24e14bf0327f0dc1531ce02c917e2bd04f6950b594", func := "worldmint/worldmintlaw03.ShareOrder", spec := "shareOrder", unfollowed := true, recurses := true, named := ["math/bits.divideError", "math/bits.overflowError"], apart := false, narrowed := true }
def ShareOrderUptoSaid : Prop := shareOrderUptoRow.holds Try.pinned (OpenSpec.upto shareOrderSpec)

end Rows
end Go.Proofs.Ytenencblpoeneaa
