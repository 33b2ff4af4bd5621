/-
  No cell of these rows narrows 'for every input' (looked for: loops, veiled, ifaces, maps, wideKeys, modest, calm, conditions, laid).
  DERIVED. THE GIVEN ROWS OF THIS SEAT. 9 by the template 'for every input the law returns true; each argument reads behind the call as it read before'; 0 by the template 'total and deterministic' (their statements: YtbcjikiakanncaaTotals.lean).
  GIVEN WITH THE SEED: the statements are not yours to turn. If you find one false, say at which input.
  Laid BY PROGRAM, IN A SANDBOX (cutbox-rows.mjs): the forced cells as the released guide's own fill.sh prints them over the translation 89f2f98d37414d3b… (all of the seat's roots in one cut). By AI agents, Wed Nov 11 2026. No macro, syntax, notation, axiom, sorry.
-/
import Derived.Test.YtbcjikiakanncaaChecked
import GoSem.Claim
import GoSem.ClaimJoined
import GoSem.ClaimMapViews
import Derived.JoinedTies
import Derived.KernelRfl
namespace Go.Proofs.Ytbcjikiakanncaa
/- THE CELL 'sum', in the pinned program and in every row, IS THE sha256 OF THE DUMP (.gsa) THAT YtbcjikiakanncaaProg.lean LOADS. Nothing in Lean hashes anything: it is a label: what it is worth is what the hold of that sum in a sandbox is worth. -/
noncomputable def Try.pinned : Pinned := { name := "ytbcjikiakanncaa", sum := "89f2f98d37414d3b6fc6ead62e8bedb5c697b184ce71c9a6e0afeb596979a5f5", checked := Try.checked }
namespace Rows
def none {H : Type} : Left H := { results := [], args := [] }

/-- 'worldmintlaw13.BagShares': WHATEVER THE INPUT: true; the input reads as it did. -/
def bagSharesSpec : ChangeSpec := { name := "bagShares", fn := fun _ => fun
  | [d1, d2, d3, d4] => { results := [.lit (.bool true)], args := [d1, d2, d3, d4] }
  | _ => none }
def bagSharesRow : OpenClaim := { program := "ytbcjikiakanncaa", sum := "89f2f98d37414d3b6fc6ead62e8bedb5c697b184ce71c9a6e0afeb596979a5f5", func := "worldmint/worldmintlaw13.BagShares", spec := "bagShares", unfollowed := true, recurses := true, named := ["math/bits.divideError", "math/bits.overflowError"], apart := false }
def BagSharesSaid : Prop := bagSharesRow.holds Try.pinned (OpenSpec.ofChange bagSharesSpec)

/-- ITS FALSE NEIGHBOUR: 'it returns false'. Refute it at one input. -/
def bagSharesWrong : ChangeSpec := { name := "bagShares", fn := fun _ => fun
  | [d1, d2, d3, d4] => { results := [.lit (.bool false)], args := [d1, d2, d3, d4] }
  | _ => none }
def BagSharesWrongFalsely : Prop := bagSharesRow.holds Try.pinned (OpenSpec.ofChange bagSharesWrong)

/-- 'worldmintlaw13.BagTimes': WHATEVER THE INPUT: true; the input reads as it did. -/
def bagTimesSpec : ChangeSpec := { name := "bagTimes", fn := fun _ => fun
  | [d1, d2, d3, d4, d5] => { results := [.lit (.bool true)], args := [d1, d2, d3, d4, d5] }
  | _ => none }
def bagTimesRow : OpenClaim := { program := "ytbcjikiakanncaa", sum := "89f2f98d37414d3b6fc6ead62e8bedb5c697b184ce71c9a6e0afeb596979a5f5", func := "worldmint/worldmintlaw13.BagTimes", spec := "bagTimes", unfollowed := true, recurses := true, apart := false }
def BagTimesSaid : Prop := bagTimesRow.holds Try.pinned (OpenSpec.ofChange bagTimesSpec)

/-- ITS FALSE NEIGHBOUR: 'it returns false'. Refute it at one input. -/
def bagTimesWrong : ChangeSpec := { name := "bagTimes", fn := fun _ => fun
  | [d1, d2, d3, d4, d5] => { results := [.lit (.bool false)], args := [d1, d2, d3, d4, d5] }
  | _ => none }
def BagTimesWrongFalsely : Prop := bagTimesRow.holds Try.pinned (OpenSpec.ofChange bagTimesWrong)

/-- 'worldmintlaw13.BagAmounts': WHATEVER THE INPUT: true; the input reads as it did. -/
def bagAmountsSpec : ChangeSpec := { name := "bagAmounts", fn := fun _ => fun
  | [d1, d2, d3] => { results := [.lit (.bool true)], args := [d1, d2, d3] }
  | _ => none }
def bagAmountsRow : OpenClaim := { program := "ytbcjikiakanncaa", sum := "89f2f98d37414d3b6fc6ead62e8bedb5c697b184ce71c9a6e0afeb596979a5f5", func := "worldmint/worldmintlaw13.BagAmounts", spec := "bagAmounts", unfollowed := true, recurses := true, apart := false }
def BagAmountsSaid : Prop := bagAmountsRow.holds Try.pinned (OpenSpec.ofChange bagAmountsSpec)

/-- ITS FALSE NEIGHBOUR: 'it returns false'. Refute it at one input. -/
def bagAmountsWrong : ChangeSpec := { name := "bagAmounts", fn := fun _ => fun
  | [d1, d2, d3] => { results := [.lit (.bool false)], args := [d1, d2, d3] }
  | _ => none }
def BagAmountsWrongFalsely : Prop := bagAmountsRow.holds Try.pinned (OpenSpec.ofChange bagAmountsWrong)

/-- 'worldmintlaw13.BagLists': WHATEVER THE INPUT: true; the input reads as it did. -/
def bagListsSpec : ChangeSpec := { name := "bagLists", fn := fun _ => fun
  | [d1, d2, d3, d4] => { results := [.lit (.bool true)], args := [d1, d2, d3, d4] }
  | _ => none }
def bagListsRow : OpenClaim := { program := "ytbcjikiakanncaa", sum := "89f2f98d37414d3b6fc6ead62e8bedb5c697b184ce71c9a6e0afeb596979a5f5", func := "worldmint/worldmintlaw13.BagLists", spec := "bagLists", unfollowed := true, recurses := true, apart := false }
def BagListsSaid : Prop := bagListsRow.holds Try.pinned (OpenSpec.ofChange bagListsSpec)

/-- ITS FALSE NEIGHBOUR: 'it returns false'. Refute it at one input. -/
def bagListsWrong : ChangeSpec := { name := "bagLists", fn := fun _ => fun
  | [d1, d2, d3, d4] => { results := [.lit (.bool false)], args := [d1, d2, d3, d4] }
  | _ => none }
def BagListsWrongFalsely : Prop := bagListsRow.holds Try.pinned (OpenSpec.ofChange bagListsWrong)

/-- 'worldmintlaw13.BagMost': WHATEVER THE INPUT: true; the input reads as it did. -/
def bagMostSpec : ChangeSpec := { name := "bagMost", fn := fun _ => fun
  | [d1, d2, d3, d4] => { results := [.lit (.bool true)], args := [d1, d2, d3, d4] }
  | _ => none }
def bagMostRow : OpenClaim := { program := "ytbcjikiakanncaa", sum := "89f2f98d37414d3b6fc6ead62e8bedb5c697b184ce71c9a6e0afeb596979a5f5", func := "worldmint/worldmintlaw13.BagMost", spec := "bagMost", unfollowed := true, recurses := true, apart := false }
def BagMostSaid : Prop := bagMostRow.holds Try.pinned (OpenSpec.ofChange bagMostSpec)

/-- ITS FALSE NEIGHBOUR: 'it returns false'. Refute it at one input. -/
def bagMostWrong : ChangeSpec := { name := "bagMost", fn := fun _ => fun
  | [d1, d2, d3, d4] => { results := [.lit (.bool false)], args := [d1, d2, d3, d4] }
  | _ => none }
def BagMostWrongFalsely : Prop := bagMostRow.holds Try.pinned (OpenSpec.ofChange bagMostWrong)

/-- 'worldmintlaw13.BagLattice': WHATEVER THE INPUT: true; the input reads as it did. -/
def bagLatticeSpec : ChangeSpec := { name := "bagLattice", fn := fun _ => fun
  | [d1, d2] => { results := [.lit (.bool true)], args := [d1, d2] }
  | _ => none }
def bagLatticeRow : OpenClaim := { program := "ytbcjikiakanncaa", sum := "89f2f98d37414d3b6fc6ead62e8bedb5c697b184ce71c9a6e0afeb596979a5f5", func := "worldmint/worldmintlaw13.BagLattice", spec := "bagLattice", unfollowed := true, recurses := true, apart := false }
def BagLatticeSaid : Prop := bagLatticeRow.holds Try.pinned (OpenSpec.ofChange bagLatticeSpec)

/-- ITS FALSE NEIGHBOUR: 'it returns false'. Refute it at one input. -/
def bagLatticeWrong : ChangeSpec := { name := "bagLattice", fn := fun _ => fun
  | [d1, d2] => { results := [.lit (.bool false)], args := [d1, d2] }
  | _ => none }
def BagLatticeWrongFalsely : Prop := bagLatticeRow.holds Try.pinned (OpenSpec.ofChange bagLatticeWrong)

/-- 'worldmintlaw13.BagGroup': WHATEVER THE INPUT: true; the input reads as it did. -/
def bagGroupSpec : ChangeSpec := { name := "bagGroup", fn := fun _ => fun
  | [d1, d2] => { results := [.lit (.bool true)], args := [d1, d2] }
  | _ => none }
def bagGroupRow : OpenClaim := { program := "ytbcjikiakanncaa", sum := "89f2f98d37414d3b6fc6ead62e8bedb5c697b184ce71c9a6e0afeb596979a5f5", func := "worldmint/worldmintlaw13.BagGroup", spec := "bagGroup", unfollowed := true, recurses := true, apart := false }
def BagGroupSaid : Prop := bagGroupRow.holds Try.pinned (OpenSpec.ofChange bagGroupSpec)

/-- ITS FALSE NEIGHBOUR: 'it returns false'. Refute it at one input. -/
def bagGroupWrong : ChangeSpec := { name := "bagGroup", fn := fun _ => fun
  | [d1, d2] => { results := [.lit (.bool false)], args := [d1, d2] }
  | _ => none }
def BagGroupWrongFalsely : Prop := bagGroupRow.holds Try.pinned (OpenSpec.ofChange bagGroupWrong)

/-- 'worldmintlaw13.BagSums': WHATEVER THE INPUT: true; the input reads as it did. -/
def bagSumsSpec : ChangeSpec := { name := "bagSums", fn := fun _ => fun
  | [d1, d2, d3, d4] => { results := [.lit (.bool true)], args := [d1, d2, d3, d4] }
  | _ => none }
def bagSumsRow : OpenClaim := { program := "ytbcjikiakanncaa", sum := "89f2f98d37414d3b6fc6ead62e8bedb5c697b184ce71c9a6e0afeb596979a5f5", func := "worldmint/worldmintlaw13.BagSums", spec := "bagSums", unfollowed := true, recurses := true, apart := false }
def BagSumsSaid : Prop := bagSumsRow.holds Try.pinned (OpenSpec.ofChange bagSumsSpec)

/-- ITS FALSE NEIGHBOUR: 'it returns false'. Refute it at one input. -/
def bagSumsWrong : ChangeSpec := { name := "bagSums", fn := fun _ => fun
  | [d1, d2, d3, d4] => { results := [.lit (.bool false)], args := [d1, d2, d3, d4] }
  | _ => none }
def BagSumsWrongFalsely : Prop := bagSumsRow.holds Try.pinned (OpenSpec.ofChange bagSumsWrong)

/-- 'worldmintlaw13.BagBytes': WHATEVER THE INPUT: true; the input reads as it did. -/
def bagBytesSpec : ChangeSpec := { name := "bagBytes", fn := fun _ => fun
  | [d1, d2, d3, d4, d5] => { results := [.lit (.bool true)], args := [d1, d2, d3, d4, d5] }
  | _ => none }
def bagBytesRow : OpenClaim := { program := "ytbcjikiakanncaa", sum := "89f2f98d37414d3b6fc6ead62e8bedb5c697b184ce71c9a6e0afeb596979a5f5", func := "worldmint/worldmintlaw13.BagBytes", spec := "bagBytes", unfollowed := true, recurses := true, apart := false }
def BagBytesSaid : Prop := bagBytesRow.holds Try.pinned (OpenSpec.ofChange bagBytesSpec)

/-- ITS FALSE NEIGHBOUR: 'it returns false'. Refute it at one input. -/
def bagBytesWrong : ChangeSpec := { name := "bagBytes", fn := fun _ => fun
  | [d1, d2, d3, d4, d5] => { results := [.lit (.bool false)], args := [d1, d2, d3, d4, d5] }
  | _ => none }
def BagBytesWrongFalsely : Prop := bagBytesRow.holds Try.pinned (OpenSpec.ofChange bagBytesWrong)

/- THE SECOND FORM. 'bulk': how many values and letters a reading holds, each counted each time it is reached (what is shared counts as often as it is met; a slice's spare places count too). A statement '..UptoSaid' is the law's where the arguments, and the package variables that the reading takes, are together of bulk at most 1048576: NARROWER than '..Said'. Prove '..Said' where nothing that the law and all that it calls make is longer than what came in: it says more and counts as full. Else prove '..UptoSaid'. A law counts once. -/
mutual
def uptoBulk {H : Type} : DataW H → Nat
  | .lit (.string bytes) => bytes.length + 1
  | .lit _ => 1
  | .nil => 1
  | .ptr d => uptoBulk d + 1
  | .slice elems spare => uptoBulkAll elems + uptoBulkAll spare + 1
  | .agg parts => uptoBulkAll parts + 1
  | .iface _ d => uptoBulk d + 1
  | .map entries => uptoBulkEntries entries + 1
  | .held _ => 1
def uptoBulkAll {H : Type} : List (DataW H) → Nat
  | [] => 0
  | d :: r => uptoBulk d + uptoBulkAll r
def uptoBulkEntries {H : Type} : List (Lit × DataW H) → Nat
  | [] => 0
  | x :: r => uptoBulkEntry x + uptoBulkEntries r
def uptoBulkEntry {H : Type} : Lit × DataW H → Nat
  | (.string bytes, d) => bytes.length + uptoBulk d + 1
  | (_, d) => uptoBulk d + 1
 end
def uptoSmall : (H : Type) → List (DataW H) → Bool := fun _ ds => decide (uptoBulkAll ds ≤ 1048576)
def OpenSpec.upto (s : _root_.Go.ChangeSpec) : _root_.Go.OpenSpec := { _root_.Go.OpenSpec.ofChange s with cond := some uptoSmall }

/-- 'worldmintlaw13.BagShares', WHERE WHAT IT READS IS OF BULK AT MOST 1048576: true; the input reads as it did. -/
def bagSharesUptoRow : OpenClaim := { program := "ytbcjikiakanncaa", sum := "89f2f98d37414d3b6fc6ead62e8bedb5c697b184ce71c9a6e0afeb596979a5f5", func := "worldmint/worldmintlaw13.BagShares", spec := "bagShares", unfollowed := true, recurses := true, named := ["math/bits.divideError", "math/bits.overflowError"], apart := false, narrowed := true }
def BagSharesUptoSaid : Prop := bagSharesUptoRow.holds Try.pinned (OpenSpec.upto bagSharesSpec)

/-- 'worldmintlaw13.BagTimes', WHERE WHAT IT READS IS OF BULK AT MOST 1048576: true; the input reads as it did. -/
def bagTimesUptoRow : OpenClaim := { program := "ytbcjikiakanncaa", sum := "89f2f98d37414d3b6fc6ead62e8bedb5c697b184ce71c9a6e0afeb596979a5f5", func := "worldmint/worldmintlaw13.BagTimes", spec := "bagTimes", unfollowed := true, recurses := true, apart := false, narrowed := true }
def BagTimesUptoSaid : Prop := bagTimesUptoRow.holds Try.pinned (OpenSpec.upto bagTimesSpec)

/-- 'worldmintlaw13.BagAmounts', WHERE WHAT IT READS IS OF BULK AT MOST 1048576: true; the input reads as it did. -/
def bagAmountsUptoRow : OpenClaim := { program := "ytbcjikiakanncaa", sum := "89f2f98d37414d3b6fc6ead62e8bedb5c697b184ce71c9a6e0afeb596979a5f5", func := "worldmint/worldmintlaw13.BagAmounts", spec := "bagAmounts", unfollowed := true, recurses := true, apart := false, narrowed := true }
def BagAmountsUptoSaid : Prop := bagAmountsUptoRow.holds Try.pinned (OpenSpec.upto bagAmountsSpec)

/-- 'worldmintlaw13.BagLists', WHERE WHAT IT READS IS OF BULK AT MOST 1048576: true; the input reads as it did. -/
def bagListsUptoRow : OpenClaim := { program := "ytbcjikiakanncaa", sum := "89f2f98d37414d3b6fc6ead62e8bedb5c697b184ce71c9a6e0afeb596979a5f5", func := "worldmint/worldmintlaw13.BagLists", spec := "bagLists", unfollowed := true, recurses := true, apart := false, narrowed := true }
def BagListsUptoSaid : Prop := bagListsUptoRow.holds Try.pinned (OpenSpec.upto bagListsSpec)

/-- 'worldmintlaw13.BagMost', WHERE WHAT IT READS IS OF BULK AT MOST 1048576: true; the input reads as it did. -/
def bagMostUptoRow : OpenClaim := { program := "ytbcjikiakanncaa", sum := "89f2f98d37414d3b6fc6ead62e8bedb5c697b184ce71c9a6e0afeb596979a5f5", func := "worldmint/worldmintlaw13.BagMost", spec := "bagMost", unfollowed := true, recurses := true, apart := false, narrowed := true }
def BagMostUptoSaid : Prop := bagMostUptoRow.holds Try.pinned (OpenSpec.upto bagMostSpec)

/-- 'worldmintlaw13.BagLattice', WHERE WHAT IT READS IS OF BULK AT MOST 1048576: true; the input reads as it did. -/
def bagLatticeUptoRow : OpenClaim := { program := "ytbcjikiakanncaa", sum := "89f2f98d37414d3b6fc6ead62e8bedb5c697b184ce71c9a6e0afeb596979a5f5", func := "worldmint/worldmintlaw13.BagLattice", spec := "bagLattice", unfollowed := true, recurses := true, apart := false, narrowed := true }
def BagLatticeUptoSaid : Prop := bagLatticeUptoRow.holds Try.pinned (OpenSpec.upto bagLatticeSpec)

/-- 'worldmintlaw13.BagGroup', WHERE WHAT IT READS IS OF BULK AT MOST 1048576: true; the input reads as it did. -/
def bagGroupUptoRow : OpenClaim := { program := "ytbcjikiakanncaa", sum := "89f2f98d37414d3b6fc6ead62e8bedb5c697b184ce71c9a6e0afeb596979a5f5", func := "worldmint/worldmintlaw13.BagGroup", spec := "bagGroup", unfollowed := true, recurses := true, apart := false, narrowed := true }
def BagGroupUptoSaid : Prop := bagGroupUptoRow.holds Try.pinned (OpenSpec.upto bagGroupSpec)

/-- 'worldmintlaw13.BagSums', WHERE WHAT IT READS IS OF BULK AT MOST 1048576: true; the input reads as it did. -/
def bagSumsUptoRow : OpenClaim := { program := "ytbcjikiakanncaa", sum := "89f2f98d37414d3b6fc6ead62e8bedb5c697b184ce71c9a6e0afeb596979a5f5", func := "worldmint/worldmintlaw13.BagSums", spec := "bagSums", unfollowed := true, recurses := true, apart := false, narrowed := true }
def BagSumsUptoSaid : Prop := bagSumsUptoRow.holds Try.pinned (OpenSpec.upto bagSumsSpec)

/-- 'worldmintlaw13.BagBytes', WHERE WHAT IT READS IS OF BULK AT MOST 1048576: true; the input reads as it did. -/
def bagBytesUptoRow : OpenClaim := { program := "ytbcjikiakanncaa", sum := "89f2f98d37414d3b6fc6ead62e8bedb5c697b184ce71c9a6e0afeb596979a5f5", func := "worldmint/worldmintlaw13.BagBytes", spec := "bagBytes", unfollowed := true, recurses := true, apart := false, narrowed := true }
def BagBytesUptoSaid : Prop := bagBytesUptoRow.holds Try.pinned (OpenSpec.upto bagBytesSpec)

end Rows
end Go.Proofs.Ytbcjikiakanncaa
