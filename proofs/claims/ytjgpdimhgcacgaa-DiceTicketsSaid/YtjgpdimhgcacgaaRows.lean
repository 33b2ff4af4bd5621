/-
  No cell of these rows narrows 'for every input' (looked for: loops, veiled, ifaces, maps, wideKeys, modest, calm, conditions, laid).
  DERIVED. THE GIVEN ROWS OF THIS SEAT. 8 by the template 'for every input the law returns true; each argument reads behind the call as it read before'; 0 by the template 'total and deterministic' (their statements: YtjgpdimhgcacgaaTotals.lean).
  GIVEN WITH THE SEED: the statements are not yours to turn. If you find one false, say at which input.
  Laid BY PROGRAM, IN A SANDBOX (cutbox-rows.mjs): the forced cells as the released guide's own fill.sh prints them over the translation eb76bc914eedce03… (all of the seat's roots in one cut). By AI agents, Wed Nov 11 2026. No macro, syntax, notation, axiom, sorry.
-/
import Derived.Test.YtjgpdimhgcacgaaChecked
import GoSem.Claim
import GoSem.ClaimJoined
import GoSem.ClaimMapViews
import Derived.JoinedTies
import Derived.KernelRfl
namespace Go.Proofs.Ytjgpdimhgcacgaa
/- THE CELL 'sum', in the pinned program and in every row, IS THE sha256 OF THE DUMP (.gsa) THAT YtjgpdimhgcacgaaProg.lean LOADS. Nothing in Lean hashes anything: it is a label: what it is worth is what the hold of that sum in a sandbox is worth. -/
noncomputable def Try.pinned : Pinned := { name := "ytjgpdimhgcacgaa", sum := "eb76bc914eedce03d135b6683b507a1d1522ac57f2eb83fb9dc0fcb9c4e85d5d", checked := Try.checked }
namespace Rows
def none {H : Type} : Left H := { results := [], args := [] }

/-- 'worldmintlaw04.DiceWords': WHATEVER THE INPUT: true; the input reads as it did. -/
def diceWordsSpec : ChangeSpec := { name := "diceWords", fn := fun _ => fun
  | [d1, d2, d3, d4, d5] => { results := [.lit (.bool true)], args := [d1, d2, d3, d4, d5] }
  | _ => none }
def diceWordsRow : OpenClaim := { program := "ytjgpdimhgcacgaa", sum := "eb76bc914eedce03d135b6683b507a1d1522ac57f2eb83fb9dc0fcb9c4e85d5d", func := "worldmint/worldmintlaw04.DiceWords", spec := "diceWords", unfollowed := true, recurses := true, apart := false }
def DiceWordsSaid : Prop := diceWordsRow.holds Try.pinned (OpenSpec.ofChange diceWordsSpec)

/-- ITS FALSE NEIGHBOUR: 'it returns false'. Refute it at one input. -/
def diceWordsWrong : ChangeSpec := { name := "diceWords", fn := fun _ => fun
  | [d1, d2, d3, d4, d5] => { results := [.lit (.bool false)], args := [d1, d2, d3, d4, d5] }
  | _ => none }
def DiceWordsWrongFalsely : Prop := diceWordsRow.holds Try.pinned (OpenSpec.ofChange diceWordsWrong)

/-- 'worldmintlaw04.DiceFair': WHATEVER THE INPUT: true; the input reads as it did. -/
def diceFairSpec : ChangeSpec := { name := "diceFair", fn := fun _ => fun
  | [d1, d2, d3] => { results := [.lit (.bool true)], args := [d1, d2, d3] }
  | _ => none }
def diceFairRow : OpenClaim := { program := "ytjgpdimhgcacgaa", sum := "eb76bc914eedce03d135b6683b507a1d1522ac57f2eb83fb9dc0fcb9c4e85d5d", func := "worldmint/worldmintlaw04.DiceFair", spec := "diceFair", unfollowed := true, recurses := true, apart := false }
def DiceFairSaid : Prop := diceFairRow.holds Try.pinned (OpenSpec.ofChange diceFairSpec)

/-- ITS FALSE NEIGHBOUR: 'it returns false'. Refute it at one input. -/
def diceFairWrong : ChangeSpec := { name := "diceFair", fn := fun _ => fun
  | [d1, d2, d3] => { results := [.lit (.bool false)], args := [d1, d2, d3] }
  | _ => none }
def DiceFairWrongFalsely : Prop := diceFairRow.holds Try.pinned (OpenSpec.ofChange diceFairWrong)

/-- 'worldmintlaw04.DiceReplay': WHATEVER THE INPUT: true; the input reads as it did. -/
def diceReplaySpec : ChangeSpec := { name := "diceReplay", fn := fun _ => fun
  | [d1, d2, d3] => { results := [.lit (.bool true)], args := [d1, d2, d3] }
  | _ => none }
def diceReplayRow : OpenClaim := { program := "ytjgpdimhgcacgaa", sum := "eb76bc914eedce03d135b6683b507a1d1522ac57f2eb83fb9dc0fcb9c4e85d5d", func := "worldmint/worldmintlaw04.DiceReplay", spec := "diceReplay", unfollowed := true, recurses := true, apart := false }
def DiceReplaySaid : Prop := diceReplayRow.holds Try.pinned (OpenSpec.ofChange diceReplaySpec)

/-- ITS FALSE NEIGHBOUR: 'it returns false'. Refute it at one input. -/
def diceReplayWrong : ChangeSpec := { name := "diceReplay", fn := fun _ => fun
  | [d1, d2, d3] => { results := [.lit (.bool false)], args := [d1, d2, d3] }
  | _ => none }
def DiceReplayWrongFalsely : Prop := diceReplayRow.holds Try.pinned (OpenSpec.ofChange diceReplayWrong)

/-- 'worldmintlaw04.DiceVerifies': WHATEVER THE INPUT: true; the input reads as it did. -/
def diceVerifiesSpec : ChangeSpec := { name := "diceVerifies", fn := fun _ => fun
  | [d1, d2, d3, d4, d5, d6] => { results := [.lit (.bool true)], args := [d1, d2, d3, d4, d5, d6] }
  | _ => none }
def diceVerifiesRow : OpenClaim := { program := "ytjgpdimhgcacgaa", sum := "eb76bc914eedce03d135b6683b507a1d1522ac57f2eb83fb9dc0fcb9c4e85d5d", func := "worldmint/worldmintlaw04.DiceVerifies", spec := "diceVerifies", unfollowed := true, recurses := true, apart := false }
def DiceVerifiesSaid : Prop := diceVerifiesRow.holds Try.pinned (OpenSpec.ofChange diceVerifiesSpec)

/-- ITS FALSE NEIGHBOUR: 'it returns false'. Refute it at one input. -/
def diceVerifiesWrong : ChangeSpec := { name := "diceVerifies", fn := fun _ => fun
  | [d1, d2, d3, d4, d5, d6] => { results := [.lit (.bool false)], args := [d1, d2, d3, d4, d5, d6] }
  | _ => none }
def DiceVerifiesWrongFalsely : Prop := diceVerifiesRow.holds Try.pinned (OpenSpec.ofChange diceVerifiesWrong)

/-- 'worldmintlaw04.DiceSeeds': WHATEVER THE INPUT: true; the input reads as it did. -/
def diceSeedsSpec : ChangeSpec := { name := "diceSeeds", fn := fun _ => fun
  | [d1, d2, d3, d4, d5] => { results := [.lit (.bool true)], args := [d1, d2, d3, d4, d5] }
  | _ => none }
def diceSeedsRow : OpenClaim := { program := "ytjgpdimhgcacgaa", sum := "eb76bc914eedce03d135b6683b507a1d1522ac57f2eb83fb9dc0fcb9c4e85d5d", func := "worldmint/worldmintlaw04.DiceSeeds", spec := "diceSeeds", unfollowed := true, recurses := true, apart := false }
def DiceSeedsSaid : Prop := diceSeedsRow.holds Try.pinned (OpenSpec.ofChange diceSeedsSpec)

/-- ITS FALSE NEIGHBOUR: 'it returns false'. Refute it at one input. -/
def diceSeedsWrong : ChangeSpec := { name := "diceSeeds", fn := fun _ => fun
  | [d1, d2, d3, d4, d5] => { results := [.lit (.bool false)], args := [d1, d2, d3, d4, d5] }
  | _ => none }
def DiceSeedsWrongFalsely : Prop := diceSeedsRow.holds Try.pinned (OpenSpec.ofChange diceSeedsWrong)

/-- 'worldmintlaw04.DiceRolls': WHATEVER THE INPUT: true; the input reads as it did. -/
def diceRollsSpec : ChangeSpec := { name := "diceRolls", fn := fun _ => fun
  | [d1, d2, d3] => { results := [.lit (.bool true)], args := [d1, d2, d3] }
  | _ => none }
def diceRollsRow : OpenClaim := { program := "ytjgpdimhgcacgaa", sum := "eb76bc914eedce03d135b6683b507a1d1522ac57f2eb83fb9dc0fcb9c4e85d5d", func := "worldmint/worldmintlaw04.DiceRolls", spec := "diceRolls", unfollowed := true, recurses := true, apart := false }
def DiceRollsSaid : Prop := diceRollsRow.holds Try.pinned (OpenSpec.ofChange diceRollsSpec)

/-- ITS FALSE NEIGHBOUR: 'it returns false'. Refute it at one input. -/
def diceRollsWrong : ChangeSpec := { name := "diceRolls", fn := fun _ => fun
  | [d1, d2, d3] => { results := [.lit (.bool false)], args := [d1, d2, d3] }
  | _ => none }
def DiceRollsWrongFalsely : Prop := diceRollsRow.holds Try.pinned (OpenSpec.ofChange diceRollsWrong)

/-- 'worldmintlaw04.DiceShuffles': WHATEVER THE INPUT: true; the input reads as it did. -/
def diceShufflesSpec : ChangeSpec := { name := "diceShuffles", fn := fun _ => fun
  | [d1, d2, d3, d4] => { results := [.lit (.bool true)], args := [d1, d2, d3, d4] }
  | _ => none }
def diceShufflesRow : OpenClaim := { program := "ytjgpdimhgcacgaa", sum := "eb76bc914eedce03d135b6683b507a1d1522ac57f2eb83fb9dc0fcb9c4e85d5d", func := "worldmint/worldmintlaw04.DiceShuffles", spec := "diceShuffles", unfollowed := true, recurses := true, apart := false }
def DiceShufflesSaid : Prop := diceShufflesRow.holds Try.pinned (OpenSpec.ofChange diceShufflesSpec)

/-- ITS FALSE NEIGHBOUR: 'it returns false'. Refute it at one input. -/
def diceShufflesWrong : ChangeSpec := { name := "diceShuffles", fn := fun _ => fun
  | [d1, d2, d3, d4] => { results := [.lit (.bool false)], args := [d1, d2, d3, d4] }
  | _ => none }
def DiceShufflesWrongFalsely : Prop := diceShufflesRow.holds Try.pinned (OpenSpec.ofChange diceShufflesWrong)

/-- 'worldmintlaw04.DiceTickets': WHATEVER THE INPUT: true; the input reads as it did. -/
def diceTicketsSpec : ChangeSpec := { name := "diceTickets", fn := fun _ => fun
  | [d1, d2, d3] => { results := [.lit (.bool true)], args := [d1, d2, d3] }
  | _ => none }
def diceTicketsRow : OpenClaim := { program := "ytjgpdimhgcacgaa", sum := "eb76bc914eedce03d135b6683b507a1d1522ac57f2eb83fb9dc0fcb9c4e85d5d", func := "worldmint/worldmintlaw04.DiceTickets", spec := "diceTickets", unfollowed := true, recurses := true, apart := false }
def DiceTicketsSaid : Prop := diceTicketsRow.holds Try.pinned (OpenSpec.ofChange diceTicketsSpec)

/-- ITS FALSE NEIGHBOUR: 'it returns false'. Refute it at one input. -/
def diceTicketsWrong : ChangeSpec := { name := "diceTickets", fn := fun _ => fun
  | [d1, d2, d3] => { results := [.lit (.bool false)], args := [d1, d2, d3] }
  | _ => none }
def DiceTicketsWrongFalsely : Prop := diceTicketsRow.holds Try.pinned (OpenSpec.ofChange diceTicketsWrong)

/- THE SECOND FORM. 'bulk': how many values and letters a reading holds, each counted each time it is reached (what is shared counts as often as it is met; a slice's spare places count too). A statement '..UptoSaid' is the law's where the arguments, and the package variables that the reading takes, are together of bulk at most 1048576: NARROWER than '..Said'. Prove '..Said' where nothing that the law and all that it calls make is longer than what came in: it says more and counts as full. Else prove '..UptoSaid'. A law counts once. -/
mutual
def uptoBulk {H : Type} : DataW H → Nat
  | .lit (.string bytes) => bytes.length + 1
  | .lit _ => 1
  | .nil => 1
  | .ptr d => uptoBulk d + 1
  | .slice elems spare => uptoBulkAll elems + uptoBulkAll spare + 1
  | .agg parts => uptoBulkAll parts + 1
  | .iface _ d => uptoBulk d + 1
  | .map entries => uptoBulkEntries entries + 1
  | .held _ => 1
def uptoBulkAll {H : Type} : List (DataW H) → Nat
  | [] => 0
  | d :: r => uptoBulk d + uptoBulkAll r
def uptoBulkEntries {H : Type} : List (Lit × DataW H) → Nat
  | [] => 0
  | x :: r => uptoBulkEntry x + uptoBulkEntries r
def uptoBulkEntry {H : Type} : Lit × DataW H → Nat
  | (.string bytes, d) => bytes.length + uptoBulk d + 1
  | (_, d) => uptoBulk d + 1
 end
def uptoSmall : (H : Type) → List (DataW H) → Bool := fun _ ds => decide (uptoBulkAll ds ≤ 1048576)
def OpenSpec.upto (s : _root_.Go.ChangeSpec) : _root_.Go.OpenSpec := { _root_.Go.OpenSpec.ofChange s with cond := some uptoSmall }

/-- 'worldmintlaw04.DiceWords', WHERE WHAT IT READS IS OF BULK AT MOST 1048576: true; the input reads as it did. -/
def diceWordsUptoRow : OpenClaim := { program := "ytjgpdimhgcacgaa", sum := "eb76bc914eedce03d135b6683b507a1d1522ac57f2eb83fb9dc0fcb9c4e85d5d", func := "worldmint/worldmintlaw04.DiceWords", spec := "diceWords", unfollowed := true, recurses := true, apart := false, narrowed := true }
def DiceWordsUptoSaid : Prop := diceWordsUptoRow.holds Try.pinned (OpenSpec.upto diceWordsSpec)

/-- 'worldmintlaw04.DiceFair', WHERE WHAT IT READS IS OF BULK AT MOST 1048576: true; the input reads as it did. -/
def diceFairUptoRow : OpenClaim := { program := "ytjgpdimhgcacgaa", sum := "eb76bc914eedce03d135b6683b507a1d1522ac57f2eb83fb9dc0fcb9c4e85d5d", func := "worldmint/worldmintlaw04.DiceFair", spec := "diceFair", unfollowed := true, recurses := true, apart := false, narrowed := true }
def DiceFairUptoSaid : Prop := diceFairUptoRow.holds Try.pinned (OpenSpec.upto diceFairSpec)

/-- 'worldmintlaw04.DiceReplay', WHERE WHAT IT READS IS OF BULK AT MOST 1048576: true; the input reads as it did. -/
def diceReplayUptoRow : OpenClaim := { program := "ytjgpdimhgcacgaa", sum := "eb76bc914eedce03d135b6683b507a1d1522ac57f2eb83fb9dc0fcb9c4e85d5d", func := "worldmint/worldmintlaw04.DiceReplay", spec := "diceReplay", unfollowed := true, recurses := true, apart := false, narrowed := true }
def DiceReplayUptoSaid : Prop := diceReplayUptoRow.holds Try.pinned (OpenSpec.upto diceReplaySpec)

/-- 'worldmintlaw04.DiceVerifies', WHERE WHAT IT READS IS OF BULK AT MOST 1048576: true; the input reads as it did. -/
def diceVerifiesUptoRow : OpenClaim := { program := "ytjgpdimhgcacgaa", sum := "eb76bc914eedce03d135b6683b507a1d1522ac57f2eb83fb9dc0fcb9c4e85d5d", func := "worldmint/worldmintlaw04.DiceVerifies", spec := "diceVerifies", unfollowed := true, recurses := true, apart := false, narrowed := true }
def DiceVerifiesUptoSaid : Prop := diceVerifiesUptoRow.holds Try.pinned (OpenSpec.upto diceVerifiesSpec)

/-- 'worldmintlaw04.DiceSeeds', WHERE WHAT IT READS IS OF BULK AT MOST 1048576: true; the input reads as it did. -/
def diceSeedsUptoRow : OpenClaim := { program := "ytjgpdimhgcacgaa", sum := "eb76bc914eedce03d135b6683b507a1d1522ac57f2eb83fb9dc0fcb9c4e85d5d", func := "worldmint/worldmintlaw04.DiceSeeds", spec := "diceSeeds", unfollowed := true, recurses := true, apart := false, narrowed := true }
def DiceSeedsUptoSaid : Prop := diceSeedsUptoRow.holds Try.pinned (OpenSpec.upto diceSeedsSpec)

/-- 'worldmintlaw04.DiceRolls', WHERE WHAT IT READS IS OF BULK AT MOST 1048576: true; the input reads as it did. -/
def diceRollsUptoRow : OpenClaim := { program := "ytjgpdimhgcacgaa", sum := "eb76bc914eedce03d135b6683b507a1d1522ac57f2eb83fb9dc0fcb9c4e85d5d", func := "worldmint/worldmintlaw04.DiceRolls", spec := "diceRolls", unfollowed := true, recurses := true, apart := false, narrowed := true }
def DiceRollsUptoSaid : Prop := diceRollsUptoRow.holds Try.pinned (OpenSpec.upto diceRollsSpec)

/-- 'worldmintlaw04.DiceShuffles', WHERE WHAT IT READS IS OF BULK AT MOST 1048576: true; the input reads as it did. -/
def diceShufflesUptoRow : OpenClaim := { program := "ytjgpdimhgcacgaa", sum := "eb76bc914eedce03d135b6683b507a1d1522ac57f2eb83fb9dc0fcb9c4e85d5d", func := "worldmint/worldmintlaw04.DiceShuffles", spec := "diceShuffles", unfollowed := true, recurses := true, apart := false, narrowed := true }
def DiceShufflesUptoSaid : Prop := diceShufflesUptoRow.holds Try.pinned (OpenSpec.upto diceShufflesSpec)

/-- 'worldmintlaw04.DiceTickets', WHERE WHAT IT READS IS OF BULK AT MOST 1048576: true; the input reads as it did. -/
def diceTicketsUptoRow : OpenClaim := { program := "ytjgpdimhgcacgaa", sum := "eb76bc914eedce03d135b6683b507a1d1522ac57f2eb83fb9dc0fcb9c4e85d5d", func := "worldmint/worldmintlaw04.DiceTickets", spec := "diceTickets", unfollowed := true, recurses := true, apart := false, narrowed := true }
def DiceTicketsUptoSaid : Prop := diceTicketsUptoRow.holds Try.pinned (OpenSpec.upto diceTicketsSpec)

end Rows
end Go.Proofs.Ytjgpdimhgcacgaa
