/- The Writer stays as it is while blocks elsewhere are written. -/
import Derived.Test.YtbcjikiakanncaaWc2
import Derived.Test.YtbcjikiakanncaaMo
namespace Go.Proofs.Ytbcjikiakanncaa
open Go.RowKit
set_option linter.unusedVariables false

theorem WAt.span {w w' : World} {b g : Nat} {bs : List UInt8} (h : WAt w b g bs) (hs : Span b w.heap.size w w') : WAt w' b g bs := by
  have hl := h.lt
  obtain ⟨h1, v, h2, h3⟩ := h
  exact ⟨h1, v, (hs g h1 hl).trans h2, h3.of_block fun k hk => hs k (h3.lt k hk).1 (h3.lt k hk).2⟩

end Go.Proofs.Ytbcjikiakanncaa
