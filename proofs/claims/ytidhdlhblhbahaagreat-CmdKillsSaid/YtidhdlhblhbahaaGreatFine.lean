/- Sizes of a world. -/
import Derived.Test.YtidhdlhblhbahaaGreatCopy1
set_option linter.unusedVariables false
set_option linter.unusedSimpArgs false
namespace Go.Proofs.YtidhdlhblhbahaaGreat.Am
open Go Go.RowKit

abbrev zIt : List PV := [kI 0, kI 0, kNil]
/-- Sizes that a valid world keeps, and much more. -/
structure Fine (w : GWorld) : Prop where
  kl : w.Kinds.length ≤ 1000000
  kf : ∀ k ∈ w.Kinds, k.Fields.length ≤ 1000000
  gl : w.Gens.length ≤ 1000000
  il : w.Items.length ≤ 1000000
  ic : ∀ it ∈ w.Items, it.Comps.length ≤ 1000000
  iv : ∀ it ∈ w.Items, ∀ c ∈ it.Comps, c.Vals.length ≤ 1000000

end Go.Proofs.YtidhdlhblhbahaaGreat.Am
