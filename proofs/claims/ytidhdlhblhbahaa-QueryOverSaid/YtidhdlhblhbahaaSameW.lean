/- Worlds compared. -/
import Derived.Test.YtidhdlhblhbahaaSame1
import Derived.Test.YtidhdlhblhbahaaFine
set_option linter.unusedVariables false
set_option linter.unusedSimpArgs false
namespace Go.Proofs.Ytidhdlhblhbahaa.Am
open Go Go.RowKit

set_option maxRecDepth 20000 in
theorem same_fn (x y : GWorld) (hx : Fine x) : Fn Try.prog 8 [.agg x.e, .agg y.e] (kB (decide (x = y))) := by
  refine fn_go Try.func8 rfl ?_
  simp [Try.ntmps8]
  refine cal (sameKinds_fn x.Kinds y.Kinds (by have := hx.kl; omega) (fun k hk => by have := hx.kf k hk; omega)) ?_
  by_cases h1 : x.Kinds = y.Kinds
  · simp [h1]
    refine cal (EqualI_fn x.Gens y.Gens (by have := hx.gl; omega)) ?_
    by_cases h2 : x.Gens = y.Gens
    · simp [h2]
      refine cal (sameItems_fn x.Items y.Items (by have := hx.il; omega) (fun it hi => ⟨by have := hx.ic it hi; omega, fun c hc => by have := hx.iv it hi c hc; omega⟩)) ?_
      simp
      exact finm (by simp [GWorld.ext_iff', h1, h2])
    · simp [h2]
      exact finm (by simp [GWorld.ext_iff', h1, h2])
  · simp [h1]
    exact finm (by simp [GWorld.ext_iff', h1])
end Go.Proofs.Ytidhdlhblhbahaa.Am
