/- A contract at arguments that tell more. -/
import Derived.Test.YtccebflmbnpheaaDat
set_option linter.unusedVariables false
set_option linter.unusedSimpArgs false
namespace Go.Proofs.Ytccebflmbnpheaa.Am
open Go Go.RowKit

theorem fn_tell {P : Program} {f : FuncId} {args args' : List PV} {σ : List (List PV)} {R : PV → Boxes → Prop} (h : FnG P f args' σ R) (hl : args.length = args'.length)
    (ht : ∀ (j : Nat) (p' : PV), args'[j]? = some p' → ∃ p, args[j]? = some p ∧ ∀ n ι S w v, VRel n ι S w v p → VRel n ι S w v p') : FnG P f args σ R := fun ι S w vals hs hlv hv =>
  h ι S w vals hs (by omega) fun j p' hj => by
    obtain ⟨p, hp, hr⟩ := ht j p' hj
    obtain ⟨v, h1, h2⟩ := hv j p hp
    exact ⟨v, h1, hr _ _ _ _ _ h2⟩

end Go.Proofs.Ytccebflmbnpheaa.Am
