/- fix.Clamp. -/
import Derived.Test.YtfojnhceiabbhaaGreatDat
import Derived.Test.YtfojnhceiabbhaaGreatAmC
set_option linter.unusedVariables false
set_option linter.unusedSimpArgs false
namespace Go.Proofs.YtfojnhceiabbhaaGreat.Am
open Go Go.RowKit

theorem Clamp_fn (a : Int) (h1 : -1099511627776 ≤ a) (h2 : a ≤ 1099511627776) : Fn Tryz.prog 109 [kI a] (kI a) := by
  refine fn_go Tryz.func109 rfl ?_
  simp [Tryz.ntmps109]
  exact finm (by simp; omega)

end Go.Proofs.YtfojnhceiabbhaaGreat.Am
