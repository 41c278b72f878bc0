/- fix.Clamp. -/
import Derived.Test.YtfojnhceiabbhaaDat
import Derived.Test.YtfojnhceiabbhaaAmC
set_option linter.unusedVariables false
set_option linter.unusedSimpArgs false
namespace Go.Proofs.Ytfojnhceiabbhaa.Am
open Go Go.RowKit

theorem Clamp_fn (a : Int) (h1 : -1099511627776 ≤ a) (h2 : a ≤ 1099511627776) : Fn Try.prog 168 [kI a] (kI a) := by
  refine fn_go Try.func168 rfl ?_
  simp [Try.ntmps168]
  exact finm (by simp; omega)

end Go.Proofs.Ytfojnhceiabbhaa.Am
