/- Package kind: the error of a field. -/
import Derived.Test.YtidhdlhblhbahaaGreatKind1
import Derived.Test.YtidhdlhblhbahaaGreatAmB
set_option linter.unusedVariables false
set_option linter.unusedSimpArgs false
namespace Go.Proofs.YtidhdlhblhbahaaGreat.Am
open Go Go.RowKit

def fieldB (f : GField) : Bool := nameB f.Name && decide (1 ≤ f.Bits) && decide (f.Bits ≤ 32) && decide (-4294967296 ≤ f.Low) && decide (f.Low ≤ 4294967296)
def fieldE (f : GField) : Int := if fieldB f = true then 0 else 3

theorem field_fn (f : GField) : Fn Tryz.prog 220 [.agg f.e] (kI (fieldE f)) := by
  refine fn_go Tryz.func220 rfl ?_
  simp [Tryz.ntmps220, GField.e]
  refine ops_fn (Name_fn f.Name) rfl rfl rfl (by simp) en_204 rfl (by simp) (by simp) (by simp) ?_
  simp
  by_cases h1 : nameB f.Name = true <;> by_cases h2 : f.Bits < 1 <;> by_cases h3 : 32 < f.Bits <;> by_cases h4 : f.Low < -4294967296 <;> by_cases h5 : 4294967296 < f.Low <;> simp [h1, h2, h3, h4, h5] <;>
    exact fin_now (by simp [fieldE, fieldB, h1] <;> omega) rfl rfl

end Go.Proofs.YtidhdlhblhbahaaGreat.Am
