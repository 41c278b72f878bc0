/- Package world: Find. -/
import Derived.Test.YtidhdlhblhbahaaGreatSl3a
set_option linter.unusedVariables false
set_option linter.unusedSimpArgs false
namespace Go.Proofs.YtidhdlhblhbahaaGreat.Am
open Go Go.RowKit

set_option maxRecDepth 20000 in
theorem Find1_fn (it : GItem) (e : GEnt) : Fn Tryz.prog 113 [.agg it.e, .eptr e.e] (kB (decide (it.Ent = e))) := by
  refine fn_go Tryz.func113 rfl ?_
  simp [Tryz.ntmps113]
  exact finm (by simp)
def findW (w : GWorld) (e : GEnt) : Int := idxB (fun it : GItem => decide (it.Ent = e)) w.Items
set_option maxRecDepth 20000 in
theorem WFind_fn (w : GWorld) (e : GEnt) (hl : w.Items.length ≤ 4611686018427387904) : Fn Tryz.prog 55 [.agg w.e, .agg e.e] (kI (findW w e)) := by
  refine fn_go Tryz.func55 rfl ?_
  simp [Tryz.ntmps55]
  refine ops_fz 1 e.e ?_
  simp
  refine calS (IndexFuncIt_fn w.Items 113 [.eptr e.e] (fun it => decide (it.Ent = e)) hl (by simp) (by simp) fun it _ => Find1_fn it e) ?_
  simp
  exact finm (by simp [findW])
end Go.Proofs.YtidhdlhblhbahaaGreat.Am
