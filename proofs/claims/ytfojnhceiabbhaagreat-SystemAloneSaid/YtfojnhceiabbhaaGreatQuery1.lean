/- Package query: Match, All. -/
import Derived.Test.YtfojnhceiabbhaaGreatAmC
import Derived.Test.YtfojnhceiabbhaaGreatSl1
import Derived.Test.YtfojnhceiabbhaaGreatSl11
import Derived.Test.YtfojnhceiabbhaaGreatWCopy
set_option linter.unusedVariables false
set_option linter.unusedSimpArgs false
namespace Go.Proofs.YtfojnhceiabbhaaGreat.Am
open Go Go.RowKit

def hasK (it : GItem) (k : Int) : Bool := it.Comps.any fun c => decide (c.Kind = k)
def matchI (it : GItem) (wi wo : List Int) : Bool := !(wi.any fun k => !hasK it k) && !(wo.any fun k => hasK it k)

theorem Match11_fn (c : GComp) (k : Int) : Fn Tryz.prog 87 [.agg c.e, .eptr [kI k]] (kB (decide (c.Kind = k))) := by
  refine fn_go Tryz.func87 rfl ?_
  simp [Tryz.ntmps87]
  by_cases h : c.Kind = k
  · simp [h, GComp.e]
    exact finm
  · simp [h, GComp.e]
    exact finm (by simp [h])

theorem Match1_fn (it : GItem) (k : Int) (hl : it.Comps.length ≤ 1000000) : Fn Tryz.prog 86 [kI k, .eptr it.e] (kB (hasK it k)) := by
  refine fn_go Tryz.func86 rfl ?_
  simp [Tryz.ntmps86, GItem.e]
  refine ops_fz 0 [kI k] ?_
  simp
  refine cal (ContainsFuncC_fn it.Comps 87 [.eptr [kI k]] (fun c => decide (c.Kind = k)) (by omega) en_87 rfl (fun c _ => Match11_fn c k)) ?_
  simp
  exact finm (by simp [hasK])

theorem Match2_fn (it : GItem) (k : Int) (hl : it.Comps.length ≤ 1000000) : Fn Tryz.prog 88 [kI k, .eptr [.clo (.func 86) [.eptr it.e]]] (kB (!hasK it k)) := by
  refine fn_go Tryz.func88 rfl ?_
  simp [Tryz.ntmps88]
  refine cal (Match1_fn it k hl) ?_
  simp
  exact finm

theorem Match_fn (it : GItem) (wi wo : List Int) (hl : it.Comps.length ≤ 1000000) (h1 : wi.length ≤ 4611686018427387904) (h2 : wo.length ≤ 4611686018427387904) : Fn Tryz.prog 55 [.agg it.e, slI wi, slI wo] (kB (matchI it wi wo)) := by
  refine fn_go Tryz.func55 rfl ?_
  simp [Tryz.ntmps55]
  refine ops_fz 0 it.e ?_
  simp
  refine ops_fz 1 [.clo (.func 86) [.eptr it.e]] ?_
  simp
  refine cal (ContainsFuncI_fn wi 88 [.eptr [.clo (.func 86) [.eptr it.e]]] (fun k => !hasK it k) h1 en_88 rfl (fun k _ => Match2_fn it k hl)) ?_
  by_cases hw : (wi.any fun k => !hasK it k) = true
  · simp [hw]
    exact finm (by simp [matchI, hw])
  · have hw' : (wi.any fun k => !hasK it k) = false := by simpa using hw
    simp only [hw']
    simp
    refine cal (ContainsFuncI_fn wo 86 [.eptr it.e] (fun k => hasK it k) h2 en_86 rfl (fun k _ => Match1_fn it k hl)) ?_
    simp
    exact finm (by simp [matchI, hw'])
end Go.Proofs.YtfojnhceiabbhaaGreat.Am
