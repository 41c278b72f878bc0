/- Package tourkeep3: equal lists. -/
import Derived.Test.YtidhdlhblhbahaaSl7a
import Derived.Test.YtidhdlhblhbahaaKind7
set_option linter.unusedVariables false
set_option linter.unusedSimpArgs false
namespace Go.Proofs.Ytidhdlhblhbahaa.Am
open Go Go.RowKit

set_option maxRecDepth 20000 in
theorem sameComps1_fn (x y : GComp) (hx : x.Vals.length ≤ 1000000000) : Fn Try.prog 82 [.agg x.e, .agg y.e] (kB (decide (x = y))) := by
  refine fn_go Try.func82 rfl ?_
  simp [Try.ntmps82]
  by_cases h1 : x.Kind = y.Kind
  · simp [h1]
    refine cal (EqualI_fn x.Vals y.Vals hx) ?_
    simp
    exact finm (by simp [GComp.ext_iff', h1])
  · simp [h1]
    exact finm (by simp [GComp.ext_iff', h1])
theorem sameComps_fn (a b : List GComp) (ha : a.length ≤ 1000000000) (hv : ∀ c ∈ a, c.Vals.length ≤ 1000000000) : Fn Try.prog 58 [.sl 2 (a.map GComp.e), .sl 2 (b.map GComp.e)] (kB (decide (a = b))) := by
  refine fn_go Try.func58 rfl ?_
  simp [Try.ntmps58]
  refine cal (EqualFuncC_fn a b 82 [] ha en_82 rfl (fun x hx y _ => sameComps1_fn x y (hv x hx))) ?_
  simp
  exact finm (by simp)
set_option maxRecDepth 20000 in
theorem sameItems1_fn (x y : GItem) (hx : x.Comps.length ≤ 1000000000) (hv : ∀ c ∈ x.Comps, c.Vals.length ≤ 1000000000) : Fn Try.prog 57 [.agg x.e, .agg y.e] (kB (decide (x = y))) := by
  refine fn_go Try.func57 rfl ?_
  simp [Try.ntmps57]
  by_cases h1 : x.Ent = y.Ent
  · simp [h1]
    refine cal (sameComps_fn x.Comps y.Comps hx hv) ?_
    simp
    exact finm (by simp [GItem.ext_iff', h1])
  · simp [h1]
    exact finm (by simp [GItem.ext_iff', h1])
theorem sameItems_fn (a b : List GItem) (ha : a.length ≤ 1000000000) (hv : ∀ x ∈ a, x.Comps.length ≤ 1000000000 ∧ ∀ c ∈ x.Comps, c.Vals.length ≤ 1000000000) : Fn Try.prog 29 [.sl 3 (a.map GItem.e), .sl 3 (b.map GItem.e)] (kB (decide (a = b))) := by
  refine fn_go Try.func29 rfl ?_
  simp [Try.ntmps29]
  refine cal (EqualFuncIt_fn a b 57 [] ha en_57 rfl (fun x hx y _ => sameItems1_fn x y (hv x hx).1 (hv x hx).2)) ?_
  simp
  exact finm (by simp)
set_option maxRecDepth 20000 in
theorem sameKinds1_fn (x y : GKind) (hx : x.Fields.length ≤ 1000000000) : Fn Try.prog 54 [.agg x.e, .agg y.e] (kB (decide (x = y))) := by
  refine fn_go Try.func54 rfl ?_
  simp [Try.ntmps54]
  by_cases h1 : x.Name = y.Name
  · simp [h1]
    refine cal (EqualF_fn x.Fields y.Fields hx) ?_
    simp
    exact finm (by simp [GKind.ext_iff', h1])
  · simp [h1]
    exact finm (by simp [GKind.ext_iff', h1])
theorem sameKinds_fn (a b : List GKind) (ha : a.length ≤ 1000000000) (hv : ∀ x ∈ a, x.Fields.length ≤ 1000000000) : Fn Try.prog 27 [.sl 2 (a.map GKind.e), .sl 2 (b.map GKind.e)] (kB (decide (a = b))) := by
  refine fn_go Try.func27 rfl ?_
  simp [Try.ntmps27]
  refine cal (EqualFuncK_fn a b 54 [] ha en_54 rfl (fun x hx y _ => sameKinds1_fn x y (hv x hx))) ?_
  simp
  exact finm (by simp)
end Go.Proofs.Ytidhdlhblhbahaa.Am
