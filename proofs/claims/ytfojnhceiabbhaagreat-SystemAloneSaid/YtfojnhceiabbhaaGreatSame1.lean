/- Package tourkeep3: equal lists. -/
import Derived.Test.YtfojnhceiabbhaaGreatSl7a
import Derived.Test.YtfojnhceiabbhaaGreatKind7
set_option linter.unusedVariables false
set_option linter.unusedSimpArgs false
namespace Go.Proofs.YtfojnhceiabbhaaGreat.Am
open Go Go.RowKit

set_option maxRecDepth 20000 in
theorem sameComps1_fn (x y : GComp) (hx : x.Vals.length ≤ 1000000000) : Fn Tryz.prog 68 [.agg x.e, .agg y.e] (kB (decide (x = y))) := by
  refine fn_go Tryz.func68 rfl ?_
  simp [Tryz.ntmps68]
  by_cases h1 : x.Kind = y.Kind
  · simp [h1]
    refine cal (EqualI_fn x.Vals y.Vals hx) ?_
    simp
    exact finm (by simp [GComp.ext_iff', h1])
  · simp [h1]
    exact finm (by simp [GComp.ext_iff', h1])
theorem sameComps_fn (a b : List GComp) (ha : a.length ≤ 1000000000) (hv : ∀ c ∈ a, c.Vals.length ≤ 1000000000) : Fn Tryz.prog 38 [.sl 2 (a.map GComp.e), .sl 2 (b.map GComp.e)] (kB (decide (a = b))) := by
  refine fn_go Tryz.func38 rfl ?_
  simp [Tryz.ntmps38]
  refine cal (EqualFuncC_fn a b 68 [] ha en_68 rfl (fun x hx y _ => sameComps1_fn x y (hv x hx))) ?_
  simp
  exact finm (by simp)
set_option maxRecDepth 20000 in
theorem sameItems1_fn (x y : GItem) (hx : x.Comps.length ≤ 1000000000) (hv : ∀ c ∈ x.Comps, c.Vals.length ≤ 1000000000) : Fn Tryz.prog 37 [.agg x.e, .agg y.e] (kB (decide (x = y))) := by
  refine fn_go Tryz.func37 rfl ?_
  simp [Tryz.ntmps37]
  by_cases h1 : x.Ent = y.Ent
  · simp [h1]
    refine cal (sameComps_fn x.Comps y.Comps hx hv) ?_
    simp
    exact finm (by simp [GItem.ext_iff', h1])
  · simp [h1]
    exact finm (by simp [GItem.ext_iff', h1])
theorem sameItems_fn (a b : List GItem) (ha : a.length ≤ 1000000000) (hv : ∀ x ∈ a, x.Comps.length ≤ 1000000000 ∧ ∀ c ∈ x.Comps, c.Vals.length ≤ 1000000000) : Fn Tryz.prog 14 [.sl 3 (a.map GItem.e), .sl 3 (b.map GItem.e)] (kB (decide (a = b))) := by
  refine fn_go Tryz.func14 rfl ?_
  simp [Tryz.ntmps14]
  refine cal (EqualFuncIt_fn a b 37 [] ha en_37 rfl (fun x hx y _ => sameItems1_fn x y (hv x hx).1 (hv x hx).2)) ?_
  simp
  exact finm (by simp)
set_option maxRecDepth 20000 in
theorem sameKinds1_fn (x y : GKind) (hx : x.Fields.length ≤ 1000000000) : Fn Tryz.prog 65 [.agg x.e, .agg y.e] (kB (decide (x = y))) := by
  refine fn_go Tryz.func65 rfl ?_
  simp [Tryz.ntmps65]
  by_cases h1 : x.Name = y.Name
  · simp [h1]
    refine cal (EqualF_fn x.Fields y.Fields hx) ?_
    simp
    exact finm (by simp [GKind.ext_iff', h1])
  · simp [h1]
    exact finm (by simp [GKind.ext_iff', h1])
theorem sameKinds_fn (a b : List GKind) (ha : a.length ≤ 1000000000) (hv : ∀ x ∈ a, x.Fields.length ≤ 1000000000) : Fn Tryz.prog 28 [.sl 2 (a.map GKind.e), .sl 2 (b.map GKind.e)] (kB (decide (a = b))) := by
  refine fn_go Tryz.func28 rfl ?_
  simp [Tryz.ntmps28]
  refine cal (EqualFuncK_fn a b 65 [] ha en_65 rfl (fun x hx y _ => sameKinds1_fn x y (hv x hx))) ?_
  simp
  exact finm (by simp)
end Go.Proofs.YtfojnhceiabbhaaGreat.Am
