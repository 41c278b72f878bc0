/- Package tourkeep3: equal lists. -/
import Derived.Test.YtmkgechjbbekmaaSl7
import Derived.Test.YtmkgechjbbekmaaKind7
set_option linter.unusedVariables false
set_option linter.unusedSimpArgs false
namespace Go.Proofs.Ytmkgechjbbekmaa.Am
open Go Go.RowKit

set_option maxRecDepth 20000 in
theorem sameComps1_fn (x y : GComp) (hx : x.Vals.length ≤ 1000000000) : Fn Try.prog 126 [.agg x.e, .agg y.e] (kB (decide (x = y))) := by
  refine fn_go Try.func126 rfl ?_
  simp [Try.ntmps126]
  by_cases h1 : x.Kind = y.Kind
  · simp [h1]
    refine cal (EqualI_fn x.Vals y.Vals hx) ?_
    simp
    exact finm (by simp [GComp.ext_iff', h1])
  · simp [h1]
    exact finm (by simp [GComp.ext_iff', h1])
theorem sameComps_fn (a b : List GComp) (ha : a.length ≤ 1000000000) (hv : ∀ c ∈ a, c.Vals.length ≤ 1000000000) : Fn Try.prog 91 [.sl 2 (a.map GComp.e), .sl 2 (b.map GComp.e)] (kB (decide (a = b))) := by
  refine fn_go Try.func91 rfl ?_
  simp [Try.ntmps91]
  refine cal (EqualFuncC_fn a b 126 [] ha en_126 rfl (fun x hx y _ => sameComps1_fn x y (hv x hx))) ?_
  simp
  exact finm (by simp)
set_option maxRecDepth 20000 in
theorem sameItems1_fn (x y : GItem) (hx : x.Comps.length ≤ 1000000000) (hv : ∀ c ∈ x.Comps, c.Vals.length ≤ 1000000000) : Fn Try.prog 90 [.agg x.e, .agg y.e] (kB (decide (x = y))) := by
  refine fn_go Try.func90 rfl ?_
  simp [Try.ntmps90]
  by_cases h1 : x.Ent = y.Ent
  · simp [h1]
    refine cal (sameComps_fn x.Comps y.Comps hx hv) ?_
    simp
    exact finm (by simp [GItem.ext_iff', h1])
  · simp [h1]
    exact finm (by simp [GItem.ext_iff', h1])
theorem sameItems_fn (a b : List GItem) (ha : a.length ≤ 1000000000) (hv : ∀ x ∈ a, x.Comps.length ≤ 1000000000 ∧ ∀ c ∈ x.Comps, c.Vals.length ≤ 1000000000) : Fn Try.prog 51 [.sl 3 (a.map GItem.e), .sl 3 (b.map GItem.e)] (kB (decide (a = b))) := by
  refine fn_go Try.func51 rfl ?_
  simp [Try.ntmps51]
  refine cal (EqualFuncIt_fn a b 90 [] ha en_90 rfl (fun x hx y _ => sameItems1_fn x y (hv x hx).1 (hv x hx).2)) ?_
  simp
  exact finm (by simp)
set_option maxRecDepth 20000 in
theorem sameKinds1_fn (x y : GKind) (hx : x.Fields.length ≤ 1000000000) : Fn Try.prog 95 [.agg x.e, .agg y.e] (kB (decide (x = y))) := by
  refine fn_go Try.func95 rfl ?_
  simp [Try.ntmps95]
  by_cases h1 : x.Name = y.Name
  · simp [h1]
    refine cal (EqualF_fn x.Fields y.Fields hx) ?_
    simp
    exact finm (by simp [GKind.ext_iff', h1])
  · simp [h1]
    exact finm (by simp [GKind.ext_iff', h1])
theorem sameKinds_fn (a b : List GKind) (ha : a.length ≤ 1000000000) (hv : ∀ x ∈ a, x.Fields.length ≤ 1000000000) : Fn Try.prog 55 [.sl 2 (a.map GKind.e), .sl 2 (b.map GKind.e)] (kB (decide (a = b))) := by
  refine fn_go Try.func55 rfl ?_
  simp [Try.ntmps55]
  refine cal (EqualFuncK_fn a b 95 [] ha en_95 rfl (fun x hx y _ => sameKinds1_fn x y (hv x hx))) ?_
  simp
  exact finm (by simp)
end Go.Proofs.Ytmkgechjbbekmaa.Am
