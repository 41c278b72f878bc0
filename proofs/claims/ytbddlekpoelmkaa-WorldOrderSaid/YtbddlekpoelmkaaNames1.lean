/- Package tourkeep3: equal worlds; the kind of base can be removed. -/
import Derived.Test.YtbddlekpoelmkaaWLaw1
import Derived.Test.YtbddlekpoelmkaaMoves2
import Derived.Test.YtbddlekpoelmkaaSame1
import Derived.Test.YtbddlekpoelmkaaBase
set_option linter.unusedVariables false
set_option linter.unusedSimpArgs false
namespace Go.Proofs.Ytbddlekpoelmkaa.Am
open Go Go.RowKit

set_option maxRecDepth 20000 in
theorem same_fn (x y : GWorld) (hx : Fine x) : Fn Try.prog 13 [.agg x.e, .agg y.e] (kB (decide (x = y))) := by
  refine fn_go Try.func13 rfl ?_
  simp [Try.ntmps13]
  refine cal (sameKinds_fn x.Kinds y.Kinds (by have := hx.kl; omega) (fun k hk => by have := hx.kf k hk; omega)) ?_
  by_cases h1 : x.Kinds = y.Kinds
  · simp [h1]
    refine cal (EqualI_fn x.Gens y.Gens (by have := hx.gl; omega)) ?_
    by_cases h2 : x.Gens = y.Gens
    · simp [h2]
      refine cal (sameItems_fn x.Items y.Items (by have := hx.il; omega) (fun it hi => ⟨by have := hx.ic it hi; omega, fun c hc => by have := hx.iv it hi c hc; omega⟩)) ?_
      simp
      exact finm (by simp [GWorld.ext_iff', h1, h2])
    · simp [h2]
      exact finm (by simp [GWorld.ext_iff', h1, h2])
  · simp [h1]
    exact finm (by simp [GWorld.ext_iff', h1])

def dropMv : GMove := ⟨1, ⟨#[108, 105, 102, 101]⟩, ⟨#[]⟩, ⟨#[]⟩, 0, ⟨⟨#[]⟩, 0, 0⟩, ⟨⟨#[]⟩, []⟩⟩
theorem drop_mv : worldMv baseW [dropMv] = (⟨[], [0], [⟨⟨0, 0⟩, []⟩]⟩, 0) := by kernel_rfl

set_option maxRecDepth 20000 in
theorem dropped_fn : Fn Try.prog 8 [] (kB true) := by
  refine fn_go Try.func8 rfl ?_
  simp [Try.ntmps8]
  refine cal base_fn ?_
  simp
  refine ops_ent (ent_cell 0 9 (tell_nil 3)) (ops_goH ?_)
  simp
  refine ops_fz 0 dropMv.e ?_
  simp
  have hW := MWorld_fn baseW [dropMv] ⟨by decide, by decide, by decide, by decide, by decide, by decide⟩ (by decide) (by decide) (by decide)
  rw [drop_mv] at hW
  refine cal hW ?_ (hren := by simp [chunks, List.range, List.range.loop, dropMv, GMove.e])
  simp
  exact finm (by simp)
end Go.Proofs.Ytbddlekpoelmkaa.Am
