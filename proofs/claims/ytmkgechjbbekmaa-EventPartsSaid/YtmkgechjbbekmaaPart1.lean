/- Events: order, and what a search asks. -/
import Derived.Test.YtmkgechjbbekmaaSl3
import Derived.Test.YtmkgechjbbekmaaSl4
set_option linter.unusedVariables false
set_option linter.unusedSimpArgs false
namespace Go.Proofs.Ytmkgechjbbekmaa.Am
open Go Go.RowKit

def ordE (a b : GEvent) : Int := orI [cmpI a.System b.System, cmpI a.Ent.N b.Ent.N, cmpI a.Ent.Gen b.Ent.Gen]

set_option maxRecDepth 20000 in
theorem order_fn (a b : GEvent) : Fn Try.prog 78 [.agg a.e, .agg b.e] (kI (ordE a b)) := by
  refine fn_go Try.func78 rfl ?_
  simp [Try.ntmps78]
  refine awp_drawS follows_mix [(0, 0), (0, 0), (0, 0), (0, 0), (2, 0), (0, 0), (0, 0), (0, 0), (0, 0), (0, 0), (0, 0), (2, 0), (0, 0), (0, 0), (0, 0), (0, 0), (0, 0), (0, 0), (2, 0), (4, 2), (3, 0), (0, 0)] 2 3 [] (by kernel_rfl) rfl rfl ?_
  simp
  refine gE_call (kI (cmpI a.System b.System)) (calO (Compare_fn a.System b.System)) ?_
  simp
  refine gE_call (kI (cmpI a.Ent.N b.Ent.N)) (calO (Compare_fn a.Ent.N b.Ent.N)) ?_
  simp
  refine gE_call (kI (cmpI a.Ent.Gen b.Ent.Gen)) (calO (Compare_fn a.Ent.Gen b.Ent.Gen)) ?_
  simp
  refine gE_callW (kI (ordE a b)) [2] [] rfl (fun y => ?_) ?_
  · simp
    exact does_snap (Or_fn [cmpI a.System b.System, cmpI a.Ent.N b.Ent.N, cmpI a.Ent.Gen b.Ent.Gen] (by simp)) rfl rfl rfl (by simp) (by simp [slI_def, chunks, List.range, List.range.loop]) (by simp) (by simp)
  simp
  exact finm

theorem Counts1_fn (x : GCount) (s : Int) : Fn Try.prog 72 [.agg x.e, kI s] (kI (cmpI x.System s)) := by
  refine fn_go Try.func72 rfl ?_
  simp [Try.ntmps72]
  refine cal (Compare_fn x.System s) ?_
  simp
  exact finm
end Go.Proofs.Ytmkgechjbbekmaa.Am
