/- The small world of the laws. -/
import Derived.Test.YtidhdlhblhbahaaGreatMake1
set_option linter.unusedVariables false
set_option linter.unusedSimpArgs false
namespace Go.Proofs.YtidhdlhblhbahaaGreat.Am
open Go Go.RowKit

def baseW : GWorld := ⟨[⟨⟨#[108, 105, 102, 101]⟩, [⟨⟨#[120]⟩, 8, 0⟩]⟩], [0], [⟨⟨0, 0⟩, [⟨0, [9]⟩]⟩]⟩

theorem base_fn : Fn Tryz.prog 57 [] (.agg baseW.e) := by
  refine fn_go Tryz.func57 rfl ?_
  simp [Tryz.ntmps57]
  refine fin_ent (ent_frz 1 3 1 _ (by simp) rfl (by simp) (by simp)) ?_
  simp [St.frz, chunks]
  refine fin_ent (ent_frz 2 2 1 _ (by simp) rfl (by simp) (by simp)) ?_
  simp [St.frz, chunks]
  refine fin_ent (ent_frz 3 1 1 _ (by simp) rfl (by simp) (by simp)) ?_
  simp [St.frz, chunks]
  refine fin_ent (ent_frz 4 1 1 _ (by simp) rfl (by simp) (by simp)) ?_
  simp [St.frz, chunks]
  refine fin_ent (ent_frz 5 2 1 _ (by simp) rfl (by simp) (by simp)) ?_
  simp [St.frz, chunks]
  refine fin_ent (ent_frz 6 3 1 _ (by simp) rfl (by simp) (by simp)) ?_
  simp [St.frz, chunks]
  exact fin_now (by simp [baseW, GWorld.e, GKind.e, GField.e, GItem.e, GComp.e, slI]) rfl rfl

end Go.Proofs.YtidhdlhblhbahaaGreat.Am
