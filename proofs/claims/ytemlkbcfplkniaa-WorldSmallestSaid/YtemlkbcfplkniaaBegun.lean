/- Package tourkeep3: package world describes base. -/
import Derived.Test.YtemlkbcfplkniaaGet1
import Derived.Test.YtemlkbcfplkniaaSame2
import Derived.Test.YtemlkbcfplkniaaInts2
import Derived.Test.YtemlkbcfplkniaaBaseW
set_option linter.unusedVariables false
set_option linter.unusedSimpArgs false
namespace Go.Proofs.Ytemlkbcfplkniaa.Am
open Go Go.RowKit

theorem base_fine : Fine baseW := ⟨by decide, by decide, by decide, by decide, by decide, by decide⟩
theorem base_get : getM baseW ⟨0, 0⟩ 0 = ([9], 0) := by kernel_rfl
theorem base_ints : (intsM baseW).length = 20 := by kernel_rfl
set_option maxRecDepth 20000 in
theorem begun_fn : Fn Try.prog 18 [] (kB true) := by
  refine fn_go Try.func18 rfl ?_
  simp [Try.ntmps18]
  refine cal base_fn ?_
  simp
  have hG := Get_fn baseW ⟨0, 0⟩ 0 base_fine (by decide)
  rw [base_get] at hG
  refine cal hG ?_ (hren := by simp [GEnt.e])
  simp
  refine calS (EqualI_fn [9] [9] (by simp)) ?_ (hren := by simp [slI_def, chunks, List.range, List.range.loop])
  simp
  refine cal base_fn ?_
  simp
  refine cal (Ints_fn baseW base_fine (by rw [base_ints]; omega)) ?_
  simp [base_ints]
  refine cal base_fn ?_
  simp
  refine cal base_fn ?_
  simp
  refine cal (WSame_fn baseW baseW base_fine) ?_
  simp
  exact finm (by simp)
end Go.Proofs.Ytemlkbcfplkniaa.Am
