/- Package tourmake: lists of kinds. -/
import Derived.Test.YtmkgechjbbekmaaMake2
set_option linter.unusedVariables false
set_option linter.unusedSimpArgs false
namespace Go.Proofs.Ytmkgechjbbekmaa.Am
open Go Go.RowKit

theorem Kinds_fn (l : List Int) : Fn Try.prog 24 [slI l] (.sl 2 ((kindsM l).1.map GKind.e)) := by
  refine fn_go Try.func24 rfl ?_
  simp [Try.ntmps24]
  refine ops_fnd [0] (kinds_fn l) rfl rfl rfl (by simp) en_58 rfl rfl (by simp) (by simp [slI]) (by simp [slI]) (by simp [slI]) rfl rfl ?_
  simp
  exact fin_now (by simp) rfl rfl
end Go.Proofs.Ytmkgechjbbekmaa.Am
