/- The library's slice functions, at the program's types. -/
import Derived.Test.YtidhdlhblhbahaaGreatSl0
import Derived.Test.YtidhdlhblhbahaaGreatKind6
set_option linter.unusedVariables false
set_option linter.unusedSimpArgs false
namespace Go.Proofs.YtidhdlhblhbahaaGreat.Am
open Go Go.RowKit

theorem CloneI_fn (l : List Int) (hl : l.length * 8 ≤ 140737488355328) : Fn Tryz.prog 27 [slI l] (slI l) := by
  refine fn_go Tryz.func27 rfl ?_
  simp [Tryz.ntmps27]
  refine calNil (neq := false) (fun b hb => ?_) (hp := rfl)
  cases b with
  | true =>
    have : l = [] := by
      cases l with
      | nil => rfl
      | cons x r => exact absurd (hb (by simp)) (by simp)
    subst this
    simp
    exact fin_ent (ent_nilsl (t := 2) (z := 1) rfl) (finm (by simp [slI_def, chunks_ints]))
  | false =>
    have h1 : l.length * 8 ≤ 140737488355328 := by omega
    have h2 : l.length ≤ maxLen := by simp only [maxLen]; omega
    simp [h1, h2]
    refine fin_fz 1 (l.map kI) ?_
    simp
    exact finm (by simp [slI_def, chunks_ints])
theorem CloneI_own (l : List Int) (hl : l.length * 8 ≤ 140737488355328) : FnD Tryz.prog 27 [slI l] [] (.osl 0 1 0 l.length) [some (l.map kI)] := by
  refine fnd_go Tryz.func27 rfl ?_
  simp [Tryz.ntmps27]
  refine calNil (neq := false) (fun b hb => ?_) (hp := rfl)
  cases b with
  | true =>
    have : l = [] := by
      cases l with
      | nil => rfl
      | cons x r => exact absurd (hb (by simp)) (by simp)
    subst this
    simp
    exact finG_ent (ent_nil (t := 2) (z := 1) rfl) (finGm [0])
  | false =>
    have h1 : l.length * 8 ≤ 140737488355328 := by omega
    have h2 : l.length ≤ maxLen := by simp only [maxLen]; omega
    simp [h1, h2]
    exact finGm [1]

end Go.Proofs.YtidhdlhblhbahaaGreat.Am
