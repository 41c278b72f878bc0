/- rnd.Of at a box. -/
import Derived.Test.YtccebflmbnpheaaRnd2
import Derived.Test.YtccebflmbnpheaaKind6
set_option linter.unusedVariables false
set_option linter.unusedSimpArgs false
namespace Go.Proofs.Ytccebflmbnpheaa.Am
open Go Go.RowKit

set_option maxRecDepth 20000 in
theorem Of_box (l : List Int) (hl : l.length ≤ 1000000) : FnD Try.prog 8 [.osl 0 1 0 l.length] [l.map kI] (rE (ofS l) (ofG l)) [some (l.map kI)] := by
  refine fnd_go Try.func8 rfl ?_
  have e0 : IntKind.u64.wrap (l.length : Int) = l.length := by rw [wrapU]; omega
  simp [Try.ntmps8, e0]
  refine awp_loop (fun x : Nat × Int => ⟨31, [(2, .ptr 1 0), (3, kU x.2), (9, .osl 0 1 0 l.length), (10, kI l.length), (11, kI x.1)], [some (l.map kI), some [kU 0, kU 0]], 1⟩)
    (fun x => x.1 ≤ l.length ∧ (l.drop x.1).foldl ofStep x.2 = l.foldl ofStep l.length) (fun x => l.length - x.1) (0, (l.length : Int)) ?_ ?_ ?_
  · exact entm [0, 1]
  · simp
  · rintro ⟨i, s⟩ ⟨hi, hrun⟩
    simp only at hi hrun
    refine awp_go ?_
    by_cases hlt : i < l.length
    · rw [List.drop_eq_getElem_cons hlt, List.foldl_cons] at hrun
      simp [hlt]
      refine cal (Mix_fn _) ?_ (hren := by rfl)
      simp
      have hw : IntKind.i64.wrap ((i : Int) + 1) = (i : Int) + 1 := wrap_id (by omega) (by omega)
      exact ⟨i + 1, ofStep s l[i], ⟨by omega, hrun⟩, by omega, entm [0, 1] (hT := by simp [ofStep, xU, hw])⟩
    · obtain rfl : i = l.length := by omega
      rw [List.drop_length, List.foldl_nil] at hrun
      simp
      refine cal (Mix_fn _) ?_ (hren := by rfl)
      simp
      refine cal (Mix_fn _) ?_ (hren := by rfl)
      simp
      exact finGm [0] (hres := by simp [ofS, ofG, hrun])
end Go.Proofs.Ytccebflmbnpheaa.Am
