/- slices.Clone. -/
import Derived.Test.YtmkgechjbbekmaaAmB
import Derived.Test.YtmkgechjbbekmaaDat
set_option linter.unusedVariables false
set_option linter.unusedSimpArgs false
namespace Go.Proofs.Ytmkgechjbbekmaa.Am
open Go Go.RowKit

theorem CloneK_fn (l : List GKind) (hl : l.length ≤ 1000000000) : Fn Try.prog 26 [.sl 2 (l.map GKind.e)] (.sl 2 (l.map GKind.e)) := by
  refine fn_go Try.func26 rfl ?_
  simp [Try.ntmps26]
  refine ops_nil_eq (neq := false) rfl rfl rfl rfl (by simp) rfl rfl (fun b hb => ?_)
  cases b with
  | true =>
    have : l = [] := by
      cases l with
      | nil => rfl
      | cons x r => exact absurd (hb (by simp)) (by simp)
    subst this
    simp
    exact fin_ent (ent_nilsl (t := 2) (z := 2) rfl) (fin_now (by simp) rfl rfl)
  | false =>
    have h1 : l.length * 40 ≤ 140737488355328 := by omega
    have h2 : l.length ≤ maxLen := by simp only [maxLen]; omega
    simp [h1, h2]
    exact fin_ent (ent_frz 1 2 l.length (l.map GKind.e).flatten (by simp) rfl (by rw [flat_len GKind.e_len]; omega) (flat_imm GKind.e_imm _)) (fin_now (by simp [St.frz, chunks_map GKind.e_len]) rfl rfl)

theorem CloneK_own (l : List GKind) (hl : l.length ≤ 1000000000) : FnD Try.prog 26 [.sl 2 (l.map GKind.e)] [] (.osl 0 2 0 l.length) [some (l.map GKind.e).flatten] := by
  refine fnd_go Try.func26 rfl ?_
  simp [Try.ntmps26]
  refine ops_nil_eq (neq := false) rfl rfl rfl rfl (by simp) rfl rfl (fun b hb => ?_)
  cases b with
  | true =>
    have : l = [] := by
      cases l with
      | nil => rfl
      | cons x r => exact absurd (hb (by simp)) (by simp)
    subst this
    simp
    exact finG_ent (ent_nil (t := 2) (z := 2) rfl) (finG_mk (p := .osl 0 2 0 0) (p2 := .osl 0 2 0 0) [0] [some []] (by simp) (by simp) (by simp) (by simp) (by simp) (by simp) (by simp) (by simp) (by simp))
  | false =>
    have h1 : l.length * 40 ≤ 140737488355328 := by omega
    have h2 : l.length ≤ maxLen := by simp only [maxLen]; omega
    simp [h1, h2]
    exact finG_mk (p := .osl 1 2 0 l.length) (p2 := .osl 0 2 0 l.length) [1] [some (l.map GKind.e).flatten] (by simp) (by simp) (by simp) (by simp) (by simp) (by simp) (by simp) (by simp) (by simp)
end Go.Proofs.Ytmkgechjbbekmaa.Am
