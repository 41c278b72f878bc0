/- Events: Split. -/
import Derived.Test.YtmkgechjbbekmaaPart3
set_option linter.unusedVariables false
set_option linter.unusedSimpArgs false
namespace Go.Proofs.Ytmkgechjbbekmaa.Am
open Go Go.RowKit

set_option maxRecDepth 20000 in
theorem Split_fn (w : GWorld) (l : List GEvent) (hw : w.Items.length ≤ 4611686018427387904) (hl : l.length * 32 ≤ 140737488351232) :
    Fn Try.prog 42 [.agg w.e, .sl 4 (l.map GEvent.e)] (.tup [.sl 4 ((l.filter (splP w.Items)).map GEvent.e), .sl 4 ((l.filter fun e => !splP w.Items e).map GEvent.e)]) := by
  refine fn_go Try.func42 rfl ?_
  simp [Try.ntmps42]
  refine awp_loop (fun i : Nat => ⟨31, [(2, .ptr 0 0), (6, .osl 1 4 0 ((l.take i).filter (splP w.Items)).length), (7, .osl 2 4 0 ((l.take i).filter fun e => !splP w.Items e).length), (10, .sl 4 (l.map GEvent.e)), (11, kI l.length), (12, kI i)],
    [some w.e, some (((l.take i).filter (splP w.Items)).map GEvent.e).flatten, some (((l.take i).filter fun e => !splP w.Items e).map GEvent.e).flatten], 0⟩) (fun i => i ≤ l.length) (fun i => l.length - i) 0 ?_ ?_ ?_
  · exact ((ent_nil (t := 6) (z := 4) rfl).trans (ent_nil (t := 7) (z := 4) rfl)).trans (entm [0, 1, 2])
  · simp
  · intro i hi
    refine awp_go ?_
    by_cases hlt : i < l.length
    · have hla := filter_take_le (splP w.Items) l i
      have hlb := filter_take_le (fun e => !splP w.Items e) l i
      have hsa := filter_take (splP w.Items) l i hlt
      have hsb := filter_take (fun e => !splP w.Items e) l i hlt
      generalize (l.take i).filter (splP w.Items) = a at hla hsa ⊢
      generalize (l.take i).filter (fun e => !splP w.Items e) = b at hlb hsb ⊢
      have ha1 : (a.length + 1) * 32 ≤ 140737488355328 := by omega
      have ha2 : a.length + 1 ≤ maxLen := by simp only [maxLen]; omega
      have hb1 : (b.length + 1) * 32 ≤ 140737488355328 := by omega
      have hb2 : b.length + 1 ≤ maxLen := by simp only [maxLen]; omega
      simp [hlt]
      refine ops_fz 3 l[i].e ?_
      simp
      refine calS (ContainsFuncIt_fn w.Items 76 [.eptr l[i].e] (fun it => decide (it.Ent = l[i].Ent)) hw (by simp) (by simp) fun it _ => Split1_fn it l[i]) ?_
      rw [show (w.Items.any fun it => decide (it.Ent = l[i].Ent)) = splP w.Items l[i] from rfl]
      cases hp : splP w.Items l[i] with
      | true =>
        simp [hp] at hsa hsb
        simp [ha1, ha2]
        rw [wrap_id (by omega) (by omega)]
        exact ⟨i + 1, by omega, by omega, entm [0, 5, 2] (hT := by simp [hsa, hsb]) (hB := by simp [hsa, hsb])⟩
      | false =>
        simp [hp] at hsa hsb
        simp [hb1, hb2]
        rw [wrap_id (by omega) (by omega)]
        exact ⟨i + 1, by omega, by omega, entm [0, 1, 5] (hT := by simp [hsa, hsb]) (hB := by simp [hsa, hsb])⟩
    · simp [hlt]
      have : i = l.length := by omega
      subst this
      refine fin_fz 1 _ ?_
      simp
      refine fin_fz 2 _ ?_
      simp
      exact finm (by simp)
end Go.Proofs.Ytmkgechjbbekmaa.Am
