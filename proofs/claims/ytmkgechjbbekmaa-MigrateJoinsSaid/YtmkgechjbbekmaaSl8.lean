/- The library's slice functions, at the program's types. -/
import Derived.Test.YtmkgechjbbekmaaSl7
set_option linter.unusedVariables false
set_option linter.unusedSimpArgs false
namespace Go.Proofs.Ytmkgechjbbekmaa.Am
open Go Go.RowKit

set_option maxRecDepth 20000 in
theorem ConcatBM_fn (ls : List (List GMove)) (r : List GMove) (hr : ls.flatten = r) (hl : r.length ≤ 1000000) (hls : ls.length ≤ 1000000000) : FnD Try.prog 52 [.osl 0 1 0 ls.length] [ls.map fun l => .sl 10 (l.map GMove.e)] (.sl 10 (r.map GMove.e)) [some (ls.map fun l => .sl 10 (l.map GMove.e))] := by
  refine fnd_go Try.func52 rfl ?_
  simp [Try.ntmps52]
  have himm : (ls.map fun l => .sl 10 (l.map GMove.e)).all PV.immB = true := by simp [List.all_map]
  have himg : (∀ θ, renL θ (ls.map fun l => .sl 10 (l.map GMove.e)) = ls.map fun l => .sl 10 (l.map GMove.e)) ∧ (∀ n, ltL n (ls.map fun l => .sl 10 (l.map GMove.e)) = true) ∧ (∀ b cs, fzL b cs (ls.map fun l => .sl 10 (l.map GMove.e)) = ls.map fun l => .sl 10 (l.map GMove.e)) := ⟨fun θ => imms_ren himm θ, fun n => imms_lt himm n, fun b cs => imms_fz himm b cs⟩
  have hpre : ∀ i, (ls.take i).flatten.length ≤ r.length := fun i => by
    have : ls.flatten = (ls.take i).flatten ++ (ls.drop i).flatten := by rw [← List.flatten_append, List.take_append_drop]
    rw [← hr, this]; simp only [List.length_append]; omega
  have hsucc : ∀ i (h : i < ls.length), (ls.take (i + 1)).flatten = (ls.take i).flatten ++ ls[i] := fun i h => by
    rw [← List.take_append_getElem h, List.flatten_append]; simp
  have hall : (ls.take ls.length).flatten = r := by rw [List.take_of_length_le (Nat.le_refl _), hr]
  refine awp_loop (fun x : Nat × Nat => ⟨36, [(0, .osl 0 1 0 ls.length), (3, kI x.2), (9, .osl 0 1 0 ls.length), (10, kI ls.length), (11, kI x.1)], [some (ls.map fun l => .sl 10 (l.map GMove.e))], 1⟩) (fun x => x.1 ≤ ls.length ∧ x.2 = (ls.take x.1).flatten.length) (fun x => ls.length - x.1) (0, 0) ?_ ?_ ?_
  · exact entm [0] (hB := by simp [himg])
  · exact ⟨by simp, rfl⟩
  · rintro ⟨i, m⟩ ⟨hi, hm⟩
    simp only at hi hm
    refine awp_go ?_
    by_cases hlt : i < ls.length
    · have hs := hsucc i hlt
      have h1 := hpre (i + 1)
      have h0 : (ls.take (i + 1)).flatten.length = m + ls[i].length := by rw [hs, List.length_append, hm]
      rw [h0] at h1
      simp [hlt]
      rw [wrap_id (by omega) (by omega)]
      have h2 : ¬ ((m : Int) + ((ls[i].length : Nat) : Int) < 0) := by omega
      simp [h2]
      rw [wrap_id (by omega) (by omega)]
      exact ⟨i + 1, m + ls[i].length, ⟨by omega, by simpa using h0.symm⟩, by omega, entm [0] (hB := by simp [himg])⟩
    · have hin : i = ls.length := by omega
      subst hin
      rw [hall] at hm
      subst hm
      simp
      refine calD [] (GrowNilM_fn (r.length) (by omega) (by omega)) ?_ (hren := by simp)
      simp
      refine awp_loop (fun x : Nat × List GMove => ⟨36, [(6, .osl 1 10 0 x.2.length), (25, .osl 0 1 0 ls.length), (26, kI ls.length), (27, kI x.1)], [some (ls.map fun l => .sl 10 (l.map GMove.e)), some (x.2.map GMove.e).flatten], 1⟩) (fun x => x.1 ≤ ls.length ∧ x.2 = (ls.take x.1).flatten) (fun x => ls.length - x.1) (0, []) ?_ ?_ ?_
      · exact entm [0, 1] (hB := by simp [himg])
      · exact ⟨by simp, rfl⟩
      · rintro ⟨i, acc⟩ ⟨hi, hm⟩
        simp only at hi hm
        refine awp_go ?_
        by_cases hlt : i < ls.length
        · have hs := hsucc i hlt
          have h1 := hpre (i + 1)
          rw [hs, List.length_append, ← hm] at h1
          have h2 : (acc.length + ls[i].length) * 136 ≤ 140737488355328 := by omega
          have h3 : acc.length + ls[i].length ≤ maxLen := by simp only [maxLen]; omega
          simp [hlt, h2, h3]
          rw [wrap_id (by omega) (by omega)]
          exact ⟨i + 1, acc ++ ls[i], ⟨by omega, by rw [hs, hm]⟩, by omega, entm [0, 2] (hB := by simp [himg])⟩
        · have hin : i = ls.length := by omega
          subst hin
          rw [hall] at hm
          subst hm
          simp
          refine finG_fz 1 (acc.map GMove.e).flatten ?_
          simp [himg]
          exact finGm [0] (hres := by simp [slI_def, chunks_ints]) (hB := by simp [himg])

end Go.Proofs.Ytmkgechjbbekmaa.Am
