/- MigrateNames: the law. -/
import Derived.Test.YtmkgechjbbekmaaNames1
import Derived.Test.YtmkgechjbbekmaaNames2
import Derived.Test.YtmkgechjbbekmaaMoves3
set_option linter.unusedVariables false
set_option linter.unusedSimpArgs false
namespace Go.Proofs.Ytmkgechjbbekmaa.Am
open Go Go.RowKit

set_option maxRecDepth 20000 in
theorem names1_fn (x : GMove) : Fn Try.prog 49 [.agg x.e] (kB (decide (x.Do ≠ 2))) := by
  refine fn_go Try.func49 rfl ?_
  simp [Try.ntmps49]
  exact finm (by simp)

set_option maxRecDepth 20000 in
theorem MigrateNames_law (l m : List Int) (hl : l.length * 8 ≤ 140737488351232) (hw : ∀ x ∈ l, (Lit.int .i64 x).wf = true) (hml : m.length * 8 ≤ 140737488351232) (hwm : ∀ x ∈ m, (Lit.int .i64 x).wf = true) :
    Fn Try.prog 11 [slI l, slI m] (kB true) := by
  refine fn_go Try.func11 rfl ?_
  simp [Try.ntmps11]
  refine cal dropped_fn ?_
  simp
  refine cal (World_fn l) ?_
  have hv := worldM_valid l
  generalize worldM l = w at hv ⊢
  obtain ⟨hfi, hfc⟩ := checkW_fine hv
  simp
  refine calD [] (moves_own w.Kinds m hfi.kl hfi.kf (by omega)) ?_ (hren := by simp)
  obtain ⟨M, hM⟩ : ∃ M, movesM w.Kinds m = M := ⟨_, rfl⟩
  obtain ⟨hMn, hMl⟩ := movesM_mem w.Kinds m
  rw [hM] at hMn hMl ⊢
  simp
  refine calD [1] (DeleteFuncM_fn M 49 [] (fun x => decide (x.Do ≠ 2)) (by omega) en_49 rfl (fun x _ => names1_fn x)) ?_
  obtain ⟨A, hA⟩ : ∃ A, M.filter (fun x => !decide (x.Do ≠ 2)) = A := ⟨_, rfl⟩
  have hA2 : ∀ x ∈ A, x.Do = 2 ∧ nameB x.Name = true := fun x hx => by
    rw [← hA] at hx
    obtain ⟨g1, g2⟩ := List.mem_filter.1 hx
    exact ⟨by simpa using g2, (hMn x g1).1⟩
  have hAw : ∀ x ∈ A, x.Whole.Fields.length ≤ 1000000 := fun x hx => by
    rw [← hA] at hx
    have := (hMn x (List.mem_filter.1 hx).1).2
    omega
  have hAl : A.length ≤ 100 := by rw [← hA]; have := List.length_filter_le (fun x : GMove => !decide (x.Do ≠ 2)) M; omega
  have hlaw := world_name hv hA2 hAl
  rw [hA]
  simp
  refine ops_ent (ent_trunc 1 (A.length * 10)) (ops_goH ?_)
  have htk : ∀ Y, ((A.map GMove.e).flatten ++ Y).take (A.length * 10) = (A.map GMove.e).flatten := fun Y => List.take_left' (flat_lenE GMove.e_len A)
  simp only [List.set_cons_succ, List.set_cons_zero, htk]
  refine ops_fz 1 _ ?_
  simp
  refine cal (MWorld_fn w A hfi (fun it hi c hc => by have := ((hfc it hi).2 c hc).2.2.2; omega) hAw (by omega)) ?_
  rcases hlaw with ⟨e0, e1, e2⟩ | e0 | e0
  · simp [e0, e1, e2]
    refine cal (sameItems_fn w.Items w.Items (by have := hfi.il; omega) (fun it hi => ⟨by have := hfi.ic it hi; omega, fun c hc => by have := hfi.iv it hi c hc; omega⟩)) ?_
    simp [e2]
    refine cal (EqualI_fn w.Gens w.Gens (by have := hfi.gl; omega)) ?_
    simp
    exact finm (by simp)
  · simp [e0]
    exact finm (by simp)
  · simp [e0]
    exact finm (by simp)
end Go.Proofs.Ytmkgechjbbekmaa.Am
