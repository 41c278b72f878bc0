/- MigrateUndoes: the law. -/
import Derived.Test.YtbddlekpoelmkaaUndo4
import Derived.Test.YtbddlekpoelmkaaNames1
set_option linter.unusedVariables false
set_option linter.unusedSimpArgs false
namespace Go.Proofs.Ytbddlekpoelmkaa.Am
open Go Go.RowKit

theorem invM_whole (ks : List GKind) (m : GMove) : (invM ks m).1.Whole.Fields = [] := by
  unfold invM
  split
  · rfl
  · split
    · rfl
    · split
      · rfl
      · split
        · rfl
        · split <;> rfl
theorem back_undo : ∀ (l : List GMove) (w : GWorld) (out : List GMove), checkW w = 0 → (kindsGo w.Kinds l).2 = 0 → backGo w.Kinds l out = ([], 4) ∨
    ∃ c : List GMove, backGo w.Kinds l out = (c ++ out.reverse, 0) ∧ c.length = l.length ∧ (∀ x ∈ c, x.Whole.Fields = []) ∧ kindsGo (stepAll w l).Kinds c = (w.Kinds, 0) ∧ stepAll (stepAll w l) c = w
  | [], w, out, _, _ => .inr ⟨[], by simp [backGo], rfl, by simp, rfl, rfl⟩
  | m :: r, w, out, hw, hk => by
    obtain ⟨h1, h2⟩ := kindsGo_cons hk
    rw [backGo]
    by_cases hv : (invM w.Kinds m).2 = false
    · rw [if_pos hv]; exact .inl rfl
    · rw [if_neg hv]
      obtain ⟨u1, u2⟩ := undo_step hw h1 (by simpa using hv)
      rcases back_undo r (stepW w m) (out ++ [(invM w.Kinds m).1]) (checkW_step hw h1) h2 with e | ⟨c, e1, e2, e3, e4, e5⟩
      · exact .inl e
      · refine .inr ⟨c ++ [(invM w.Kinds m).1], by rw [show (oneM w.Kinds m).1 = (stepW w m).Kinds from rfl, e1]; simp, by simp [e2], fun x hx => ?_, ?_, ?_⟩
        · rcases List.mem_append.1 hx with hx | hx
          · exact e3 x hx
          · obtain rfl := List.mem_singleton.1 hx; exact invM_whole _ _
        · have : stepAll w (m :: r) = stepAll (stepW w m) r := rfl
          rw [this, kindsGo_append _ (by rw [e4]), e4]
          show kindsGo (oneM w.Kinds m).1 [(invM w.Kinds m).1] = _
          rw [kindsGo, if_neg (by simp [u1]), u1]
          rfl
        · have : stepAll w (m :: r) = stepAll (stepW w m) r := rfl
          rw [this]
          have e6 : stepAll (stepAll (stepW w m) r) (c ++ [(invM w.Kinds m).1]) = stepW (stepAll (stepAll (stepW w m) r) c) (invM w.Kinds m).1 := by simp [stepAll, List.foldl_append]
          rw [e6, e5, u2]

set_option maxHeartbeats 1000000 in
set_option maxRecDepth 20000 in
theorem MigrateUndoes_law (l m : List Int) (hl : l.length * 8 ≤ 140737488351232) (hw : ∀ x ∈ l, (Lit.int .i64 x).wf = true) (hml : m.length * 8 ≤ 140737488351232) (hwm : ∀ x ∈ m, (Lit.int .i64 x).wf = true) :
    Fn Try.prog 3 [slI l, slI m] (kB true) := by
  refine fn_go Try.func3 rfl ?_
  simp [Try.ntmps3]
  refine cal dropped_fn ?_
  simp
  refine cal (World_fn l) ?_
  have hv := worldM_valid l
  generalize worldM l = w at hv ⊢
  obtain ⟨hfi, hfc⟩ := checkW_fine hv
  have hvals : ∀ {w : GWorld}, checkW w = 0 → ∀ it ∈ w.Items, ∀ c ∈ it.Comps, c.Vals.length ≤ 1000 := fun h it hi c hc => by have := (((checkW_fine h).2 it hi).2 c hc).2.2.2; omega
  simp
  refine cal (moves_fn w.Kinds m hfi.kl hfi.kf (by omega)) ?_
  obtain ⟨hMn, hMl⟩ := movesM_mem w.Kinds m
  have hMr := movesM_run w.Kinds m
  generalize movesM w.Kinds m = a at hMn hMl hMr ⊢
  have haw : ∀ x ∈ a, x.Whole.Fields.length ≤ 1000000 := fun x hx => by have := (hMn x hx).2; omega
  obtain ⟨hv1, hk1, hg1, hi1⟩ := stepAll_ok hv hMr
  obtain ⟨hW1, hK1⟩ := worldMv_ok hv hMr (by omega)
  simp
  have hWf1 := MWorld_fn w a hfi (hvals hv) haw (by omega)
  rw [hW1] at hWf1
  refine cal hWf1 ?_
  have hbu := back_undo a w [] hv hMr
  have hbM : backM w.Kinds a = backGo w.Kinds a [] := by unfold backM; rw [if_neg (by simp [hK1])]
  have hBf := Back_fn w.Kinds a hfi.kl hfi.kf haw (by omega)
  rw [hbM] at hBf
  generalize stepAll w a = v at hv1 hk1 hg1 hi1 hbu ⊢
  obtain ⟨hfi1, _⟩ := checkW_fine hv1
  simp
  refine cal hBf ?_
  rcases hbu with e | ⟨c, e1, e2, e3, e4, e5⟩
  · simp [e]
    exact finm (by simp)
  · have hcr : (kindsGo v.Kinds c).2 = 0 := by rw [e4]
    obtain ⟨hW2, _⟩ := worldMv_ok hv1 hcr (by omega)
    rw [e5] at hW2
    have hWf2 := MWorld_fn v c hfi1 (hvals hv1) (fun x hx => by rw [e3 x hx]; simp) (by omega)
    rw [hW2] at hWf2
    have e2' : (c.length : Int) = a.length := by omega
    simp [e1]
    refine cal hWf2 ?_
    simp [e2']
    refine cal (same_fn w w hfi) ?_
    simp
    exact finm (by simp)
end Go.Proofs.Ytbddlekpoelmkaa.Am
