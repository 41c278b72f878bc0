/- EventParts, walked. -/
import Derived.Test.YtmkgechjbbekmaaPart5
set_option linter.unusedVariables false
set_option linter.unusedSimpArgs false
namespace Go.Proofs.Ytmkgechjbbekmaa.Am
open Go Go.RowKit

theorem counts_two : countsL [⟨0, ⟨0, 0⟩, 0⟩, ⟨0, ⟨0, 0⟩, 0⟩] = [⟨0, 2⟩] := by decide

theorem sumC_take (l : List GCount) (i : Nat) (h : i < l.length) : sumC (l.take (i + 1)) = sumC (l.take i) + l[i].N := by
  rw [← List.take_append_getElem h, sumC_app]; simp [sumC]
theorem sumC_bd (l : List GCount) (h : ∀ x ∈ l, 0 ≤ x.N) (i : Nat) : 0 ≤ sumC (l.take i) ∧ sumC (l.take i) ≤ sumC l := by
  have nn : ∀ r : List GCount, (∀ x ∈ r, 0 ≤ x.N) → 0 ≤ sumC r := fun r hr => by
    induction r with
    | nil => simp [sumC]
    | cons a r ih => rw [sumC_cons]; have := hr a (by simp); have := ih fun x hx => hr x (by simp [hx]); omega
  have h1 := nn (l.take i) fun x hx => h x (List.mem_of_mem_take hx)
  have h2 := nn (l.drop i) fun x hx => h x (List.mem_of_mem_drop hx)
  have := sumC_split l i
  omega

set_option maxRecDepth 20000 in
theorem EventParts_law (l : List Int) (m : List GEvent) (hw : ∀ x ∈ l, (Lit.int .i64 x).wf = true) (hwm : ∀ e ∈ m, e.wf) (hm : m.length * 32 ≤ 140737488351232) : Fn Try.prog 9 [slI l, .sl 4 (m.map GEvent.e)] (kB true) := by
  refine fn_go Try.func9 rfl ?_
  simp [Try.ntmps9]
  refine ops_fz 0 [kI 0, kI 0, kI 0, kI 0, kI 0, kI 0, kI 0, kI 0] ?_
  simp
  refine cal (Counts_fn [⟨0, ⟨0, 0⟩, 0⟩, ⟨0, ⟨0, 0⟩, 0⟩] (by simp)) ?_ (hren := by simp [GEvent.e, chunks, List.range, List.range.loop])
  simp [counts_two]
  refine cal (Counts_fn m hm) ?_
  simp
  obtain ⟨C, hC⟩ : ∃ C, countsL m = C := ⟨_, rfl⟩
  have hm2 : m.take m.length = m := List.take_of_length_le (Nat.le_refl _)
  have hClen : C.length ≤ m.length := by have := countsL_len m m.length (Nat.le_refl _); rw [hm2, hC] at this; exact this
  have hCsum : sumC C = m.length := by have := countsL_sum m m.length (Nat.le_refl _); rw [hm2, hC] at this; exact this
  have hCbd : ∀ x ∈ C, 0 ≤ x.N ∧ x.N ≤ (m.length : Int) := by have := countsL_bd m m.length (Nat.le_refl _); rw [hm2, hC] at this; exact this
  have hCg : GoodC m C := by have := countsL_good m m.length (Nat.le_refl _); rw [hm2, hC] at this; exact this
  have hCt := sumC_bd C (fun x hx => (hCbd x hx).1)
  rw [hC]
  refine awp_loop (fun i : Nat => ⟨84, [(0, slI l), (1, .sl 4 (m.map GEvent.e)), (5, .ptr 0 0), (6, kI (sumC (C.take i))), (20, .sl 2 (C.map GCount.e)), (21, kI C.length), (22, kI i)], [some [kI (-9223372036854775808), kI 9223372036854775807]], 0⟩) (fun i => i ≤ C.length) (fun i => C.length - i) 0 ?_ ?_ ?_
  · exact entm [1] (hT := by simp [sumC])
  · simp
  · intro i hi
    refine awp_go ?_
    by_cases hlt : i < C.length
    · simp [hlt]
      refine cal (Of_fn m C[i].System (-9223372036854775808) 9223372036854775807 hm) ?_
      have hof := of_all m hwm C[i].System
      have hnum := hCg.num C[i] (List.getElem_mem hlt)
      rw [hof]
      have hs := sumC_take C i hlt
      have hb := hCt (i + 1)
      have hb2 := hCt i
      by_cases ha : C[i].System = -1
      · simp [ha]
        rw [wrap_id (by omega) (by omega), wrap_id (by omega) (by omega)]
        exact ⟨i + 1, by omega, by omega, entm [0] (hT := by simp [hs])⟩
      · have hn : ((m.filter fun e => decide (e.System = C[i].System)).length : Int) = C[i].N := by rw [hnum, cntP, List.countP_eq_length_filter]
        simp [ha, hn]
        rw [wrap_id (by omega) (by omega), wrap_id (by omega) (by omega)]
        exact ⟨i + 1, by omega, by omega, entm [0] (hT := by simp [hs])⟩
    · simp [hlt]
      have : i = C.length := by omega
      subst this
      rw [List.take_of_length_le (Nat.le_refl _), hCsum]
      refine cal (World_fn l) ?_
      simp
      refine cal (Split_fn (worldM l) m (by have := worldM_items l; omega) hm) ?_
      have hsplit : (m.filter (splP (worldM l).Items)).length + (m.filter fun e => !splP (worldM l).Items e).length = m.length := by
        have : ∀ (p : GEvent → Bool) (r : List GEvent), (r.filter p).length + (r.filter fun e => !p e).length = r.length := fun p r => by
          induction r with
          | nil => rfl
          | cons a r ih => cases h : p a <;> simp [h] <;> omega
        exact this _ m
      simp
      have h1 : (((m.filter (splP (worldM l).Items)).length : Int) + ((m.filter fun e => !splP (worldM l).Items e).length : Int)) = m.length := by omega
      rw [wrap_id (by omega) (by omega)]
      simp [h1]
      refine cal (Of_fn m (-1) (-9223372036854775808) 9223372036854775807 hm) ?_
      rw [of_all m hwm (-1)]
      simp
      refine cal (Last_fn m hm) ?_
      have hl := lastL_len m m.length (Nat.le_refl _)
      rw [hm2] at hl
      simp [hl]
      exact finm
end Go.Proofs.Ytmkgechjbbekmaa.Am
