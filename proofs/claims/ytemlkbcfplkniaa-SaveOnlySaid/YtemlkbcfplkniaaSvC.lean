/- The law SaveOnly. -/
import Derived.Test.YtemlkbcfplkniaaSvB
set_option linter.unusedVariables false
set_option linter.unusedSimpArgs false
namespace Go.Proofs.Ytemlkbcfplkniaa.Am
open Go Go.RowKit

set_option maxRecDepth 20000 in
theorem EqB_fn (a b : List Int) (ha : a.length ≤ 1000000000) : Fn Try.prog 33 [slB a, slB b] (kB (decide (a = b))) := by
  refine fn_go Try.func33 rfl ?_
  simp [Try.ntmps33]
  by_cases h : a.length = b.length
  · have h' : (a.length : Int) = b.length := by omega
    simp [h']
    refine awp_loop (fun i : Nat => ⟨26, [(0, slB a), (1, slB b), (12, kI b.length), (13, kI i)], [], 0⟩) (fun i => i ≤ a.length ∧ a.take i = b.take i) (fun i => a.length - i) 0 ?_ ?_ ?_
    · exact entm []
    · simp
    · intro i ⟨hi, hp⟩
      refine awp_go ?_
      by_cases hlt : i < b.length
      · have hla : i < a.length := by omega
        simp [hlt]
        refine awp_draw follows_mix [] [(0, [0]), (0, [0]), (0, [0]), (0, [0]), (0, [0]), (0, [0]), (0, [0]), (0, [0]), (0, [0])] 0 (by kernel_rfl) rfl ?_
        simp [hlt, hla]
        by_cases he : a[i] = b[i]
        · simp [he]
          rw [wrap_id (by omega) (by omega)]
          exact ⟨i + 1, ⟨by omega, take_extG hla hlt hp he⟩, by omega, entm []⟩
        · simp [he]
          have hne : a ≠ b := fun e => by subst e; exact he rfl
          exact finm (by simp [hne])
      · simp [hlt]
        have e1 : a.take i = a := List.take_of_length_le (by omega)
        have e2 : b.take i = b := List.take_of_length_le (by omega)
        exact finm (by simp [show a = b by rw [← e1, hp, e2]])
  · have h' : ¬ (a.length : Int) = b.length := by omega
    have hne : a ≠ b := fun e => h (by rw [e])
    simp [h']
    exact finm (by simp [hne])
theorem readM_len {b : List Int} (h : (readM b).2 = 0) : b.length ≤ 1000000000 := by
  unfold readM at h
  split at h
  · simp at h
  · omega

theorem readB_cases (body b : List Int) : readB body b = (w00, 3) ∨ ∃ W, readB body b = (W, 0) ∧ Fine W ∧ (∀ it ∈ W.Items, ∀ c ∈ it.Comps, c.Vals.length ≤ 1000) ∧ writeM W = (b, 0) := by
  unfold readB
  split
  · exact .inl rfl
  · split
    · exact .inl rfl
    · rename_i h6
      have hce := rkinds_ok body (rget body (0, false) 8).2 (by simpa using h6)
      obtain ⟨ce1, ce2⟩ := checkE_le hce
      obtain ⟨hfi, hvl⟩ := ritemsM_fine body (rkinds body (rget body (0, false) 8).2).1 (rkinds body (rget body (0, false) 8).2).2 ce1 ce2
      split
      · exact .inl rfl
      · split
        · exact .inl rfl
        · rename_i h9
          refine .inr ⟨_, rfl, hfi, hvl, ?_⟩
          have h1 := fun e => h9 (.inl e)
          have h2 := fun e => h9 (.inr e)
          exact Prod.ext (Decidable.byContradiction h2) (Decidable.byContradiction h1)
theorem readM_cases (b : List Int) : (readM b = (w00, 2) ∨ readM b = (w00, 14) ∨ readM b = (w00, 13) ∨ readM b = (w00, 3)) ∨ ∃ W, readM b = (W, 0) ∧ Fine W ∧ (∀ it ∈ W.Items, ∀ c ∈ it.Comps, c.Vals.length ≤ 1000) ∧ writeM W = (b, 0) := by
  unfold readM
  split
  · exact .inl (.inl rfl)
  · split
    · exact .inl (.inr (.inl rfl))
    · split
      · exact .inl (.inr (.inr (.inl rfl)))
      · rcases readB_cases (b.take (b.length - 8)) b with h | h
        · exact .inl (.inr (.inr (.inr h)))
        · exact .inr h

set_option maxRecDepth 20000 in
theorem SaveOnly_law (l : List Int) (hl : l.length * 8 ≤ 140737488351232) (hw : ∀ n ∈ l, (Lit.int .i64 n).wf = true) : Fn Try.prog 6 [slI l] (kB true) := by
  refine fn_go Try.func6 rfl ?_
  simp [Try.ntmps6]
  refine cal saved_fn ?_
  simp
  refine cal (Bytes_fn l (by omega)) ?_
  have hb := bytesM_ok l
  generalize bytesM l = b at hb ⊢
  simp
  have hR := Read_fn b hb
  refine cal hR ?_
  rcases readM_cases b with (h | h | h | h) | ⟨W, h, h1, h2, h3⟩
  · rw [h]; simp; exact finm
  · rw [h]; simp; exact finm
  · rw [h]; simp; exact finm
  · rw [h]; simp; exact finm
  · rw [h]
    simp
    have hW := Write_fn W h1 h2
    rw [h3] at hW
    refine cal hW ?_
    simp
    refine cal (EqB_fn b b (readM_len (by rw [h]))) ?_
    simp
    exact finm
end Go.Proofs.Ytemlkbcfplkniaa.Am
