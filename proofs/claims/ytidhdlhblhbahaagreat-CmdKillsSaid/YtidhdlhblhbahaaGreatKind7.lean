/- slices.Equal of numbers; kind.Holds. -/
import Derived.Test.YtidhdlhblhbahaaGreatKind7h
set_option linter.unusedVariables false
set_option linter.unusedSimpArgs false
namespace Go.Proofs.YtidhdlhblhbahaaGreat.Am
open Go Go.RowKit

set_option maxRecDepth 20000 in
theorem EqualI_fn (a b : List Int) (ha : a.length ≤ 1000000000) : Fn Tryz.prog 29 [slI a, slI b] (kB (decide (a = b))) := by
  refine fn_go Tryz.func29 rfl ?_
  simp [Tryz.ntmps29, slI]
  by_cases h : a.length = b.length
  · have h' : (a.length : Int) = b.length := by omega
    simp [h']
    refine awp_loop (fun i : Nat => ⟨26, [(0, slI a), (1, slI b), (12, kI b.length), (13, kI i)], [], 0⟩) (fun i => i ≤ a.length ∧ a.take i = b.take i) (fun i => a.length - i) 0 ?_ ?_ ?_
    · exact ent_mk [] rfl rfl rfl (by simp) (by simp) (by simp) (by simp [slI]) (by simp)
    · simp
    · intro i ⟨hi, hp⟩
      refine awp_go ?_
      by_cases hlt : i < b.length
      · have hla : i < a.length := by omega
        simp [hlt]
        refine awp_draw follows_mix [] [(0, [0]), (0, [0]), (0, [0]), (0, [0]), (0, [0]), (0, [0]), (0, [0]), (0, [0]), (0, [0])] 0 (by kernel_rfl) rfl ?_
        simp [slI, hlt, hla]
        by_cases he : a[i] = b[i]
        · simp [he]
          rw [wrap_id (by omega) (by omega)]
          exact ⟨i + 1, ⟨by omega, take_ext hla hlt hp he⟩, by omega, ent_mk [] rfl rfl rfl (by simp) (by simp) (by simp) (by simp [slI]) (by simp)⟩
        · simp [he]
          have hne : a ≠ b := fun e => by subst e; exact he rfl
          exact fin_now (by simp [hne]) rfl rfl
      · simp [hlt]
        have hab : a = b := by
          have e1 : a.take i = a := List.take_of_length_le (by omega)
          have e2 : b.take i = b := List.take_of_length_le (by omega)
          rw [← e1, ← e2]; exact hp
        exact fin_now (by simp [hab]) rfl rfl
  · have h' : ¬ ((a.length : Int) = b.length) := by omega
    simp [h']
    have hne : a ≠ b := fun e => by subst e; exact h rfl
    exact fin_now (by simp [hne]) rfl rfl
end Go.Proofs.YtidhdlhblhbahaaGreat.Am
