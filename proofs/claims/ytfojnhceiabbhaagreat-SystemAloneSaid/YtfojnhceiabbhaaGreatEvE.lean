/- slices of events: Equal. -/
import Derived.Test.YtfojnhceiabbhaaGreatDat
set_option linter.unusedVariables false
set_option linter.unusedSimpArgs false
namespace Go.Proofs.YtfojnhceiabbhaaGreat.Am
open Go Go.RowKit

set_option maxRecDepth 20000 in
theorem EqualE_fn (a b : List GEvent) (ha : a.length ≤ 1000000000) : Fn Tryz.prog 18 [.sl 4 (a.map GEvent.e), .sl 4 (b.map GEvent.e)] (kB (decide (a = b))) := by
  refine fn_go Tryz.func18 rfl ?_
  simp [Tryz.ntmps18]
  by_cases h : a.length = b.length
  · have h' : (a.length : Int) = b.length := by omega
    simp [h']
    refine awp_loop (fun i : Nat => ⟨26, [(0, .sl 4 (a.map GEvent.e)), (1, .sl 4 (b.map GEvent.e)), (12, kI b.length), (13, kI i)], [], 0⟩) (fun i => i ≤ a.length ∧ a.take i = b.take i) (fun i => a.length - i) 0 ?_ ?_ ?_
    · exact entm []
    · simp
    · intro i ⟨hi, hp⟩
      refine awp_go ?_
      by_cases hlt : i < b.length
      · have hla : i < a.length := by omega
        simp [hlt]
        refine awp_draw follows_mix [] [(0, [0]), (0, [0]), (0, [0]), (0, [0]), (0, [0]), (0, [0]), (0, [0]), (0, [0]), (0, [0])] 0 (by kernel_rfl) rfl ?_
        simp [hlt, hla]
        by_cases he : a[i] = b[i]
        · simp [he]
          rw [wrap_id (by omega) (by omega)]
          exact ⟨i + 1, ⟨by omega, take_extG hla hlt hp he⟩, by omega, entm []⟩
        · simp [he]
          have hne : a ≠ b := fun e => by subst e; exact he rfl
          exact finm (by simp [hne])
      · simp [hlt]
        have hab : a = b := by
          have e1 : a.take i = a := List.take_of_length_le (by omega)
          have e2 : b.take i = b := List.take_of_length_le (by omega)
          rw [← e1, ← e2]; exact hp
        exact finm (by simp [hab])
  · have h' : ¬ ((a.length : Int) = b.length) := by omega
    simp [h']
    have hne : a ≠ b := fun e => by subst e; exact h rfl
    exact finm (by simp [hne])

end Go.Proofs.YtfojnhceiabbhaaGreat.Am
