/- Which slot a new entity gets. -/
import Derived.Test.YtemlkbcfplkniaaFree1
import Derived.Test.YtemlkbcfplkniaaCLaw2
set_option linter.unusedVariables false
set_option linter.unusedSimpArgs false
namespace Go.Proofs.Ytemlkbcfplkniaa.Am
open Go Go.RowKit

theorem free_spec {w : GWorld} (hw : checkW w = 0) (hg : w.Gens.length < 256) : ∃ n : Nat, freeM w = ((n : Int), true) ∧ n ≤ w.Gens.length ∧ (∀ it ∈ w.Items, it.Ent.N ≠ n) ∧ (n < w.Gens.length → w.Gens.getD n 0 < 1073741824) := by
  obtain ⟨_, _, _, _, he⟩ := checkW_iff.1 hw
  unfold freeM
  cases hf : (List.range w.Gens.length).findIdx? (fun t => !usedB w.Items t && decide (w.Gens.getD t 0 < 1073741824)) with
  | some t =>
    obtain ⟨h1, h2, _⟩ := List.findIdx?_eq_some_iff_getElem.1 hf
    have h1' : t < w.Gens.length := by simpa using h1
    have h2' : (!usedB w.Items t && decide (w.Gens.getD t 0 < 1073741824)) = true := by simpa using h2
    rw [Bool.and_eq_true] at h2'
    refine ⟨t, rfl, by omega, fun it hit e => ?_, fun _ => of_decide_eq_true h2'.2⟩
    have : usedB w.Items t = true := List.any_eq_true.2 ⟨it, hit, by simpa using e⟩
    rw [this] at h2'
    simp at h2'
  | none =>
    refine ⟨w.Gens.length, ?_, Nat.le_refl _, fun it hit e => ?_, fun h => absurd h (Nat.lt_irrefl _)⟩
    · have : ((w.Gens.length : Nat) : Int) < 256 := by omega
      simp [this]
    · have := ((items_iff.1 he).2 it hit).2.1
      omega
end Go.Proofs.Ytemlkbcfplkniaa.Am
