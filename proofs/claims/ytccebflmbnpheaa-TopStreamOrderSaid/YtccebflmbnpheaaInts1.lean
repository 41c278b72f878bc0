/- Package world: a world as a list of numbers. -/
import Derived.Test.YtccebflmbnpheaaWCopy
import Derived.Test.YtccebflmbnpheaaKind6
set_option linter.unusedVariables false
set_option linter.unusedSimpArgs false
namespace Go.Proofs.Ytccebflmbnpheaa.Am
open Go Go.RowKit

def nameI (s : Str) : List Int := (s.size : Int) :: s.data.toList.map fun c => (c.toNat : Int)
def fieldI (f : GField) : List Int := nameI f.Name ++ [f.Bits, f.Low]
def kindI (k : GKind) : List Int := nameI k.Name ++ ((k.Fields.length : Int) :: k.Fields.flatMap fieldI)
def compI (c : GComp) : List Int := [c.Kind, (c.Vals.length : Int)] ++ c.Vals
def itemI (it : GItem) : List Int := [it.Ent.N, it.Ent.Gen, (it.Comps.length : Int)] ++ it.Comps.flatMap compI
def tailI (w : GWorld) : List Int := (w.Gens.length : Int) :: (w.Gens ++ ((w.Items.length : Int) :: w.Items.flatMap itemI))
def intsM (w : GWorld) : List Int := (w.Kinds.length : Int) :: (w.Kinds.flatMap kindI ++ tailI w)

theorem bytes_drop (s : Str) (i : Nat) (h : i < s.size) : (s.data.toList.map fun c => (c.toNat : Int)).drop i = (s[i].toNat : Int) :: (s.data.toList.map fun c => (c.toNat : Int)).drop (i + 1) := by
  have hl : i < (s.data.toList.map fun c => (c.toNat : Int)).length := by
    rw [List.length_map, Array.length_toList]; exact h
  rw [List.drop_eq_getElem_cons hl]
  simp
  rfl

theorem len_le {a b c : List Int} (h : a ++ b = c) : a.length ≤ c.length := by rw [← h]; simp

set_option maxRecDepth 20000 in
theorem name_fn (acc : List Int) (s : Str) (h : acc.length + s.size ≤ 4000000000) :
    FnD Try.prog 53 [kS s, .ptr 0 0] [[.osl 1 1 0 acc.length], acc.map kI] (.tup []) [some [.osl 2 1 0 (acc ++ nameI s).length], none, some ((acc ++ nameI s).map kI)] := by
  refine fnd_go Try.func53 rfl ?_
  have h1 : (acc.length + 1) * 8 ≤ 140737488355328 := by omega
  have h2 : acc.length + 1 ≤ maxLen := by simp only [maxLen]; omega
  have hT : (nameI s).length = s.size + 1 := by rw [nameI, List.length_cons, List.length_map, Array.length_toList]; rfl
  obtain ⟨B, hB⟩ : ∃ B, (s.data.toList.map fun c => (c.toNat : Int)) = B := ⟨_, rfl⟩
  have hBl : B.length = s.size := by rw [← hB, List.length_map, Array.length_toList]; rfl
  have hbd := bytes_drop s
  rw [hB] at hbd
  simp [Try.ntmps53, h1, h2]
  refine awp_loop (fun x : Nat × List Int => ⟨22, [(0, kS s), (1, .ptr 0 0), (9, kS s), (10, kI s.size), (11, kI x.1)], [some [.osl 2 1 0 x.2.length], none, some (x.2.map kI)], 2⟩)
    (fun x => x.1 ≤ s.size ∧ x.2 ++ B.drop x.1 = acc ++ nameI s) (fun x => s.size - x.1) (0, acc ++ [(s.size : Int)]) ?_ ?_ ?_
  · exact entm [0, 1, 3]
  · simp [nameI, hB]
  · rintro ⟨i, a⟩ ⟨hi, hrun⟩
    simp only at hi hrun
    have hal := len_le hrun
    rw [List.length_append, hT] at hal
    refine awp_go ?_
    by_cases hlt : i < s.size
    · rw [hbd i hlt] at hrun
      have g1 : (a.length + 1) * 8 ≤ 140737488355328 := by omega
      have g2 : a.length + 1 ≤ maxLen := by simp only [maxLen]; omega
      have g3 := s[i].toNat_lt
      simp [hlt]
      refine awp_drawS follows_mix [(0, 0), (0, 0), (0, 0), (0, 0), (0, 0), (4, 3), (4, 4), (1, 0)] 3 5 [(0, 5)] (by kernel_rfl) rfl rfl ?_
      simp [hlt, g1, g2]
      rw [wrap_id (by omega) (by omega)]
      rw [wrap_id (by omega) (by omega)]
      exact ⟨i + 1, a ++ [(s[i].toNat : Int)], ⟨by omega, by rw [← hrun]; simp⟩, by omega, entm [0, 1, 4]⟩
    · have : i = s.size := by omega
      subst this
      rw [List.drop_of_length_le (by omega), List.append_nil] at hrun
      simp
      exact finGm [0, 1, 2] (hB := by simp [hrun])
end Go.Proofs.Ytccebflmbnpheaa.Am
