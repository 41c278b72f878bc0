/- Package migrate: one move on kinds. -/
import Derived.Test.YtbddlekpoelmkaaMig1
import Derived.Test.YtbddlekpoelmkaaCopy2
import Derived.Test.YtbddlekpoelmkaaSl6
set_option linter.unusedVariables false
set_option linter.unusedSimpArgs false
namespace Go.Proofs.Ytbddlekpoelmkaa.Am
open Go Go.RowKit

def k0 : GKind := ⟨⟨#[]⟩, []⟩
def f0 : GField := ⟨⟨#[]⟩, 0, 0⟩
/-- The kinds after a move at kind i, field j. -/
def oneK (ks : List GKind) (m : GMove) (i j : Nat) : List GKind :=
  if m.Do = 0 then ks ++ [m.Whole]
  else if m.Do = 1 then ks.take i ++ ks.drop (i + 1)
  else if m.Do = 2 then ks.set i ⟨m.Name, (ks.getD i k0).Fields⟩
  else if m.Do = 3 then ks.set i ⟨(ks.getD i k0).Name, (ks.getD i k0).Fields ++ [m.New]⟩
  else if m.Do = 4 then ks.set i ⟨(ks.getD i k0).Name, (ks.getD i k0).Fields.take j ++ (ks.getD i k0).Fields.drop (j + 1)⟩
  else if m.Do = 5 then ks.set i ⟨(ks.getD i k0).Name, (ks.getD i k0).Fields.set j ⟨m.Name, ((ks.getD i k0).Fields.getD j f0).Bits, ((ks.getD i k0).Fields.getD j f0).Low⟩⟩
  else ks.set i ⟨(ks.getD i k0).Name, (ks.getD i k0).Fields.set j ⟨((ks.getD i k0).Fields.getD j f0).Name, m.New.Bits, m.New.Low⟩⟩
def oneM (ks : List GKind) (m : GMove) : List GKind × Int :=
  if (placeM ks m).2.2 ≠ 0 then ([], (placeM ks m).2.2)
  else if checkE (oneK ks m (placeM ks m).1.toNat (placeM ks m).2.1.toNat) ≠ 0 then ([], checkE (oneK ks m (placeM ks m).1.toNat (placeM ks m).2.1.toNat))
  else (oneK ks m (placeM ks m).1.toNat (placeM ks m).2.1.toNat, 0)

/-- What place answers where there is no error. -/
theorem placeM_ok {ks : List GKind} {m : GMove} (h : (placeM ks m).2.2 = 0) : (m.Do = 0) ∨
    ∃ i, ∃ hi : i < ks.length, (placeM ks m).1 = (i : Int) ∧ 0 < m.Do ∧ m.Do ≤ 6 ∧ (m.Do ≤ 3 ∨ ∃ j, j < ks[i].Fields.length ∧ (placeM ks m).2.1 = (j : Int)) := by
  unfold placeM at h ⊢
  split at h
  · simp at h
  · rename_i h1
    rw [if_neg h1]
    split at h
    · exact .inl ‹_›
    · rename_i h2
      rw [if_neg h2]
      cases hk : ks.findIdx? (fun k => decide (k.Name = m.Kind)) with
      | none => rw [hk] at h; simp at h
      | some i =>
        rw [hk] at h
        have hi : i < ks.length := (List.findIdx?_eq_some_iff_getElem.1 hk).1
        simp only at h ⊢
        by_cases h3 : m.Do ≤ 3
        · rw [if_pos h3]
          exact .inr ⟨i, hi, rfl, by omega, by omega, .inl h3⟩
        · rw [if_neg h3] at h ⊢
          have hg : ks.getD i ⟨⟨#[]⟩, []⟩ = ks[i] := by simp [List.getD, hi]
          rw [hg] at h ⊢
          cases hj : ks[i].Fields.findIdx? (fun f => decide (f.Name = m.Field)) with
          | none => rw [hj] at h; simp at h
          | some j => exact .inr ⟨i, hi, rfl, by omega, by omega, .inr ⟨j, (List.findIdx?_eq_some_iff_getElem.1 hj).1, rfl⟩⟩
end Go.Proofs.Ytbddlekpoelmkaa.Am
