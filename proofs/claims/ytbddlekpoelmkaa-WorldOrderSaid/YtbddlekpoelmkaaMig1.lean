/- Package migrate: where a move is. -/
import Derived.Test.YtbddlekpoelmkaaCopy1
import Derived.Test.YtbddlekpoelmkaaKind4
set_option linter.unusedVariables false
set_option linter.unusedSimpArgs false
namespace Go.Proofs.Ytbddlekpoelmkaa.Am
open Go Go.RowKit

set_option maxRecDepth 20000 in
theorem FieldOf_fn (k : GKind) (nm : Str) (hl : k.Fields.length ≤ 9223372036854775807) : Fn Try.prog 75 [.agg k.e, kS nm] (kI (idxB (fun f : GField => decide (f.Name = nm)) k.Fields)) := by
  refine fn_go Try.func75 rfl ?_
  simp [Try.ntmps75]
  refine awp_loop (fun i : Nat => ⟨21, [(1, kS nm), (8, .sl 3 (k.Fields.map GField.e)), (9, kI k.Fields.length), (10, kI i)], [], 0⟩) (fun i => i ≤ k.Fields.length ∧ ∀ j, j < i → ∀ f, k.Fields[j]? = some f → decide (f.Name = nm) = false) (fun i => k.Fields.length - i) 0 ?_ ?_ ?_
  · exact entm []
  · simp
  · intro i ⟨hi, hno⟩
    refine awp_go ?_
    by_cases hlt : i < k.Fields.length
    · simp [hlt]
      by_cases hp : k.Fields[i].Name = nm
      · simp [hp]
        exact finm (by simp [idxB_some (p := fun f : GField => decide (f.Name = nm)) hlt hno (by simp [hp])])
      · simp [hp]
        rw [wrap_id (by omega) (by omega)]
        exact ⟨i + 1, ⟨by omega, by simpa using no_succ (p := fun f : GField => decide (f.Name = nm)) hlt hno (by simp [hp])⟩, by omega, entm []⟩
    · simp [hlt]
      have : i = k.Fields.length := by omega
      subst this
      exact finm (by simp [idxB_none hno])

/-- The indices of the kind and the field of a move, and the error. -/
def placeM (ks : List GKind) (m : GMove) : Int × Int × Int :=
  if m.Do < 0 ∨ 6 < m.Do then (0, 0, 1)
  else if m.Do = 0 then (0, 0, 0)
  else match ks.findIdx? (fun k => decide (k.Name = m.Kind)) with
    | none => (0, 0, 4)
    | some i => if m.Do ≤ 3 then (i, 0, 0)
      else match (ks.getD i ⟨⟨#[]⟩, []⟩).Fields.findIdx? (fun f => decide (f.Name = m.Field)) with
        | none => (0, 0, 4)
        | some j => (i, j, 0)

set_option maxRecDepth 20000 in
theorem place_fn (ks : List GKind) (m : GMove) (hl : ks.length ≤ 1000000000) (hf : ∀ k ∈ ks, k.Fields.length ≤ 1000000000) : Fn Try.prog 43 [.sl 2 (ks.map GKind.e), .agg m.e] (.tup [kI (placeM ks m).1, kI (placeM ks m).2.1, kI (placeM ks m).2.2]) := by
  refine fn_go Try.func43 rfl ?_
  simp [Try.ntmps43]
  by_cases h1 : m.Do < 0
  · simp [h1]
    exact finm (by simp [placeM, h1])
  by_cases h2 : 6 < m.Do
  · simp [h1, h2]
    exact finm (by simp [placeM, h2])
  by_cases h3 : m.Do = 0
  · simp [h3]
    exact finm (by simp [placeM, h3])
  simp [h1, h2, h3]
  refine cal (Find_fn ks m.Kind (by omega)) ?_
  have hp : placeM ks m = match ks.findIdx? (fun k => decide (k.Name = m.Kind)) with
    | none => (0, 0, 4)
    | some i => if m.Do ≤ 3 then (i, 0, 0)
      else match (ks.getD i ⟨⟨#[]⟩, []⟩).Fields.findIdx? (fun f => decide (f.Name = m.Field)) with
        | none => (0, 0, 4)
        | some j => (i, j, 0) := by unfold placeM; rw [if_neg (by omega), if_neg h3]
  cases hk : ks.findIdx? (fun k => decide (k.Name = m.Kind)) with
  | none =>
    rw [hk] at hp
    simp [findK, hk]
    exact finm (by simp [hp])
  | some i =>
    rw [hk] at hp
    have hi : i < ks.length := (List.findIdx?_eq_some_iff_getElem.1 hk).1
    have hi0 : ¬ ((i : Int) < 0) := by omega
    simp [findK, hk, hi0]
    by_cases h4 : m.Do ≤ 3
    · simp [h4]
      exact finm (by simp [hp, h4])
    · simp [h4]
      refine awp_draw follows_mix [] [(0, [0]), (0, [0]), (0, [0]), (0, [0]), (0, [0]), (0, [0]), (2, [0]), (0, [0])] 0 (by kernel_rfl) rfl ?_
      simp [hi]
      refine gD_call (kI (idxB (fun f : GField => decide (f.Name = m.Field)) ks[i].Fields)) ?_
      simp [hi]
      refine ⟨calO (FieldOf_fn ks[i] m.Field (by have := hf _ (List.getElem_mem hi); omega)), ?_⟩
      have hg : ks.getD i ⟨⟨#[]⟩, []⟩ = ks[i] := by simp [List.getD, hi]
      simp only [h4, if_false, hg] at hp
      cases hj : ks[i].Fields.findIdx? (fun f => decide (f.Name = m.Field)) with
      | none =>
        rw [hj] at hp
        simp [idxB, hj]
        exact finm (by simp [hp])
      | some j =>
        rw [hj] at hp
        have hj0 : ¬ ((j : Int) < 0) := by omega
        simp [idxB, hj, hj0]
        exact finm (by simp [hp])
end Go.Proofs.Ytbddlekpoelmkaa.Am
