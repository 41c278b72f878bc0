/- The library's slice functions, at the program's types. -/
import Derived.Test.YtidhdlhblhbahaaSl0
set_option linter.unusedVariables false
set_option linter.unusedSimpArgs false
namespace Go.Proofs.Ytidhdlhblhbahaa.Am
open Go Go.RowKit

set_option maxRecDepth 20000 in
theorem IndexFuncI_fn (l : List Int) (fn : FuncId) (caps : List PV) (p : Int → Bool) (hl : l.length ≤ 4611686018427387904) (he : enterable Try.prog fn = true) (hc : ltL 0 caps = true)
    (hf : ∀ x ∈ l, Fn Try.prog fn (kI x :: caps) (kB (p x))) : Fn Try.prog 94 [slI l, .clo (.func fn) caps] (kI (idxB p l)) := by
  refine fn_go Try.func94 rfl ?_
  simp [Try.ntmps94]
  refine awp_loop (fun i : Nat => ⟨19, [(0, slI l), (1, .clo (.func fn) caps), (7, kI l.length), (8, kI i)], [], 0⟩) (fun i => i ≤ l.length ∧ ∀ j, j < i → ∀ x, l[j]? = some x → p x = false) (fun i => l.length - i) 0 ?_ ?_ ?_
  · exact entm [] (hT := by simp [renL_lt0 _ _ hc, hc])
  · simp
  · intro i ⟨hi, hno⟩
    refine awp_go ?_
    by_cases hlt : i < l.length
    · simp [hlt]
      refine cal (hf l[i] (List.getElem_mem hlt)) ?_ (he := he) (hlt := by simp [hc])
      by_cases hp : p l[i] = true
      · simp [hp]
        exact finm (by simp [idxB_some hlt hno hp])
      · have hp' : p l[i] = false := by simpa using hp
        simp [hp']
        rw [wrap_id (by omega) (by omega)]
        exact ⟨i + 1, ⟨by omega, no_succ hlt hno hp'⟩, by omega, entm [] (hT := by simp [renL_lt0 _ _ hc, hc])⟩
    · simp [hlt]
      have : i = l.length := by omega
      subst this
      exact finm (by simp [idxB_none hno])

theorem ContainsFuncI_fn (l : List Int) (fn : FuncId) (caps : List PV) (p : Int → Bool) (hl : l.length ≤ 4611686018427387904) (he : enterable Try.prog fn = true) (hc : ltL 0 caps = true)
    (hf : ∀ x ∈ l, Fn Try.prog fn (kI x :: caps) (kB (p x))) : Fn Try.prog 68 [slI l, .clo (.func fn) caps] (kB (l.any p)) := by
  refine fn_go Try.func68 rfl ?_
  simp [Try.ntmps68]
  refine cal (IndexFuncI_fn l fn caps p hl he hc hf) ?_ (hlt := by simp [hc])
  have h := idxB_any p l
  simp
  exact finm (by simp [h])

set_option maxRecDepth 20000 in
theorem IndexI_fn (l : List Int) (v : Int) (hl : l.length ≤ 4611686018427387904) : Fn Try.prog 96 [slI l, kI v] (kI (idxB (fun x => decide (x = v)) l)) := by
  refine fn_go Try.func96 rfl ?_
  simp [Try.ntmps96]
  refine awp_loop (fun i : Nat => ⟨19, [(0, slI l), (1, kI v), (7, kI l.length), (8, kI i)], [], 0⟩) (fun i => i ≤ l.length ∧ ∀ j, j < i → ∀ x, l[j]? = some x → decide (x = v) = false) (fun i => l.length - i) 0 ?_ ?_ ?_
  · exact entm []
  · simp
  · intro i ⟨hi, hno⟩
    refine awp_go ?_
    by_cases hlt : i < l.length
    · simp [hlt]
      by_cases hp : v = l[i]
      · have hp' : decide (l[i] = v) = true := by simp [hp]
        simp [hp]
        exact finm (by rw [hp] at hno; simp [idxB_some (p := fun x => decide (x = l[i])) hlt hno (by simp)])
      · have hp' : decide (l[i] = v) = false := by simpa using fun e => hp e.symm
        simp [hp]
        rw [wrap_id (by omega) (by omega)]
        exact ⟨i + 1, ⟨by omega, by simpa using no_succ (p := fun x => decide (x = v)) hlt hno hp'⟩, by omega, entm []⟩
    · simp [hlt]
      have : i = l.length := by omega
      subst this
      exact finm (by simp [idxB_none hno])

theorem ContainsI_fn (l : List Int) (v : Int) (hl : l.length ≤ 4611686018427387904) : Fn Try.prog 73 [slI l, kI v] (kB (decide (v ∈ l))) := by
  refine fn_go Try.func73 rfl ?_
  simp [Try.ntmps73]
  refine cal (IndexI_fn l v hl) ?_
  have h := idxB_any (fun x => decide (x = v)) l
  have h2 : l.any (fun x => decide (x = v)) = decide (v ∈ l) := by
    rw [Bool.eq_iff_iff]; simp
  rw [h2] at h
  simp
  exact finm (by simp [h])

end Go.Proofs.Ytidhdlhblhbahaa.Am
