/- The library's slice functions, at the program's types. -/
import Derived.Test.YtidhdlhblhbahaaGreatCmp
set_option linter.unusedVariables false
set_option linter.unusedSimpArgs false
namespace Go.Proofs.YtidhdlhblhbahaaGreat.Am
open Go Go.RowKit

set_option maxRecDepth 20000 in
theorem IndexFuncIt_fn (l : List GItem) (fn : FuncId) (caps : List PV) (p : GItem → Bool) (hl : l.length ≤ 4611686018427387904) (he : enterable Tryz.prog fn = true) (hc : ltL 0 caps = true)
    (hf : ∀ x ∈ l, Fn Tryz.prog fn (.agg x.e :: caps) (kB (p x))) : Fn Tryz.prog 112 [.sl 3 (l.map GItem.e), .clo (.func fn) caps] (kI (idxB p l)) := by
  refine fn_go Tryz.func112 rfl ?_
  simp [Tryz.ntmps112]
  refine awp_loop (fun i : Nat => ⟨19, [(0, .sl 3 (l.map GItem.e)), (1, .clo (.func fn) caps), (7, kI l.length), (8, kI i)], [], 0⟩) (fun i => i ≤ l.length ∧ ∀ j, j < i → ∀ x, l[j]? = some x → p x = false) (fun i => l.length - i) 0 ?_ ?_ ?_
  · exact entm [] (hT := by simp [renL_lt0 _ _ hc, hc])
  · simp
  · intro i ⟨hi, hno⟩
    refine awp_go ?_
    by_cases hlt : i < l.length
    · simp [hlt]
      refine cal (hf l[i] (List.getElem_mem hlt)) ?_ (he := he) (hlt := by simp [hc])
      by_cases hp : p l[i] = true
      · simp [hp]
        exact finm (by simp [idxB_some hlt hno hp])
      · have hp' : p l[i] = false := by simpa using hp
        simp [hp']
        rw [wrap_id (by omega) (by omega)]
        exact ⟨i + 1, ⟨by omega, no_succ hlt hno hp'⟩, by omega, entm [] (hT := by simp [renL_lt0 _ _ hc, hc])⟩
    · simp [hlt]
      have : i = l.length := by omega
      subst this
      exact finm (by simp [idxB_none hno])

end Go.Proofs.YtidhdlhblhbahaaGreat.Am
