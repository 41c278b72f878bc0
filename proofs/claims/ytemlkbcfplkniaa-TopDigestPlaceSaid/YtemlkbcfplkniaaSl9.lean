/- The library's slice functions, at the program's types. -/
import Derived.Test.YtemlkbcfplkniaaCmp
set_option linter.unusedVariables false
set_option linter.unusedSimpArgs false
namespace Go.Proofs.Ytemlkbcfplkniaa.Am
open Go Go.RowKit

set_option maxRecDepth 20000 in
theorem BinarySearchC_fn (l : List GComp) (t : Int) (fn : FuncId) (caps : List PV) (c : GComp → Int) (hl : l.length ≤ 4611686018427387904) (he : enterable Try.prog fn = true) (hc : ltL 0 caps = true)
    (hf : ∀ x ∈ l, Fn Try.prog fn (.agg x.e :: kI t :: caps) (kI (c x))) : Fn Try.prog 186 [.sl 2 (l.map GComp.e), kI t, .clo (.func fn) caps] (.tup [kI (bs c l), kB (bsOk c l)]) := by
  refine fn_go Try.func186 rfl ?_
  simp [Try.ntmps186]
  refine awp_loop (fun x : Nat × Nat × Nat => ⟨49, [(0, .sl 2 (l.map GComp.e)), (1, kI t), (2, .clo (.func fn) caps), (8, kI l.length), (9, kI x.1), (10, kI x.2.1)], [], 0⟩)
    (fun x => x.1 ≤ x.2.1 ∧ x.2.1 ≤ l.length ∧ x.2.1 ≤ x.1 + x.2.2 ∧ bsG (bsC c l) x.2.2 x.1 x.2.1 = bs c l) (fun x => x.2.1 - x.1) (0, l.length, l.length) ?_ ?_ ?_
  · exact entm [] (hT := by simp [renL_lt0 _ _ hc, hc])
  · exact ⟨by simp, by simp, by simp, rfl⟩
  · rintro ⟨i, j, f⟩ ⟨hij, hj, hf0, hR⟩
    simp only at hij hj hf0 hR
    refine awp_go ?_
    by_cases hlt : i < j
    · obtain ⟨f, rfl⟩ : ∃ f', f = f' + 1 := ⟨f - 1, by omega⟩
      obtain ⟨h, hd⟩ : ∃ h, (i + j) / 2 = h := ⟨_, rfl⟩
      have hh : h < l.length := by omega
      have e1 := half_ops i j (by omega)
      have h1 : i ≤ h := by omega
      have h2 : h < j := by omega
      have h3 : j ≤ h + 1 + f := by omega
      have h4 : h ≤ i + f := by omega
      rw [bsG_step _ _ _ _ hlt, hd, bsC_get c l h hh] at hR
      rw [hd] at e1
      simp [hlt]
      rw [e1]
      simp [hh]
      refine cal (hf l[h] (List.getElem_mem hh)) ?_ (he := he) (hlt := by simp [hc])
      by_cases hn : c l[h] < 0
      · simp [hn] at hR
        simp [hn]
        rw [wrap_id (by omega) (by omega)]
        exact ⟨h + 1, j, ⟨by omega, hj, f, by omega, hR⟩, by omega, entm [] (hT := by simp [renL_lt0 _ _ hc, hc])⟩
      · simp [hn] at hR
        simp [hn]
        exact ⟨i, h, ⟨by omega, by omega, f, by omega, hR⟩, by omega, entm [] (hT := by simp [renL_lt0 _ _ hc, hc])⟩
    · rw [bsG_stop _ _ _ _ hlt] at hR
      subst hR
      simp [hlt]
      by_cases hin : bs c l < l.length
      · simp [hin]
        refine cal (hf l[bs c l] (List.getElem_mem hin)) ?_ (he := he) (hlt := by simp [hc])
        simp
        exact finm (by simp [bsOk, hin])
      · simp [hin]
        exact finm (by simp [bsOk, hin])

end Go.Proofs.Ytemlkbcfplkniaa.Am
