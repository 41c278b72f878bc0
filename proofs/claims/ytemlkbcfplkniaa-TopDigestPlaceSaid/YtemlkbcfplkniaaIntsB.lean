/- How many numbers a valid world has. -/
import Derived.Test.YtemlkbcfplkniaaDig1
import Derived.Test.YtemlkbcfplkniaaCLaw
set_option linter.unusedVariables false
set_option linter.unusedSimpArgs false
namespace Go.Proofs.Ytemlkbcfplkniaa.Am
open Go Go.RowKit

theorem oneE_name2 {k : GKind} (h : oneE k = 0) : nameB k.Name = true := by
  unfold oneE at h
  split at h
  · rename_i h1; exact h1
  · simp at h
theorem ints_bound {w : GWorld} (hw : checkW w = 0) : (intsM w).length ≤ 1000000000 := by
  obtain ⟨hfi, hfc⟩ := checkW_fine hw
  obtain ⟨ce, cg, ci, cn, cit⟩ := checkW_iff.1 hw
  obtain ⟨ce1, ce2⟩ := checkE_le ce
  have hk : (w.Kinds.flatMap kindI).length ≤ w.Kinds.length * 1000 := fm_len kindI 1000 w.Kinds fun k hk => by
    have hone := checkE_one ce k hk
    have h1 := nameB_le (oneE_name2 hone)
    have h2 := ce2 k hk
    have h3 : (k.Fields.flatMap fieldI).length ≤ k.Fields.length * 20 := fm_len fieldI 20 k.Fields fun f hf => by
      have hb := oneE_fields hone f hf
      simp only [fieldB, Bool.and_eq_true] at hb
      have := nameB_le hb.1.1.1.1
      unfold fieldI
      rw [List.length_append, nameI_len]
      simp; omega
    unfold kindI
    rw [List.length_append, nameI_len, List.length_cons]
    omega
  have hi : (w.Items.flatMap itemI).length ≤ w.Items.length * 1000 := fm_len itemI 1000 w.Items fun it hit => by
    obtain ⟨q1, q2⟩ := hfc it hit
    have h3 : (it.Comps.flatMap compI).length ≤ it.Comps.length * 10 := fm_len compI 10 it.Comps fun c hc => by
      have := (q2 c hc).2.2.2
      unfold compI
      rw [List.length_append]
      simp; omega
    unfold itemI
    rw [List.length_append]
    simp only [List.length_cons, List.length_nil]; omega
  have hil := hfi.il
  unfold intsM tailI
  simp only [List.length_cons, List.length_append]
  omega

end Go.Proofs.Ytemlkbcfplkniaa.Am
