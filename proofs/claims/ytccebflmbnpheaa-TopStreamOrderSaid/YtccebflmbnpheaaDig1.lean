/- Package sum: digests of numbers. -/
import Derived.Test.YtccebflmbnpheaaMixU
import Derived.Test.YtccebflmbnpheaaInts2
import Derived.Test.YtccebflmbnpheaaWChk1
set_option linter.unusedVariables false
set_option linter.unusedSimpArgs false
namespace Go.Proofs.Ytccebflmbnpheaa.Am
open Go Go.RowKit

def joinM (a b : Int) : Int := mixM (IntKind.u64.wrap (IntKind.u64.wrap (mixM (IntKind.u64.wrap (a + 5840696475078001361)) * 11170449401992604703) + b))
def wordsM (l : List Int) : Int := l.foldl joinM (joinM 5840696475078001361 (IntKind.u64.wrap l.length))
set_option maxRecDepth 20000 in
theorem Join_fn (a b : Int) : Fn Try.prog 37 [kU a, kU b] (kU (joinM a b)) := by
  refine fn_go Try.func37 rfl ?_
  simp [Try.ntmps37]
  refine cal (Mix_fn _) ?_ (hren := by rfl)
  simp
  refine cal (Mix_fn _) ?_ (hren := by rfl)
  simp
  exact finm (by simp [joinM])
set_option maxRecDepth 20000 in
theorem Words_fn (l : List Int) (hl : l.length ≤ 1000000000) : Fn Try.prog 15 [.sl 1 (l.map fun x => [kU x])] (kU (wordsM l)) := by
  refine fn_go Try.func15 rfl ?_
  simp [Try.ntmps15]
  refine cal (Join_fn 5840696475078001361 (IntKind.u64.wrap l.length)) ?_
  simp
  refine awp_loop (fun x : Nat × Int => ⟨21, [(3, kU x.2), (10, .sl 1 (l.map fun x => [kU x])), (11, kI l.length), (12, kI x.1)], [], 0⟩)
    (fun x => x.1 ≤ l.length ∧ (l.drop x.1).foldl joinM x.2 = wordsM l) (fun x => l.length - x.1) (0, joinM 5840696475078001361 (IntKind.u64.wrap l.length)) ?_ ?_ ?_
  · exact entm []
  · simp [wordsM]
  · rintro ⟨i, d⟩ ⟨hi, hrun⟩
    simp only at hi hrun
    refine awp_go ?_
    by_cases hlt : i < l.length
    · rw [List.drop_eq_getElem_cons hlt, List.foldl_cons] at hrun
      simp [hlt]
      refine cal (Join_fn d l[i]) ?_
      simp
      rw [wrap_id (by omega) (by omega)]
      exact ⟨i + 1, joinM d l[i], ⟨by omega, hrun⟩, by omega, entm []⟩
    · have : i = l.length := by omega
      subst this
      simp at hrun
      simp
      exact finm (by simp [hrun])

def uI (x : Int) : List PV := [kU (IntKind.u64.wrap x)]
set_option maxRecDepth 20000 in
theorem SumInts_fn (l : List Int) (hl : l.length ≤ 1000000000) : Fn Try.prog 35 [slI l] (kU (wordsM (l.map IntKind.u64.wrap))) := by
  refine fn_go Try.func35 rfl ?_
  have h1 : 8 * (l.length : Int) ≤ 281474976710656 := by omega
  have h2 : (l.length : Int) ≤ 9223372036854775807 := by omega
  simp [Try.ntmps35, h1, h2]
  have hu : ∀ x : Int, (uI x).length = 1 := fun x => rfl
  have hui : ∀ x : Int, (uI x).all PV.immB = true := fun x => rfl
  have h0 : List.replicate l.length (kU 0) = fillB uI [kU 0] l 0 := by
    rw [fillB_0]
    refine List.ext_getElem (by simp) fun t h1 h2 => ?_
    simp
  have hB : ∀ i, (fillB uI [kU 0] l i).all PV.immB = true := fun i => fillB_imm hui (zr := [kU 0]) rfl l i
  rw [show List.replicate l.length (PV.k (.int IntKind.u64 0)) = fillB uI [kU 0] l 0 from h0]
  refine awp_loop (fun i : Nat => ⟨24, [(3, .osl 0 1 0 l.length), (9, slI l), (10, kI l.length), (11, kI i)], [some (fillB uI [kU 0] l i)], 0⟩) (fun i => i ≤ l.length) (fun i => l.length - i) 0 ?_ ?_ ?_
  · exact entm [0] (hB := by simp [imms_ren (hB 0), imms_lt (hB 0)])
  · simp
  · intro i hi
    refine awp_go ?_
    by_cases hlt : i < l.length
    · have hbl := fillB_len hu (zr := [kU 0]) rfl l i hi
      have hrow := fillB_row hu (zr := [kU 0]) rfl l i hlt
      have him := hB (i + 1)
      generalize fillB uI [kU 0] l i = B at hbl hrow ⊢
      have hr2 : List.take i B ++ kU (IntKind.u64.wrap l[i]) :: List.drop (i + 1) B = fillB uI [kU 0] l (i + 1) := by
        rw [← hrow]; simp [uI]
      have hq : i + 1 ≤ l.length := by omega
      have hbl2 : B.length = l.length := by omega
      simp [hlt, hbl2, hq]
      rw [wrap_id (by omega) (by omega)]
      rw [show List.take i B ++ PV.k (.int IntKind.u64 (IntKind.u64.wrap l[i])) :: List.drop (i + 1) B = fillB uI [kU 0] l (i + 1) from hr2]
      exact ⟨i + 1, by omega, by omega, entm [0] (hB := by simp [imms_ren him, imms_lt him])⟩
    · have : i = l.length := by omega
      subst this
      rw [fillB_end]
      simp
      have hW := Words_fn (l.map IntKind.u64.wrap) (by simpa using hl)
      refine calS hW ?_ (hren := by
        have h1 := chunks_map hu l
        have h2 : (List.map (List.length ∘ uI) l).sum = l.length := by have := flat_sum hu l; simpa using this
        have h3 : List.map ((fun x => [kU x]) ∘ IntKind.u64.wrap) l = List.map uI l := rfl
        have h4 : ∀ x : Int, ∀ p ∈ uI x, p.immB = true := fun x => List.all_eq_true.1 (hui x)
        simp [h1, h2, h3]
        exact fun x _ => h4 x)
      simp
      exact finm (by simp)

theorem Digest_fn (w : GWorld) (hw : Fine w) (hT : (intsM w).length ≤ 1000000000) : Fn Try.prog 14 [.agg w.e] (kU (wordsM ((intsM w).map IntKind.u64.wrap))) := by
  refine fn_go Try.func14 rfl ?_
  simp [Try.ntmps14]
  refine cal (Ints_fn w hw hT) ?_
  simp
  refine cal (SumInts_fn (intsM w) hT) ?_
  simp
  exact finm (by simp)

/-! ### How many numbers a valid world has -/
theorem fm_len {α : Type} (f : α → List Int) (B : Nat) : ∀ (l : List α), (∀ x ∈ l, (f x).length ≤ B) → (l.flatMap f).length ≤ l.length * B
  | [], _ => by simp
  | x :: r, h => by
    rw [List.flatMap_cons, List.length_append, List.length_cons, Nat.succ_mul]
    have h1 := h x (List.mem_cons_self ..)
    have h2 := fm_len f B r fun y hy => h y (List.mem_cons_of_mem _ hy)
    omega
theorem nameB_le {s : Str} (h : nameB s = true) : s.size ≤ 16 := by
  unfold nameB at h
  simp only [Bool.and_eq_true, decide_eq_true_eq] at h
  exact h.1.2
end Go.Proofs.Ytccebflmbnpheaa.Am
