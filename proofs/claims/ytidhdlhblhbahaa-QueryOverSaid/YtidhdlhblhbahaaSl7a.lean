/- The library's slice functions, at the program's types. -/
import Derived.Test.YtidhdlhblhbahaaCmp
set_option linter.unusedVariables false
set_option linter.unusedSimpArgs false
namespace Go.Proofs.Ytidhdlhblhbahaa.Am
open Go Go.RowKit

set_option maxRecDepth 20000 in
theorem EqualF_fn (a b : List GField) (ha : a.length ≤ 1000000000) : Fn Try.prog 55 [.sl 3 (a.map GField.e), .sl 3 (b.map GField.e)] (kB (decide (a = b))) := by
  refine fn_go Try.func55 rfl ?_
  simp [Try.ntmps55]
  by_cases h : a.length = b.length
  · have h' : (a.length : Int) = b.length := by omega
    simp [h']
    refine awp_loop (fun i : Nat => ⟨26, [(0, .sl 3 (a.map GField.e)), (1, .sl 3 (b.map GField.e)), (12, kI b.length), (13, kI i)], [], 0⟩) (fun i => i ≤ a.length ∧ a.take i = b.take i) (fun i => a.length - i) 0 ?_ ?_ ?_
    · exact entm []
    · simp
    · intro i ⟨hi, hp⟩
      refine awp_go ?_
      by_cases hlt : i < b.length
      · have hla : i < a.length := by omega
        simp [hlt]
        refine awp_draw follows_mix [] [(0, [0]), (0, [0]), (0, [0]), (0, [0]), (0, [0]), (0, [0]), (0, [0]), (0, [0]), (0, [0])] 0 (by kernel_rfl) rfl ?_
        simp [hlt, hla]
        by_cases he : a[i] = b[i]
        · simp [he]
          rw [wrap_id (by omega) (by omega)]
          exact ⟨i + 1, ⟨by omega, take_extG hla hlt hp he⟩, by omega, entm []⟩
        · simp [he]
          have hne : a ≠ b := fun e => by subst e; exact he rfl
          exact finm (by simp [hne])
      · simp [hlt]
        have hab : a = b := by
          have e1 : a.take i = a := List.take_of_length_le (by omega)
          have e2 : b.take i = b := List.take_of_length_le (by omega)
          rw [← e1, ← e2]; exact hp
        exact finm (by simp [hab])
  · have h' : ¬ ((a.length : Int) = b.length) := by omega
    simp [h']
    have hne : a ≠ b := fun e => by subst e; exact h rfl
    exact finm (by simp [hne])

set_option maxRecDepth 20000 in
theorem EqualFuncC_fn (a b : List GComp) (fn : FuncId) (caps : List PV) (ha : a.length ≤ 1000000000) (he : enterable Try.prog fn = true) (hc : ltL 0 caps = true)
    (hf : ∀ x ∈ a, ∀ y ∈ b, Fn Try.prog fn (.agg x.e :: .agg y.e :: caps) (kB (decide (x = y)))) : Fn Try.prog 81 [.sl 2 (a.map GComp.e), .sl 2 (b.map GComp.e), .clo (.func fn) caps] (kB (decide (a = b))) := by
  refine fn_go Try.func81 rfl ?_
  simp [Try.ntmps81]
  by_cases h : a.length = b.length
  · have h' : (a.length : Int) = b.length := by omega
    simp [h']
    refine awp_loop (fun i : Nat => ⟨32, [(1, .sl 2 (b.map GComp.e)), (2, .clo (.func fn) caps), (15, .sl 2 (a.map GComp.e)), (16, kI b.length), (17, kI i)], [], 0⟩) (fun i => i ≤ a.length ∧ a.take i = b.take i) (fun i => a.length - i) 0 ?_ ?_ ?_
    · exact entm [] (hT := by simp [renL_lt0 _ _ hc, hc])
    · simp
    · intro i ⟨hi, hp⟩
      refine awp_go ?_
      by_cases hlt : i < b.length
      · have hla : i < a.length := by omega
        simp [hlt, hla]
        refine cal (hf a[i] (List.getElem_mem hla) b[i] (List.getElem_mem hlt)) ?_ (he := he) (hlt := by simp [hc])
        by_cases he : a[i] = b[i]
        · simp [he]
          rw [wrap_id (by omega) (by omega)]
          exact ⟨i + 1, ⟨by omega, take_extG hla hlt hp he⟩, by omega, entm [] (hT := by simp [renL_lt0 _ _ hc, hc])⟩
        · simp [he]
          have hne : a ≠ b := fun e => by subst e; exact he rfl
          exact finm (by simp [hne])
      · simp [hlt]
        have hab : a = b := by
          have e1 : a.take i = a := List.take_of_length_le (by omega)
          have e2 : b.take i = b := List.take_of_length_le (by omega)
          rw [← e1, ← e2]; exact hp
        exact finm (by simp [hab])
  · have h' : ¬ ((a.length : Int) = b.length) := by omega
    simp [h']
    have hne : a ≠ b := fun e => by subst e; exact h rfl
    exact finm (by simp [hne])

set_option maxRecDepth 20000 in
theorem EqualFuncIt_fn (a b : List GItem) (fn : FuncId) (caps : List PV) (ha : a.length ≤ 1000000000) (he : enterable Try.prog fn = true) (hc : ltL 0 caps = true)
    (hf : ∀ x ∈ a, ∀ y ∈ b, Fn Try.prog fn (.agg x.e :: .agg y.e :: caps) (kB (decide (x = y)))) : Fn Try.prog 56 [.sl 3 (a.map GItem.e), .sl 3 (b.map GItem.e), .clo (.func fn) caps] (kB (decide (a = b))) := by
  refine fn_go Try.func56 rfl ?_
  simp [Try.ntmps56]
  by_cases h : a.length = b.length
  · have h' : (a.length : Int) = b.length := by omega
    simp [h']
    refine awp_loop (fun i : Nat => ⟨32, [(1, .sl 3 (b.map GItem.e)), (2, .clo (.func fn) caps), (15, .sl 3 (a.map GItem.e)), (16, kI b.length), (17, kI i)], [], 0⟩) (fun i => i ≤ a.length ∧ a.take i = b.take i) (fun i => a.length - i) 0 ?_ ?_ ?_
    · exact entm [] (hT := by simp [renL_lt0 _ _ hc, hc])
    · simp
    · intro i ⟨hi, hp⟩
      refine awp_go ?_
      by_cases hlt : i < b.length
      · have hla : i < a.length := by omega
        simp [hlt, hla]
        refine cal (hf a[i] (List.getElem_mem hla) b[i] (List.getElem_mem hlt)) ?_ (he := he) (hlt := by simp [hc])
        by_cases he : a[i] = b[i]
        · simp [he]
          rw [wrap_id (by omega) (by omega)]
          exact ⟨i + 1, ⟨by omega, take_extG hla hlt hp he⟩, by omega, entm [] (hT := by simp [renL_lt0 _ _ hc, hc])⟩
        · simp [he]
          have hne : a ≠ b := fun e => by subst e; exact he rfl
          exact finm (by simp [hne])
      · simp [hlt]
        have hab : a = b := by
          have e1 : a.take i = a := List.take_of_length_le (by omega)
          have e2 : b.take i = b := List.take_of_length_le (by omega)
          rw [← e1, ← e2]; exact hp
        exact finm (by simp [hab])
  · have h' : ¬ ((a.length : Int) = b.length) := by omega
    simp [h']
    have hne : a ≠ b := fun e => by subst e; exact h rfl
    exact finm (by simp [hne])

set_option maxRecDepth 20000 in
theorem EqualFuncK_fn (a b : List GKind) (fn : FuncId) (caps : List PV) (ha : a.length ≤ 1000000000) (he : enterable Try.prog fn = true) (hc : ltL 0 caps = true)
    (hf : ∀ x ∈ a, ∀ y ∈ b, Fn Try.prog fn (.agg x.e :: .agg y.e :: caps) (kB (decide (x = y)))) : Fn Try.prog 53 [.sl 2 (a.map GKind.e), .sl 2 (b.map GKind.e), .clo (.func fn) caps] (kB (decide (a = b))) := by
  refine fn_go Try.func53 rfl ?_
  simp [Try.ntmps53]
  by_cases h : a.length = b.length
  · have h' : (a.length : Int) = b.length := by omega
    simp [h']
    refine awp_loop (fun i : Nat => ⟨32, [(1, .sl 2 (b.map GKind.e)), (2, .clo (.func fn) caps), (15, .sl 2 (a.map GKind.e)), (16, kI b.length), (17, kI i)], [], 0⟩) (fun i => i ≤ a.length ∧ a.take i = b.take i) (fun i => a.length - i) 0 ?_ ?_ ?_
    · exact entm [] (hT := by simp [renL_lt0 _ _ hc, hc])
    · simp
    · intro i ⟨hi, hp⟩
      refine awp_go ?_
      by_cases hlt : i < b.length
      · have hla : i < a.length := by omega
        simp [hlt, hla]
        refine cal (hf a[i] (List.getElem_mem hla) b[i] (List.getElem_mem hlt)) ?_ (he := he) (hlt := by simp [hc])
        by_cases he : a[i] = b[i]
        · simp [he]
          rw [wrap_id (by omega) (by omega)]
          exact ⟨i + 1, ⟨by omega, take_extG hla hlt hp he⟩, by omega, entm [] (hT := by simp [renL_lt0 _ _ hc, hc])⟩
        · simp [he]
          have hne : a ≠ b := fun e => by subst e; exact he rfl
          exact finm (by simp [hne])
      · simp [hlt]
        have hab : a = b := by
          have e1 : a.take i = a := List.take_of_length_le (by omega)
          have e2 : b.take i = b := List.take_of_length_le (by omega)
          rw [← e1, ← e2]; exact hp
        exact finm (by simp [hab])
  · have h' : ¬ ((a.length : Int) = b.length) := by omega
    simp [h']
    have hne : a ≠ b := fun e => by subst e; exact h rfl
    exact finm (by simp [hne])

end Go.Proofs.Ytidhdlhblhbahaa.Am
