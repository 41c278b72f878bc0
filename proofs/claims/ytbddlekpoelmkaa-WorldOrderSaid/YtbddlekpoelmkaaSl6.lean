/- The library's slice functions, at the program's types. -/
import Derived.Test.YtbddlekpoelmkaaCmp
set_option linter.unusedVariables false
set_option linter.unusedSimpArgs false
namespace Go.Proofs.Ytbddlekpoelmkaa.Am
open Go Go.RowKit

set_option maxRecDepth 20000 in
theorem DeleteK_fn (l : List GKind) (i : Nat) (hi : i < l.length) (hl : l.length * 40 ≤ 140737488355328) :
    FnD Try.prog 76 [.osl 0 2 0 l.length, kI i, kI ((i : Int) + 1)] [(l.map GKind.e).flatten] (.osl 0 2 0 (l.length - 1)) [some (((l.take i ++ l.drop (i + 1)).map GKind.e).flatten ++ [kS ⟨#[]⟩, kNil])] := by
  refine fng_of Try.func76 rfl (gC_cap 0 fun cap hc1 hc2 => ?_)
  have elen : ∀ x : GKind, (GKind.e x).length = 2 := fun x => rfl
  have eimm : ∀ x : GKind, (GKind.e x).all PV.immB = true := fun x => rfl
  have h1 : (i : Int) + 1 ≤ l.length := by omega
  have h2 : (0 : Int) ≤ (i : Int) + 1 := by omega
  have h3 : ((i : Int) + 1).toNat = i + 1 := by omega
  have h4 : (i : Int) ≤ (i : Int) + 1 := by omega
  have h5 : i ≤ l.length := by omega
  have h6 : i ≤ cap := by omega
  have h7 : ¬ ((i : Int) = (i : Int) + 1) := by omega
  obtain ⟨k, hk⟩ : ∃ k, l.length = i + (k + 1) := ⟨l.length - i - 1, by omega⟩
  obtain ⟨A, hA⟩ : ∃ A, ((l.take i).map GKind.e).flatten = A := ⟨_, rfl⟩
  obtain ⟨X, hX⟩ : ∃ X, GKind.e l[i] = X := ⟨_, rfl⟩
  obtain ⟨C, hC⟩ : ∃ C, ((l.drop (i + 1)).map GKind.e).flatten = C := ⟨_, rfl⟩
  have hAC : (l.map GKind.e).flatten = A ++ (X ++ C) := by
    have : l = l.take i ++ (l[i] :: l.drop (i + 1)) := by rw [← List.drop_eq_getElem_cons hi, List.take_append_drop]
    rw [← hA, ← hX, ← hC]
    conv => lhs; rw [this]
    rw [List.map_append, List.flatten_append, List.map_cons, List.flatten_cons]
  have hAl : A.length = i * 2 := by rw [← hA, flat_lenE elen]; simp; omega
  have hXl : X.length = 2 := by rw [← hX]; exact elen _
  have hCl : C.length = k * 2 := by rw [← hC, flat_lenE elen]; simp; omega
  have hR : ((l.take i ++ l.drop (i + 1)).map GKind.e).flatten = A ++ C := by rw [List.map_append, List.flatten_append, hA, hC]
  rw [hR, hAC]
  have h8 : l.length ≤ cap := hc1
  simp [Try.ntmps76, h1, h2, h3, h4, h5, h6, h7, h8]
  have g1 : l.length - (i + 1) = k := by omega
  have g2 : (i + k) * 40 ≤ 140737488355328 := by omega
  have g3 : i + k ≤ maxLen := by omega
  have g4 : i + k ≤ cap := by omega
  have g5 : (i + 1) * 2 + k * 2 ≤ i * 2 + (2 + k * 2) := by omega
  have tA : ∀ Y, (A ++ Y).take (i * 2) = A := fun Y => List.take_left' hAl
  have dAX : (A ++ (X ++ C)).drop ((i + 1) * 2) = C := by rw [← List.append_assoc]; exact List.drop_left' (by rw [List.length_append, hAl, hXl]; omega)
  have tC : C.take (k * 2) = C := List.take_of_length_le (by omega)
  have dE : (A ++ (X ++ C)).drop (i * 2 + k * 2) = (X ++ C).drop (k * 2) := by rw [← List.drop_drop, List.drop_left' hAl]
  try simp only [Nat.mul_one] at hAl hXl hCl tA tC dAX dE g5 g2
  refine awp_drawS follows_mix [(0, 0), (0, 0), (0, 0), (0, 0), (0, 0), (0, 0), (1, 0), (0, 0)] 1 1 [] (by kernel_rfl) rfl rfl ?_
  simp [h1, h2, h3, h4, h5, h6, h8, g1, g2, g3, g4, g5, hAl, hXl, hCl, tA, dAX, tC, dE]
  obtain ⟨D, hD⟩ : ∃ D, List.drop (k * 2) (X ++ C) = D := ⟨_, rfl⟩
  have hDl : D.length = 2 := by rw [← hD]; simp [hXl, hCl]
  have g6 : (0 : Int) ≤ (i : Int) + k := by omega
  have g7 : (i : Int) + k ≤ l.length := by omega
  have g8 : ((i : Int) + k).toNat = i + k := by omega
  have g9 : l.length - (i + k) = 1 := by omega
  have g10 : (i + k) * 2 ≤ i * 2 + (k * 2 + 2) := by omega
  have tAC : (A ++ (C ++ D)).take ((i + k) * 2) = A ++ C := by rw [← List.append_assoc]; exact List.take_left' (by rw [List.length_append, hAl, hCl]; omega)
  have dAC : (A ++ (C ++ D)).drop ((i + k) * 2 + 2) = [] := List.drop_eq_nil_of_le (by simp [hAl, hCl, hDl]; omega)
  try simp only [Nat.mul_one] at hD hDl g10 tAC dAC
  rw [hD]
  simp [g6, g7, g8, g9, g10, hAl, hCl, hDl, tAC, dAC]
  have rA : ∀ θ, renL θ A = A := fun θ => by rw [← hA]; exact imms_ren (flat_imm eimm _) θ
  have rC : ∀ θ, renL θ C = C := fun θ => by rw [← hC]; exact imms_ren (flat_imm eimm _) θ
  have lA : ∀ n, ltL n A = true := fun n => by rw [← hA]; exact imms_lt (flat_imm eimm _) n
  have lC : ∀ n, ltL n C = true := fun n => by rw [← hC]; exact imms_lt (flat_imm eimm _) n
  refine finG_ent (ent_tmp 6 tell_cap) ?_
  exact finGm [0] (hres := by simp; omega) (hB := by simp [rA, rC, lA, lC])

set_option maxRecDepth 20000 in
theorem DeleteF_fn (l : List GField) (i : Nat) (hi : i < l.length) (hl : l.length * 32 ≤ 140737488355328) :
    FnD Try.prog 77 [.osl 0 3 0 l.length, kI i, kI ((i : Int) + 1)] [(l.map GField.e).flatten] (.osl 0 3 0 (l.length - 1)) [some (((l.take i ++ l.drop (i + 1)).map GField.e).flatten ++ [kS ⟨#[]⟩, kI 0, kI 0])] := by
  refine fng_of Try.func77 rfl (gC_cap 0 fun cap hc1 hc2 => ?_)
  have elen : ∀ x : GField, (GField.e x).length = 3 := fun x => rfl
  have eimm : ∀ x : GField, (GField.e x).all PV.immB = true := fun x => rfl
  have h1 : (i : Int) + 1 ≤ l.length := by omega
  have h2 : (0 : Int) ≤ (i : Int) + 1 := by omega
  have h3 : ((i : Int) + 1).toNat = i + 1 := by omega
  have h4 : (i : Int) ≤ (i : Int) + 1 := by omega
  have h5 : i ≤ l.length := by omega
  have h6 : i ≤ cap := by omega
  have h7 : ¬ ((i : Int) = (i : Int) + 1) := by omega
  obtain ⟨k, hk⟩ : ∃ k, l.length = i + (k + 1) := ⟨l.length - i - 1, by omega⟩
  obtain ⟨A, hA⟩ : ∃ A, ((l.take i).map GField.e).flatten = A := ⟨_, rfl⟩
  obtain ⟨X, hX⟩ : ∃ X, GField.e l[i] = X := ⟨_, rfl⟩
  obtain ⟨C, hC⟩ : ∃ C, ((l.drop (i + 1)).map GField.e).flatten = C := ⟨_, rfl⟩
  have hAC : (l.map GField.e).flatten = A ++ (X ++ C) := by
    have : l = l.take i ++ (l[i] :: l.drop (i + 1)) := by rw [← List.drop_eq_getElem_cons hi, List.take_append_drop]
    rw [← hA, ← hX, ← hC]
    conv => lhs; rw [this]
    rw [List.map_append, List.flatten_append, List.map_cons, List.flatten_cons]
  have hAl : A.length = i * 3 := by rw [← hA, flat_lenE elen]; simp; omega
  have hXl : X.length = 3 := by rw [← hX]; exact elen _
  have hCl : C.length = k * 3 := by rw [← hC, flat_lenE elen]; simp; omega
  have hR : ((l.take i ++ l.drop (i + 1)).map GField.e).flatten = A ++ C := by rw [List.map_append, List.flatten_append, hA, hC]
  rw [hR, hAC]
  have h8 : l.length ≤ cap := hc1
  simp [Try.ntmps77, h1, h2, h3, h4, h5, h6, h7, h8]
  have g1 : l.length - (i + 1) = k := by omega
  have g2 : (i + k) * 32 ≤ 140737488355328 := by omega
  have g3 : i + k ≤ maxLen := by omega
  have g4 : i + k ≤ cap := by omega
  have g5 : (i + 1) * 3 + k * 3 ≤ i * 3 + (3 + k * 3) := by omega
  have tA : ∀ Y, (A ++ Y).take (i * 3) = A := fun Y => List.take_left' hAl
  have dAX : (A ++ (X ++ C)).drop ((i + 1) * 3) = C := by rw [← List.append_assoc]; exact List.drop_left' (by rw [List.length_append, hAl, hXl]; omega)
  have tC : C.take (k * 3) = C := List.take_of_length_le (by omega)
  have dE : (A ++ (X ++ C)).drop (i * 3 + k * 3) = (X ++ C).drop (k * 3) := by rw [← List.drop_drop, List.drop_left' hAl]
  try simp only [Nat.mul_one] at hAl hXl hCl tA tC dAX dE g5 g2
  refine awp_drawS follows_mix [(0, 0), (0, 0), (0, 0), (0, 0), (0, 0), (0, 0), (1, 0), (0, 0)] 1 1 [] (by kernel_rfl) rfl rfl ?_
  simp [h1, h2, h3, h4, h5, h6, h8, g1, g2, g3, g4, g5, hAl, hXl, hCl, tA, dAX, tC, dE]
  obtain ⟨D, hD⟩ : ∃ D, List.drop (k * 3) (X ++ C) = D := ⟨_, rfl⟩
  have hDl : D.length = 3 := by rw [← hD]; simp [hXl, hCl]
  have g6 : (0 : Int) ≤ (i : Int) + k := by omega
  have g7 : (i : Int) + k ≤ l.length := by omega
  have g8 : ((i : Int) + k).toNat = i + k := by omega
  have g9 : l.length - (i + k) = 1 := by omega
  have g10 : (i + k) * 3 ≤ i * 3 + (k * 3 + 3) := by omega
  have tAC : (A ++ (C ++ D)).take ((i + k) * 3) = A ++ C := by rw [← List.append_assoc]; exact List.take_left' (by rw [List.length_append, hAl, hCl]; omega)
  have dAC : (A ++ (C ++ D)).drop ((i + k) * 3 + 3) = [] := List.drop_eq_nil_of_le (by simp [hAl, hCl, hDl]; omega)
  try simp only [Nat.mul_one] at hD hDl g10 tAC dAC
  rw [hD]
  simp [g6, g7, g8, g9, g10, hAl, hCl, hDl, tAC, dAC]
  have rA : ∀ θ, renL θ A = A := fun θ => by rw [← hA]; exact imms_ren (flat_imm eimm _) θ
  have rC : ∀ θ, renL θ C = C := fun θ => by rw [← hC]; exact imms_ren (flat_imm eimm _) θ
  have lA : ∀ n, ltL n A = true := fun n => by rw [← hA]; exact imms_lt (flat_imm eimm _) n
  have lC : ∀ n, ltL n C = true := fun n => by rw [← hC]; exact imms_lt (flat_imm eimm _) n
  refine finG_ent (ent_tmp 6 tell_cap) ?_
  exact finGm [0] (hres := by simp; omega) (hB := by simp [rA, rC, lA, lC])

set_option maxRecDepth 20000 in
theorem DeleteI_fn (l : List Int) (i : Nat) (hi : i < l.length) (hl : l.length * 8 ≤ 140737488355328) :
    FnD Try.prog 78 [.osl 0 1 0 l.length, kI i, kI ((i : Int) + 1)] [(l.map (fun x : Int => [kI x])).flatten] (.osl 0 1 0 (l.length - 1)) [some (((l.take i ++ l.drop (i + 1)).map (fun x : Int => [kI x])).flatten ++ [kI 0])] := by
  refine fng_of Try.func78 rfl (gC_cap 0 fun cap hc1 hc2 => ?_)
  have elen : ∀ x : Int, ((fun x : Int => [kI x]) x).length = 1 := fun x => rfl
  have eimm : ∀ x : Int, ((fun x : Int => [kI x]) x).all PV.immB = true := fun x => rfl
  have h1 : (i : Int) + 1 ≤ l.length := by omega
  have h2 : (0 : Int) ≤ (i : Int) + 1 := by omega
  have h3 : ((i : Int) + 1).toNat = i + 1 := by omega
  have h4 : (i : Int) ≤ (i : Int) + 1 := by omega
  have h5 : i ≤ l.length := by omega
  have h6 : i ≤ cap := by omega
  have h7 : ¬ ((i : Int) = (i : Int) + 1) := by omega
  obtain ⟨k, hk⟩ : ∃ k, l.length = i + (k + 1) := ⟨l.length - i - 1, by omega⟩
  obtain ⟨A, hA⟩ : ∃ A, ((l.take i).map (fun x : Int => [kI x])).flatten = A := ⟨_, rfl⟩
  obtain ⟨X, hX⟩ : ∃ X, (fun x : Int => [kI x]) l[i] = X := ⟨_, rfl⟩
  obtain ⟨C, hC⟩ : ∃ C, ((l.drop (i + 1)).map (fun x : Int => [kI x])).flatten = C := ⟨_, rfl⟩
  have hAC : (l.map (fun x : Int => [kI x])).flatten = A ++ (X ++ C) := by
    have : l = l.take i ++ (l[i] :: l.drop (i + 1)) := by rw [← List.drop_eq_getElem_cons hi, List.take_append_drop]
    rw [← hA, ← hX, ← hC]
    conv => lhs; rw [this]
    rw [List.map_append, List.flatten_append, List.map_cons, List.flatten_cons]
  have hAl : A.length = i * 1 := by rw [← hA, flat_lenE elen]; simp; omega
  have hXl : X.length = 1 := by rw [← hX]; exact elen _
  have hCl : C.length = k * 1 := by rw [← hC, flat_lenE elen]; simp; omega
  have hR : ((l.take i ++ l.drop (i + 1)).map (fun x : Int => [kI x])).flatten = A ++ C := by rw [List.map_append, List.flatten_append, hA, hC]
  rw [hR, hAC]
  have h8 : l.length ≤ cap := hc1
  simp [Try.ntmps78, h1, h2, h3, h4, h5, h6, h7, h8]
  have g1 : l.length - (i + 1) = k := by omega
  have g2 : (i + k) * 8 ≤ 140737488355328 := by omega
  have g3 : i + k ≤ maxLen := by omega
  have g4 : i + k ≤ cap := by omega
  have g5 : (i + 1) * 1 + k * 1 ≤ i * 1 + (1 + k * 1) := by omega
  have tA : ∀ Y, (A ++ Y).take (i * 1) = A := fun Y => List.take_left' hAl
  have dAX : (A ++ (X ++ C)).drop ((i + 1) * 1) = C := by rw [← List.append_assoc]; exact List.drop_left' (by rw [List.length_append, hAl, hXl]; omega)
  have tC : C.take (k * 1) = C := List.take_of_length_le (by omega)
  have dE : (A ++ (X ++ C)).drop (i * 1 + k * 1) = (X ++ C).drop (k * 1) := by rw [← List.drop_drop, List.drop_left' hAl]
  try simp only [Nat.mul_one] at hAl hXl hCl tA tC dAX dE g5 g2
  refine awp_drawS follows_mix [(0, 0), (0, 0), (0, 0), (0, 0), (0, 0), (0, 0), (1, 0), (0, 0)] 1 1 [] (by kernel_rfl) rfl rfl ?_
  simp [h1, h2, h3, h4, h5, h6, h8, g1, g2, g3, g4, g5, hAl, hXl, hCl, tA, dAX, tC, dE]
  obtain ⟨D, hD⟩ : ∃ D, List.drop (k * 1) (X ++ C) = D := ⟨_, rfl⟩
  have hDl : D.length = 1 := by rw [← hD]; simp [hXl, hCl]
  have g6 : (0 : Int) ≤ (i : Int) + k := by omega
  have g7 : (i : Int) + k ≤ l.length := by omega
  have g8 : ((i : Int) + k).toNat = i + k := by omega
  have g9 : l.length - (i + k) = 1 := by omega
  have g10 : (i + k) * 1 ≤ i * 1 + (k * 1 + 1) := by omega
  have tAC : (A ++ (C ++ D)).take ((i + k) * 1) = A ++ C := by rw [← List.append_assoc]; exact List.take_left' (by rw [List.length_append, hAl, hCl]; omega)
  have dAC : (A ++ (C ++ D)).drop ((i + k) * 1 + 1) = [] := List.drop_eq_nil_of_le (by simp [hAl, hCl, hDl]; omega)
  try simp only [Nat.mul_one] at hD hDl g10 tAC dAC
  rw [hD]
  simp [g6, g7, g8, g9, g10, hAl, hCl, hDl, tAC, dAC]
  have rA : ∀ θ, renL θ A = A := fun θ => by rw [← hA]; exact imms_ren (flat_imm eimm _) θ
  have rC : ∀ θ, renL θ C = C := fun θ => by rw [← hC]; exact imms_ren (flat_imm eimm _) θ
  have lA : ∀ n, ltL n A = true := fun n => by rw [← hA]; exact imms_lt (flat_imm eimm _) n
  have lC : ∀ n, ltL n C = true := fun n => by rw [← hC]; exact imms_lt (flat_imm eimm _) n
  refine finG_ent (ent_tmp 6 tell_cap) ?_
  exact finGm [0] (hres := by simp; omega) (hB := by simp [rA, rC, lA, lC])

end Go.Proofs.Ytbddlekpoelmkaa.Am
