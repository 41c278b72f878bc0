/- slices.Insert at tables. -/
import Derived.Test.YtidhdlhblhbahaaGreatLie
import Derived.Test.YtidhdlhblhbahaaGreatOvl
import Derived.Test.YtidhdlhblhbahaaGreatCmp
set_option linter.unusedVariables false
set_option linter.unusedSimpArgs false
namespace Go.Proofs.YtidhdlhblhbahaaGreat.Am
open Go Go.RowKit

set_option maxRecDepth 20000 in
set_option maxHeartbeats 1000000 in
theorem InsertT_L {σ : Boxes} {b0 b1 : Nat} {l : List PV} (i : Nat) {v : PV} (hb0 : box σ b0 = some l) (hb1 : box σ b1 = some [v]) (hne : b0 ≠ b1) (hi : i ≤ l.length) (hl : (l.length + 1) * 8 ≤ 140737488355328) :
    FnL Tryz.prog 138 [.osl b0 1 0 l.length, kI i, .osl b1 1 0 1] σ
      (fun p τ => ∃ m, p = .osl m 1 0 (l.length + 1) ∧ box τ m = some (l.take i ++ v :: l.drop i) ∧ σ.length ≤ τ.length ∧ (m = b0 ∨ σ.length ≤ m) ∧ ∀ b, b < σ.length → b ≠ b0 → box τ b = box σ b) := by
  refine fnl_of Tryz.func138 rfl fun hlt => (gC_cap 0 fun cap hc1 hc2 => ?_)
  have h1 : ¬ ((l.length : Int) < i) := by omega
  have g0 := boxG hb0
  have g1 := boxG hb1
  have l0 := box_lt hb0
  have l1 := box_lt hb1
  have hx : ∀ (τ : Boxes) (b : Nat), box τ b = (τ[b]?).join := fun _ _ => rfl
  simp [Tryz.ntmps138, hi, hc1, entryL, g0, g1]
  by_cases he : i = l.length
  · subst he
    have hb1 : (l.length + 1) * 8 ≤ 140737488355328 := by omega
    have hb2 : l.length + 1 ≤ maxLen := by simp only [maxLen]; omega
    by_cases hr : l.length + 1 ≤ cap
    · simp [hc1, hb1, hb2, hr, g0, g1]
      refine finL_ent (ent_tmp 6 tell_cap) ?_
      exact finL (p := .osl b0 1 0 (l.length + 1)) ⟨b0, rfl, (box_set l0).trans (by simp), by simp, .inl rfl, fun b hb hn => (box_set l0).trans (if_neg hn)⟩
    · simp [hc1, hb1, hb2, hr, g0, g1]
      refine finL (p := .osl σ.length 1 0 (l.length + 1)) ⟨σ.length, rfl, box_append.trans ?_, by simp, .inr (Nat.le_refl _), fun b hb hn => box_append.trans ?_⟩
      · simp
      · simp [hb, List.getElem?_set, Ne.symm hn]
  · have he' : ¬ ((i : Int) = l.length) := by omega
    obtain ⟨k, hk⟩ : ∃ k, l.length = i + (k + 1) := ⟨l.length - i - 1, by omega⟩
    obtain ⟨A, hA⟩ : ∃ A, l.take i = A := ⟨_, rfl⟩
    obtain ⟨B, hB⟩ : ∃ B, l.drop i = B := ⟨_, rfl⟩
    have hAB : l = A ++ B := by rw [← hA, ← hB, List.take_append_drop]
    have hAl : A.length = i := by rw [← hA]; simp; omega
    have hBl : B.length = k + 1 := by rw [← hB]; simp; omega
    have tA : ∀ Y, (A ++ Y).take i = A := fun Y => List.take_left' hAl
    have dA : ∀ Y, (A ++ Y).drop i = Y := fun Y => List.drop_left' hAl
    have dA2 : ∀ Y, (A ++ Y).drop (i + 1) = Y.drop 1 := fun Y => by rw [← List.drop_drop, dA]
    have tA2 : ∀ Y, (A ++ Y).take (i + 1) = A ++ Y.take 1 := fun Y => by
      rw [show i + 1 = A.length + 1 by rw [hAl], List.take_length_add_append]
    have tB : B.take (k + 1) = B := List.take_of_length_le (by omega)
    have hz : 1 ≤ B.length := by omega
    rw [hA, hB]
    rw [hAB] at g0
    simp [he, he']
    rw [wrap_id (by omega) (by omega)]
    by_cases hroom : (cap : Int) < l.length + 1
    · have hic : i ≤ cap := by omega
      have e1 : IntKind.i64.wrap ((l.length : Int) + 1 - i) = ((k + 2 : Nat) : Int) := by rw [wrap_id (by omega) (by omega)]; omega
      have hb1 : (k + 2) * 8 ≤ 140737488355328 := by omega
      have hb2 : (i + (k + 2)) * 8 ≤ 140737488355328 := by omega
      have hb3 : i + (k + 2) ≤ maxLen := by simp only [maxLen]; omega
      have hb4 : ¬ (i + (k + 2) ≤ cap) := by omega
      have hb6 : ((k : Int) + 2 ≤ 9223372036854775807) := by omega
      have hb7 : 0 ≤ (k : Int) + 2 := by omega
      have hb8 : ((k : Int) + 2).toNat = k + 2 := by omega
      simp [hroom, hic]
      rw [wrap_id (x := (l.length : Int) + 1) (by omega) (by omega), e1]
      simp [hb1, hb2, hb3, hb4, hb6, hb7, hb8, hAl, hBl, tA, g0]
      obtain ⟨Z, hZ⟩ : ∃ Z, List.replicate (k + 2) (PV.k (.pointer none)) = Z := ⟨_, rfl⟩
      have hZl : Z.length = k + 2 := by rw [← hZ]; simp
      have hb10 : (i : Int) ≤ (i : Int) + ((k : Int) + 2) := by omega
      have hb11 : ((i : Int) + ((k : Int) + 2)).toNat = i + (k + 2) := by omega
      have hb12 : i + (k + 2) - i = k + 2 := by omega
      rw [hZ]
      have sA : ∀ x y : Option (List PV), (σ ++ [x]).set σ.length y = σ ++ [y] := fun x y => by
        rw [List.set_append_right _ _ (Nat.le_refl _)]; simp
      have a0 : ∀ x : Boxes, (σ ++ x)[b0]? = some (some (A ++ B)) := fun x => by rw [List.getElem?_append_left l0, g0]
      have a1 : ∀ x : Boxes, (σ ++ x)[b1]? = some (some [v]) := fun x => by rw [List.getElem?_append_left l1, g1]
      have an : ∀ x : Option (List PV), (σ ++ [x])[σ.length]? = some x := fun x => by simp
      simp [hb10, hb11, hb12, hAl, hZl, tA, dA2, sA, a0, a1, an]
      refine awp_draw follows_mix [] [(0, [0]), (0, [0]), (0, [0]), (0, [0]), (0, [0]), (0, [0]), (0, [0]), (0, [0]), (1, [0])] 1 (by kernel_rfl) rfl ?_
      have e3 : IntKind.i64.wrap ((i : Int) + 1) = (i : Int) + 1 := wrap_id (by omega) (by omega)
      have hd1 : 0 ≤ (i : Int) + 1 := by omega
      have hd2 : (i : Int) + 1 ≤ (i : Int) + ((k : Int) + 2) := by omega
      have hd3 : ((i : Int) + 1).toNat = i + 1 := by omega
      have hd4 : i + (k + 2) - (i + 1) = k + 1 := by omega
      have hk1 : l.length - i = k + 1 := by omega
      have hk5 : i + 1 ≤ i + (k + 2) := by omega
      have hk6 : i + 1 ≤ i + (1 + ((k + 2) - 1)) := by omega
      have e4 : ([v] ++ List.drop 1 Z).take 1 = [v] := rfl
      have dE : (A ++ ([v] ++ List.drop 1 Z)).drop (i + 1 + (k + 1)) = [] := List.drop_eq_nil_of_le (by simp; omega)
      simp [e3, hd1, hd2, hd3, hd4, hb11, hi, hc1, hk1, hk5, hk6, hAl, hBl, hZl, tA, dA, tA2, tB, e4, dE, sA, a0, a1, an]
      have dF : List.drop (i + 1 + (k + 1)) (A ++ v :: Z.tail) = [] := List.drop_eq_nil_of_le (by simp; omega)
      rw [dF, show i + (k + 2) = l.length + 1 by omega, List.append_nil]
      refine finL (p := .osl σ.length 1 0 (l.length + 1)) ⟨σ.length, rfl, ?_, by simp, .inr (Nat.le_refl _), fun b hb hn => ?_⟩
      · simp
      · simp only [List.getElem?_append_left hb]
    · have hb1 : (l.length : Int) + 1 ≤ cap := by omega
      have hb2 : 0 ≤ (l.length : Int) + 1 := by omega
      simp [hroom]
      rw [wrap_id (x := (l.length : Int) + 1) (by omega) (by omega)]
      have e1 : IntKind.i64.wrap ((i : Int) + 1) = ((i + 1 : Nat) : Int) := by rw [wrap_id (by omega) (by omega)]; omega
      have hb3 : (i : Int) + 1 ≤ (l.length : Int) + 1 := by omega
      have hb4 : 0 ≤ (i : Int) + 1 := by omega
      have hb5 : ((i : Int) + 1).toNat = i + 1 := by omega
      simp [hb1, hb2]
      rw [e1]
      simp [hb3, hb4, hb5]
      refine calOvl (fn := Tryz.prog.funcs[177]) rfl ?_ (hi := by simp [g1]; rfl) (hj := by simp [g0]; rfl) (hne := Ne.symm hne)
      simp
      refine awp_draw follows_mix [] [(0, [0]), (0, [0]), (0, [0]), (0, [0]), (0, [0]), (0, [0]), (0, [0]), (0, [0]), (1, [0])] 1 (by kernel_rfl) rfl ?_
      simp
      rw [e1]
      have hk1 : l.length - i = k + 1 := by omega
      have hk2 : l.length + 1 - i = k + 2 := by omega
      have hk3 : min (k + 2) (k + 1) = k + 1 := by omega
      have hk4 : (i : Int) ≤ (l.length : Int) + 1 := by omega
      simp [hb1, hb3, hb4, hb5, hk1, hk2, hk3, hk4, hAl, hBl, tA, dA, dA2, tA2, tB, g0]
      refine ⟨wrap_id (by omega) (by omega), ?_⟩
      have s0 : ∀ x : List PV, (σ.set b0 (some x))[b0]? = some (some x) := fun x => by simp [l0]
      have s1 : ∀ x : List PV, (σ.set b0 (some x))[b1]? = some (some [v]) := fun x => by rw [List.getElem?_set_ne hne, g1]
      have dE : (A ++ B).drop (i + 1 + (k + 1)) = [] := List.drop_eq_nil_of_le (by simp; omega)
      have e2 : A ++ (v :: List.drop 1 (List.take 1 B ++ B)) = A ++ (v :: B) := by
        rw [List.drop_left' (by simp; omega)]
      have e5 : List.drop (i + 1) (A ++ (List.take 1 B ++ B)) = B := by
        rw [dA2]; exact List.drop_left' (by simp; omega)
      have e6 : List.take i (A ++ (List.take 1 B ++ B)) = A := tA _
      simp [s0, s1, dE, hAl, e5, e6]
      refine finL_ent (ent_tmp 6 tell_cap) ?_
      exact finL (p := .osl b0 1 0 (l.length + 1)) ⟨b0, rfl, (box_set l0).trans (by simp), by simp, .inl rfl, fun b hb hn => (box_set l0).trans (if_neg hn)⟩
end Go.Proofs.YtidhdlhblhbahaaGreat.Am
