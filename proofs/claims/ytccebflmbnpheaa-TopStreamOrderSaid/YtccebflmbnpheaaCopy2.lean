/- kind.Copy, with the fields of one kind still to be written. -/
import Derived.Test.YtccebflmbnpheaaCopy1
set_option linter.unusedVariables false
set_option linter.unusedSimpArgs false
namespace Go.Proofs.Ytccebflmbnpheaa.Am
open Go Go.RowKit

theorem renL_set (θ : Nat → Nat) (B : List PV) (p : Nat) (x : PV) : renL θ (B.set p x) = (renL θ B).set p (x.ren θ) := by simp [renL_map, List.map_set]
theorem ltL_set {n : Nat} {B : List PV} (h : ltL n B = true) (p : Nat) {x : PV} (hx : x.lt n = true) : ltL n (B.set p x) = true := by
  rw [ltL_all] at h ⊢
  rw [List.all_eq_true] at h ⊢
  intro y hy
  rcases List.mem_or_eq_of_mem_set hy with h1 | h1
  · exact h y h1
  · subst h1; exact hx
theorem fzL_set (b : Nat) (cs B : List PV) (p : Nat) (x : PV) : fzL b cs (B.set p x) = (fzL b cs B).set p (x.fz b cs) := by simp [fzL_map, List.map_set]
theorem row_after {B : List PV} {p k n : Nat} {r : List PV} {x : PV} (hp : p < k) (hk : k ≤ B.length) : (B.set p x).take k ++ (r ++ (B.set p x).drop (k + n)) = (B.take k ++ (r ++ B.drop (k + n))).set p x := by
  rw [List.set_append_left _ _ (by rw [List.length_take]; omega), List.take_set, List.drop_set_of_lt (by omega)]

/-- Row i0 has its fields in box 1. -/
def kAt (l : List GKind) (i0 m : Nat) (B : List PV) : List PV := B.set (i0 * 2 + 1) (.osl 1 3 0 m)

set_option maxRecDepth 20000 in
theorem KCopy_at (l : List GKind) (i0 : Nat) (hi0 : i0 < l.length) (hl : l.length ≤ 1000000000) (hv : ∀ c ∈ l, c.Fields.length ≤ 1000000000) :
    FnD Try.prog 26 [.sl 2 (l.map GKind.e)] [] (.osl 0 2 0 l.length) [some (kAt l i0 l[i0].Fields.length (l.map GKind.e).flatten), some (l[i0].Fields.map GField.e).flatten] := by
  refine fnd_go Try.func26 rfl ?_
  have h1 : 40 * (l.length : Int) ≤ 281474976710656 := by omega
  have h2 : (l.length : Int) ≤ 9223372036854775807 := by omega
  simp [Try.ntmps26, h1, h2]
  refine awp_loop (fun i : Nat => ⟨27, [(3, .osl 0 2 0 l.length), (9, .sl 2 (l.map GKind.e)), (10, kI l.length), (11, kI i)],
      if i ≤ i0 then [some (fillB GKind.e zK l i)] else [some (kAt l i0 l[i0].Fields.length (fillB GKind.e zK l i)), some (l[i0].Fields.map GField.e).flatten], 0⟩) (fun i => i ≤ l.length) (fun i => l.length - i) 0 ?_ ?_ ?_
  · rw [show (List.replicate l.length zK).flatten = fillB GKind.e zK l 0 from (fillB_0 GKind.e zK l).symm]
    exact entm [0] (hB := by simp [imms_ren (fillB_imm GKind.e_imm (zr := zK) rfl l 0), imms_lt (fillB_imm GKind.e_imm (zr := zK) rfl l 0)])
  · simp
  · intro i hi
    refine awp_go ?_
    by_cases hlt : i < l.length
    · have hbl := fillB_len GKind.e_len (zr := zK) rfl l i hi
      have hrow := fillB_row GKind.e_len (zr := zK) rfl l i hlt
      have him := fillB_imm GKind.e_imm (zr := zK) rfl l i
      have gi := fillB_imm GKind.e_imm (zr := zK) rfl l (i + 1)
      generalize fillB GKind.e zK l i = B at hbl hrow him ⊢
      have hf := hv _ (List.getElem_mem hlt)
      have hb1 : l[i].Fields.length * 32 ≤ 140737488355328 := by omega
      have hb2 : l[i].Fields.length ≤ maxLen := by simp only [maxLen]; omega
      have hq : i * 2 + 2 ≤ l.length * 2 := by omega
      have f1 := fun b cs => imms_fz (imm_take him (i * 2)) b cs
      have f2 := fun b cs => imms_fz (imm_drop him (i * 2 + 2)) b cs
      have hr2 : List.take (i * 2) B ++ kS l[i].Name :: .sl 3 (l[i].Fields.map GField.e) :: List.drop (i * 2 + 2) B = fillB GKind.e zK l (i + 1) := by rw [← hrow]; rfl
      have htl : (B.take (i * 2)).length = i * 2 := by rw [List.length_take]; omega
      have hs : ∀ x : PV, (fillB GKind.e zK l (i + 1)).set (i * 2 + 1) x = List.take (i * 2) B ++ kS l[i].Name :: x :: List.drop (i * 2 + 2) B := fun x => by
        rw [← hr2, List.set_append_right _ _ (by omega), htl, show i * 2 + 1 - i * 2 = 1 by omega]; rfl
      by_cases hc : i ≤ i0
      · simp [hlt, hc]
        refine awp_draw follows_mix [] [(0, [0, 1]), (0, [0, 1]), (0, [0, 1]), (0, [0, 1]), (0, [0]), (0, [0]), (1, [0]), (0, [1]), (0, [1]), (1, [1])] 2 (by kernel_rfl) rfl ?_
        simp [hlt, hb1, hb2, hbl, hq]
        rw [wrap_id (by omega) (by omega)]
        by_cases hc2 : i = i0
        · subst hc2
          refine ⟨i + 1, by omega, by omega, ?_⟩
          rw [if_neg (by omega)]
          exact entm [0, 3] (hB := by simp [kAt, renL_set, imms_ren gi, hs, imms_ren (imm_take him (i * 2)), imms_ren (imm_drop him (i * 2 + 2)), imms_lt (imm_take him (i * 2)), imms_lt (imm_drop him (i * 2 + 2))])
        · refine ⟨i + 1, by omega, by omega, (ent_fz 3 _).trans ?_⟩
          rw [if_pos (by omega)]
          simp [f1, f2, hr2]
          exact entm [0] (hB := by simp [imms_ren gi, imms_lt gi])
      · simp [hlt, hc]
        have hkl : (kAt l i0 l[i0].Fields.length B).length = l.length * 2 := by simp [kAt, hbl]
        have hk : ∀ x : PV, List.take (i * 2) (kAt l i0 l[i0].Fields.length B) ++ kS l[i].Name :: x :: List.drop (i * 2 + 2) (kAt l i0 l[i0].Fields.length B) = ((fillB GKind.e zK l (i + 1)).set (i * 2 + 1) x).set (i0 * 2 + 1) (.osl 1 3 0 l[i0].Fields.length) := fun x => by
          rw [hs]; exact row_after (r := [kS l[i].Name, x]) (by omega) (by omega)
        refine awp_draw follows_mix [] [(0, [0, 1]), (0, [0, 1]), (0, [0, 1]), (0, [0, 1]), (0, [0]), (0, [0]), (1, [0]), (0, [1]), (0, [1]), (1, [1])] 2 (by kernel_rfl) rfl ?_
        simp [hlt, hb1, hb2, hkl, hq]
        rw [wrap_id (by omega) (by omega), hk]
        refine ⟨i + 1, by omega, by omega, (ent_fz 4 _).trans ?_⟩
        rw [if_neg (by omega)]
        simp [fzL_set, imms_fz gi, hs, f1, f2, hr2]
        exact entm [0, 1] (hB := by simp [kAt, renL_set, imms_ren gi, ltL_set (imms_lt gi 2)])
    · simp [hlt]
      have : i = l.length := by omega
      subst this
      rw [fillB_end, if_neg (by omega)]
      exact finGm [0, 1] (hB := by simp [kAt, renL_set, ltL_set])
end Go.Proofs.Ytccebflmbnpheaa.Am
