/- Copies of components. -/
import Derived.Test.YtidhdlhblhbahaaGreatCmp
import Derived.Test.YtidhdlhblhbahaaGreatSl5
set_option linter.unusedVariables false
set_option linter.unusedSimpArgs false
namespace Go.Proofs.YtidhdlhblhbahaaGreat.Am
open Go Go.RowKit

/-- A box that is filled row by row. -/
def fillB {α : Type} (e : α → List PV) (zr : List PV) (l : List α) (i : Nat) : List PV := ((l.take i).map e).flatten ++ (List.replicate (l.length - i) zr).flatten
theorem fillB_len {α : Type} {e : α → List PV} {z : Nat} (h : ∀ x, (e x).length = z) {zr : List PV} (hz : zr.length = z) (l : List α) (i : Nat) (hi : i ≤ l.length) : (fillB e zr l i).length = l.length * z := by
  unfold fillB
  rw [List.length_append, flat_lenE h, List.length_take, Nat.min_eq_left hi]
  have : (List.replicate (l.length - i) zr).flatten.length = (l.length - i) * z := by simp [hz]
  rw [this, ← Nat.add_mul]; congr 1; omega
theorem fillB_row {α : Type} {e : α → List PV} {z : Nat} (h : ∀ x, (e x).length = z) {zr : List PV} (hz : zr.length = z) (l : List α) (i : Nat) (hi : i < l.length) :
    (fillB e zr l i).take (i * z) ++ (e l[i] ++ (fillB e zr l i).drop (i * z + z)) = fillB e zr l (i + 1) := by
  have hA : ((l.take i).map e).flatten.length = i * z := by rw [flat_lenE h, List.length_take, Nat.min_eq_left (by omega)]
  have hd : l.length - i = (l.length - (i + 1)) + 1 := by omega
  unfold fillB
  rw [List.take_left' hA, ← List.drop_drop, List.drop_left' hA, hd, List.replicate_succ, List.flatten_cons, List.drop_left' hz, ← List.take_append_getElem hi]
  simp only [List.map_append, List.flatten_append, List.map_cons, List.map_nil, List.flatten_cons, List.flatten_nil, List.append_nil, List.append_assoc]
theorem fillB_0 {α : Type} (e : α → List PV) (zr : List PV) (l : List α) : fillB e zr l 0 = (List.replicate l.length zr).flatten := by simp [fillB]
theorem fillB_end {α : Type} (e : α → List PV) (zr : List PV) (l : List α) : fillB e zr l l.length = (l.map e).flatten := by simp [fillB]
theorem fillB_imm {α : Type} {e : α → List PV} (h : ∀ x, (e x).all PV.immB = true) {zr : List PV} (hz : zr.all PV.immB = true) (l : List α) (i : Nat) : (fillB e zr l i).all PV.immB = true := by
  unfold fillB
  rw [List.all_append, flat_imm h, Bool.true_and, List.all_eq_true]
  intro p hp
  obtain ⟨r, hr, hp2⟩ := List.mem_flatten.1 hp
  obtain rfl := (List.mem_replicate.1 hr).2
  exact List.all_eq_true.1 hz p hp2

set_option maxRecDepth 20000 in
theorem CopyComps_fn (l : List GComp) (hl : l.length ≤ 1000000000) (hv : ∀ c ∈ l, c.Vals.length ≤ 1000000000) : Fn Tryz.prog 66 [.sl 2 (l.map GComp.e)] (.sl 2 (l.map GComp.e)) := by
  refine fn_go Tryz.func66 rfl ?_
  simp [Tryz.ntmps66]
  have h1 : 32 * (l.length : Int) ≤ 281474976710656 := by omega
  have h2 : (l.length : Int) ≤ 9223372036854775807 := by omega
  simp [h1, h2]
  refine awp_loop (fun i : Nat => ⟨27, [(3, .osl 0 2 0 l.length), (9, .sl 2 (l.map GComp.e)), (10, kI l.length), (11, kI i)], [some (fillB GComp.e [kI 0, kNil] l i)], 0⟩) (fun i => i ≤ l.length) (fun i => l.length - i) 0 ?_ ?_ ?_
  · rw [← fillB_0 GComp.e]
    exact entm [0] (hB := by simp [imms_ren (fillB_imm GComp.e_imm (zr := [kI 0, kNil]) rfl l 0), imms_lt (fillB_imm GComp.e_imm (zr := [kI 0, kNil]) rfl l 0)])
  · simp
  · intro i hi
    refine awp_go ?_
    by_cases hlt : i < l.length
    · have hbl := fillB_len GComp.e_len (zr := [kI 0, kNil]) rfl l i hi
      have hrow := fillB_row GComp.e_len (zr := [kI 0, kNil]) rfl l i hlt
      generalize fillB GComp.e [kI 0, kNil] l i = B at hbl hrow ⊢
      simp [hlt]
      refine awp_draw follows_mix [] [(0, [0]), (0, [0]), (0, [0]), (0, [0]), (0, [0]), (0, [0]), (2, [0]), (0, [0]), (0, [0]), (1, [0])] 1 (by kernel_rfl) rfl ?_
      simp [hlt]
      refine gD_call (slI l[i].Vals) ?_
      have hq : i * 2 + 2 ≤ l.length * 2 := by omega
      simp [hlt, hbl, hq]
      refine ⟨calO (CloneI_fn l[i].Vals (by have := hv _ (List.getElem_mem hlt); omega)), ?_⟩
      rw [wrap_id (by omega) (by omega), show kI l[i].Kind :: slI l[i].Vals :: List.drop (i * 2 + 2) B = l[i].e ++ List.drop (i * 2 + 2) B from rfl, hrow]
      exact ⟨i + 1, by omega, by omega, entm [0] (hB := by simp [imms_ren (fillB_imm GComp.e_imm (zr := [kI 0, kNil]) rfl l (i + 1)), imms_lt (fillB_imm GComp.e_imm (zr := [kI 0, kNil]) rfl l (i + 1))])⟩
    · simp [hlt]
      have : i = l.length := by omega
      subst this
      rw [fillB_end]
      refine fin_fz 0 _ ?_
      simp
      exact finm (by simp)

theorem imm_take {ps : List PV} (h : ps.all PV.immB = true) (k : Nat) : (ps.take k).all PV.immB = true := by
  rw [List.all_eq_true] at h ⊢; exact fun p hp => h p (List.mem_of_mem_take hp)
theorem imm_drop {ps : List PV} (h : ps.all PV.immB = true) (k : Nat) : (ps.drop k).all PV.immB = true := by
  rw [List.all_eq_true] at h ⊢; exact fun p hp => h p (List.mem_of_mem_drop hp)

abbrev zK : List PV := [kS ⟨#[]⟩, kNil]
set_option maxRecDepth 20000 in
theorem KCopy_fn (l : List GKind) (hl : l.length ≤ 1000000000) (hv : ∀ c ∈ l, c.Fields.length ≤ 1000000000) : Fn Tryz.prog 65 [.sl 2 (l.map GKind.e)] (.sl 2 (l.map GKind.e)) := by
  refine fn_go Tryz.func65 rfl ?_
  have h1 : 40 * (l.length : Int) ≤ 281474976710656 := by omega
  have h2 : (l.length : Int) ≤ 9223372036854775807 := by omega
  simp [Tryz.ntmps65, h1, h2]
  refine awp_loop (fun i : Nat => ⟨27, [(3, .osl 0 2 0 l.length), (9, .sl 2 (l.map GKind.e)), (10, kI l.length), (11, kI i)], [some (fillB GKind.e zK l i)], 0⟩) (fun i => i ≤ l.length) (fun i => l.length - i) 0 ?_ ?_ ?_
  · rw [show (List.replicate l.length zK).flatten = fillB GKind.e zK l 0 from (fillB_0 GKind.e zK l).symm]
    exact entm [0] (hB := by simp [imms_ren (fillB_imm GKind.e_imm (zr := zK) rfl l 0), imms_lt (fillB_imm GKind.e_imm (zr := zK) rfl l 0)])
  · simp
  · intro i hi
    refine awp_go ?_
    by_cases hlt : i < l.length
    · have hbl := fillB_len GKind.e_len (zr := zK) rfl l i hi
      have hrow := fillB_row GKind.e_len (zr := zK) rfl l i hlt
      have him := fillB_imm GKind.e_imm (zr := zK) rfl l i
      generalize fillB GKind.e zK l i = B at hbl hrow him ⊢
      have hf := hv _ (List.getElem_mem hlt)
      have hb1 : l[i].Fields.length * 32 ≤ 140737488355328 := by omega
      have hb2 : l[i].Fields.length ≤ maxLen := by simp only [maxLen]; omega
      have hq : i * 2 + 2 ≤ l.length * 2 := by omega
      simp [hlt]
      refine awp_draw follows_mix [] [(0, [0, 1]), (0, [0, 1]), (0, [0, 1]), (0, [0, 1]), (0, [0]), (0, [0]), (1, [0]), (0, [1]), (0, [1]), (1, [1])] 2 (by kernel_rfl) rfl ?_
      simp [hlt, hb1, hb2, hbl, hq]
      rw [wrap_id (by omega) (by omega)]
      have f1 := fun b cs => imms_fz (imm_take him (i * 2)) b cs
      have f2 := fun b cs => imms_fz (imm_drop him (i * 2 + 2)) b cs
      have hr2 : List.take (i * 2) B ++ kS l[i].Name :: .sl 3 (l[i].Fields.map GField.e) :: List.drop (i * 2 + 2) B = fillB GKind.e zK l (i + 1) := by rw [← hrow]; rfl
      have gi := fillB_imm GKind.e_imm (zr := zK) rfl l (i + 1)
      refine ⟨i + 1, by omega, by omega, (ent_fz 3 _).trans ?_⟩
      simp [f1, f2, hr2]
      exact entm [0] (hB := by simp [imms_ren gi, imms_lt gi])
    · simp [hlt]
      have : i = l.length := by omega
      subst this
      rw [fillB_end]
      refine fin_fz 0 _ ?_
      simp
      exact finm (by simp)

set_option maxRecDepth 20000 in
theorem KCopy_own (l : List GKind) (hl : l.length ≤ 1000000000) (hv : ∀ c ∈ l, c.Fields.length ≤ 1000000000) : FnD Tryz.prog 65 [.sl 2 (l.map GKind.e)] [] (.osl 0 2 0 l.length) [some (l.map GKind.e).flatten] := by
  refine fnd_go Tryz.func65 rfl ?_
  have h1 : 40 * (l.length : Int) ≤ 281474976710656 := by omega
  have h2 : (l.length : Int) ≤ 9223372036854775807 := by omega
  simp [Tryz.ntmps65, h1, h2]
  refine awp_loop (fun i : Nat => ⟨27, [(3, .osl 0 2 0 l.length), (9, .sl 2 (l.map GKind.e)), (10, kI l.length), (11, kI i)], [some (fillB GKind.e zK l i)], 0⟩) (fun i => i ≤ l.length) (fun i => l.length - i) 0 ?_ ?_ ?_
  · rw [show (List.replicate l.length zK).flatten = fillB GKind.e zK l 0 from (fillB_0 GKind.e zK l).symm]
    exact entm [0] (hB := by simp [imms_ren (fillB_imm GKind.e_imm (zr := zK) rfl l 0), imms_lt (fillB_imm GKind.e_imm (zr := zK) rfl l 0)])
  · simp
  · intro i hi
    refine awp_go ?_
    by_cases hlt : i < l.length
    · have hbl := fillB_len GKind.e_len (zr := zK) rfl l i hi
      have hrow := fillB_row GKind.e_len (zr := zK) rfl l i hlt
      have him := fillB_imm GKind.e_imm (zr := zK) rfl l i
      generalize fillB GKind.e zK l i = B at hbl hrow him ⊢
      have hf := hv _ (List.getElem_mem hlt)
      have hb1 : l[i].Fields.length * 32 ≤ 140737488355328 := by omega
      have hb2 : l[i].Fields.length ≤ maxLen := by simp only [maxLen]; omega
      have hq : i * 2 + 2 ≤ l.length * 2 := by omega
      simp [hlt]
      refine awp_draw follows_mix [] [(0, [0, 1]), (0, [0, 1]), (0, [0, 1]), (0, [0, 1]), (0, [0]), (0, [0]), (1, [0]), (0, [1]), (0, [1]), (1, [1])] 2 (by kernel_rfl) rfl ?_
      simp [hlt, hb1, hb2, hbl, hq]
      rw [wrap_id (by omega) (by omega)]
      have f1 := fun b cs => imms_fz (imm_take him (i * 2)) b cs
      have f2 := fun b cs => imms_fz (imm_drop him (i * 2 + 2)) b cs
      have hr2 : List.take (i * 2) B ++ kS l[i].Name :: .sl 3 (l[i].Fields.map GField.e) :: List.drop (i * 2 + 2) B = fillB GKind.e zK l (i + 1) := by rw [← hrow]; rfl
      have gi := fillB_imm GKind.e_imm (zr := zK) rfl l (i + 1)
      refine ⟨i + 1, by omega, by omega, (ent_fz 3 _).trans ?_⟩
      simp [f1, f2, hr2]
      exact entm [0] (hB := by simp [imms_ren gi, imms_lt gi])
    · simp [hlt]
      have : i = l.length := by omega
      subst this
      rw [fillB_end]
      exact finGm [0]
end Go.Proofs.YtidhdlhblhbahaaGreat.Am
