/- Package world: copies. -/
import Derived.Test.YtccebflmbnpheaaCopy1
set_option linter.unusedVariables false
set_option linter.unusedSimpArgs false
namespace Go.Proofs.Ytccebflmbnpheaa.Am
open Go Go.RowKit

abbrev zIt : List PV := [kI 0, kI 0, kNil]
/-- Sizes that a valid world keeps, and much more. -/
structure Fine (w : GWorld) : Prop where
  kl : w.Kinds.length ≤ 1000000
  kf : ∀ k ∈ w.Kinds, k.Fields.length ≤ 1000000
  gl : w.Gens.length ≤ 1000000
  il : w.Items.length ≤ 1000000
  ic : ∀ it ∈ w.Items, it.Comps.length ≤ 1000000
  iv : ∀ it ∈ w.Items, ∀ c ∈ it.Comps, c.Vals.length ≤ 1000000

set_option maxRecDepth 20000 in
theorem WCopy_own (w : GWorld) (hw : Fine w) : FnD Try.prog 30 [.agg w.e] [] (.agg [.sl 2 (w.Kinds.map GKind.e), slI w.Gens, .osl 0 3 0 w.Items.length]) [some (w.Items.map GItem.e).flatten] := by
  obtain ⟨hkl, hkf, hgl, hil, hic, hiv⟩ := hw
  obtain ⟨ks, gs, its⟩ := w
  simp only at hkl hkf hgl hil hic hiv ⊢
  refine fnd_go Try.func30 rfl ?_
  simp [Try.ntmps30]
  have h1 : 40 * (its.length : Int) ≤ 281474976710656 := by omega
  have h2 : (its.length : Int) ≤ 9223372036854775807 := by omega
  refine awp_drawS follows_mix [(0, 0), (0, 0), (2, 0), (0, 0), (0, 0), (2, 0), (0, 0), (0, 0), (0, 0), (4, 2), (0, 0), (4, 3), (1, 0)] 2 4 [(0, 9), (0, 11), (1, 9), (1, 11), (2, 9), (2, 11), (3, 9), (3, 11), (4, 9), (4, 11), (5, 9), (5, 11), (6, 11), (7, 11), (8, 11), (9, 11), (10, 11)] (by kernel_rfl) rfl rfl ?_
  simp
  refine gE_call (.sl 2 (ks.map GKind.e)) ?_ ?_
  · simp
    exact calO (KCopy_fn ks (by omega) (fun k hk => by have := hkf k hk; omega))
  simp
  refine gE_call (slI gs) ?_ ?_
  · simp
    exact calO (CloneI_fn gs (by omega))
  simp [h1, h2]
  have h0 := fillB_imm GItem.e_imm (zr := zIt) rfl its 0
  rw [show (List.replicate its.length [kI 0, kI 0, kNil]).flatten = fillB GItem.e zIt its 0 from (fillB_0 GItem.e zIt its).symm]
  refine ⟨imms_lt h0 4, ?_⟩
  refine awp_loop (fun i : Nat => ⟨37, [(2, .ptr 0 0), (3, .ptr 2 0), (18, .sl 3 (its.map GItem.e)), (19, kI its.length), (20, kI i)], [some [kNil, kNil, kNil], some (fillB GItem.e zIt its i), some [.sl 2 (ks.map GKind.e), slI gs, .osl 1 3 0 its.length]], 0⟩) (fun i => i ≤ its.length) (fun i => its.length - i) 0 ?_ ?_ ?_
  · exact entm [1, 2, 3] (hB := by simp [imms_ren h0, imms_lt h0])
  · simp
  · intro i hi
    refine awp_go ?_
    by_cases hlt : i < its.length
    · have hbl := fillB_len GItem.e_len (zr := zIt) rfl its i hi
      have hrow := fillB_row GItem.e_len (zr := zIt) rfl its i hlt
      have him := fillB_imm GItem.e_imm (zr := zIt) rfl its (i + 1)
      generalize fillB GItem.e zIt its i = B at hbl hrow ⊢
      obtain ⟨x, hx⟩ : ∃ x, its[i] = x := ⟨_, rfl⟩
      have hm : x ∈ its := hx ▸ List.getElem_mem hlt
      rw [hx] at hrow
      have hq : i * 3 + 3 ≤ its.length * 3 := by omega
      simp [hlt, hx]
      refine awp_draw follows_mix [] [(0, [0]), (0, [0]), (0, [0]), (0, [0]), (0, [0]), (0, [0]), (0, [0]), (2, [0]), (0, [0]), (0, [0]), (1, [0])] 1 (by kernel_rfl) rfl ?_
      simp [hlt, hx]
      refine gD_call (.sl 2 (x.Comps.map GComp.e)) ?_
      simp [hlt, hx, hbl, hq]
      refine ⟨calO (CopyComps_fn x.Comps (by have := hic x hm; omega) (fun c hc => by have := hiv x hm c hc; omega)), ?_⟩
      rw [wrap_id (by omega) (by omega)]
      have hr2 : List.take (i * 3) B ++ (List.take 2 (x.Ent.e ++ [kNil]) ++ .sl 2 (x.Comps.map GComp.e) :: (List.drop 3 (x.Ent.e ++ [kNil]) ++ List.drop (i * 3 + 3) B)) = fillB GItem.e zIt its (i + 1) := by rw [← hrow]; rfl
      rw [hr2]
      exact ⟨i + 1, by omega, by omega, entm [0, 1, 2] (hB := by simp [imms_ren him, imms_lt him])⟩
    · simp [hlt]
      have : i = its.length := by omega
      subst this
      rw [fillB_end]
      exact finGm [1]

set_option maxRecDepth 20000 in
theorem WCopy_fn (w : GWorld) (hw : Fine w) : Fn Try.prog 30 [.agg w.e] (.agg w.e) := by
  obtain ⟨hkl, hkf, hgl, hil, hic, hiv⟩ := hw
  obtain ⟨ks, gs, its⟩ := w
  simp only at hkl hkf hgl hil hic hiv ⊢
  refine fn_go Try.func30 rfl ?_
  simp [Try.ntmps30]
  have h1 : 40 * (its.length : Int) ≤ 281474976710656 := by omega
  have h2 : (its.length : Int) ≤ 9223372036854775807 := by omega
  refine awp_drawS follows_mix [(0, 0), (0, 0), (2, 0), (0, 0), (0, 0), (2, 0), (0, 0), (0, 0), (0, 0), (4, 2), (0, 0), (4, 3), (1, 0)] 2 4 [(0, 9), (0, 11), (1, 9), (1, 11), (2, 9), (2, 11), (3, 9), (3, 11), (4, 9), (4, 11), (5, 9), (5, 11), (6, 11), (7, 11), (8, 11), (9, 11), (10, 11)] (by kernel_rfl) rfl rfl ?_
  simp
  refine gE_call (.sl 2 (ks.map GKind.e)) ?_ ?_
  · simp
    exact calO (KCopy_fn ks (by omega) (fun k hk => by have := hkf k hk; omega))
  simp
  refine gE_call (slI gs) ?_ ?_
  · simp
    exact calO (CloneI_fn gs (by omega))
  simp [h1, h2]
  have h0 := fillB_imm GItem.e_imm (zr := zIt) rfl its 0
  rw [show (List.replicate its.length [kI 0, kI 0, kNil]).flatten = fillB GItem.e zIt its 0 from (fillB_0 GItem.e zIt its).symm]
  refine ⟨imms_lt h0 4, ?_⟩
  refine awp_loop (fun i : Nat => ⟨37, [(2, .ptr 0 0), (3, .ptr 2 0), (18, .sl 3 (its.map GItem.e)), (19, kI its.length), (20, kI i)], [some [kNil, kNil, kNil], some (fillB GItem.e zIt its i), some [.sl 2 (ks.map GKind.e), slI gs, .osl 1 3 0 its.length]], 0⟩) (fun i => i ≤ its.length) (fun i => its.length - i) 0 ?_ ?_ ?_
  · exact entm [1, 2, 3] (hB := by simp [imms_ren h0, imms_lt h0])
  · simp
  · intro i hi
    refine awp_go ?_
    by_cases hlt : i < its.length
    · have hbl := fillB_len GItem.e_len (zr := zIt) rfl its i hi
      have hrow := fillB_row GItem.e_len (zr := zIt) rfl its i hlt
      have him := fillB_imm GItem.e_imm (zr := zIt) rfl its (i + 1)
      generalize fillB GItem.e zIt its i = B at hbl hrow ⊢
      obtain ⟨x, hx⟩ : ∃ x, its[i] = x := ⟨_, rfl⟩
      have hm : x ∈ its := hx ▸ List.getElem_mem hlt
      rw [hx] at hrow
      have hq : i * 3 + 3 ≤ its.length * 3 := by omega
      simp [hlt, hx]
      refine awp_draw follows_mix [] [(0, [0]), (0, [0]), (0, [0]), (0, [0]), (0, [0]), (0, [0]), (0, [0]), (2, [0]), (0, [0]), (0, [0]), (1, [0])] 1 (by kernel_rfl) rfl ?_
      simp [hlt, hx]
      refine gD_call (.sl 2 (x.Comps.map GComp.e)) ?_
      simp [hlt, hx, hbl, hq]
      refine ⟨calO (CopyComps_fn x.Comps (by have := hic x hm; omega) (fun c hc => by have := hiv x hm c hc; omega)), ?_⟩
      rw [wrap_id (by omega) (by omega)]
      have hr2 : List.take (i * 3) B ++ (List.take 2 (x.Ent.e ++ [kNil]) ++ .sl 2 (x.Comps.map GComp.e) :: (List.drop 3 (x.Ent.e ++ [kNil]) ++ List.drop (i * 3 + 3) B)) = fillB GItem.e zIt its (i + 1) := by rw [← hrow]; rfl
      rw [hr2]
      exact ⟨i + 1, by omega, by omega, entm [0, 1, 2] (hB := by simp [imms_ren him, imms_lt him])⟩
    · simp [hlt]
      have : i = its.length := by omega
      subst this
      rw [fillB_end]
      refine fin_fz 1 _ ?_
      simp
      exact finm (by simp [GWorld.e])
end Go.Proofs.Ytccebflmbnpheaa.Am
