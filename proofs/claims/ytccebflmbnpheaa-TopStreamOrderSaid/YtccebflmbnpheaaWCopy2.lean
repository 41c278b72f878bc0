/- Package world: copies of which parts are to be written. -/
import Derived.Test.YtccebflmbnpheaaWCopy
import Derived.Test.YtccebflmbnpheaaCopy2
set_option linter.unusedVariables false
set_option linter.unusedSimpArgs false
namespace Go.Proofs.Ytccebflmbnpheaa.Am
open Go Go.RowKit

set_option maxRecDepth 20000 in
theorem CopyComps_own (l : List GComp) (hl : l.length ≤ 1000000000) (hv : ∀ c ∈ l, c.Vals.length ≤ 1000000000) : FnD Try.prog 49 [.sl 2 (l.map GComp.e)] [] (.osl 0 2 0 l.length) [some (l.map GComp.e).flatten] := by
  refine fnd_go Try.func49 rfl ?_
  simp [Try.ntmps49]
  have h1 : 32 * (l.length : Int) ≤ 281474976710656 := by omega
  have h2 : (l.length : Int) ≤ 9223372036854775807 := by omega
  simp [h1, h2]
  refine awp_loop (fun i : Nat => ⟨27, [(3, .osl 0 2 0 l.length), (9, .sl 2 (l.map GComp.e)), (10, kI l.length), (11, kI i)], [some (fillB GComp.e [kI 0, kNil] l i)], 0⟩) (fun i => i ≤ l.length) (fun i => l.length - i) 0 ?_ ?_ ?_
  · rw [← fillB_0 GComp.e]
    exact entm [0] (hB := by simp [imms_ren (fillB_imm GComp.e_imm (zr := [kI 0, kNil]) rfl l 0), imms_lt (fillB_imm GComp.e_imm (zr := [kI 0, kNil]) rfl l 0)])
  · simp
  · intro i hi
    refine awp_go ?_
    by_cases hlt : i < l.length
    · have hbl := fillB_len GComp.e_len (zr := [kI 0, kNil]) rfl l i hi
      have hrow := fillB_row GComp.e_len (zr := [kI 0, kNil]) rfl l i hlt
      generalize fillB GComp.e [kI 0, kNil] l i = B at hbl hrow ⊢
      simp [hlt]
      refine awp_draw follows_mix [] [(0, [0]), (0, [0]), (0, [0]), (0, [0]), (0, [0]), (0, [0]), (2, [0]), (0, [0]), (0, [0]), (1, [0])] 1 (by kernel_rfl) rfl ?_
      simp [hlt]
      refine gD_call (slI l[i].Vals) ?_
      have hq : i * 2 + 2 ≤ l.length * 2 := by omega
      simp [hlt, hbl, hq]
      refine ⟨calO (CloneI_fn l[i].Vals (by have := hv _ (List.getElem_mem hlt); omega)), ?_⟩
      rw [wrap_id (by omega) (by omega), show kI l[i].Kind :: slI l[i].Vals :: List.drop (i * 2 + 2) B = l[i].e ++ List.drop (i * 2 + 2) B from rfl, hrow]
      exact ⟨i + 1, by omega, by omega, entm [0] (hB := by simp [imms_ren (fillB_imm GComp.e_imm (zr := [kI 0, kNil]) rfl l (i + 1)), imms_lt (fillB_imm GComp.e_imm (zr := [kI 0, kNil]) rfl l (i + 1))])⟩
    · simp [hlt]
      have : i = l.length := by omega
      subst this
      rw [fillB_end]
      exact finGm [0]

set_option maxRecDepth 20000 in
theorem WCopy_at (w : GWorld) (hw : Fine w) (i0 : Nat) (hi0 : i0 < w.Items.length) : FnD Try.prog 30 [.agg w.e] [] (.agg [.sl 2 (w.Kinds.map GKind.e), slI w.Gens, .osl 0 3 0 w.Items.length]) [some ((w.Items.map GItem.e).flatten.set (i0 * 3 + 2) (.osl 1 2 0 (w.Items[i0]).Comps.length)), some ((w.Items[i0]).Comps.map GComp.e).flatten] := by
  obtain ⟨hkl, hkf, hgl, hil, hic, hiv⟩ := hw
  obtain ⟨ks, gs, its⟩ := w
  simp only at hkl hkf hgl hil hic hiv hi0 ⊢
  refine fnd_go Try.func30 rfl ?_
  simp [Try.ntmps30]
  have h1 : 40 * (its.length : Int) ≤ 281474976710656 := by omega
  have h2 : (its.length : Int) ≤ 9223372036854775807 := by omega
  refine awp_drawS follows_mix [(0, 0), (0, 0), (2, 0), (0, 0), (0, 0), (2, 0), (0, 0), (0, 0), (0, 0), (4, 2), (0, 0), (4, 3), (1, 0)] 2 4 [(0, 9), (0, 11), (1, 9), (1, 11), (2, 9), (2, 11), (3, 9), (3, 11), (4, 9), (4, 11), (5, 9), (5, 11), (6, 11), (7, 11), (8, 11), (9, 11), (10, 11)] (by kernel_rfl) rfl rfl ?_
  simp
  refine gE_call (.sl 2 (ks.map GKind.e)) ?_ ?_
  · simp
    exact calO (KCopy_fn ks (by omega) (fun k hk => by have := hkf k hk; omega))
  simp
  refine gE_call (slI gs) ?_ ?_
  · simp
    exact calO (CloneI_fn gs (by omega))
  simp [h1, h2]
  have h0 := fillB_imm GItem.e_imm (zr := zIt) rfl its 0
  rw [show (List.replicate its.length [kI 0, kI 0, kNil]).flatten = fillB GItem.e zIt its 0 from (fillB_0 GItem.e zIt its).symm]
  refine ⟨imms_lt h0 4, ?_⟩
  refine awp_loop (fun i : Nat => ⟨37, [(2, .ptr 0 0), (3, .ptr 2 0), (18, .sl 3 (its.map GItem.e)), (19, kI its.length), (20, kI i)],
      if i ≤ i0 then [some [kNil, kNil, kNil], some (fillB GItem.e zIt its i), some [.sl 2 (ks.map GKind.e), slI gs, .osl 1 3 0 its.length]]
      else [some [kNil, kNil, kNil], some ((fillB GItem.e zIt its i).set (i0 * 3 + 2) (.osl 3 2 0 (its[i0]).Comps.length)), some [.sl 2 (ks.map GKind.e), slI gs, .osl 1 3 0 its.length], some ((its[i0]).Comps.map GComp.e).flatten], 0⟩) (fun i => i ≤ its.length) (fun i => its.length - i) 0 ?_ ?_ ?_
  · exact entm [1, 2, 3] (hB := by simp [imms_ren h0, imms_lt h0])
  · simp
  · intro i hi
    refine awp_go ?_
    by_cases hlt : i < its.length
    · have hbl := fillB_len GItem.e_len (zr := zIt) rfl its i hi
      have hrow := fillB_row GItem.e_len (zr := zIt) rfl its i hlt
      have him := fillB_imm GItem.e_imm (zr := zIt) rfl its i
      have gi := fillB_imm GItem.e_imm (zr := zIt) rfl its (i + 1)
      generalize fillB GItem.e zIt its i = B at hbl hrow him ⊢
      obtain ⟨x, hx⟩ : ∃ x, its[i] = x := ⟨_, rfl⟩
      have hm : x ∈ its := hx ▸ List.getElem_mem hlt
      rw [hx] at hrow
      have hq : i * 3 + 3 ≤ its.length * 3 := by omega
      have hr2 : List.take (i * 3) B ++ (List.take 2 (x.Ent.e ++ [kNil]) ++ .sl 2 (x.Comps.map GComp.e) :: (List.drop 3 (x.Ent.e ++ [kNil]) ++ List.drop (i * 3 + 3) B)) = fillB GItem.e zIt its (i + 1) := by rw [← hrow]; rfl
      have htl : (B.take (i * 3)).length = i * 3 := by rw [List.length_take]; omega
      have hs : ∀ y : PV, List.take (i * 3) B ++ (List.take 2 (x.Ent.e ++ [kNil]) ++ y :: (List.drop 3 (x.Ent.e ++ [kNil]) ++ List.drop (i * 3 + 3) B)) = (fillB GItem.e zIt its (i + 1)).set (i * 3 + 2) y := fun y => by
        rw [← hr2, List.set_append_right _ _ (by omega), htl, show i * 3 + 2 - i * 3 = 2 by omega]; rfl
      by_cases hc : i ≤ i0
      · by_cases hc2 : i = i0
        · subst hc2
          simp [hlt, hx]
          refine awp_drawS follows_mix [(0, 0), (0, 0), (0, 0), (0, 0), (0, 0), (0, 0), (0, 0), (5, 4), (0, 0), (0, 0), (1, 0)] 4 5 [(0, 7), (1, 7), (2, 7), (3, 7), (4, 7)] (by kernel_rfl) rfl rfl ?_
          simp [hlt, hx]
          refine gE_call5 (.osl 4 2 0 x.Comps.length) [] (x.Comps.map GComp.e).flatten rfl (fun y => ?_) (by simp) (by simp) (by simp) (by simp) ?_
          · simp
            exact does_fnd [] (CopyComps_own x.Comps (by have := hic x hm; omega) (fun c hc => by have := hiv x hm c hc; omega)) rfl rfl rfl en_49 rfl (by simp) (by simp) (by simp) (by simp) (by simp) (by simp)
          simp [hlt, hx, hbl, hq]
          rw [wrap_id (by omega) (by omega)]
          refine ⟨i + 1, by omega, by omega, ?_⟩
          rw [if_neg (by omega), hs]
          exact entm [0, 1, 2, 4] (hB := by simp [renL_set, imms_ren gi, ltL_set (imms_lt gi 4)])
        · simp [hlt, hx, hc]
          refine awp_draw follows_mix [] [(0, [0]), (0, [0]), (0, [0]), (0, [0]), (0, [0]), (0, [0]), (0, [0]), (2, [0]), (0, [0]), (0, [0]), (1, [0])] 1 (by kernel_rfl) rfl ?_
          simp [hlt, hx]
          refine gD_call (.sl 2 (x.Comps.map GComp.e)) ?_
          simp [hlt, hx, hbl, hq]
          refine ⟨calO (CopyComps_fn x.Comps (by have := hic x hm; omega) (fun c hc => by have := hiv x hm c hc; omega)), ?_⟩
          rw [wrap_id (by omega) (by omega), hr2]
          refine ⟨i + 1, by omega, by omega, ?_⟩
          rw [if_pos (by omega)]
          exact entm [0, 1, 2] (hB := by simp [imms_ren gi, imms_lt gi])
      · have hkl : (B.set (i0 * 3 + 2) (.osl 3 2 0 (its[i0]).Comps.length)).length = its.length * 3 := by simp [hbl]
        have hk : ∀ y : PV, List.take (i * 3) (B.set (i0 * 3 + 2) (.osl 3 2 0 (its[i0]).Comps.length)) ++ (List.take 2 (x.Ent.e ++ [kNil]) ++ y :: (List.drop 3 (x.Ent.e ++ [kNil]) ++ List.drop (i * 3 + 3) (B.set (i0 * 3 + 2) (.osl 3 2 0 (its[i0]).Comps.length)))) =
            ((fillB GItem.e zIt its (i + 1)).set (i * 3 + 2) y).set (i0 * 3 + 2) (.osl 3 2 0 (its[i0]).Comps.length) := fun y => by
          rw [← hs]
          have := row_after (B := B) (p := i0 * 3 + 2) (k := i * 3) (n := 3) (r := List.take 2 (x.Ent.e ++ [kNil]) ++ [y]) (x := .osl 3 2 0 (its[i0]).Comps.length) (by omega) (by omega)
          have hd3 : List.drop 3 (x.Ent.e ++ [kNil]) = [] := rfl
          simpa [hd3] using this
        have hfx : (fillB GItem.e zIt its (i + 1)).set (i * 3 + 2) (.sl 2 (x.Comps.map GComp.e)) = fillB GItem.e zIt its (i + 1) := by rw [← hs, hr2]
        simp [hlt, hx, hc]
        refine awp_draw follows_mix [] [(0, [0]), (0, [0]), (0, [0]), (0, [0]), (0, [0]), (0, [0]), (0, [0]), (2, [0]), (0, [0]), (0, [0]), (1, [0])] 1 (by kernel_rfl) rfl ?_
        simp [hlt, hx]
        refine gD_call (.sl 2 (x.Comps.map GComp.e)) ?_
        simp [hlt, hx, hkl, hbl, hq]
        refine ⟨calO (CopyComps_fn x.Comps (by have := hic x hm; omega) (fun c hc => by have := hiv x hm c hc; omega)), ?_⟩
        rw [wrap_id (by omega) (by omega), hk, hfx]
        refine ⟨i + 1, by omega, by omega, ?_⟩
        rw [if_neg (by omega)]
        exact entm [0, 1, 2, 3] (hB := by simp [renL_set, imms_ren gi, ltL_set (imms_lt gi 4)])
    · have : i = its.length := by omega
      subst this
      have hni : ¬ its.length ≤ i0 := by omega
      simp [hni]
      rw [fillB_end]
      exact finGm [1, 3] (hB := by simp [renL_set, ltL_set])

end Go.Proofs.Ytccebflmbnpheaa.Am
