/- Package world: Free; copies with the Gens to be written. -/
import Derived.Test.YtccebflmbnpheaaWCopy2
set_option linter.unusedVariables false
set_option linter.unusedSimpArgs false
namespace Go.Proofs.Ytccebflmbnpheaa.Am
open Go Go.RowKit

set_option maxRecDepth 20000 in
theorem WCopy_og (w : GWorld) (hw : Fine w) : FnD Try.prog 30 [.agg w.e] [] (.agg [.sl 2 (w.Kinds.map GKind.e), .osl 1 1 0 w.Gens.length, .osl 0 3 0 w.Items.length]) [some (w.Items.map GItem.e).flatten, some (w.Gens.map kI)] := by
  obtain ⟨hkl, hkf, hgl, hil, hic, hiv⟩ := hw
  obtain ⟨ks, gs, its⟩ := w
  simp only at hkl hkf hgl hil hic hiv ⊢
  refine fnd_go Try.func30 rfl ?_
  simp [Try.ntmps30]
  have h1 : 40 * (its.length : Int) ≤ 281474976710656 := by omega
  have h2 : (its.length : Int) ≤ 9223372036854775807 := by omega
  refine awp_drawS follows_mix [(0, 0), (0, 0), (2, 0), (0, 0), (0, 0), (5, 2), (0, 0), (0, 0), (0, 0), (4, 3), (0, 0), (4, 4), (1, 0)] 2 5 [(0, 9), (0, 11), (1, 9), (1, 11), (2, 9), (2, 11), (3, 9), (3, 11), (4, 9), (4, 11), (5, 6), (5, 7), (5, 8), (5, 9), (5, 11), (6, 11), (7, 11), (8, 11), (9, 11), (10, 11)] (by kernel_rfl) rfl rfl ?_
  simp
  refine gE_call (.sl 2 (ks.map GKind.e)) ?_ ?_
  · simp
    exact calO (KCopy_fn ks (by omega) (fun k hk => by have := hkf k hk; omega))
  simp
  refine gE_call5 (.osl 2 1 0 gs.length) [] (gs.map kI) rfl (fun y => ?_) (by simp) (by simp) (by simp) (by simp) ?_
  · simp
    exact does_fnd [] (CloneI_own gs (by omega)) rfl rfl rfl en_48 rfl (by simp) (by simp) (by simp) (by simp) (by simp) (by simp)
  simp [h1, h2]
  have h0 := fillB_imm GItem.e_imm (zr := zIt) rfl its 0
  rw [show (List.replicate its.length [kI 0, kI 0, kNil]).flatten = fillB GItem.e zIt its 0 from (fillB_0 GItem.e zIt its).symm]
  refine ⟨imms_lt h0 5, ?_⟩
  refine awp_loop (fun i : Nat => ⟨37, [(2, .ptr 0 0), (3, .ptr 2 0), (18, .sl 3 (its.map GItem.e)), (19, kI its.length), (20, kI i)], [some [kNil, kNil, kNil], some (fillB GItem.e zIt its i), some [.sl 2 (ks.map GKind.e), .osl 3 1 0 gs.length, .osl 1 3 0 its.length], some (gs.map kI)], 0⟩) (fun i => i ≤ its.length) (fun i => its.length - i) 0 ?_ ?_ ?_
  · exact entm [1, 3, 4, 2] (hB := by simp [imms_ren h0, imms_lt h0])
  · simp
  · intro i hi
    refine awp_go ?_
    by_cases hlt : i < its.length
    · have hbl := fillB_len GItem.e_len (zr := zIt) rfl its i hi
      have hrow := fillB_row GItem.e_len (zr := zIt) rfl its i hlt
      have him := fillB_imm GItem.e_imm (zr := zIt) rfl its (i + 1)
      generalize fillB GItem.e zIt its i = B at hbl hrow ⊢
      obtain ⟨x, hx⟩ : ∃ x, its[i] = x := ⟨_, rfl⟩
      have hm : x ∈ its := hx ▸ List.getElem_mem hlt
      rw [hx] at hrow
      have hq : i * 3 + 3 ≤ its.length * 3 := by omega
      simp [hlt, hx]
      refine awp_draw follows_mix [] [(0, [0]), (0, [0]), (0, [0]), (0, [0]), (0, [0]), (0, [0]), (0, [0]), (2, [0]), (0, [0]), (0, [0]), (1, [0])] 1 (by kernel_rfl) rfl ?_
      simp [hlt, hx]
      refine gD_call (.sl 2 (x.Comps.map GComp.e)) ?_
      simp [hlt, hx, hbl, hq]
      refine ⟨calO (CopyComps_fn x.Comps (by have := hic x hm; omega) (fun c hc => by have := hiv x hm c hc; omega)), ?_⟩
      rw [wrap_id (by omega) (by omega)]
      have hr2 : List.take (i * 3) B ++ (List.take 2 (x.Ent.e ++ [kNil]) ++ .sl 2 (x.Comps.map GComp.e) :: (List.drop 3 (x.Ent.e ++ [kNil]) ++ List.drop (i * 3 + 3) B)) = fillB GItem.e zIt its (i + 1) := by rw [← hrow]; rfl
      rw [hr2]
      exact ⟨i + 1, by omega, by omega, entm [0, 1, 2, 3] (hB := by simp [imms_ren him, imms_lt him])⟩
    · simp [hlt]
      have : i = its.length := by omega
      subst this
      rw [fillB_end]
      exact finGm [1, 3]

/-! ### Free -/
def usedB (its : List GItem) (t : Nat) : Bool := its.any fun it => decide (it.Ent.N = (t : Int))
def freeM (w : GWorld) : Int × Bool := match (List.range w.Gens.length).findIdx? (fun t => !usedB w.Items t && decide (w.Gens.getD t 0 < 1073741824)) with
  | some t => (t, true)
  | none => (w.Gens.length, decide ((w.Gens.length : Int) < 256))
theorem used_set (its : List GItem) (i n : Nat) (hi : i < its.length) {N : Nat} (hN : (its[i]).Ent.N = N) :
    ((List.range n).map fun t => kB (usedB (its.take i) t)).set N (kB true) = (List.range n).map fun t => kB (usedB (its.take (i + 1)) t) := by
  refine List.ext_getElem (by simp) fun t h1 h2 => ?_
  rw [List.getElem_set]
  have hs : ∀ t : Nat, usedB (its.take (i + 1)) t = (usedB (its.take i) t || decide (N = t)) := fun t => by
    unfold usedB
    rw [← List.take_append_getElem hi, List.any_append]
    have : decide ((N : Int) = (t : Int)) = decide (N = t) := by
      by_cases e : N = t
      · simp [e]
      · have e2 : ¬ (N : Int) = (t : Int) := by omega
        simp [e, e2]
    simp [hN, this]
  simp only [List.getElem_map, List.getElem_range, hs]
  by_cases e : N = t
  · simp [e]
  · simp [e]
theorem used_skip (its : List GItem) (i n : Nat) (hi : i < its.length) (hN : (its[i]).Ent.N < 0 ∨ (n : Int) ≤ (its[i]).Ent.N) :
    ((List.range n).map fun t => kB (usedB (its.take i) t)) = (List.range n).map fun t => kB (usedB (its.take (i + 1)) t) := by
  refine List.map_congr_left fun t ht => ?_
  have htn : t < n := by simpa using ht
  unfold usedB
  rw [← List.take_append_getElem hi, List.any_append]
  have : ¬ (its[i]).Ent.N = (t : Int) := by omega
  simp [this]

set_option maxHeartbeats 1000000 in
set_option maxRecDepth 20000 in
theorem Free_fn (w : GWorld) (hw : Fine w) : Fn Try.prog 29 [.agg w.e] (.tup [kI (freeM w).1, kB (freeM w).2]) := by
  obtain ⟨hkl, hkf, hgl, hil, hic, hiv⟩ := hw
  obtain ⟨ks, gs, its⟩ := w
  simp only at hkl hkf hgl hil hic hiv ⊢
  refine fn_go Try.func29 rfl ?_
  have h1 : (gs.length : Int) ≤ 281474976710656 := by omega
  have h2 : (gs.length : Int) ≤ 9223372036854775807 := by omega
  simp [Try.ntmps29, h1, h2]
  have hz : List.replicate gs.length (.k (.bool false)) = (List.range gs.length).map fun t => kB (usedB (its.take 0) t) := by
    refine List.ext_getElem (by simp) fun t h1 h2 => ?_
    simp [usedB]
  rw [hz]
  obtain ⟨U, hU⟩ : ∃ U : Nat → List PV, ∀ i, (List.range gs.length).map (fun t => kB (usedB (its.take i) t)) = U i := ⟨_, fun _ => rfl⟩
  have hUi : ∀ i, (U i).all PV.immB = true := fun i => by rw [← hU]; simp
  have hUl : ∀ i, (U i).length = gs.length := fun i => by rw [← hU]; simp
  rw [hU]
  refine awp_loop (fun i : Nat => ⟨64, [(1, .ptr 0 0), (4, .osl 1 1 0 gs.length), (14, .sl 3 (its.map GItem.e)), (15, kI its.length), (16, kI i)], [some (GWorld.e ⟨ks, gs, its⟩), some (U i)], 0⟩) (fun i => i ≤ its.length) (fun i => its.length - i) 0 ?_ ?_ ?_
  · exact entm [0, 1] (hB := by simp [imms_ren (hUi 0), imms_lt (hUi 0)])
  · simp
  · intro i hi
    refine awp_go ?_
    by_cases hlt : i < its.length
    · have hset := fun n N hN => used_set its i n hlt (N := N) hN
      have hskip := fun n hN => used_skip its i n hlt hN
      obtain ⟨it, hit⟩ : ∃ it, its[i] = it := ⟨_, rfl⟩
      rw [hit] at hset hskip
      by_cases p1 : 0 ≤ it.Ent.N
      · by_cases p2 : it.Ent.N < (gs.length : Int)
        · obtain ⟨N, hN⟩ : ∃ N : Nat, it.Ent.N = N := ⟨it.Ent.N.toNat, by omega⟩
          have hNg : N < gs.length := by omega
          have hs := hset gs.length N hN
          rw [hU, hU] at hs
          have hs2 : (U i).take N ++ kB true :: (U i).drop (N + 1) = U (i + 1) := by rw [← hs, List.set_eq_take_append_cons_drop, if_pos (by rw [hUl]; exact hNg)]
          have hN1 : N + 1 ≤ gs.length := by omega
          simp [hlt, hit, p1, p2, hN, hNg, hUl, hN1]
          rw [wrap_id (by omega) (by omega), hs2]
          exact ⟨i + 1, by omega, by omega, entm [0, 1] (hB := by simp [imms_ren (hUi (i + 1)), imms_lt (hUi (i + 1))])⟩
        · have hs := hskip gs.length (.inr (by omega))
          rw [hU, hU] at hs
          simp [hlt, hit, p1, p2]
          rw [wrap_id (by omega) (by omega), hs]
          exact ⟨i + 1, by omega, by omega, entm [0, 1] (hB := by simp [imms_ren (hUi (i + 1)), imms_lt (hUi (i + 1))])⟩
      · have hs := hskip gs.length (.inl (by omega))
        rw [hU, hU] at hs
        simp [hlt, hit, p1]
        rw [wrap_id (by omega) (by omega), hs]
        exact ⟨i + 1, by omega, by omega, entm [0, 1] (hB := by simp [imms_ren (hUi (i + 1)), imms_lt (hUi (i + 1))])⟩
    · have : i = its.length := by omega
      subst this
      have hUe : U its.length = (List.range gs.length).map fun t => kB (usedB its t) := by rw [← hU, List.take_of_length_le (Nat.le_refl _)]
      generalize hUn : U its.length = V at hUe ⊢
      have hVi : V.all PV.immB = true := hUn ▸ hUi _
      have hVl : V.length = gs.length := hUn ▸ hUl _
      have hVg : ∀ t : Nat, t < gs.length → V[t]? = some (kB (usedB its t)) := fun t ht => by rw [hUe]; simp [ht]
      simp
      refine awp_loop (fun t : Nat => ⟨64, [(1, .ptr 0 0), (4, .osl 1 1 0 gs.length), (39, slI gs), (40, kI gs.length), (41, kI t)], [some (GWorld.e ⟨ks, gs, its⟩), some V], 0⟩)
        (fun t => t ≤ gs.length ∧ ∀ j, j < t → ¬ (!usedB its j && decide (gs.getD j 0 < 1073741824)) = true) (fun t => gs.length - t) 0 ?_ ?_ ?_
      · exact entm [0, 1] (hB := by simp [imms_ren hVi, imms_lt hVi])
      · simp
      · intro t ⟨ht, hno⟩
        refine awp_go ?_
        by_cases htl : t < gs.length
        · have hg := hVg t htl
          have hVt : t < V.length := by omega
          rw [List.getElem?_eq_getElem hVt] at hg
          have hg := Option.some.inj hg
          have hgd : gs.getD t 0 = gs[t] := by simp [List.getD, htl]
          have hfree : (!usedB its t && decide (gs.getD t 0 < 1073741824)) = true → freeM ⟨ks, gs, its⟩ = ((t : Int), true) := fun h => by
            have : (List.range gs.length).findIdx? (fun t => !usedB its t && decide (gs.getD t 0 < 1073741824)) = some t := by
              rw [List.findIdx?_eq_some_iff_getElem]
              exact ⟨by simpa using htl, by simpa using h, fun j hj => by simpa using hno j hj⟩
            unfold freeM
            simp only [this]
          have hnext : ¬ (!usedB its t && decide (gs.getD t 0 < 1073741824)) = true → ∀ j, j < t + 1 → ¬ (!usedB its j && decide (gs.getD j 0 < 1073741824)) = true := fun h j hj => by
            rcases Nat.lt_or_ge j t with g | g
            · exact hno j g
            · have : j = t := by omega
              subst this; exact h
          rw [hgd] at hfree hnext
          cases hu : usedB its t with
          | true =>
            rw [hu] at hg hnext
            simp [htl, hg, hVl]
            rw [wrap_id (by omega) (by omega)]
            exact ⟨t + 1, ⟨by omega, by simpa using hnext (by simp)⟩, by omega, entm [0, 1] (hB := by simp [imms_ren hVi, imms_lt hVi])⟩
          | false =>
            rw [hu] at hg hnext hfree
            by_cases hlt2 : gs[t] < 1073741824
            · have hF := hfree (by simp [hlt2])
              simp [htl, hg, hVl, hlt2]
              exact finm (by simp [hF])
            · simp [htl, hg, hVl, hlt2]
              rw [wrap_id (by omega) (by omega)]
              exact ⟨t + 1, ⟨by omega, by simpa using hnext (by simp [hlt2])⟩, by omega, entm [0, 1] (hB := by simp [imms_ren hVi, imms_lt hVi])⟩
        · have : t = gs.length := by omega
          subst this
          have hF : freeM ⟨ks, gs, its⟩ = ((gs.length : Int), decide ((gs.length : Int) < 256)) := by
            have : (List.range gs.length).findIdx? (fun t => !usedB its t && decide (gs.getD t 0 < 1073741824)) = none := by
              rw [List.findIdx?_eq_none_iff]
              intro j hj
              simpa using hno j (by simpa using hj)
            unfold freeM
            simp only [this]
          simp
          refine awp_draw follows_mix [] [(0, [0]), (0, [0]), (0, [0]), (0, [0]), (0, [0]), (0, [0]), (0, [0]), (0, [0]), (0, [0])] 0 (by kernel_rfl) rfl ?_
          simp
          exact finm (by simp [hF])
end Go.Proofs.Ytccebflmbnpheaa.Am
