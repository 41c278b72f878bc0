/- Package query: All gathers the rows. -/
import Derived.Test.YtfojnhceiabbhaaGreatQuery1
import Derived.Test.YtfojnhceiabbhaaGreatCopy1
set_option linter.unusedVariables false
set_option linter.unusedSimpArgs false
namespace Go.Proofs.YtfojnhceiabbhaaGreat.Am
open Go Go.RowKit

abbrev GRow := Nat × GItem
def rowE (x : GRow) : List PV := [kI x.1, kI x.2.Ent.N, kI x.2.Ent.Gen, .sl 2 (x.2.Comps.map GComp.e)]
@[simp] theorem rowE_len (x : GRow) : (rowE x).length = 4 := rfl
@[simp] theorem rowE_imm (x : GRow) : (rowE x).all PV.immB = true := rfl
def rowsGo (p : GItem → Bool) : Nat → List GItem → List GRow
  | _, [] => []
  | i, it :: r => if p it = true then (i, it) :: rowsGo p (i + 1) r else rowsGo p (i + 1) r
def rowsM (w : GWorld) (wi wo : List Int) : List GRow := rowsGo (fun it => matchI it wi wo) 0 w.Items

theorem rowsGo_len (p : GItem → Bool) : ∀ (l : List GItem) (i : Nat), (rowsGo p i l).length ≤ l.length
  | [], _ => by simp [rowsGo]
  | x :: r, i => by
    rw [rowsGo]
    have := rowsGo_len p r (i + 1)
    split <;> simp <;> omega

set_option maxRecDepth 20000 in
theorem All_fn (w : GWorld) (wi wo : List Int) (hw : Fine w) (h1 : wi.length ≤ 4611686018427387904) (h2 : wo.length ≤ 4611686018427387904) :
    Fn Tryz.prog 25 [.agg w.e, slI wi, slI wo] (.clo (.func 56) [.eptr [.sl 4 ((rowsM w wi wo).map rowE)]]) := by
  obtain ⟨hkl, hkf, hgl, hil, hic, hiv⟩ := hw
  obtain ⟨ks, gs, its⟩ := w
  simp only [rowsM] at hkl hkf hgl hil hic hiv ⊢
  refine fn_go Tryz.func25 rfl ?_
  simp [Tryz.ntmps25, GWorld.e]
  refine awp_loop (fun x : Nat × List GRow => ⟨35, [(1, slI wi), (2, slI wo), (7, .ptr 0 0), (11, .sl 3 (its.map GItem.e)), (12, kI its.length), (13, kI x.1)], [some [.osl 1 4 0 x.2.length], some (x.2.map rowE).flatten], 0⟩)
    (fun x => x.1 ≤ its.length ∧ x.2.length ≤ x.1 ∧ x.2 ++ rowsGo (fun it => matchI it wi wo) x.1 (its.drop x.1) = rowsGo (fun it => matchI it wi wo) 0 its) (fun x => its.length - x.1) (0, []) ?_ ?_ ?_
  · exact (ent_nilb (b := 1) (j := 0) (z := 4) rfl rfl).trans (entm [1, 2])
  · simp
  · rintro ⟨i, acc⟩ ⟨hi, hac, hrun⟩
    simp only at hi hac hrun
    refine awp_go ?_
    have h0 := flat_imm rowE_imm acc
    by_cases hlt : i < its.length
    · obtain ⟨x, hx⟩ : ∃ x, its[i] = x := ⟨_, rfl⟩
      have hm : x ∈ its := hx ▸ List.getElem_mem hlt
      rw [List.drop_eq_getElem_cons hlt, hx, rowsGo] at hrun
      simp [hlt, hx]
      refine cal (Match_fn x wi wo (by have := hic x hm; omega) h1 h2) ?_
      by_cases hp : matchI x wi wo = true
      · rw [if_pos hp] at hrun
        have hb1 : (acc.length + 1) * 48 ≤ 140737488355328 := by omega
        have hb2 : acc.length + 1 ≤ maxLen := by simp only [maxLen]; omega
        simp [hp]
        refine awp_drawS follows_mix [(0, 0), (0, 0), (0, 0), (0, 0), (0, 0), (0, 0), (2, 0), (0, 0), (0, 0), (4, 3), (4, 4), (1, 0)] 3 5 [(0, 9)] (by kernel_rfl) rfl rfl ?_
        simp [hlt, hx, GItem.e]
        refine gE_call (.sl 2 (x.Comps.map GComp.e)) ?_ ?_
        · simp
          exact calO (CopyComps_fn x.Comps (by have := hic x hm; omega) (fun c hc => by have := hiv x hm c hc; omega))
        simp [flat_sum rowE_len, hb1, hb2, imms_lt h0]
        rw [wrap_id (by omega) (by omega)]
        have hr2 : (acc.map rowE).flatten ++ [kI i, kI x.Ent.N, kI x.Ent.Gen, .sl 2 (x.Comps.map GComp.e)] = ((acc ++ [((i, x) : GRow)]).map rowE).flatten := by simp [rowE]
        have h3 := rowE_imm (i, x)
        rw [hr2]
        exact ⟨i + 1, acc ++ [((i, x) : GRow)], ⟨by omega, by simp; omega, by rw [← hrun]; simp⟩, by omega, entm [0, 4] (hB := by simp [imms_ren h0, imms_lt h0, imms_ren h3, imms_lt h3])⟩
      · have hp' : matchI x wi wo = false := by simpa using hp
        rw [if_neg hp] at hrun
        simp [hp']
        rw [wrap_id (by omega) (by omega)]
        exact ⟨i + 1, acc, ⟨by omega, by omega, hrun⟩, by omega, entm [0, 1] (hB := by simp [imms_ren h0, imms_lt h0])⟩
    · simp [hlt]
      have : i = its.length := by omega
      subst this
      simp [rowsGo] at hrun
      subst hrun
      refine fin_fz 1 _ ?_ (hi := flat_imm rowE_imm _)
      simp [flat_sum rowE_len, chunks_map rowE_len]
      refine fin_fz 0 _ ?_
      simp
      exact finm
end Go.Proofs.YtfojnhceiabbhaaGreat.Am
