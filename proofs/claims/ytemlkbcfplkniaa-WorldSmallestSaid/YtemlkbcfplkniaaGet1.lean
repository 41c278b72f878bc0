/- Package world: Find, at, Get. -/
import Derived.Test.YtemlkbcfplkniaaWChk1
import Derived.Test.YtemlkbcfplkniaaSl3a
import Derived.Test.YtemlkbcfplkniaaSl9
set_option linter.unusedVariables false
set_option linter.unusedSimpArgs false
namespace Go.Proofs.Ytemlkbcfplkniaa.Am
open Go Go.RowKit

set_option maxRecDepth 20000 in
theorem Find1_fn (it : GItem) (e : GEnt) : Fn Try.prog 109 [.agg it.e, .eptr e.e] (kB (decide (it.Ent = e))) := by
  refine fn_go Try.func109 rfl ?_
  simp [Try.ntmps109]
  exact finm (by simp)
def findW (w : GWorld) (e : GEnt) : Int := idxB (fun it : GItem => decide (it.Ent = e)) w.Items
set_option maxRecDepth 20000 in
theorem WFind_fn (w : GWorld) (e : GEnt) (hl : w.Items.length ≤ 4611686018427387904) : Fn Try.prog 56 [.agg w.e, .agg e.e] (kI (findW w e)) := by
  refine fn_go Try.func56 rfl ?_
  simp [Try.ntmps56]
  refine ops_fz 1 e.e ?_
  simp
  refine calS (IndexFuncIt_fn w.Items 109 [.eptr e.e] (fun it => decide (it.Ent = e)) hl (by simp) (by simp) fun it _ => Find1_fn it e) ?_
  simp
  exact finm (by simp [findW])

set_option maxRecDepth 20000 in
theorem at1_fn (c : GComp) (k : Int) : Fn Try.prog 187 [.agg c.e, kI k] (kI (cmpI c.Kind k)) := by
  refine fn_go Try.func187 rfl ?_
  simp [Try.ntmps187]
  refine cal (Compare_fn c.Kind k) ?_
  simp
  exact finm (by simp)
def atI (l : List GComp) (k : Int) : Nat := bs (fun c : GComp => cmpI c.Kind k) l
def atB (l : List GComp) (k : Int) : Bool := bsOk (fun c : GComp => cmpI c.Kind k) l
set_option maxRecDepth 20000 in
theorem at_fn (l : List GComp) (k : Int) (hl : l.length ≤ 4611686018427387904) : Fn Try.prog 124 [.sl 2 (l.map GComp.e), kI k] (.tup [kI (atI l k), kB (atB l k)]) := by
  refine fn_go Try.func124 rfl ?_
  simp [Try.ntmps124]
  refine cal (BinarySearchC_fn l k 187 [] (fun c => cmpI c.Kind k) hl en_187 rfl fun c _ => at1_fn c k) ?_
  simp
  exact finm (by simp [atI, atB])

/-- The values of a component of an entity. -/
def getM (w : GWorld) (e : GEnt) (k : Int) : List Int × Int :=
  if checkW w ≠ 0 then ([], checkW w)
  else match w.Items.findIdx? (fun it => decide (it.Ent = e)) with
    | none => ([], 4)
    | some i => match w.Items[i]? with
      | none => ([], 4)
      | some it => if atB it.Comps k = true then (match it.Comps[atI it.Comps k]? with | some c => c.Vals | none => [], 0) else ([], 4)

set_option maxRecDepth 20000 in
theorem Get_fn (w : GWorld) (e : GEnt) (k : Int) (hw : Fine w) (hv : ∀ it ∈ w.Items, ∀ c ∈ it.Comps, c.Vals.length ≤ 1000) :
    Fn Try.prog 72 [.agg w.e, .agg e.e, kI k] (.tup [slI (getM w e k).1, kI (getM w e k).2]) := by
  refine fn_go Try.func72 rfl ?_
  simp [Try.ntmps72]
  refine cal (WCheck_fn w hw hv) ?_
  by_cases h1 : checkW w = 0
  · have hg : getM w e k = match w.Items.findIdx? (fun it => decide (it.Ent = e)) with
      | none => ([], 4)
      | some i => match w.Items[i]? with
        | none => ([], 4)
        | some it => if atB it.Comps k = true then (match it.Comps[atI it.Comps k]? with | some c => c.Vals | none => [], 0) else ([], 4) := by unfold getM; rw [if_neg (by simp [h1])]
    simp [h1]
    refine cal (WFind_fn w e (by have := hw.il; omega)) ?_
    cases hf : w.Items.findIdx? (fun it => decide (it.Ent = e)) with
    | none =>
      rw [hf] at hg
      have hfi : findW w e = -1 := by simp [findW, idxB, hf]
      simp [hfi]
      refine fin_ent (ent_nilsl (t := 6) (z := 1) rfl) ?_
      exact finm (by simp [hg, slI])
    | some i =>
      rw [hf] at hg
      have hfi : findW w e = i := by simp [findW, idxB, hf]
      have hi : i < w.Items.length := (List.findIdx?_eq_some_iff_getElem.1 hf).1
      have hi0 : ¬ ((i : Int) < 0) := by omega
      obtain ⟨it, hit⟩ : ∃ it, w.Items[i] = it := ⟨_, rfl⟩
      have hm : it ∈ w.Items := hit ▸ List.getElem_mem hi
      simp only [List.getElem?_eq_getElem hi, hit] at hg
      simp [hfi, hi0, hi, hit]
      refine cal (at_fn it.Comps k (by have := hw.ic it hm; omega)) ?_
      by_cases h2 : atB it.Comps k = true
      · obtain ⟨hc, _⟩ := bsOk_lt h2
        have hc' : atI it.Comps k < it.Comps.length := hc
        obtain ⟨c, hcc⟩ : ∃ c, it.Comps[atI it.Comps k] = c := ⟨_, rfl⟩
        have hcm : c ∈ it.Comps := hcc ▸ List.getElem_mem hc'
        simp only [h2, if_true, List.getElem?_eq_getElem hc', hcc] at hg
        simp [h2, hi, hit, hc', hcc]
        refine cal (CloneI_fn c.Vals (by have := hw.iv it hm c hcm; omega)) ?_
        simp
        exact finm (by simp [hg])
      · simp only [h2] at hg
        simp [h2]
        refine fin_ent (ent_nilsl (t := 6) (z := 1) rfl) ?_
        exact finm (by simp [hg, slI])
  · simp [h1]
    refine fin_ent (ent_nilsl (t := 6) (z := 1) rfl) ?_
    exact finm (by simp [getM, h1, slI])
end Go.Proofs.Ytemlkbcfplkniaa.Am
