/- QuerySplits: the law. -/
import Derived.Test.YtemlkbcfplkniaaQuery4
import Derived.Test.YtemlkbcfplkniaaBaseW
import Derived.Test.YtemlkbcfplkniaaWLaw1
import Derived.Test.YtemlkbcfplkniaaSl5
set_option linter.unusedVariables false
set_option linter.unusedSimpArgs false
namespace Go.Proofs.Ytemlkbcfplkniaa.Am
open Go Go.RowKit

theorem fn_tell {P : Program} {f : FuncId} {args args' : List PV} {σ : List (List PV)} {R : PV → Boxes → Prop} (h : FnG P f args' σ R) (hl : args.length = args'.length)
    (ht : ∀ (j : Nat) (p' : PV), args'[j]? = some p' → ∃ p, args[j]? = some p ∧ ∀ n ι S w v, VRel n ι S w v p → VRel n ι S w v p') : FnG P f args σ R := fun ι S w vals hs hlv hv =>
  h ι S w vals hs (by omega) fun j p' hj => by
    obtain ⟨p, hp, hr⟩ := ht j p' hj
    obtain ⟨v, h1, h2⟩ := hv j p hp
    exact ⟨v, h1, hr _ _ _ _ _ h2⟩

theorem filt_len (p : GItem → Bool) : ∀ (l : List GItem) (i : Nat), (rowsGo p i l).length = (l.filter p).length
  | [], _ => rfl
  | x :: r, i => by
    rw [rowsGo, List.filter_cons]
    split
    · simp [filt_len p r]
    · exact filt_len p r _

theorem count_split (w : GWorld) (wi wo : List Int) (k : Int) : countM w (wi ++ [k]) wo + countM w wi (wo ++ [k]) = countM w wi wo := by
  unfold countM rowsM
  rw [filt_len, filt_len, filt_len]
  induction w.Items with
  | nil => rfl
  | cons it r ih =>
    simp only [List.filter_cons]
    have e1 : matchI it (wi ++ [k]) wo = (matchI it wi wo && hasK it k) := by simp [matchI]; cases hasK it k <;> simp
    have e2 : matchI it wi (wo ++ [k]) = (matchI it wi wo && !hasK it k) := by simp [matchI]; cases hasK it k <;> simp
    rw [e1, e2]
    cases matchI it wi wo <;> cases hasK it k <;> simp <;> omega

theorem base_count : countM baseW [0] [] = 1 := by decide

theorem Count_nil (w : GWorld) (wi : List Int) (hw : Fine w) (h1 : wi.length ≤ 4611686018427387904) : Fn Try.prog 14 [.agg w.e, slI wi, kNil] (kI (countM w wi [])) :=
  fn_tell (Count_fn w wi [] hw h1 (by simp)) rfl fun j p' hj => by
    match j, hj with
    | 0, hj => simp at hj; subst hj; exact ⟨_, rfl, fun _ _ _ _ _ h => h⟩
    | 1, hj => simp at hj; subst hj; exact ⟨_, rfl, fun _ _ _ _ _ h => h⟩
    | 2, hj => simp at hj; subst hj; exact ⟨_, rfl, (tell_nil 1).2⟩
    | j + 3, hj => simp at hj

theorem baseW_fine : Fine baseW := ⟨by decide, by decide, by decide, by decide, by decide, by decide⟩

theorem imms_snap {ps : List PV} (h : ps.all PV.immB = true) (σ : Boxes) : snapL σ ps = ps := by
  rw [snapL_map]
  refine (List.map_congr_left fun p hp => (?_ : p.snap σ = id p)).trans (by simp)
  have h1 := List.all_eq_true.1 h p hp
  clear h hp; revert h1; cases p <;> simp [PV.immB]

set_option maxRecDepth 20000 in
theorem QuerySplits_law (l wi wo : List Int) (k : Int) (hll : l.length * 8 ≤ 140737488351232) (hl : ∀ x ∈ l, (Lit.int .i64 x).wf = true) (hwil : wi.length * 8 ≤ 140737488351232) (hwi : ∀ x ∈ wi, (Lit.int .i64 x).wf = true) (hwol : wo.length * 8 ≤ 140737488351232) (hwo : ∀ x ∈ wo, (Lit.int .i64 x).wf = true) (hk : (Lit.int .i64 k).wf = true) :
    Fn Try.prog 3 [slI l, slI wi, slI wo, kI k] (kB true) := by
  refine fn_go Try.func3 rfl ?_
  simp [Try.ntmps3]
  refine cal (World_fn l) ?_
  have hv := worldM_valid l
  generalize worldM l = w at hv ⊢
  obtain ⟨hfi, hfc⟩ := checkW_fine hv
  simp
  refine cal base_fn ?_
  simp
  have hwe : w.e.all PV.immB = true := rfl
  have hbe : baseW.e.all PV.immB = true := rfl
  refine calS (Count_nil baseW [0] baseW_fine (by simp)) ?_ (hren := by simp [imms_snap hbe, slI, chunks])
  rw [base_count]
  simp
  have hkr : 0 ≤ k % 5 ∧ k % 5 < 5 := by omega
  refine cal (Below_fn k 5 (by omega) (by omega)) ?_
  generalize k % 5 = n at hkr ⊢
  have hb1 : (wi.length + 1) * 8 ≤ 140737488355328 := by omega
  have hb2 : wi.length + 1 ≤ maxLen := by simp only [maxLen]; omega
  have hb3 : (wo.length + 1) * 8 ≤ 140737488355328 := by omega
  have hb4 : wo.length + 1 ≤ maxLen := by simp only [maxLen]; omega
  simp
  refine awp_drawS follows_mix [(0, 0), (0, 0), (5, 2), (0, 0), (4, 3), (4, 4), (0, 0), (3, 0), (0, 0)] 2 5 [(0, 2), (0, 4), (0, 5), (1, 4), (2, 3), (2, 4), (2, 6), (4, 6), (5, 6)] (by kernel_rfl) rfl rfl ?_
  simp
  refine gE_call5 (.osl 2 1 0 wi.length) [] (wi.map kI) rfl (fun y => ?_) (by simp) (by simp) (by simp) (by simp) ?_
  · simp
    exact does_fnd [] (CloneI_own wi (by omega)) rfl rfl rfl en_17 rfl (by simp) (by simp) (by simp) (by simp) (by simp) (by simp)
  simp [hb1, hb2]
  have e1 : chunks 1 (wi.map kI ++ [kI n]) (wi.length + 1) = (wi ++ [n]).map fun x => [kI x] := by
    have := chunks_ints' (wi ++ [n]) (wi.length + 1) (by simp)
    simpa using this
  have e2 : chunks 1 (wo.map kI ++ [kI n]) (wo.length + 1) = (wo ++ [n]).map fun x => [kI x] := by
    have := chunks_ints' (wo ++ [n]) (wo.length + 1) (by simp)
    simpa using this
  refine gE_callW (kI (countM w (wi ++ [n]) wo)) [4] [] rfl (fun y => ?_) ?_
  · simp
    exact does_snap (Count_fn w (wi ++ [n]) wo hfi (by simp; omega) (by omega)) rfl rfl rfl en_14 (by simp [imms_snap hwe, e1, slI]) (by simp) (by simp)
  simp
  refine awp_drawS follows_mix [(0, 0), (0, 0), (0, 0), (5, 5), (0, 0), (4, 6), (4, 7), (3, 0), (0, 0)] 5 8 [(0, 3), (0, 5), (0, 6), (1, 3), (1, 5), (1, 6), (2, 5), (3, 4), (3, 5)] (by kernel_rfl) rfl rfl ?_
  simp
  refine gE_call5 (.osl 5 1 0 wo.length) [] (wo.map kI) rfl (fun y => ?_) (by simp) (by simp) (by simp) (by simp) ?_
  · simp
    exact does_fnd [] (CloneI_own wo (by omega)) rfl rfl rfl en_17 rfl (by simp) (by simp) (by simp) (by simp) (by simp) (by simp)
  simp [hb3, hb4]
  refine gE_callW (kI (countM w wi (wo ++ [n]))) [7] [] rfl (fun y => ?_) ?_
  · simp
    exact does_snap (Count_fn w wi (wo ++ [n]) hfi (by omega) (by simp; omega)) rfl rfl rfl en_14 (by simp [imms_snap hwe, e2, slI]) (by simp) (by simp)
  simp
  have hc := rowsGo_len (fun it => matchI it (wi ++ [n]) wo) w.Items 0
  have hc2 := rowsGo_len (fun it => matchI it wi (wo ++ [n])) w.Items 0
  have hil := hfi.il
  have hsp := count_split w wi wo n
  refine cal (Count_fn w wi wo hfi (by omega) (by omega)) ?_
  rw [wrap_id (by omega) (by unfold countM rowsM; omega)]
  have he : ((countM w (wi ++ [n]) wo : Int) + (countM w wi (wo ++ [n]) : Int) = (countM w wi wo : Int)) := by omega
  simp [he]
  exact finm
end Go.Proofs.Ytemlkbcfplkniaa.Am
