/- PlanReads: systems that write nothing are in one layer; conflicts are symmetric. -/
import Derived.Test.YtmkgechjbbekmaaPlan4
import Derived.Test.YtmkgechjbbekmaaMake3
set_option linter.unusedVariables false
set_option linter.unusedSimpArgs false
namespace Go.Proofs.Ytmkgechjbbekmaa.Am
open Go Go.RowKit

theorem hitsB_symm (x y : List Int) : hitsB x y = hitsB y x := by
  unfold hitsB
  rw [Bool.eq_iff_iff, List.any_eq_true, List.any_eq_true]
  constructor
  · rintro ⟨k, h1, h2⟩; exact ⟨k, by simpa using h2, by simpa using h1⟩
  · rintro ⟨k, h1, h2⟩; exact ⟨k, by simpa using h2, by simpa using h1⟩
theorem conflB_symm (a b : GSystem) : conflB a b = conflB b a := by
  unfold conflB
  rw [hitsB_symm a.Writes b.Writes, hitsB_symm a.Writes b.Reads, hitsB_symm a.Reads b.Writes, Bool.or_comm (hitsB b.Reads a.Writes)]
def nwS (s : GSystem) : GSystem := { s with Writes := [] }
theorem conf_nw (a b : GSystem) (ha : a.Writes = []) (hb : b.Writes = []) : conflB a b = false := by
  simp [conflB, hitsB, ha, hb]
theorem deps_nw (l : List GSystem) (h : ∀ s ∈ l, s.Writes = []) : ∀ n, n ≤ l.length → depsL l n = List.replicate n 1
  | 0, _ => rfl
  | n + 1, hn => by
    have hd : ∀ j, j ≤ n → depAt l (depsL l n) n j = 1 := fun j => by
      induction j with
      | zero => intro _; rfl
      | succ j ih =>
        intro hj
        have hc : confAt l j n = false := by
          have e1 : l.getD j dSys = l[j] := by simp [List.getD, List.getElem?_eq_getElem (show j < l.length by omega)]
          have e2 : l.getD n dSys = l[n] := by simp [List.getD, List.getElem?_eq_getElem (show n < l.length by omega)]
          unfold confAt
          rw [e1, e2]
          exact conf_nw _ _ (h _ (List.getElem_mem _)) (h _ (List.getElem_mem _))
        unfold depAt
        rw [if_neg (by simp [hc]), ih (by omega)]
    rw [depsL, hd n (Nat.le_refl _), deps_nw l h n (by omega), List.replicate_succ']
theorem layGo_ones : ∀ (n i : Nat) (rows : List (List Int)), rows.length ≤ 1 → (layGo (List.replicate n 1) i rows).length = if n = 0 then rows.length else 1
  | 0, _, _, _ => rfl
  | n + 1, i, rows, h => by
    have h1 : (layAdd (layExt (1 : Int).toNat rows) ((1 : Int).toNat - 1) i).length = 1 := by
      simp [layAdd, layExt]; omega
    rw [List.replicate_succ, layGo, layGo_ones n (i + 1) _ (by omega), h1]
    simp
theorem layers_nw (l : List GSystem) (h : ∀ s ∈ l, s.Writes = []) : (layersL l).length = min l.length 1 := by
  unfold layersL
  rw [deps_nw l h _ (Nat.le_refl _), layGo_ones _ _ _ (by simp)]
  by_cases h0 : l.length = 0
  · simp [h0]
  · rw [if_neg h0]; omega

set_option maxRecDepth 20000 in
set_option maxHeartbeats 1000000 in
theorem PlanReads_law (l m : List Int) (hw : ∀ x ∈ l, (Lit.int .i64 x).wf = true) (hw2 : ∀ x ∈ m, (Lit.int .i64 x).wf = true) : Fn Try.prog 7 [slI l, slI m] (kB true) := by
  refine fn_go Try.func7 rfl ?_
  simp [Try.ntmps7]
  refine cal layered_fn ?_
  simp
  refine cal (Kinds_fn l) ?_
  obtain ⟨ks, hks⟩ : ∃ ks, (kindsM l).1 = ks := ⟨_, rfl⟩
  have hg := kindsM_good l
  rw [hks] at hg ⊢
  have hok := good_ok hg.1
  have hk0 := hg.2
  simp
  refine calD [] (Systems_own ks m hok hk0) ?_
  obtain ⟨S, hS⟩ : ∃ S, systemsM ks m = S := ⟨_, rfl⟩
  obtain ⟨hSl, hS5⟩ := systemsM_ok ks m hok hk0
  rw [hS] at hSl hS5 ⊢
  simp
  refine awp_loop (fun i : Nat => ⟨73, [(5, .osl 0 7 0 S.length), (18, kI S.length), (19, kI i)], [some (S.map GSystem.e).flatten], 0⟩) (fun i => i ≤ S.length) (fun i => S.length - i) 0 ?_ ?_ ?_
  · exact entm [0]
  · simp
  · intro i hi
    refine awp_go ?_
    by_cases hlt : i < S.length
    · simp [hlt]
      refine awp_loop (fun j : Nat => ⟨73, [(5, .osl 0 7 0 S.length), (6, kI i), (18, kI S.length), (19, kI i), (23, kI S.length), (24, kI j)], [some (S.map GSystem.e).flatten], 0⟩) (fun j => j ≤ S.length) (fun j => S.length - j) 0 ?_ ?_ ?_
      · exact entm [0]
      · simp
      · intro j hj
        refine awp_go ?_
        by_cases hltj : j < S.length
        · simp [hltj]
          refine awp_draw follows_mix [] [(0, [0]), (0, [0]), (0, [0]), (0, [0]), (0, [0]), (0, [0]), (0, [0]), (0, [0]), (2, [0]), (0, [0]), (0, [0]), (0, [0]), (0, [0]), (0, [0]), (0, [0]), (0, [0]), (0, [0]), (2, [0]), (0, [0])] 0 (by kernel_rfl) rfl ?_
          simp [hlt, hltj]
          refine gD_call (kB (conflB S[i] S[j])) ?_
          simp [hlt, hltj]
          refine gD_call (kB (conflB S[j] S[i])) ?_
          simp [hlt, hltj]
          have hi1 := hSl S[i] (List.getElem_mem hlt)
          have hj1 := hSl S[j] (List.getElem_mem hltj)
          refine ⟨⟨calO (Conflict_fn S[i] S[j] hi1 hj1), calO (Conflict_fn S[j] S[i] hj1 hi1)⟩, ?_⟩
          rw [conflB_symm S[j] S[i]]
          simp
          rw [wrap_id (by omega) (by omega)]
          exact ⟨j + 1, by omega, by omega, entm [0]⟩
        · simp [hltj]
          rw [wrap_id (by omega) (by omega)]
          exact ⟨i + 1, by omega, by omega, entm [0]⟩
    · have hin : i = S.length := by omega
      subst hin
      simp
      refine awp_loop (fun x : Nat × List GSystem => ⟨73, [(5, .osl 0 7 0 S.length), (49, kI S.length), (50, kI x.1)], [some (x.2.map GSystem.e).flatten], 0⟩) (fun x => x.1 ≤ S.length ∧ x.2 = (S.take x.1).map nwS ++ S.drop x.1) (fun x => S.length - x.1) (0, S) ?_ ?_ ?_
      · exact entm [0]
      · simp
      · rintro ⟨i, W⟩ ⟨hi, hW⟩
        simp only at hi hW
        have hWl : W.length = S.length := by rw [hW]; simp; omega
        refine awp_go ?_
        by_cases hlt : i < S.length
        · have hiW : i < W.length := by omega
          have h5 : i * 7 + 4 + 1 ≤ W.length * 7 := by omega
          have hput := row_put GSystem.e_len W i 4 (.sl 1 []) (nwS W[i]) hiW (by omega) (by simp [GSystem.e, nwS])
          have hlen5 : i * 7 + 4 < (W.map GSystem.e).flatten.length := by rw [flat_len GSystem.e_len]; omega
          have hset : ∀ p, ((W.map GSystem.e).flatten.take (i * 7 + 4) ++ p :: (W.map GSystem.e).flatten.drop (i * 7 + 4 + 1)) = (W.map GSystem.e).flatten.set (i * 7 + 4) p := fun p => by rw [List.set_eq_take_append_cons_drop, if_pos hlen5]
          rw [hset] at hput
          have hWi : W[i] = S[i] := by
            have : W[i]? = S[i]? := by
              rw [hW, List.getElem?_append_right (by simp; omega), List.getElem?_drop]; congr 1; simp; omega
            rw [List.getElem?_eq_getElem hiW, List.getElem?_eq_getElem hlt] at this
            simpa using this
          obtain ⟨W', hW'⟩ : ∃ W', W.set i (nwS W[i]) = W' := ⟨_, rfl⟩
          rw [hW'] at hput
          have hnew : W' = (S.take (i + 1)).map nwS ++ S.drop (i + 1) := by
            have e1 : i - ((S.take i).map nwS).length = 0 := by simp; omega
            have e2 : S.take (i + 1) = S.take i ++ [S[i]] := (List.take_append_getElem hlt).symm
            rw [← hW', hWi, hW, List.set_append_right _ _ (by simp; omega), e1, List.drop_eq_getElem_cons hlt, List.set_cons_zero, e2, List.map_append, List.append_assoc]
            rfl
          simp [hlt, hiW, h5, hset]
          rw [wrap_id (by omega) (by omega)]
          exact ⟨i + 1, W', ⟨by omega, by simpa using hnew⟩, by omega, (ent_cell 0 (i * 7 + 4) (tell_nil 1) (h := by rw [List.getElem?_set_self hlen5])).trans (entm [0] (hB := by simp [List.set_set, hput]))⟩
        · have hin : i = S.length := by omega
          subst hin
          simp at hW
          have hWw : ∀ s ∈ W, s.Writes = [] := fun s hs => by
            rw [hW] at hs; simp at hs; obtain ⟨y, _, rfl⟩ := hs; rfl
          have hWs : ∀ s ∈ W, SysLen s := fun s hs => by
            rw [hW] at hs; simp at hs; obtain ⟨y, hy, rfl⟩ := hs
            have := hSl y hy
            exact ⟨this.1, by simp [nwS]⟩
          simp
          refine ops_fz 0 (W.map GSystem.e).flatten ?_
          simp [← hWl]
          refine cal (Layers_fn W (by omega) hWs) ?_
          have hmin : (((min W.length 1 : Nat) : Int) = if (1 : Int) < (W.length : Int) then 1 else (W.length : Int)) := by split <;> omega
          simp [layers_nw W hWw]
          exact finm (by simp [hmin])
end Go.Proofs.Ytmkgechjbbekmaa.Am
