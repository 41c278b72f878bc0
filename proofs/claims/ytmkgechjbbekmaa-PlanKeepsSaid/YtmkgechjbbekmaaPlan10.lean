/- PlanKeeps: the layers are a right division, and the systems of a chain conflict one after the other, as many as there are layers. -/
import Derived.Test.YtmkgechjbbekmaaPlan9
import Derived.Test.YtmkgechjbbekmaaPlan5
set_option linter.unusedVariables false
set_option linter.unusedSimpArgs false
namespace Go.Proofs.Ytmkgechjbbekmaa.Am
open Go Go.RowKit

theorem layersL_len (l : List GSystem) (h : l.length ≤ 24) : (layersL l).length ≤ 24 := by
  rw [(lay_inv l).len]
  have := depMax_wit l l.length (Nat.le_refl _)
  rcases this with h | ⟨i, hi, h⟩
  · omega
  · have := depF_le l hi; omega

set_option maxRecDepth 20000 in
set_option maxHeartbeats 1000000 in
theorem PlanKeeps_law (l m : List Int) (hw : ∀ x ∈ l, (Lit.int .i64 x).wf = true) (hw2 : ∀ x ∈ m, (Lit.int .i64 x).wf = true) : Fn Try.prog 8 [slI l, slI m] (kB true) := by
  refine fn_go Try.func8 rfl ?_
  simp [Try.ntmps8]
  refine cal layered_fn ?_
  simp
  refine cal (Kinds_fn l) ?_
  obtain ⟨ks, hks⟩ : ∃ ks, (kindsM l).1 = ks := ⟨_, rfl⟩
  have hg := kindsM_good l
  rw [hks] at hg ⊢
  have hok := good_ok hg.1
  have hk0 := hg.2
  simp
  refine cal (Systems_fn ks m hok hk0) ?_
  obtain ⟨S, hS⟩ : ∃ S, systemsM ks m = S := ⟨_, rfl⟩
  obtain ⟨hSl, hS5⟩ := systemsM_ok ks m hok hk0
  rw [hS] at hSl hS5 ⊢
  simp
  refine cal (Layers_fn S (by omega) hSl) ?_
  simp
  refine cal (Chain_fn S (by omega) hSl) ?_
  simp
  refine cal (Right_fn S (layersL S) (depF S) (by omega) (by have := layersL_len S (by omega); omega) hSl (right_layers S)) ?_
  have hcl := chain_len S
  have hci := chain_inv S
  have hcl2 : (chainL S).length ≤ 24 := by rw [hcl]; exact layersL_len S (by omega)
  obtain ⟨C, hC⟩ : ∃ C, chainL S = C := ⟨_, rfl⟩
  rw [hC] at hcl hci hcl2 ⊢
  simp [hcl]
  refine awp_loop (fun i : Nat => ⟨92, [(5, .sl 7 (S.map GSystem.e)), (8, slI C), (47, slI C), (48, kI C.length), (49, kI i)], [], 0⟩) (fun i => i ≤ C.length) (fun i => C.length - i) 0 ?_ ?_ ?_
  · exact entm [] (hT := by simp [hcl])
  · simp
  · intro i hi
    refine awp_go ?_
    by_cases hlt : i < C.length
    · have hm := hci.mem C[i] (List.getElem_mem hlt)
      obtain ⟨k, hk⟩ : ∃ k : Nat, C[i] = k := ⟨(C[i]).toNat, by omega⟩
      have hkl : k < S.length := by omega
      have hk0' : ¬ ((k : Int) < 0) := by omega
      have hnk : ¬ ((S.length : Int) ≤ k) := by omega
      simp [hlt, hk]
      by_cases hi0 : i = 0
      · subst hi0
        refine awp_draw follows_mix [] [(0, [0]), (0, [0]), (0, [0]), (0, [0]), (0, [0]), (0, [0]), (0, [0]), (0, [0]), (0, [0]), (0, [0]), (0, [0]), (0, [0]), (0, [0]), (0, [0]), (0, [0]), (0, [0]), (0, [0]), (0, [0]), (0, [0]), (0, [0]), (0, [0]), (0, [0]), (0, [0]), (0, [0]), (0, [0]), (0, [0]), (0, [0]), (0, [0]), (0, [0]), (0, [0]), (0, [0]), (0, [0]), (2, [0]), (0, [0]), (0, [0]), (0, [0]), (0, [0])] 0 (by kernel_rfl) rfl ?_
        simp [hk0', hnk]
        refine ⟨calSkip, ?_⟩
        exact ⟨1, by omega, by omega, entm []⟩
      · obtain ⟨q, rfl⟩ : ∃ q, i = q + 1 := ⟨i - 1, by omega⟩
        have hql : q < C.length := by omega
        obtain ⟨hup, hcf⟩ := hci.link q hlt
        have hm2 := hci.mem C[q] (List.getElem_mem hql)
        obtain ⟨p, hp⟩ : ∃ p : Nat, C[q] = p := ⟨(C[q]).toNat, by omega⟩
        have hpl : p < S.length := by omega
        rw [hp, hk] at hup hcf
        simp only [Int.toNat_natCast] at hcf
        have ecf : conflB S[p] S[k] = true := by
          have : confAt S p k = conflB S[p] S[k] := by simp [confAt, List.getD, hpl, hkl]
          rw [← this]; exact hcf
        have hwq : IntKind.i64.wrap (q : Int) = q := wrap_id (by omega) (by omega)
        have hge : ¬ ((k : Int) ≤ p) := by omega
        have hq0 : (0 : Int) < (q : Int) + 1 := by omega
        refine awp_draw follows_mix [] [(0, [0]), (0, [0]), (0, [0]), (0, [0]), (0, [0]), (0, [0]), (0, [0]), (0, [0]), (0, [0]), (0, [0]), (0, [0]), (0, [0]), (0, [0]), (0, [0]), (0, [0]), (0, [0]), (0, [0]), (0, [0]), (0, [0]), (0, [0]), (0, [0]), (0, [0]), (0, [0]), (0, [0]), (0, [0]), (0, [0]), (0, [0]), (0, [0]), (0, [0]), (0, [0]), (0, [0]), (0, [0]), (2, [0]), (0, [0]), (0, [0]), (0, [0]), (0, [0])] 0 (by kernel_rfl) rfl ?_
        simp [hk0', hnk, hwq, hge, hq0, hql, hp, hpl, hkl, hlt]
        refine gD_call (kB true) ?_
        simp [hk0', hnk, hwq, hge, hq0, hql, hp, hpl, hkl, hlt]
        refine ⟨by rw [← ecf]; exact calO (Conflict_fn S[p] S[k] (hSl _ (List.getElem_mem hpl)) (hSl _ (List.getElem_mem hkl))), ?_⟩
        rw [wrap_id (by omega) (by omega)]
        exact ⟨q + 1 + 1, by omega, by omega, entm []⟩
    · simp [hlt]
      exact finm
end Go.Proofs.Ytmkgechjbbekmaa.Am
