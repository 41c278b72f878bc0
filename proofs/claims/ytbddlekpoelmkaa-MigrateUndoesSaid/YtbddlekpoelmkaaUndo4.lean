/- Package migrate: Back. -/
import Derived.Test.YtbddlekpoelmkaaUndo3
import Derived.Test.YtbddlekpoelmkaaSl10
import Derived.Test.YtbddlekpoelmkaaJoins0
set_option linter.unusedVariables false
set_option linter.unusedSimpArgs false
namespace Go.Proofs.Ytbddlekpoelmkaa.Am
open Go Go.RowKit

def backGo : List GKind → List GMove → List GMove → List GMove × Int
  | _, [], out => (out.reverse, 0)
  | ks, m :: r, out => if (invM ks m).2 = false then ([], 4) else backGo (oneM ks m).1 r (out ++ [(invM ks m).1])
def backM (ks : List GKind) (l : List GMove) : List GMove × Int := if (kindsMv ks l).2 ≠ 0 then ([], (kindsMv ks l).2) else backGo ks l []

theorem kindsMv_split {ks : List GKind} {l : List GMove} (h : (kindsMv ks l).2 = 0) : checkE ks = 0 ∧ l.length ≤ 100 ∧ (kindsGo ks l).2 = 0 := by
  unfold kindsMv at h
  split at h
  · rename_i h1; exact absurd h h1
  · split at h
    · simp at h
    · exact ⟨by omega, by omega, h⟩

set_option maxRecDepth 20000 in
theorem Back_fn (ks : List GKind) (l : List GMove) (hl : ks.length ≤ 1000000) (hf : ∀ k ∈ ks, k.Fields.length ≤ 1000000) (hm : ∀ m ∈ l, m.Whole.Fields.length ≤ 1000000) (hll : l.length ≤ 1000000000) :
    Fn Try.prog 12 [.sl 2 (ks.map GKind.e), .sl 10 (l.map GMove.e)] (.tup [.sl 10 ((backM ks l).1.map GMove.e), kI (backM ks l).2]) := by
  refine fn_go Try.func12 rfl ?_
  simp [Try.ntmps12]
  refine cal (Kinds2_fn ks l hl hf hm hll) ?_
  by_cases h1 : (kindsMv ks l).2 = 0
  · obtain ⟨hc, hl100, hk⟩ := kindsMv_split h1
    have hB : backM ks l = backGo ks l [] := by unfold backM; rw [if_neg (by simp [h1])]
    simp [h1]
    refine awp_loop (fun x : Nat × List GKind × List GMove => ⟨50, [(0, .sl 2 (x.2.1.map GKind.e)), (8, .osl 0 10 0 x.2.2.length), (22, .sl 10 (l.map GMove.e)), (23, kI l.length), (24, kI x.1)], [some (x.2.2.map GMove.e).flatten], 0⟩)
      (fun x => x.1 ≤ l.length ∧ x.2.2.length = x.1 ∧ checkE x.2.1 = 0 ∧ (kindsGo x.2.1 (l.drop x.1)).2 = 0 ∧ backGo x.2.1 (l.drop x.1) x.2.2 = backGo ks l []) (fun x => l.length - x.1) (0, ks, []) ?_ ?_ ?_
    · exact (ent_nil (t := 8) (z := 10) rfl).trans (entm [0])
    · simp [hc, hk]
    · rintro ⟨i, k, out⟩ ⟨hi, ho, hck, hkk, hrun⟩
      simp only at hi ho hck hkk hrun
      obtain ⟨hb1, hb2⟩ := checkE_le hck
      refine awp_go ?_
      by_cases hlt : i < l.length
      · rw [List.drop_eq_getElem_cons hlt] at hkk hrun
        rw [backGo] at hrun
        obtain ⟨m, hme⟩ : ∃ m, l[i] = m := ⟨_, rfl⟩
        have hmw := hm _ (List.getElem_mem hlt)
        rw [hme] at hkk hrun hmw
        obtain ⟨hk1, hk2⟩ := kindsGo_cons hkk
        simp [hlt, hme]
        refine cal (inverse_fn k m hck (oneM_spec hk1).1) ?_
        by_cases h2 : (invM k m).2 = false
        · rw [if_pos h2] at hrun
          simp [h2]
          refine fin_ent (ent_nilsl (t := 4) (z := 10) rfl) ?_
          exact finm (by simp [hB, ← hrun])
        · rw [if_neg h2] at hrun
          have h2' : (invM k m).2 = true := by simpa using h2
          have g1 : (out.length + 1) * 136 ≤ 140737488355328 := by omega
          have g2 : out.length + 1 ≤ maxLen := by simp only [maxLen]; omega
          simp [h2', g1, g2]
          refine cal (one_fn k m (by omega) (fun x hx => by have := hb2 x hx; omega) hmw) ?_
          simp
          rw [wrap_id (by omega) (by omega)]
          obtain ⟨y, hy⟩ : ∃ y, (invM k m).1 = y := ⟨_, rfl⟩
          rw [hy] at hrun ⊢
          exact ⟨i + 1, (oneM k m).1, out ++ [y], ⟨by omega, by simp [ho], oneM_ok hk1, hk2, hrun⟩, by omega, entm [4]⟩
      · have : i = l.length := by omega
        subst this
        simp [backGo] at hrun
        simp
        refine calD [0] (ReverseM_fn out (by omega)) ?_
        obtain ⟨R, hR⟩ : ∃ R, out.reverse = R := ⟨_, rfl⟩
        have hRl : R.length = out.length := by rw [← hR]; simp
        rw [hR] at hrun ⊢
        rw [← hRl]
        simp
        refine fin_fz 0 _ ?_
        simp
        exact finm (by simp [hB, ← hrun])
  · simp [h1]
    refine fin_ent (ent_nilsl (t := 4) (z := 10) rfl) ?_
    exact finm (by simp [backM, h1])
end Go.Proofs.Ytbddlekpoelmkaa.Am
