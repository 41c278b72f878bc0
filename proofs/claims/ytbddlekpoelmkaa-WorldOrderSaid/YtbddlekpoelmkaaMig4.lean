/- Package migrate: lists of moves on kinds. -/
import Derived.Test.YtbddlekpoelmkaaMig3
set_option linter.unusedVariables false
set_option linter.unusedSimpArgs false
namespace Go.Proofs.Ytbddlekpoelmkaa.Am
open Go Go.RowKit

def kindsGo : List GKind → List GMove → List GKind × Int
  | ks, [] => (ks, 0)
  | ks, m :: r => if (oneM ks m).2 ≠ 0 then ([], (oneM ks m).2) else kindsGo (oneM ks m).1 r
def kindsMv (ks : List GKind) (l : List GMove) : List GKind × Int := if checkE ks ≠ 0 then ([], checkE ks) else if 100 < l.length then ([], 2) else kindsGo ks l

theorem oneE_le {k : GKind} (h : oneE k = 0) : k.Fields.length ≤ 8 := by
  unfold oneE at h
  split at h
  · split at h
    · simp at h
    · omega
  · simp at h
theorem checkGo_le : ∀ {l pre : List GKind}, checkGo pre l = 0 → ∀ k ∈ l, k.Fields.length ≤ 8
  | [], _, _, _, hk => by simp at hk
  | x :: r, pre, h, k, hk => by
    unfold checkGo at h
    split at h
    · rename_i h1; exact absurd h h1
    · rename_i h1
      split at h
      · simp at h
      · rcases List.mem_cons.1 hk with e | hk
        · subst e; exact oneE_le (by omega)
        · exact checkGo_le h k hk
theorem checkE_le {ks : List GKind} (h : checkE ks = 0) : ks.length ≤ 16 ∧ ∀ k ∈ ks, k.Fields.length ≤ 8 := by
  unfold checkE at h
  split at h
  · simp at h
  · exact ⟨by omega, checkGo_le h⟩
theorem oneM_ok {ks : List GKind} {m : GMove} (h : (oneM ks m).2 = 0) : checkE (oneM ks m).1 = 0 := by
  unfold oneM at h ⊢
  split
  · rename_i h1; rw [if_pos h1] at h; exact absurd h h1
  · rename_i h1
    rw [if_neg h1] at h
    split
    · rename_i h2; rw [if_pos h2] at h; exact absurd h h2
    · rename_i h2; simpa using h2

set_option maxRecDepth 20000 in
theorem Kinds2_fn (ks : List GKind) (l : List GMove) (hl : ks.length ≤ 1000000) (hf : ∀ k ∈ ks, k.Fields.length ≤ 1000000) (hm : ∀ m ∈ l, m.Whole.Fields.length ≤ 1000000) (hll : l.length ≤ 1000000000) :
    Fn Try.prog 41 [.sl 2 (ks.map GKind.e), .sl 10 (l.map GMove.e)] (.tup [.sl 2 ((kindsMv ks l).1.map GKind.e), kI (kindsMv ks l).2]) := by
  refine fn_go Try.func41 rfl ?_
  simp [Try.ntmps41]
  refine cal (Check_fn ks (fun k hk => by have := hf k hk; omega) (by omega)) ?_
  by_cases h1 : checkE ks = 0
  · simp [h1]
    by_cases h2 : (100 : Int) < (l.length : Int)
    · simp [h2]
      refine fin_ent (ent_nilsl (t := 4) (z := 2) rfl) ?_
      exact finm (by have : 100 < l.length := by omega
                     simp [kindsMv, h1, this])
    · simp [h2]
      have hK : kindsMv ks l = kindsGo ks l := by have : ¬ 100 < l.length := by omega
                                                  simp [kindsMv, h1, this]
      refine cal (KCopy_fn ks (by omega) (fun k hk => by have := hf k hk; omega)) ?_
      simp
      refine awp_loop (fun x : Nat × List GKind => ⟨39, [(0, .sl 2 (x.2.map GKind.e)), (4, kNil), (21, .sl 10 (l.map GMove.e)), (22, kI l.length), (23, kI x.1)], [], 0⟩)
        (fun x => x.1 ≤ l.length ∧ checkE x.2 = 0 ∧ kindsGo x.2 (l.drop x.1) = kindsGo ks l) (fun x => l.length - x.1) (0, ks) ?_ ?_ ?_
      · exact entm []
      · simp [h1]
      · rintro ⟨i, k2⟩ ⟨hi, hc, hrun⟩
        simp only at hi hc hrun
        obtain ⟨hb1, hb2⟩ := checkE_le hc
        refine awp_go ?_
        by_cases hlt : i < l.length
        · rw [List.drop_eq_getElem_cons hlt, kindsGo] at hrun
          simp [hlt]
          refine cal (one_fn k2 l[i] (by omega) (fun k hk => by have := hb2 k hk; omega) (hm _ (List.getElem_mem hlt))) ?_
          by_cases h3 : (oneM k2 l[i]).2 = 0
          · rw [if_neg (by simp [h3])] at hrun
            simp [h3]
            rw [wrap_id (by omega) (by omega)]
            exact ⟨i + 1, (oneM k2 l[i]).1, ⟨by omega, oneM_ok h3, hrun⟩, by omega, entm []⟩
          · rw [if_pos h3] at hrun
            simp [h3]
            refine fin_ent (ent_nilsl (t := 4) (z := 2) rfl) ?_
            exact finm (by simp [hK, ← hrun])
        · have : i = l.length := by omega
          subst this
          simp [kindsGo] at hrun
          simp
          exact finm (by simp [hK, ← hrun])
  · simp [h1]
    refine fin_ent (ent_nilsl (t := 4) (z := 2) rfl) ?_
    exact finm (by simp [kindsMv, h1])
end Go.Proofs.Ytbddlekpoelmkaa.Am
