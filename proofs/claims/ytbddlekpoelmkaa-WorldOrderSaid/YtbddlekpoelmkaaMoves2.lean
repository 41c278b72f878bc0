/- Package tourkeep3: moves that are possible. -/
import Derived.Test.YtbddlekpoelmkaaMoves1
set_option linter.unusedVariables false
set_option linter.unusedSimpArgs false
namespace Go.Proofs.Ytbddlekpoelmkaa.Am
open Go Go.RowKit

def movesGo : List Int → Int → List GKind → List GMove → List GMove
  | a :: b :: c :: r, i, k, out => if out.length < 6 ∧ 0 < k.length then
      if (kindsMv k [moveM k a b c i]).2 = 0 then movesGo r (i + 3) (kindsMv k [moveM k a b c i]).1 (out ++ [moveM k a b c i]) else movesGo r (i + 3) k out
    else out
  | _, _, _, out => out
def movesM (k : List GKind) (l : List Int) : List GMove := movesGo l 0 k []

theorem kindsMv_one {k : List GKind} {m : GMove} (h : (kindsMv k [m]).2 = 0) : checkE k = 0 ∧ (oneM k m).2 = 0 ∧ (kindsMv k [m]).1 = (oneM k m).1 := by
  unfold kindsMv at h ⊢
  split at h
  · rename_i h1; exact absurd h h1
  · rename_i h1
    rw [if_neg h1]
    have h2 : ¬ 100 < [m].length := by simp
    rw [if_neg h2] at h ⊢
    obtain ⟨g1, g2⟩ := kindsGo_cons h
    refine ⟨by omega, g1, ?_⟩
    rw [kindsGo, if_neg (by simp [g1])]
    rfl

set_option maxRecDepth 20000 in
theorem moves_fn (k : List GKind) (l : List Int) (hk : k.length ≤ 1000000) (hf : ∀ x ∈ k, x.Fields.length ≤ 1000000) (hl : l.length ≤ 1000000000000000000) :
    Fn Try.prog 10 [.sl 2 (k.map GKind.e), slI l] (.sl 10 ((movesM k l).map GMove.e)) := by
  refine fn_go Try.func10 rfl ?_
  simp [Try.ntmps10]
  refine awp_loop (fun x : Nat × List GKind × List GMove => ⟨59, [(0, .sl 2 (x.2.1.map GKind.e)), (1, slI l), (5, .osl 0 10 0 x.2.2.length), (6, kI x.1)], [some (x.2.2.map GMove.e).flatten], 0⟩)
    (fun x => x.1 ≤ l.length + 2 ∧ x.2.1.length ≤ 1000000 ∧ (∀ y ∈ x.2.1, y.Fields.length ≤ 1000000) ∧ movesGo (l.drop x.1) x.1 x.2.1 x.2.2 = movesM k l) (fun x => l.length + 2 - x.1) (0, k, []) ?_ ?_ ?_
  · exact (ent_nil (t := 5) (z := 10) rfl).trans (entm [0])
  · simp [movesM]; exact ⟨hk, hf⟩
  · rintro ⟨i, ks, out⟩ ⟨hi, hks, hkf, hrun⟩
    simp only at hi hks hkf hrun
    refine awp_go ?_
    by_cases h1 : i + 2 < l.length
    · have hd : l.drop i = l[i] :: l[i + 1] :: l[i + 2] :: l.drop (i + 3) := by
        rw [List.drop_eq_getElem_cons (by omega), List.drop_eq_getElem_cons (by omega), List.drop_eq_getElem_cons (by omega)]
      rw [hd, movesGo] at hrun
      have h1' : (i : Int) + 2 < (l.length : Int) := by omega
      by_cases h2 : out.length < 6
      · by_cases h3 : 0 < ks.length
        · rw [if_pos ⟨h2, h3⟩] at hrun
          have h2' : (out.length : Int) < 6 := by omega
          simp
          rw [wrap_id (by omega) (by omega)]
          simp [h1', h2', h3]
          refine awp_draw follows_mix [] [(0, [0, 1]), (0, [0, 1]), (0, [0, 1]), (0, [0, 1]), (0, [0, 1]), (0, [0, 1]), (0, [0, 1]), (0, [0, 1]), (0, [0, 1]), (0, [0, 1]), (0, [0, 1]), (0, [0, 1]), (0, [0, 1]), (0, [0, 1]), (0, [0, 1]), (0, [0, 1]), (2, [0, 1]), (1, [0]), (1, [1])] 2 (by kernel_rfl) rfl ?_
          have g0 : i < l.length := by omega
          have g1 : i + 1 < l.length := by omega
          have t1 : ((i : Int) + 1).toNat = i + 1 := by omega
          have t2 : ((i : Int) + 2).toNat = i + 2 := by omega
          have t3 : (0 : Int) ≤ (i : Int) + 1 := by omega
          have t4 : (0 : Int) ≤ (i : Int) + 2 := by omega
          simp [g0, g1, h1]
          rw [wrap_id (by omega) (by omega)]
          simp [g0, g1, h1, t1, t2, t3, t4]
          rw [wrap_id (by omega) (by omega)]
          simp [g0, g1, h1, t1, t2, t3, t4]
          obtain ⟨m, hm⟩ : ∃ m, moveM ks l[i] l[i + 1] l[i + 2] i = m := ⟨_, rfl⟩
          have hmv := move_fn ks l[i] l[i + 1] l[i + 2] i h3 hks hkf
          have hmw : m.Whole.Fields.length ≤ 1000000 := by rw [← hm]; simp [moveM]
          rw [hm] at hmv hrun
          refine gD_call (.agg m.e) ?_
          simp [g0, g1, h1, t1, t2, t3, t4]
          refine ⟨⟨wrap_id (by omega) (by omega), wrap_id (by omega) (by omega), calO hmv⟩, ?_⟩
          refine ops_fz 2 m.e ?_
          simp
          have hK := Kinds2_fn ks [m] hks hkf (by simpa using hmw) (by simp)
          have hb1 : (out.length + 1) * 136 ≤ 140737488355328 := by omega
          have hb2 : out.length + 1 ≤ maxLen := by simp only [maxLen]; omega
          refine cal hK ?_ (hren := by simp [chunks, List.range, List.range.loop])
          by_cases h5 : (kindsMv ks [m]).2 = 0
          · rw [if_pos h5] at hrun
            obtain ⟨z1, z2, z3⟩ := kindsMv_one h5
            have z4 := checkE_le (oneM_ok z2)
            rw [← z3] at z4
            simp [h5, hb1, hb2]
            rw [wrap_id (by omega) (by omega)]
            exact ⟨i + 3, (kindsMv ks [m]).1, out ++ [m], ⟨by omega, by omega, fun y hy => by have := z4.2 y hy; omega, hrun⟩, by omega, entm [4]⟩
          · rw [if_neg h5] at hrun
            simp [h5]
            rw [wrap_id (by omega) (by omega)]
            exact ⟨i + 3, ks, out, ⟨by omega, hks, hkf, hrun⟩, by omega, entm [0]⟩
        · rw [if_neg (fun h => h3 h.2)] at hrun
          have h2' : (out.length : Int) < 6 := by omega
          simp
          rw [wrap_id (by omega) (by omega)]
          simp [h1', h2', h3]
          refine fin_fz 0 _ ?_
          simp
          exact finm (by simp [hrun])
      · rw [if_neg (fun h => h2 h.1)] at hrun
        have h2' : ¬ (out.length : Int) < 6 := by omega
        simp
        rw [wrap_id (by omega) (by omega)]
        simp [h1', h2']
        refine fin_fz 0 _ ?_
        simp
        exact finm (by simp [hrun])
    · have hrun2 : out = movesM k l := by
        rw [← hrun]
        have : (l.drop i).length ≤ 2 := by simp; omega
        match l.drop i, this with
        | [], _ => rfl
        | [_], _ => rfl
        | [_, _], _ => rfl
      have h1' : ¬ (i : Int) + 2 < (l.length : Int) := by omega
      simp
      rw [wrap_id (by omega) (by omega)]
      simp [h1']
      refine fin_fz 0 _ ?_
      simp
      exact finm (by simp [hrun2])
end Go.Proofs.Ytbddlekpoelmkaa.Am
