/- Lists of moves, one after the other: the plain law. -/
import Derived.Test.YtbddlekpoelmkaaNames2
set_option linter.unusedVariables false
set_option linter.unusedSimpArgs false
namespace Go.Proofs.Ytbddlekpoelmkaa.Am
open Go Go.RowKit

theorem kindsGo_append : ∀ {a : List GMove} {ks : List GKind} (b : List GMove), (kindsGo ks a).2 = 0 → kindsGo ks (a ++ b) = kindsGo (kindsGo ks a).1 b
  | [], _, _, _ => rfl
  | m :: r, ks, b, h => by
    obtain ⟨h1, h2⟩ := kindsGo_cons h
    have e : ∀ x, kindsGo ks (m :: x) = kindsGo (oneM ks m).1 x := fun x => by rw [kindsGo, if_neg (by simp [h1])]
    rw [List.cons_append, e, e, kindsGo_append b h2]
theorem kindsMv_go {k : List GKind} {m : GMove} (h : (kindsMv k [m]).2 = 0) : kindsGo k [m] = ((kindsMv k [m]).1, 0) := by
  obtain ⟨h1, h2, h3⟩ := kindsMv_one h
  rw [kindsGo, if_neg (by simp [h2]), h3]
  rfl
theorem movesGo_run (k0 : List GKind) : ∀ (l : List Int) (i : Int) (k : List GKind) (out : List GMove), kindsGo k0 out = (k, 0) → (kindsGo k0 (movesGo l i k out)).2 = 0
  | a :: b :: c :: r, i, k, out, h => by
    rw [movesGo]
    split
    · split
      · rename_i h2
        refine movesGo_run k0 r _ _ _ ?_
        rw [kindsGo_append _ (by rw [h]), h]
        exact kindsMv_go h2
      · exact movesGo_run k0 r _ _ _ h
    · rw [h]
  | [], _, _, _, h => by simp [movesGo, h]
  | [_], _, _, _, h => by simp [movesGo, h]
  | [_, _], _, _, _, h => by simp [movesGo, h]
theorem movesM_run (k : List GKind) (l : List Int) : (kindsGo k (movesM k l)).2 = 0 := movesGo_run k l 0 k [] rfl

theorem stepAll_ok : ∀ {l : List GMove} {w : GWorld}, checkW w = 0 → (kindsGo w.Kinds l).2 = 0 → checkW (stepAll w l) = 0 ∧ kindsGo w.Kinds l = ((stepAll w l).Kinds, 0) ∧ (stepAll w l).Gens = w.Gens ∧ (stepAll w l).Items.length = w.Items.length
  | [], _, h, _ => ⟨h, rfl, rfl, rfl⟩
  | m :: r, w, h, hk => by
    obtain ⟨h1, h2⟩ := kindsGo_cons hk
    obtain ⟨g1, g2, g3, g4⟩ := stepAll_ok (l := r) (w := stepW w m) (checkW_step h h1) h2
    refine ⟨g1, ?_, g3, g4.trans (by simp [stepW])⟩
    rw [kindsGo, if_neg (by simp [h1])]
    exact g2
theorem worldMv_ok {w : GWorld} {l : List GMove} (h : checkW w = 0) (hk : (kindsGo w.Kinds l).2 = 0) (hl : l.length ≤ 100) : worldMv w l = (stepAll w l, 0) ∧ kindsMv w.Kinds l = ((stepAll w l).Kinds, 0) := by
  obtain ⟨ce, _⟩ := checkW_iff.1 h
  have e : kindsMv w.Kinds l = kindsGo w.Kinds l := by
    unfold kindsMv
    rw [if_neg (by simp [ce]), if_neg (by omega)]
  refine ⟨?_, by rw [e]; exact (stepAll_ok h hk).2.1⟩
  unfold worldMv
  rw [if_neg (by simp [h]), e, if_neg (by simp [hk])]
theorem worldMv_join {w : GWorld} {a b : List GMove} (h : checkW w = 0) (ha : (kindsGo w.Kinds a).2 = 0) (hb : (kindsGo (stepAll w a).Kinds b).2 = 0) (hl : (a ++ b).length ≤ 100) :
    worldMv w (a ++ b) = (stepAll (stepAll w a) b, 0) ∧ kindsMv w.Kinds (a ++ b) = ((stepAll (stepAll w a) b).Kinds, 0) := by
  obtain ⟨g1, g2, g3, g4⟩ := stepAll_ok h ha
  have hk : (kindsGo w.Kinds (a ++ b)).2 = 0 := by rw [kindsGo_append _ ha, g2]; exact hb
  have e : stepAll w (a ++ b) = stepAll (stepAll w a) b := by simp [stepAll, List.foldl_append]
  rw [← e]
  exact worldMv_ok h hk hl

end Go.Proofs.Ytbddlekpoelmkaa.Am
