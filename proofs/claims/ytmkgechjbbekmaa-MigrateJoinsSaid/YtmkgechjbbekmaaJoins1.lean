/- MigrateJoins: the plain law, and the law. -/
import Derived.Test.YtmkgechjbbekmaaNames1
import Derived.Test.YtmkgechjbbekmaaNames2
import Derived.Test.YtmkgechjbbekmaaSl8
set_option linter.unusedVariables false
set_option linter.unusedSimpArgs false
namespace Go.Proofs.Ytmkgechjbbekmaa.Am
open Go Go.RowKit

theorem kindsGo_append : ∀ {a : List GMove} {ks : List GKind} (b : List GMove), (kindsGo ks a).2 = 0 → kindsGo ks (a ++ b) = kindsGo (kindsGo ks a).1 b
  | [], _, _, _ => rfl
  | m :: r, ks, b, h => by
    obtain ⟨h1, h2⟩ := kindsGo_cons h
    have e : ∀ x, kindsGo ks (m :: x) = kindsGo (oneM ks m).1 x := fun x => by rw [kindsGo, if_neg (by simp [h1])]
    rw [List.cons_append, e, e, kindsGo_append b h2]
theorem kindsMv_go {k : List GKind} {m : GMove} (h : (kindsMv k [m]).2 = 0) : kindsGo k [m] = ((kindsMv k [m]).1, 0) := by
  obtain ⟨h1, h2, h3⟩ := kindsMv_one h
  rw [kindsGo, if_neg (by simp [h2]), h3]
  rfl
theorem movesGo_run (k0 : List GKind) : ∀ (l : List Int) (i : Int) (k : List GKind) (out : List GMove), kindsGo k0 out = (k, 0) → (kindsGo k0 (movesGo l i k out)).2 = 0
  | a :: b :: c :: r, i, k, out, h => by
    rw [movesGo]
    split
    · split
      · rename_i h2
        refine movesGo_run k0 r _ _ _ ?_
        rw [kindsGo_append _ (by rw [h]), h]
        exact kindsMv_go h2
      · exact movesGo_run k0 r _ _ _ h
    · rw [h]
  | [], _, _, _, h => by simp [movesGo, h]
  | [_], _, _, _, h => by simp [movesGo, h]
  | [_, _], _, _, _, h => by simp [movesGo, h]
theorem movesM_run (k : List GKind) (l : List Int) : (kindsGo k (movesM k l)).2 = 0 := movesGo_run k l 0 k [] rfl

theorem stepAll_ok : ∀ {l : List GMove} {w : GWorld}, checkW w = 0 → (kindsGo w.Kinds l).2 = 0 → checkW (stepAll w l) = 0 ∧ kindsGo w.Kinds l = ((stepAll w l).Kinds, 0) ∧ (stepAll w l).Gens = w.Gens ∧ (stepAll w l).Items.length = w.Items.length
  | [], _, h, _ => ⟨h, rfl, rfl, rfl⟩
  | m :: r, w, h, hk => by
    obtain ⟨h1, h2⟩ := kindsGo_cons hk
    obtain ⟨g1, g2, g3, g4⟩ := stepAll_ok (l := r) (w := stepW w m) (checkW_step h h1) h2
    refine ⟨g1, ?_, g3, g4.trans (by simp [stepW])⟩
    rw [kindsGo, if_neg (by simp [h1])]
    exact g2
theorem worldMv_ok {w : GWorld} {l : List GMove} (h : checkW w = 0) (hk : (kindsGo w.Kinds l).2 = 0) (hl : l.length ≤ 100) : worldMv w l = (stepAll w l, 0) ∧ kindsMv w.Kinds l = ((stepAll w l).Kinds, 0) := by
  obtain ⟨ce, _⟩ := checkW_iff.1 h
  have e : kindsMv w.Kinds l = kindsGo w.Kinds l := by
    unfold kindsMv
    rw [if_neg (by simp [ce]), if_neg (by omega)]
  refine ⟨?_, by rw [e]; exact (stepAll_ok h hk).2.1⟩
  unfold worldMv
  rw [if_neg (by simp [h]), e, if_neg (by simp [hk])]
theorem worldMv_join {w : GWorld} {a b : List GMove} (h : checkW w = 0) (ha : (kindsGo w.Kinds a).2 = 0) (hb : (kindsGo (stepAll w a).Kinds b).2 = 0) (hl : (a ++ b).length ≤ 100) :
    worldMv w (a ++ b) = (stepAll (stepAll w a) b, 0) ∧ kindsMv w.Kinds (a ++ b) = ((stepAll (stepAll w a) b).Kinds, 0) := by
  obtain ⟨g1, g2, g3, g4⟩ := stepAll_ok h ha
  have hk : (kindsGo w.Kinds (a ++ b)).2 = 0 := by rw [kindsGo_append _ ha, g2]; exact hb
  have e : stepAll w (a ++ b) = stepAll (stepAll w a) b := by simp [stepAll, List.foldl_append]
  rw [← e]
  exact worldMv_ok h hk hl

set_option maxHeartbeats 1000000 in
set_option maxRecDepth 20000 in
theorem MigrateJoins_law (l m o : List Int) (hl : l.length * 8 ≤ 140737488351232) (hw : ∀ x ∈ l, (Lit.int .i64 x).wf = true) (hml : m.length * 8 ≤ 140737488351232) (hwm : ∀ x ∈ m, (Lit.int .i64 x).wf = true)
    (hol : o.length * 8 ≤ 140737488351232) (hwo : ∀ x ∈ o, (Lit.int .i64 x).wf = true) :
    Fn Try.prog 12 [slI l, slI m, slI o] (kB true) := by
  refine fn_go Try.func12 rfl ?_
  simp [Try.ntmps12]
  refine cal dropped_fn ?_
  simp
  refine cal (World_fn l) ?_
  have hv := worldM_valid l
  generalize worldM l = w at hv ⊢
  obtain ⟨hfi, hfc⟩ := checkW_fine hv
  have hvals : ∀ {w : GWorld}, checkW w = 0 → ∀ it ∈ w.Items, ∀ c ∈ it.Comps, c.Vals.length ≤ 1000 := fun h it hi c hc => by have := (((checkW_fine h).2 it hi).2 c hc).2.2.2; omega
  simp
  refine cal (moves_fn w.Kinds m hfi.kl hfi.kf (by omega)) ?_
  obtain ⟨hMn, hMl⟩ := movesM_mem w.Kinds m
  have hMr := movesM_run w.Kinds m
  generalize movesM w.Kinds m = a at hMn hMl hMr ⊢
  have haw : ∀ x ∈ a, x.Whole.Fields.length ≤ 1000000 := fun x hx => by have := (hMn x hx).2; omega
  obtain ⟨hv1, hk1, hg1, hi1⟩ := stepAll_ok hv hMr
  obtain ⟨hW1, _⟩ := worldMv_ok hv hMr (by omega)
  simp
  have hWf1 := MWorld_fn w a hfi (hvals hv) haw (by omega)
  rw [hW1] at hWf1
  refine cal hWf1 ?_
  have hjoin := fun b hb hl => worldMv_join (b := b) hv hMr hb hl
  generalize stepAll w a = v at hv1 hk1 hg1 hi1 hjoin ⊢
  obtain ⟨hfi1, _⟩ := checkW_fine hv1
  simp
  refine cal (moves_fn v.Kinds o hfi1.kl hfi1.kf (by omega)) ?_
  obtain ⟨hOn, hOl⟩ := movesM_mem v.Kinds o
  have hOr := movesM_run v.Kinds o
  generalize movesM v.Kinds o = b at hOn hOl hOr ⊢
  have hbw : ∀ x ∈ b, x.Whole.Fields.length ≤ 1000000 := fun x hx => by have := (hOn x hx).2; omega
  obtain ⟨hv2, hk2, hg2, hi2⟩ := stepAll_ok hv1 hOr
  obtain ⟨hW2, _⟩ := worldMv_ok hv1 hOr (by omega)
  obtain ⟨hW3, hK3⟩ := hjoin b hOr (by simp; omega)
  simp
  have hWf2 := MWorld_fn v b hfi1 (hvals hv1) hbw (by omega)
  rw [hW2] at hWf2
  refine cal hWf2 ?_
  generalize stepAll v b = u at hv2 hk2 hg2 hi2 hW3 hK3 ⊢
  obtain ⟨hfi2, _⟩ := checkW_fine hv2
  have hab : ∀ x ∈ a ++ b, x.Whole.Fields.length ≤ 1000000 := fun x hx => (List.mem_append.1 hx).elim (haw x) (hbw x)
  have hCon := ConcatBM_fn [a, b] (a ++ b) (by simp) (by simp; omega) (by simp)
  have hWf3 := MWorld_fn w (a ++ b) hfi (hvals hv) hab (by simp; omega)
  rw [hW3] at hWf3
  have hKf3 := Kinds2_fn w.Kinds (a ++ b) hfi.kl hfi.kf hab (by simp; omega)
  rw [hK3] at hKf3
  obtain ⟨c, hc⟩ : ∃ c, a ++ b = c := ⟨_, rfl⟩
  rw [hc] at hCon hWf3 hKf3
  simp
  refine awp_drawS follows_mix [(0, 0), (0, 0), (0, 0), (4, 3), (3, 0), (2, 0), (0, 0), (0, 0), (0, 0), (4, 4), (1, 0), (0, 0)] 3 5 [(0, 3), (0, 4), (0, 9), (1, 9), (2, 9), (3, 9), (4, 9), (5, 9), (6, 9), (7, 9), (8, 9), (8, 10)] (by kernel_rfl) rfl rfl ?_
  simp
  refine gE_callW (.sl 10 (c.map GMove.e)) [3] [(3, some [.sl 10 (a.map GMove.e), .sl 10 (b.map GMove.e)])] rfl (fun y => ?_) ?_
  · simp
    exact does_fnd [3] hCon rfl rfl rfl en_52 rfl (by simp) (by simp) (by simp) (by simp) (by simp) rfl
  simp
  refine gE_call (.tup [.agg u.e, kI 0]) ?_ ?_
  · simp
    exact calO hWf3
  simp
  refine awp_drawS follows_mix [(0, 0), (0, 0), (0, 0), (0, 0), (4, 5), (3, 0), (2, 0), (0, 0), (0, 0), (0, 0), (0, 0), (0, 0)] 5 6 [(0, 4), (0, 5), (1, 4), (1, 5)] (by kernel_rfl) rfl rfl ?_
  simp
  refine gE_callW (.sl 10 (c.map GMove.e)) [5] [(5, some [.sl 10 (a.map GMove.e), .sl 10 (b.map GMove.e)])] rfl (fun y => ?_) ?_
  · simp
    exact does_fnd [5] hCon rfl rfl rfl en_52 rfl (by simp) (by simp) (by simp) (by simp) (by simp) rfl
  simp
  refine gE_call (.tup [.sl 2 (u.Kinds.map GKind.e), kI 0]) ?_ ?_
  · simp
    exact calO hKf3
  simp
  refine cal (same_fn u u hfi2) ?_
  simp
  refine cal (sameKinds_fn u.Kinds u.Kinds (by have := hfi2.kl; omega) (fun k hk => by have := hfi2.kf k hk; omega)) ?_
  simp
  refine cal (WCheck_fn u hfi2 (hvals hv2)) ?_
  simp [hv2]
  refine cal (EqualI_fn u.Gens w.Gens (by have := hfi2.gl; omega)) ?_
  have hgs : u.Gens = w.Gens := hg2.trans hg1
  have hil : u.Items.length = w.Items.length := hi2.trans hi1
  simp [hgs, hil]
  exact finm (by simp)
end Go.Proofs.Ytmkgechjbbekmaa.Am
