/- Package migrate: moves on worlds, walked. -/
import Derived.Test.YtbddlekpoelmkaaMig6
set_option linter.unusedVariables false
set_option linter.unusedSimpArgs false
namespace Go.Proofs.Ytbddlekpoelmkaa.Am
open Go Go.RowKit

theorem kindsGo_cons {ks : List GKind} {m : GMove} {r : List GMove} (h : (kindsGo ks (m :: r)).2 = 0) : (oneM ks m).2 = 0 ∧ (kindsGo (oneM ks m).1 r).2 = 0 := by
  rw [kindsGo] at h
  split at h
  · rename_i h1; exact absurd h h1
  · rename_i h1; exact ⟨by omega, h⟩
def mixI (g : GItem → GItem) (its : List GItem) (n : Nat) : List GItem := (its.take n).map g ++ its.drop n
theorem mix_len (g : GItem → GItem) (its : List GItem) {n : Nat} (hn : n ≤ its.length) : (mixI g its n).length = its.length := by simp [mixI]; omega
theorem mix_get (g : GItem → GItem) (its : List GItem) {n : Nat} (hn : n < its.length) : (mixI g its n)[n]? = some its[n] := by
  have hl : ((its.take n).map g).length = n := by simp; omega
  simp only [mixI]
  rw [List.getElem?_append_right (by omega), hl, Nat.sub_self, List.drop_eq_getElem_cons hn]
  rfl
theorem mix_set (g : GItem → GItem) (its : List GItem) {n : Nat} (hn : n < its.length) : (mixI g its n).set n (g its[n]) = mixI g its (n + 1) := by
  have hl : ((its.take n).map g).length = n := by simp; omega
  simp only [mixI]
  rw [List.set_append_right _ _ (by omega), hl, Nat.sub_self, List.drop_eq_getElem_cons hn, List.set_cons_zero, ← List.take_append_getElem hn]
  simp only [List.map_append, List.map_cons, List.map_nil, List.append_assoc, List.cons_append, List.nil_append]
theorem mix_0 (g : GItem → GItem) (its : List GItem) : mixI g its 0 = its := by simp [mixI]
theorem mix_end (g : GItem → GItem) (its : List GItem) : mixI g its its.length = its.map g := by simp [mixI]

set_option maxHeartbeats 1000000 in
set_option maxRecDepth 20000 in
theorem MWorld_fn (w : GWorld) (l : List GMove) (hw : Fine w) (hv : ∀ it ∈ w.Items, ∀ c ∈ it.Comps, c.Vals.length ≤ 1000) (hm : ∀ m ∈ l, m.Whole.Fields.length ≤ 1000000) (hll : l.length ≤ 1000000000) :
    Fn Try.prog 11 [.agg w.e, .sl 10 (l.map GMove.e)] (.tup [.agg (worldMv w l).1.e, kI (worldMv w l).2]) := by
  refine fn_go Try.func11 rfl ?_
  simp [Try.ntmps11]
  refine cal (WCheck_fn w hw hv) ?_
  by_cases h1 : checkW w = 0
  · simp [h1]
    refine cal (Kinds2_fn w.Kinds l hw.kl hw.kf hm hll) ?_
    by_cases h2 : (kindsMv w.Kinds l).2 = 0
    · simp [h2]
      refine calD [] (WCopy_own w hw) ?_ (hren := by simp)
      simp
      have hW : worldMv w l = (stepAll w l, 0) := by simp [worldMv, h1, h2]
      have hK : (kindsGo w.Kinds l).2 = 0 := by
        unfold kindsMv at h2
        split at h2
        · rename_i h; exact absurd h2 h
        · split at h2
          · simp at h2
          · exact h2
      refine awp_loop (fun x : Nat × GWorld => ⟨84, [(2, .ptr 0 0), (4, .ptr 1 0), (36, .sl 10 (l.map GMove.e)), (37, kI l.length), (38, kI x.1)],
          [some [.sl 2 (x.2.Kinds.map GKind.e), slI x.2.Gens, .osl 2 3 0 x.2.Items.length], some [kNil, kNil, kNil], some (x.2.Items.map GItem.e).flatten], 0⟩)
        (fun x => x.1 ≤ l.length ∧ checkW x.2 = 0 ∧ (kindsGo x.2.Kinds (l.drop x.1)).2 = 0 ∧ stepAll x.2 (l.drop x.1) = stepAll w l) (fun x => l.length - x.1) (0, w) ?_ ?_ ?_
      · exact entm [0, 1, 2]
      · simp [h1, hK]
      · rintro ⟨i, v⟩ ⟨hi, hc, hk, hrun⟩
        simp only at hi hc hk hrun
        refine awp_go ?_
        by_cases hlt : i < l.length
        · rw [List.drop_eq_getElem_cons hlt] at hk hrun
          obtain ⟨m, hme⟩ : ∃ m, l[i] = m := ⟨_, rfl⟩
          have hmw := hm _ (List.getElem_mem hlt)
          rw [hme] at hk hrun hmw
          obtain ⟨hk1, hk2⟩ := kindsGo_cons hk
          obtain ⟨hfi, hfc⟩ := checkW_fine hc
          obtain ⟨ce, cg, ci, cn, cit⟩ := checkW_iff.1 hc
          obtain ⟨ce1, ce2⟩ := checkE_le ce
          have hpl := (oneM_spec hk1).1
          obtain ⟨i0, j0, hpi, hpj, hi0, hj0⟩ := placeM_nat (by omega) (fun k hk => by have := ce2 k hk; omega) hpl
          simp [hlt, hme]
          refine cal (place_fn v.Kinds m (by omega) (fun k hk => by have := ce2 k hk; omega)) ?_
          simp
          refine cal (one_fn v.Kinds m (by omega) (fun k hk => by have := ce2 k hk; omega) hmw) ?_
          obtain ⟨K2, hK2⟩ : ∃ K2, (oneM v.Kinds m).1 = K2 := ⟨_, rfl⟩
          simp [hpi, hpj, hK2]
          refine awp_loop (fun n : Nat => ⟨84, [(2, .ptr 0 0), (4, .ptr 1 0), (10, .ptr 3 0), (11, kI i0), (12, kI j0), (14, .sl 2 (K2.map GKind.e)), (36, .sl 10 (l.map GMove.e)), (37, kI l.length), (38, kI i), (59, kI v.Items.length), (60, kI n)],
              [some [.sl 2 (v.Kinds.map GKind.e), slI v.Gens, .osl 2 3 0 v.Items.length], some [kNil, kNil, kNil], some ((mixI (moveIt v.Kinds m) v.Items n).map GItem.e).flatten, some m.e], 0⟩)
            (fun n => n ≤ v.Items.length) (fun n => v.Items.length - n) 0 ?_ ?_ ?_
          · rw [mix_0]
            exact entm [0, 1, 2, 3]
          · simp
          · intro n hn
            refine awp_go ?_
            by_cases hnt : n < v.Items.length
            · have hml := mix_len (moveIt v.Kinds m) v.Items hn
              have hmg := mix_get (moveIt v.Kinds m) v.Items hnt
              have hms := mix_set (moveIt v.Kinds m) v.Items hnt
              generalize mixI (moveIt v.Kinds m) v.Items n = M at hml hmg hms ⊢
              have hMn : n < M.length := by omega
              have hmem := List.getElem_mem hnt
              obtain ⟨it, hit⟩ : ∃ it, v.Items[n] = it := ⟨_, rfl⟩
              rw [List.getElem?_eq_getElem hMn] at hmg
              have hmg := Option.some.inj hmg
              rw [hit] at hmg hms hmem
              have hh := items_held cit it hmem
              have hMc := move_cond hk1 hh hpi hpj
              rw [hK2] at hMc
              obtain ⟨q1, q2⟩ := hfc it hmem
              have hrow := row_put GItem.e_len M n 2 (.sl 2 ((compsV K2 m i0 j0 it.Comps).map GComp.e)) ⟨it.Ent, compsV K2 m i0 j0 it.Comps⟩ hMn (by omega) (by rw [hmg]; rfl)
              have hmi : moveIt v.Kinds m it = ⟨it.Ent, compsV K2 m i0 j0 it.Comps⟩ := by simp [moveIt, hK2, hpi, hpj]
              rw [← hmi, hms] at hrow
              simp [hnt]
              refine awp_draw follows_mix [] [(0, [0]), (0, [0]), (0, [0]), (0, [0]), (0, [0]), (0, [0]), (0, [0]), (0, [0]), (0, [0]), (0, [0]), (0, [0]), (0, [0]), (0, [0]), (2, [0]), (0, [0]), (0, [0]), (1, [0])] 1 (by kernel_rfl) rfl ?_
              simp [hnt, hMn, hml, hmg]
              refine gD_call (.sl 2 ((compsV K2 m i0 j0 it.Comps).map GComp.e)) ?_
              have hq : n * 3 + 2 + 1 ≤ v.Items.length * 3 := by omega
              simp [hnt, hMn, hml, hmg, hq]
              refine ⟨calO (mcomps_fn it.Comps K2 m i0 j0 (by omega) (by rw [← hK2]; have := (checkE_le (oneM_ok hk1)).1; omega) (by omega) (by omega) (fun c hc => by have := q2 c hc; omega) hMc.1 hMc.2), ?_⟩
              rw [hrow, wrap_id (by omega) (by omega)]
              exact ⟨n + 1, by omega, by omega, entm [0, 1, 2, 3]⟩
            · have : n = v.Items.length := by omega
              subst this
              simp
              rw [wrap_id (by omega) (by omega), mix_end]
              have hs := checkW_step hc hk1
              have hr : stepAll (stepW v m) (l.drop (i + 1)) = stepAll w l := hrun
              have hl2 : (stepW v m).Items.length = v.Items.length := by simp [stepW]
              have he : stepW v m = ⟨K2, v.Gens, v.Items.map (moveIt v.Kinds m)⟩ := by simp [stepW, hK2]
              generalize v.Items.map (moveIt v.Kinds m) = J at he ⊢
              rw [he] at hs hr hl2
              simp only at hl2
              rw [← hl2]
              rw [hK2] at hk2
              exact ⟨i + 1, ⟨K2, v.Gens, J⟩, ⟨by omega, hs, hk2, hr⟩, by omega, entm [0, 1, 2]⟩
        · have : i = l.length := by omega
          subst this
          simp [stepAll] at hrun
          simp
          refine fin_fz 2 _ ?_
          simp
          exact finm (by simp [hW, ← hrun, GWorld.e, stepAll])
    · simp [h2]
      refine fin_ent (ent_cell 1 0 (tell_nil 2)) (fin_ent (ent_cell 1 1 (tell_nil 1)) (fin_ent (ent_cell 1 2 (tell_nil 3)) ?_))
      simp
      exact finm (by simp [worldMv, h1, h2, w0, GWorld.e])
  · simp [h1]
    refine fin_ent (ent_cell 1 0 (tell_nil 2)) (fin_ent (ent_cell 1 1 (tell_nil 1)) (fin_ent (ent_cell 1 2 (tell_nil 3)) ?_))
    simp
    exact finm (by simp [worldMv, h1, w0, GWorld.e])
end Go.Proofs.Ytbddlekpoelmkaa.Am
