/- Package tourmake: a world from a stream. -/
import Derived.Test.YtidhdlhblhbahaaGreatMake4
import Derived.Test.YtidhdlhblhbahaaGreatKLaw
set_option linter.unusedVariables false
set_option linter.unusedSimpArgs false
namespace Go.Proofs.YtidhdlhblhbahaaGreat.Am
open Go Go.RowKit

def mkWorld (ks : List GKind) : Nat → Nat → List Int → List GItem → List Int → List Int × List GItem × List Int
  | 0, _, gs, its, l => (gs, its, l)
  | n + 1, i, gs, its, l =>
    if nextV (nextL l 3) 4 = 3 ∨ its.length = 8 then mkWorld ks n (i + 1) (gs ++ [nextV l 3]) its (nextL (nextL l 3) 4)
    else mkWorld ks n (i + 1) (gs ++ [nextV l 3]) (its ++ [⟨⟨i, nextV l 3⟩, (compsM ks (nextL (nextL l 3) 4)).1⟩]) (compsM ks (nextL (nextL l 3) 4)).2
def worldM (l : List Int) : GWorld :=
  let k := kindsM l
  let w := mkWorld k.1 (nextV k.2 12).toNat 0 [] [] (nextL k.2 12)
  ⟨k.1, w.1, w.2.1⟩

theorem goC_eq {P : Program} {c : Code} {s : St} {Q : Exit → St → Prop} : goC P c s Q = @gC s ⟨P, c, Q⟩ := (rfl)

theorem good_ok {ks : List GKind} (h : GoodKs ks) : OkKs ks := ⟨by have := h.1; omega, fun k hk => by
  obtain ⟨j, hj, rfl⟩ := List.getElem_of_mem hk
  have hg := h.2 j _ (List.getElem?_eq_getElem hj)
  refine ⟨by have := hg.2.1.1; omega, fun f hf => ?_⟩
  obtain ⟨m, hm, rfl⟩ := List.getElem_of_mem hf
  have := (hg.2.1.2 m _ (List.getElem?_eq_getElem hm)).2
  simp only [fieldB, Bool.and_eq_true, decide_eq_true_eq] at this
  omega⟩

set_option maxRecDepth 20000 in
set_option maxHeartbeats 2000000 in
theorem World_fn (l : List Int) : Fn Tryz.prog 13 [slI l] (.agg (worldM l).e) := by
  refine fn_go Tryz.func13 rfl ?_
  simp [Tryz.ntmps13]
  refine ops_fnd [1] (kinds_fn l) rfl rfl rfl (by simp) en_60 rfl rfl (by simp) (by simp) (by simp) (by simp [slI]) rfl rfl ?_
  obtain ⟨ks, hks⟩ : ∃ ks, (kindsM l).1 = ks := ⟨_, rfl⟩
  obtain ⟨l1, hl1⟩ : ∃ l1, (kindsM l).2 = l1 := ⟨_, rfl⟩
  have hok : OkKs ks := by rw [← hks]; exact good_ok (kindsM_good l).1
  simp [hks, hl1]
  refine ops_fnd [1] (Next_fn l1 12 (by omega)) rfl rfl rfl (by simp) en_61 rfl rfl (by simp) (by simp) (by simp) (by simp) rfl rfl ?_
  have hv := nextV_lt (l := l1) (n := 12) (by omega)
  obtain ⟨n, hn⟩ : ∃ n : Nat, nextV l1 12 = n := ⟨(nextV l1 12).toNat, by omega⟩
  have hw : worldM l = ⟨ks, (mkWorld ks n 0 [] [] (nextL l1 12)).1, (mkWorld ks n 0 [] [] (nextL l1 12)).2.1⟩ := by simp [worldM, hks, hl1, hn]
  simp [hn, goC_eq]
  refine awp_loop (fun x : Nat × List Int × List GItem × List Int => ⟨52, [(2, .ptr 0 0), (3, .ptr 1 0), (4, .ptr 2 0), (13, kI n), (14, kI x.1)],
      [some [kNil, kNil, kNil], some [slI x.2.2.2], some [.sl 2 (ks.map GKind.e), .osl 3 1 0 x.2.1.length, .osl 4 3 0 x.2.2.1.length], some (x.2.1.map kI), some (x.2.2.1.map GItem.e).flatten], 0⟩)
    (fun x => x.1 ≤ n ∧ x.2.1.length = x.1 ∧ x.2.2.1.length ≤ 8 ∧ mkWorld ks (n - x.1) x.1 x.2.1 x.2.2.1 x.2.2.2 = mkWorld ks n 0 [] [] (nextL l1 12)) (fun x => n - x.1) (0, [], [], nextL l1 12) ?_ ?_ ?_
  · exact (ent_nilb (b := 2) (j := 1) (z := 1) rfl rfl).trans ((ent_nilb (b := 2) (j := 2) (z := 3) rfl rfl).trans (ent_mk [0, 1, 2, 3, 4] rfl rfl rfl (by simp) (by simp) (by simp) (by simp) (by simp)))
  · simp
  · rintro ⟨i, gs, its, l2⟩ ⟨hi, hgs, hits, hrun⟩
    simp only at hi hgs hits hrun
    refine awp_go ?_
    by_cases hlt : i < n
    · rw [show n - i = (n - (i + 1)) + 1 by omega, mkWorld] at hrun
      have hb1 : (gs.length + 1) * 8 ≤ 140737488355328 := by omega
      have hb2 : gs.length + 1 ≤ maxLen := by simp only [maxLen]; omega
      simp [hlt]
      refine awp_drawS follows_mix [(0, 0), (0, 0), (0, 0), (3, 0), (4, 5), (4, 6), (0, 0), (1, 0)] 5 7 [(0, 3), (0, 4), (1, 3), (1, 4)] (by kernel_rfl) rfl rfl ?_
      simp
      refine gE_callW (kI (nextV l2 3)) [1] [(1, some [slI (nextL l2 3)])] rfl (fun y => ?_) ?_
      · simp
        exact does_fnd [1] (Next_fn l2 3 (by omega)) rfl rfl rfl en_61 rfl (by simp) (by simp) (by simp) (by simp) (by simp) rfl
      simp [hb1, hb2]
      refine ops_fnd [1] (Next_fn (nextL l2 3) 4 (by omega)) rfl rfl rfl (by simp) en_61 rfl rfl (by simp) (by simp) (by simp) (by simp) rfl rfl ?_
      by_cases h3 : nextV (nextL l2 3) 4 = 3
      · rw [if_pos (.inl h3)] at hrun
        simp [h3, goC_eq]
        rw [wrap_id (by omega) (by omega)]
        exact ⟨i + 1, gs ++ [nextV l2 3], its, _, ⟨by omega, by simp [hgs], hits, hrun⟩, by omega, ent_mk [0, 1, 2, 6, 4] rfl rfl rfl (by simp) (by simp) (by simp) (by simp) (by simp)⟩
      · by_cases h8 : its.length = 8
        · rw [if_pos (.inr h8)] at hrun
          simp [h3, h8, goC_eq]
          rw [wrap_id (by omega) (by omega)]
          exact ⟨i + 1, gs ++ [nextV l2 3], its, _, ⟨by omega, by simp [hgs], hits, hrun⟩, by omega, ent_mk [0, 1, 2, 6, 4] rfl rfl rfl (by simp) (by simp) (by simp) (by simp) (by simp [h8])⟩
        · rw [if_neg (by simp [h3, h8])] at hrun
          have h8' : ¬ (its.length : Int) = 8 := by omega
          simp [h3, h8', h8, goC_eq]
          refine awp_drawS follows_mix [(0, 0), (0, 0), (0, 0), (0, 0), (0, 0), (0, 0), (0, 0), (0, 0), (0, 0), (0, 0), (0, 0), (0, 0), (3, 0), (0, 0), (4, 7), (4, 8), (0, 0), (1, 0)] 7 9 [(0, 12), (0, 14), (1, 12), (1, 14), (2, 12), (3, 12), (4, 12), (5, 12), (6, 12), (7, 12), (8, 12)] (by kernel_rfl) rfl rfl ?_
          have hii : (i : Int) < (i : Int) + 1 := by omega
          have hgi : (gs.map kI ++ [kI (nextV l2 3)])[i]? = some (kI (nextV l2 3)) := by
            rw [List.getElem?_append_right (by simp [hgs])]; simp [hgs]
          have hgi2 : i + 1 ≤ gs.length + 1 := by omega
          have hc1 : (its.length + 1) * 40 ≤ 140737488355328 := by omega
          have hc2 : its.length + 1 ≤ maxLen := by simp only [maxLen]; omega
          simp [hgs, hii, hgi]
          refine gE_callW (.sl 2 ((compsM ks (nextL (nextL l2 3) 4)).1.map GComp.e)) [1] [(1, some [slI (compsM ks (nextL (nextL l2 3) 4)).2])] rfl (fun y => ?_) ?_
          · simp
            exact does_fnd [1] (comps_fn ks (nextL (nextL l2 3) 4) hok) rfl rfl rfl en_62 rfl (by simp) (by simp) (by simp) (by simp) (by simp) rfl
          simp [hgs, hii, hgi, hc1, hc2]
          rw [wrap_id (by omega) (by omega)]
          exact ⟨i + 1, gs ++ [nextV l2 3], its ++ [⟨⟨i, nextV l2 3⟩, (compsM ks (nextL (nextL l2 3) 4)).1⟩], _, ⟨by omega, by simp [hgs], by simp; omega, hrun⟩, by omega,
            ent_mk [0, 1, 2, 6, 8] rfl rfl rfl (by simp) (by simp) (by simp) (by simp) (by simp [GItem.e, hgs])⟩
    · simp [hlt]
      have hin : n = i := by omega
      subst hin
      rw [Nat.sub_self, mkWorld] at hrun
      refine fin_ent (ent_frz 3 1 gs.length (gs.map kI) (by simp) rfl (by simp) (ints_imm gs)) ?_
      simp [St.frz, chunks_ints]
      refine fin_ent (ent_frz 4 3 its.length (its.map GItem.e).flatten (by simp) rfl (by rw [flat_len GItem.e_len]; omega) (flat_imm GItem.e_imm _)) ?_
      simp [St.frz, chunks_map GItem.e_len]
      exact fin_now (by simp [hw, GWorld.e, ← hrun, slI]) rfl rfl
end Go.Proofs.YtidhdlhblhbahaaGreat.Am
