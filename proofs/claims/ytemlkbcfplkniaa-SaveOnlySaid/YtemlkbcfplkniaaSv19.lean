/- Package save: the reader's items. -/
import Derived.Test.YtemlkbcfplkniaaSv18
set_option linter.unusedVariables false
set_option linter.unusedSimpArgs false
namespace Go.Proofs.Ytemlkbcfplkniaa.Am
open Go Go.RowKit

def ritems (bs : List Int) (ks : List GKind) : Nat → List Int → List GItem → RS → List Int × List GItem × RS
  | 0, gs, its, s => (gs, its, s)
  | k + 1, gs, its, s =>
    if s.2 = true ∨ (rnat bs s.1).2.1 ≠ 0 ∨ 1073741824 < (rnat bs s.1).1 then (gs, its, ((rnat bs s.1).2.2, true))
    else if (rget bs ((rnat bs s.1).2.2, false) 1).1 = 1 then
      ritems bs ks k (gs ++ [((rnat bs s.1).1 : Int)]) (its ++ [⟨⟨gs.length, (rnat bs s.1).1⟩, (rcomps bs 0 ks [] (rget bs ((rnat bs s.1).2.2, false) 1).2).1⟩]) (rcomps bs 0 ks [] (rget bs ((rnat bs s.1).2.2, false) 1).2).2
    else ritems bs ks k (gs ++ [((rnat bs s.1).1 : Int)]) its (rget bs ((rnat bs s.1).2.2, false) 1).2
def ritemsM (bs : List Int) (ks : List GKind) (s : RS) : GWorld × RS :=
  (⟨ks, (ritems bs ks (rget bs s 9).1 [] [] (rget bs s 9).2).1, (ritems bs ks (rget bs s 9).1 [] [] (rget bs s 9).2).2.1⟩, (ritems bs ks (rget bs s 9).1 [] [] (rget bs s 9).2).2.2)

set_option maxRecDepth 20000 in
set_option maxHeartbeats 2000000 in
theorem RItems_fn (bs : List Int) (s : RS) (ks : List GKind) (hk : ks.length ≤ 16) (hf : ∀ k ∈ ks, k.Fields.length ≤ 8 ∧ ∀ f ∈ k.Fields, fieldB f = true) (hl : bs.length ≤ 100000) (hb : BytesOk bs) (hp : s.1 ≤ 8 * bs.length) :
    FnD Try.prog 81 [.ptr 0 0, .sl 2 (ks.map GKind.e)] [rdSt s 1, rSt bs s.1]
    (.agg (ritemsM bs ks s).1.e) [some (rdSt (ritemsM bs ks s).2 1), some (rSt bs (ritemsM bs ks s).2.1)] := by
  refine fnd_go Try.func81 rfl ?_
  simp [Try.ntmps81]
  refine calD [0, 1] (RGet_fn bs s 9 (by omega) hl hb hp) ?_
  have hr : ritemsM bs ks s = (⟨ks, (ritems bs ks (rget bs s 9).1 [] [] (rget bs s 9).2).1, (ritems bs ks (rget bs s 9).1 [] [] (rget bs s 9).2).2.1⟩, (ritems bs ks (rget bs s 9).1 [] [] (rget bs s 9).2).2.2) := rfl
  have h5 := rget_lt bs s 9
  have h6 := rget_le (n := 9) hp
  rw [hr]
  obtain ⟨g, hg⟩ : ∃ g, rget bs s 9 = g := ⟨_, rfl⟩
  rw [hg] at h5 h6 ⊢
  simp
  obtain ⟨R, hR⟩ : ∃ R, ritems bs ks g.1 [] [] g.2 = R := ⟨_, rfl⟩
  rw [hR]
  refine awp_loop (fun x : Nat × List Int × List GItem × RS => ⟨69, [(0, .ptr 0 0), (1, .sl 2 (ks.map GKind.e)), (4, .ptr 2 0), (5, .ptr 3 0), (12, kI g.1), (13, kI x.1)],
      [some (rdSt x.2.2.2 1), some (rSt bs x.2.2.2.1), some [kNil, kNil, kNil], some [.sl 2 (ks.map GKind.e), .osl 4 1 0 x.2.1.length, .osl 5 3 0 x.2.2.1.length], some (x.2.1.map kI), some (x.2.2.1.map GItem.e).flatten], 2⟩)
    (fun x => x.1 ≤ g.1 ∧ x.2.1.length = x.1 ∧ x.2.2.1.length ≤ x.1 ∧ x.2.2.2.1 ≤ 8 * bs.length ∧ ritems bs ks (g.1 - x.1) x.2.1 x.2.2.1 x.2.2.2 = R) (fun x => g.1 - x.1) (0, [], [], g.2) ?_ ?_ ?_
  · exact (ent_nilb (b := 3) (j := 1) (z := 1) rfl rfl).trans ((ent_nilb (b := 3) (j := 2) (z := 3) rfl rfl).trans (entm [0, 1, 2, 3, 4, 5]))
  · simp [h6, hR]
  · rintro ⟨i, gs, its, s1⟩ ⟨hi, hgl, hil, hs1, hrun⟩
    simp only at hi hgl hil hs1 hrun
    have hits := flat_imm GItem.e_imm its
    have hgs : (gs.map kI).all PV.immB = true := by simp
    by_cases hlt : i < g.1
    · refine awp_go ?_
      rw [show g.1 - i = (g.1 - (i + 1)) + 1 by omega, ritems] at hrun
      have hw1 : IntKind.i64.wrap ((i : Int) + 1) = ((i + 1 : Nat) : Int) := wrap_id (by omega) (by omega)
      simp [hlt]
      refine calD [1] (RNat_fn bs s1.1 hl hb hs1) ?_
      obtain ⟨hvl, hvp⟩ := rnat_ok bs hs1
      obtain ⟨v, hv⟩ : ∃ v, rnat bs s1.1 = v := ⟨_, rfl⟩
      rw [hv] at hvl hvp hrun ⊢
      obtain ⟨p1, bad⟩ := s1
      simp only at hrun hs1
      cases bad with
      | true =>
        rw [if_pos (.inl rfl)] at hrun
        simp
        rw [← hrun]
        simp
        refine finG_fz 4 _ ?_ (hi := hgs)
        simp [flat_sum GItem.e_len, imms_fz hits]
        refine finG_fz 5 _ ?_ (hi := hits)
        simp [flat_sum GItem.e_len, chunks_map GItem.e_len]
        exact finGm [0, 1] (hres := by simp [GWorld.e, slI])
      | false =>
        by_cases h0 : v.2.1 = 0
        · by_cases h1 : 1073741824 < v.1
          · rw [if_pos (.inr (.inr h1))] at hrun
            have h1' : (1073741824 : Int) < v.1 := by omega
            simp [h0, h1, h1']
            rw [← hrun]
            simp
            refine finG_fz 4 _ ?_ (hi := hgs)
            simp [flat_sum GItem.e_len, imms_fz hits]
            refine finG_fz 5 _ ?_ (hi := hits)
            simp [flat_sum GItem.e_len, chunks_map GItem.e_len]
            exact finGm [0, 1] (hres := by simp [GWorld.e, slI])
          · rw [if_neg (by simp [h0, h1])] at hrun
            have h1' : ¬ (1073741824 : Int) < v.1 := by omega
            have hw2 : IntKind.i64.wrap (v.1 : Int) = v.1 := wrap_id (by omega) (by omega)
            have hb1 : (gs.length + 1) * 8 ≤ 140737488355328 := by omega
            have hb2 : gs.length + 1 ≤ maxLen := by simp only [maxLen]; omega
            simp [h0, h1, h1', hw2, hb1, hb2]
            refine calD [0, 1] (RGet_fn bs (v.2.2, false) 1 (by omega) hl hb hvp) ?_
            have h7 := rget_le (bs := bs) (s := (v.2.2, false)) (n := 1) hvp
            have hgs2 : (gs.map kI ++ [kI (v.1 : Int)]).all PV.immB = true := by simp
            obtain ⟨c, hc⟩ : ∃ c, rget bs (v.2.2, false) 1 = c := ⟨_, rfl⟩
            rw [hc] at h7 hrun ⊢
            by_cases hc1 : c.1 = 1
            · rw [if_pos hc1] at hrun
              have hC := RComps_fn bs c.2 ks hk hf hl hb h7
              have hCl := rcomps_le bs ks 0 [] c.2 h7
              obtain ⟨z, hz⟩ : ∃ z, rcomps bs 0 ks [] c.2 = z := ⟨_, rfl⟩
              rw [hz] at hC hCl hrun
              have hb3 : (its.length + 1) * 40 ≤ 140737488355328 := by omega
              have hb4 : its.length + 1 ≤ maxLen := by simp only [maxLen]; omega
              simp [hc1]
              refine awp_drawS follows_mix [(0, 0), (0, 0), (0, 0), (0, 0), (0, 0), (0, 0), (0, 0), (0, 0), (3, 0), (0, 0), (4, 8), (4, 9), (0, 0), (1, 0)] 8 10 [(0, 8), (0, 10), (1, 8), (1, 10), (2, 8), (3, 8), (4, 8), (5, 8)] (by kernel_rfl) rfl rfl ?_
              simp [hw2]
              refine gE_callW (.sl 2 (z.1.map GComp.e)) [0, 1] [(0, some (rdSt z.2 1)), (1, some (rSt bs z.2.1))] rfl (fun y => ?_) ?_
              · simp
                exact doD [0, 1] hC (hbox := by simp) (h2 := by simp)
              simp [hw2, hb3, hb4, hw1, -Bool.exists_bool]
              rw [hgl] at hrun
              have hit : [kI (i : Int), kI (v.1 : Int), PV.sl 2 (z.1.map GComp.e)].all PV.immB = true := rfl
              exact ⟨i + 1, gs ++ [(v.1 : Int)], its ++ [⟨⟨i, v.1⟩, z.1⟩], z.2.1, z.2.2, ⟨by omega, by simp; omega, by simp; omega, hCl, hrun⟩, by omega, entm [0, 1, 2, 3, 7, 9] (hB := by simp [GItem.e, imms_ren hits, imms_lt hits, imms_ren hgs2, imms_lt hgs2])⟩
            · rw [if_neg hc1] at hrun
              have hc1' : ¬ (c.1 : Int) = 1 := by omega
              simp [hc1, hc1', hw1, -Bool.exists_bool]
              exact ⟨i + 1, gs ++ [(v.1 : Int)], its, c.2.1, c.2.2, ⟨by omega, by simp; omega, by omega, h7, hrun⟩, by omega, entm [0, 1, 2, 3, 7, 5] (hB := by simp [imms_ren hits, imms_lt hits, imms_ren hgs2, imms_lt hgs2])⟩
        · rw [if_pos (.inr (.inl h0))] at hrun
          simp [h0]
          rw [← hrun]
          simp
          refine finG_fz 4 _ ?_ (hi := hgs)
          simp [flat_sum GItem.e_len, imms_fz hits]
          refine finG_fz 5 _ ?_ (hi := hits)
          simp [flat_sum GItem.e_len, chunks_map GItem.e_len]
          exact finGm [0, 1] (hres := by simp [GWorld.e, slI])
    · obtain rfl : i = g.1 := by omega
      rw [Nat.sub_self, ritems] at hrun
      rw [← hrun]
      refine awp_go ?_
      simp
      refine finG_fz 4 _ ?_ (hi := hgs)
      simp [flat_sum GItem.e_len, imms_fz hits]
      refine finG_fz 5 _ ?_ (hi := hits)
      simp [flat_sum GItem.e_len, chunks_map GItem.e_len]
      exact finGm [0, 1] (hres := by simp [GWorld.e, slI])
end Go.Proofs.Ytemlkbcfplkniaa.Am
