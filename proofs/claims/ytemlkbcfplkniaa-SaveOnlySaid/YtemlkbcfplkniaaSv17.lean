/- Package save: the reader's comps. -/
import Derived.Test.YtemlkbcfplkniaaSv16
set_option linter.unusedVariables false
set_option linter.unusedSimpArgs false
namespace Go.Proofs.Ytemlkbcfplkniaa.Am
open Go Go.RowKit

def rfld (bs : List Int) (s : RS) (f : GField) : Int × RS := ((qget bs s.1 f).1, (qget bs s.1 f).2.2, s.2 || decide ((qget bs s.1 f).2.1 ≠ 0))
def rvals (bs : List Int) : List GField → List Int → RS → List Int × RS
  | [], acc, s => (acc, s)
  | f :: fs, acc, s => rvals bs fs (acc ++ [(rfld bs s f).1]) (rfld bs s f).2
def rcomps (bs : List Int) : Nat → List GKind → List GComp → RS → List GComp × RS
  | _, [], acc, s => (acc, s)
  | i, k :: r, acc, s => if (rget bs s 1).1 = 0 then rcomps bs (i + 1) r acc (rget bs s 1).2
    else rcomps bs (i + 1) r (acc ++ [⟨i, (rvals bs k.Fields [] (rget bs s 1).2).1⟩]) (rvals bs k.Fields [] (rget bs s 1).2).2
theorem qget_le {bs : List Int} {p : Nat} {f : GField} (h : p ≤ 8 * bs.length) : (qget bs p f).2.2 ≤ 8 * bs.length := by
  unfold qget; split <;> exact getM_le h
theorem rvals_le (bs : List Int) : ∀ (fs : List GField) (acc : List Int) (s : RS), s.1 ≤ 8 * bs.length → (rvals bs fs acc s).2.1 ≤ 8 * bs.length
  | [], _, _, h => h
  | f :: fs, acc, s, h => rvals_le bs fs _ _ (qget_le h)
theorem rvals_len (bs : List Int) : ∀ (fs : List GField) (acc : List Int) (s : RS), (rvals bs fs acc s).1.length = acc.length + fs.length
  | [], _, _ => rfl
  | f :: fs, acc, s => by rw [rvals, rvals_len bs fs]; simp; omega
theorem rcomps_le (bs : List Int) : ∀ (r : List GKind) (i : Nat) (acc : List GComp) (s : RS), s.1 ≤ 8 * bs.length → (rcomps bs i r acc s).2.1 ≤ 8 * bs.length
  | [], _, _, _, h => h
  | k :: r, i, acc, s, h => by
    rw [rcomps]
    split
    · exact rcomps_le bs r _ _ _ (rget_le h)
    · exact rcomps_le bs r _ _ _ (rvals_le bs _ _ _ (rget_le h))

set_option maxRecDepth 20000 in
set_option maxHeartbeats 2000000 in
theorem RComps_fn (bs : List Int) (s : RS) (ks : List GKind) (hk : ks.length ≤ 16) (hf : ∀ k ∈ ks, k.Fields.length ≤ 8 ∧ ∀ f ∈ k.Fields, fieldB f = true) (hl : bs.length ≤ 100000) (hb : BytesOk bs) (hp : s.1 ≤ 8 * bs.length) :
    FnD Try.prog 133 [.ptr 0 0, .sl 2 (ks.map GKind.e)] [rdSt s 1, rSt bs s.1]
    (.sl 2 ((rcomps bs 0 ks [] s).1.map GComp.e)) [some (rdSt (rcomps bs 0 ks [] s).2 1), some (rSt bs (rcomps bs 0 ks [] s).2.1)] := by
  refine fnd_go Try.func133 rfl ?_
  simp [Try.ntmps133]
  refine awp_loop (fun x : Nat × List GComp × RS => ⟨65, [(0, .ptr 0 0), (1, .sl 2 (ks.map GKind.e)), (5, .osl 2 2 0 x.2.1.length), (13, kI ks.length), (14, kI x.1)], [some (rdSt x.2.2 1), some (rSt bs x.2.2.1), some (x.2.1.map GComp.e).flatten], 2⟩)
    (fun x => x.1 ≤ ks.length ∧ x.2.1.length ≤ x.1 ∧ x.2.2.1 ≤ 8 * bs.length ∧ rcomps bs x.1 (ks.drop x.1) x.2.1 x.2.2 = rcomps bs 0 ks [] s) (fun x => ks.length - x.1) (0, [], s) ?_ ?_ ?_
  · exact (ent_nil (t := 5) (z := 2) rfl).trans (entm [0, 1, 2])
  · simp [hp]
  · rintro ⟨i, acc, s1⟩ ⟨hi, hal, hs1, hrun⟩
    simp only at hi hal hs1 hrun
    have hacc := flat_imm GComp.e_imm acc
    refine awp_go ?_
    by_cases hlt : i < ks.length
    · obtain ⟨k, hkk⟩ : ∃ k, ks[i] = k := ⟨_, rfl⟩
      have hkm : k ∈ ks := hkk ▸ List.getElem_mem hlt
      obtain ⟨hfl, hff⟩ := hf k hkm
      rw [List.drop_eq_getElem_cons hlt, hkk, rcomps] at hrun
      have hw1 : IntKind.i64.wrap ((i : Int) + 1) = ((i + 1 : Nat) : Int) := wrap_id (by omega) (by omega)
      simp [hlt]
      refine calD [0, 1] (RGet_fn bs s1 1 (by omega) hl hb hs1) ?_
      have h7 := rget_le (n := 1) hs1
      obtain ⟨c, hc⟩ : ∃ c, rget bs s1 1 = c := ⟨_, rfl⟩
      rw [hc] at h7 hrun ⊢
      by_cases h0 : c.1 = 0
      · rw [if_pos h0] at hrun
        simp [h0, hw1, -Bool.exists_bool]
        exact ⟨i + 1, acc, c.2.1, c.2.2, ⟨by omega, by omega, h7, hrun⟩, by omega, entm [0, 1, 2] (hB := by simp [imms_ren hacc, imms_lt hacc])⟩
      · rw [if_neg h0] at hrun
        have h0' : ¬ (c.1 : Int) = 0 := by omega
        simp [h0, h0', hlt, hkk, GKind.e, GComp.e, -Bool.exists_bool]
        refine awp_loop (fun y : Nat × List Int × RS => ⟨65, [(0, .ptr 0 0), (1, .sl 2 (ks.map GKind.e)), (5, .osl 2 2 0 acc.length), (7, .ptr 3 0), (13, kI ks.length), (14, kI i), (26, .sl 3 (k.Fields.map GField.e)), (27, kI k.Fields.length), (28, kI y.1)],
            [some (rdSt y.2.2 1), some (rSt bs y.2.2.1), some (acc.map GComp.e).flatten, some [kI i, .osl 4 1 0 y.2.1.length], some (y.2.1.map kI)], 2⟩)
          (fun y => y.1 ≤ k.Fields.length ∧ y.2.1.length = y.1 ∧ y.2.2.1 ≤ 8 * bs.length ∧ rvals bs (k.Fields.drop y.1) y.2.1 y.2.2 = rvals bs k.Fields [] c.2) (fun y => k.Fields.length - y.1) (0, [], c.2) ?_ ?_ ?_
        · exact (ent_nilb (b := 3) (j := 1) (z := 1) rfl rfl).trans (entm [0, 1, 2, 3, 4] (hB := by simp [imms_ren hacc, imms_lt hacc]))
        · simp [h7]
        · rintro ⟨j, vs, s2⟩ ⟨hj, hvl, hs2, hrun2⟩
          simp only at hj hvl hs2 hrun2
          by_cases hjl : j < k.Fields.length
          · refine awp_go ?_
            obtain ⟨f, hfe⟩ : ∃ f, k.Fields[j] = f := ⟨_, rfl⟩
            have hffv : fieldB f = true := hff f (hfe ▸ List.getElem_mem hjl)
            rw [List.drop_eq_getElem_cons hjl, hfe, rvals] at hrun2
            have hw2 : IntKind.i64.wrap ((j : Int) + 1) = ((j + 1 : Nat) : Int) := wrap_id (by omega) (by omega)
            have hQ := QGet_fn bs s2.1 f hffv hl hb hs2
            have hql := qget_le (f := f) hs2
            have hrf : rfld bs s2 f = ((qget bs s2.1 f).1, (qget bs s2.1 f).2.2, s2.2 || decide ((qget bs s2.1 f).2.1 ≠ 0)) := rfl
            rw [hrf] at hrun2
            obtain ⟨g, hg⟩ : ∃ g, qget bs s2.1 f = g := ⟨_, rfl⟩
            rw [hg] at hQ hql hrun2
            have hb1 : (vs.length + 1) * 8 ≤ 140737488355328 := by omega
            have hb2 : vs.length + 1 ≤ maxLen := by simp only [maxLen]; omega
            simp [hjl, hfe]
            refine awp_draw follows_mix [5] [(0, [0]), (0, [0]), (0, [0]), (0, [0]), (0, [0]), (3, [0]), (0, [1]), (0, [1]), (0, [1]), (0, [1]), (0, [1])] 1 (by kernel_rfl) rfl ?_
            simp
            refine gD_callW (.tup [kI g.1, kI g.2.1]) [some (rdSt s2 1), some (rSt bs g.2.2), some (acc.map GComp.e).flatten, some [kI i, .osl 4 1 0 vs.length], some (vs.map kI), some f.e] ?_
            obtain ⟨p2, bad⟩ := s2
            have him : (vs.map kI ++ [kI g.1]).all PV.immB = true := by simp
            cases bad with
            | true =>
              simp [hb1, hb2, hw2, -Bool.exists_bool]
              refine ⟨.inl ⟨rfl, doD [1] hQ (h2 := by simp)⟩, ?_⟩
              exact ⟨j + 1, vs ++ [g.1], g.2.2, true, ⟨by omega, by simp; omega, hql, by simpa using hrun2⟩, by omega, entm [0, 1, 2, 3, 7] (hB := by simp [imms_ren hacc, imms_lt hacc, imms_ren him, imms_lt him])⟩
            | false =>
              by_cases h9 : g.2.1 = 0
              · simp [hb1, hb2, hw2, h9, -Bool.exists_bool]
                rw [h9] at hQ
                refine ⟨.inl ⟨rfl, doD [1] hQ (h2 := by simp)⟩, ?_⟩
                exact ⟨j + 1, vs ++ [g.1], g.2.2, false, ⟨by omega, by simp; omega, hql, by simpa [h9] using hrun2⟩, by omega, entm [0, 1, 2, 3, 7] (hB := by simp [imms_ren hacc, imms_lt hacc, imms_ren him, imms_lt him])⟩
              · simp [hb1, hb2, hw2, h9, -Bool.exists_bool]
                refine ⟨.inl ⟨rfl, doD [1] hQ (h2 := by simp)⟩, ?_⟩
                exact ⟨j + 1, vs ++ [g.1], g.2.2, true, ⟨by omega, by simp; omega, hql, by simpa [h9] using hrun2⟩, by omega, entm [0, 1, 2, 3, 7] (hB := by simp [imms_ren hacc, imms_lt hacc, imms_ren him, imms_lt him])⟩
          · obtain rfl : j = k.Fields.length := by omega
            rw [List.drop_length, rvals] at hrun2
            rw [← hrun2] at hrun
            refine awp_ent (ent_fz 4 (vs.map kI)) (awp_go ?_)
            have hb1 : (acc.length + 1) * 32 ≤ 140737488355328 := by omega
            have hb2 : acc.length + 1 ≤ maxLen := by simp only [maxLen]; omega
            simp [hb1, hb2, hw1, imms_fz hacc, -Bool.exists_bool]
            exact ⟨i + 1, acc ++ [⟨i, vs⟩], s2.1, s2.2, ⟨by omega, by simp; omega, hs2, hrun⟩, by omega, entm [0, 1, 6] (hT := by simp) (hB := by simp [GComp.e, imms_ren hacc, imms_lt hacc])⟩
    · obtain rfl : i = ks.length := by omega
      rw [List.drop_length, rcomps] at hrun
      rw [← hrun]
      simp
      refine finG_fz 2 _ ?_ (hi := hacc)
      simp [chunks_map GComp.e_len]
      exact finGm [0, 1]
end Go.Proofs.Ytemlkbcfplkniaa.Am
