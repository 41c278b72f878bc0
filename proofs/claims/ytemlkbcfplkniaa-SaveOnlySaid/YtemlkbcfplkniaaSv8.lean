/- Package save: the writer's comps. -/
import Derived.Test.YtemlkbcfplkniaaSv7
import Derived.Test.YtemlkbcfplkniaaCLaw2
set_option linter.unusedVariables false
set_option linter.unusedSimpArgs false
namespace Go.Proofs.Ytemlkbcfplkniaa.Am
open Go Go.RowKit

def wvals : List GField → List Int → WS → WS
  | f :: fs, v :: vs, w => wvals fs vs (wput w (v - f.Low) f.Bits)
  | _, _, w => w
def wcomps : Nat → List GKind → List GComp → WS → WS
  | _, [], _, w => w
  | i, _ :: r, [], w => wcomps (i + 1) r [] (wput w 0 1)
  | i, k :: r, c :: l, w => if c.Kind = i then wcomps (i + 1) r l (wvals k.Fields c.Vals (wput w 1 1)) else wcomps (i + 1) r (c :: l) (wput w 0 1)

theorem wvals_le : ∀ {fs : List GField} {vs : List Int} {w : WS}, (∀ f ∈ fs, fieldB f = true) → w.1.length ≤ 524288 → (wvals fs vs w).1.length ≤ 524288
  | [], _, _, _, h => by simpa [wvals] using h
  | _ :: _, [], _, _, h => by simpa [wvals] using h
  | f :: fs, v :: vs, w, hf, h => by
    rw [wvals]
    have := field_in (hf f (by simp))
    exact wvals_le (fun g hg => hf g (by simp [hg])) (wput_le h (by omega))

/-- What the values of valid components are to their fields. -/
def ValsOk (fs : List GField) (vs : List Int) : Prop := vs.length = fs.length ∧ ∀ j (h1 : j < fs.length) (h2 : j < vs.length), fs[j].Low ≤ vs[j] ∧ vs[j] ≤ highM fs[j]
theorem vals_ok {k : GKind} {v : List Int} (h : holdsB k v = true) : (∀ f ∈ k.Fields, fieldB f = true) ∧ ValsOk k.Fields v := by
  obtain ⟨h1, h2, h3⟩ := holds_iff.1 h
  have hf := oneE_fields h1
  refine ⟨hf, h2, fun j hj1 hj2 => ?_⟩
  have := (zip_iff h2).1 h3 j hj1 hj2
  have hfj := hf _ (List.getElem_mem hj1)
  rw [← this]
  exact ⟨nearLo hfj _, nearHi hfj _⟩

set_option maxRecDepth 20000 in
set_option maxHeartbeats 2000000 in
theorem WComps_fn (w : WS) (ks : List GKind) (l : List GComp) (hk : ks.length ≤ 16) (hf : ∀ k ∈ ks, k.Fields.length ≤ 8 ∧ ∀ f ∈ k.Fields, fieldB f = true) (hh : heldGo ks (-1) l = true) (hl : w.1.length ≤ 524288) :
    FnD Try.prog 137 [.ptr 0 0, .sl 2 (ks.map GKind.e), .sl 2 (l.map GComp.e)] [wS w 1, wB w]
    (.tup []) [some (wS (wcomps 0 ks l w) 2), none, some (wB (wcomps 0 ks l w))] := by
  have hll : l.length ≤ 16 := by have := held_len (by omega) hh; omega
  refine fng_of Try.func137 rfl (awp_ent (s' := ⟨68, [(0, .ptr 0 0), (1, .sl 2 (ks.map GKind.e)), (2, .sl 2 (l.map GComp.e))], [some (wS w 2), none, some (wB w)], 2⟩) (ent_w w) (awp_go ?_))
  have hb : ∀ bs : List Int, (bs.map kU8).all PV.immB = true := fun bs => by simp
  simp [Try.ntmps137]
  refine awp_loop (fun x : Nat × Nat × WS => ⟨68, [(0, .ptr 0 0), (1, .sl 2 (ks.map GKind.e)), (2, .sl 2 (l.map GComp.e)), (6, kI x.2.1), (11, kI ks.length), (12, kI x.1)], [some (wS x.2.2 2), none, some (wB x.2.2)], 2⟩)
    (fun x => x.1 ≤ ks.length ∧ x.2.1 ≤ l.length ∧ x.2.2.1.length ≤ 524288 ∧ wcomps x.1 (ks.drop x.1) (l.drop x.2.1) x.2.2 = wcomps 0 ks l w) (fun x => ks.length - x.1) (0, 0, w) ?_ ?_ ?_
  · exact entm [0, 1, 2] (hB := by simp [wSt, imms_ren (hb _), imms_lt (hb _)])
  · simp [hl]
  · rintro ⟨i, at_, x⟩ ⟨hi, hat, hx, hrun⟩
    simp only at hi hat hx hrun
    refine awp_go ?_
    by_cases hlt : i < ks.length
    · obtain ⟨k, hkk⟩ : ∃ k, ks[i] = k := ⟨_, rfl⟩
      have hkm : k ∈ ks := hkk ▸ List.getElem_mem hlt
      obtain ⟨hfl, hff⟩ := hf k hkm
      rw [List.drop_eq_getElem_cons hlt, hkk] at hrun
      have hw1 : IntKind.i64.wrap ((i : Int) + 1) = ((i + 1 : Nat) : Int) := wrap_id (by omega) (by omega)
      by_cases hal : at_ = l.length
      · subst hal
        rw [List.drop_length, wcomps] at hrun
        simp [hlt, wSt]
        refine calD [0, 2] (WPut_fn x 0 1 (by omega) (by omega) hx) ?_ (hbox := by simp [wSt, imms_ren (hb _), imms_lt (hb _)])
        simp [wSt, hw1, imms_ren (hb _), imms_lt (hb _)]
        exact ⟨i + 1, l.length, (wput x 0 1).1, (wput x 0 1).2, ⟨by omega, by omega, wput_le hx (by omega), by rw [List.drop_length]; exact hrun⟩, by omega, entm [0, 1, 3] (hB := by simp [wSt, imms_ren (hb _), imms_lt (hb _)])⟩
      · have hal2 : at_ < l.length := by omega
        have hal3 : ¬ (at_ : Int) = l.length := by omega
        obtain ⟨c, hcc⟩ : ∃ c, l[at_] = c := ⟨_, rfl⟩
        rw [List.drop_eq_getElem_cons hal2, hcc, wcomps] at hrun
        by_cases hck : c.Kind = i
        · rw [if_pos hck] at hrun
          simp [hlt, hal3, hal2, hcc, hck, wSt, GComp.e]
          refine calD [0, 2] (WPut_fn x 1 1 (by omega) (by omega) hx) ?_ (hbox := by simp [wSt, imms_ren (hb _), imms_lt (hb _)])
          obtain ⟨w1, hw1e⟩ : ∃ w1, wput x 1 1 = w1 := ⟨_, rfl⟩
          have hl1 : w1.1.length ≤ 524288 := hw1e ▸ wput_le hx (by omega)
          rw [hw1e] at hrun ⊢
          have hcm : c ∈ l := hcc ▸ List.getElem_mem hal2
          obtain ⟨_, _, hhold⟩ := held_mem hh c hcm
          have hkd : ks.getD c.Kind.toNat k0 = k := by rw [hck]; simp [List.getD, hlt, hkk]
          rw [hkd] at hhold
          obtain ⟨_, hvl, hvr⟩ := vals_ok hhold
          simp [hlt, hkk, GKind.e, wSt, imms_ren (hb _), imms_lt (hb _)]
          refine awp_loop (fun y : Nat × WS => ⟨68, [(0, .ptr 0 0), (1, .sl 2 (ks.map GKind.e)), (2, .sl 2 (l.map GComp.e)), (6, kI at_), (11, kI ks.length), (12, kI i), (36, .sl 3 (k.Fields.map GField.e)), (37, kI k.Fields.length), (38, kI y.1)], [some (wS y.2 2), none, some (wB y.2)], 2⟩)
            (fun y => y.1 ≤ k.Fields.length ∧ y.2.1.length ≤ 524288 ∧ wvals (k.Fields.drop y.1) (c.Vals.drop y.1) y.2 = wvals k.Fields c.Vals w1) (fun y => k.Fields.length - y.1) (0, w1) ?_ ?_ ?_
          · exact entm [0, 1, 3] (hB := by simp [wSt, imms_ren (hb _), imms_lt (hb _)])
          · simp [hl1]
          · rintro ⟨j, y⟩ ⟨hj, hy, hrun2⟩
            simp only at hj hy hrun2
            refine awp_go ?_
            by_cases hjl : j < k.Fields.length
            · have hjv : j < c.Vals.length := by omega
              obtain ⟨f, hfe⟩ : ∃ f, k.Fields[j] = f := ⟨_, rfl⟩
              obtain ⟨v, hve⟩ : ∃ v, c.Vals[j] = v := ⟨_, rfl⟩
              have hffv : fieldB f = true := hfe ▸ hff _ (List.getElem_mem hjl)
              have hr := hvr j hjl hjv
              rw [hfe, hve] at hr
              rw [List.drop_eq_getElem_cons hjl, List.drop_eq_getElem_cons hjv, hfe, hve, wvals] at hrun2
              have hw2 : IntKind.i64.wrap ((j : Int) + 1) = ((j + 1 : Nat) : Int) := wrap_id (by omega) (by omega)
              obtain ⟨hfb1, hfb2, _, _⟩ := field_in hffv
              have hyl : (wput y (v - f.Low) f.Bits).1.length ≤ 524288 := wput_le hy (by omega)
              by_cases h0 : y.2 = 0
              · simp [hjl, hfe, wSt, h0]
                refine awp_draw follows_mix [13] [(0, [0, 1]), (0, [0]), (0, [0]), (0, [0]), (0, [0]), (0, [0]), (0, [0]), (0, [0]), (0, [0]), (0, [0]), (0, [0]), (0, [0]), (0, [0]), (3, [0]), (0, [1]), (0, [1]), (1, [1])] 2 (by kernel_rfl) rfl ?_
                simp [hal2, hcc, GComp.e, hjv, hve]
                have e : wput y (v - f.Low) f.Bits = putM y.1 (v - f.Low) f.Bits := by simp [wput, h0]
                rw [e] at hrun2 hyl
                have hQ := QPut_fn y.1 f v 0 hffv hr.1 hr.2 hy
                obtain ⟨z, hz⟩ : ∃ z, putM y.1 (v - f.Low) f.Bits = z := ⟨_, rfl⟩
                rw [hz] at hQ hrun2 hyl
                refine gD_callW (kI z.2) [some (wSt z.1 0 4), none, none, some f.e, some ((packB z.1).map kU8)] ?_
                simp [hal2, hcc, GComp.e, hjv, hve, wSt, hw2]
                refine ⟨.inl ⟨rfl, doD [0, 2] hQ (hbox := by simp [wSt, imms_ren (hb _), imms_lt (hb _)]) (h2 := by simp [wSt, imms_ren (hb _)])⟩, ?_⟩
                exact ⟨j + 1, z.1, z.2, ⟨by omega, hyl, hrun2⟩, by omega, entm [0, 1, 4] (hB := by simp [wSt, imms_ren (hb _), imms_lt (hb _)])⟩
              · have e : wput y (v - f.Low) f.Bits = y := by simp [wput, h0]
                rw [e] at hrun2
                simp [hjl, hfe, wSt, h0, hw2]
                exact ⟨j + 1, y.1, y.2, ⟨by omega, hy, hrun2⟩, by omega, entm [0, 1, 2] (hB := by simp [wSt, imms_ren (hb _), imms_lt (hb _)])⟩
            · obtain rfl : j = k.Fields.length := by omega
              have e1 : k.Fields.drop k.Fields.length = [] := List.drop_length
              rw [e1] at hrun2
              simp [wvals] at hrun2
              have hw3 : IntKind.i64.wrap ((at_ : Int) + 1) = ((at_ + 1 : Nat) : Int) := wrap_id (by omega) (by omega)
              simp [wSt, hw1, hw3]
              exact ⟨i + 1, at_ + 1, y.1, y.2, ⟨by omega, by omega, hy, by rw [hrun2]; exact hrun⟩, by omega, entm [0, 1, 2] (hB := by simp [wSt, imms_ren (hb _), imms_lt (hb _)])⟩
        · rw [if_neg hck] at hrun
          simp [hlt, hal3, hal2, hcc, hck, wSt, GComp.e]
          refine calD [0, 2] (WPut_fn x 0 1 (by omega) (by omega) hx) ?_ (hbox := by simp [wSt, imms_ren (hb _), imms_lt (hb _)])
          simp [wSt, hw1, imms_ren (hb _), imms_lt (hb _)]
          exact ⟨i + 1, at_, (wput x 0 1).1, (wput x 0 1).2, ⟨by omega, by omega, wput_le hx (by omega), by rw [List.drop_eq_getElem_cons hal2, hcc]; exact hrun⟩, by omega, entm [0, 1, 3] (hB := by simp [wSt, imms_ren (hb _), imms_lt (hb _)])⟩
    · obtain rfl : i = ks.length := by omega
      rw [List.drop_length, wcomps] at hrun
      subst hrun
      simp [wSt]
      exact finGm [0, 1, 2] (hB := by simp [wSt, imms_ren (hb _), imms_lt (hb _)])
end Go.Proofs.Ytemlkbcfplkniaa.Am
