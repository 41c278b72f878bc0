/- Package save: Read. -/
import Derived.Test.YtemlkbcfplkniaaSv19
set_option linter.unusedVariables false
set_option linter.unusedSimpArgs false
namespace Go.Proofs.Ytemlkbcfplkniaa.Am
open Go Go.RowKit

theorem rcomps_fine (bs : List Int) : ∀ (r : List GKind) (i : Nat) (acc : List GComp) (s : RS), (∀ k ∈ r, k.Fields.length ≤ 8) → (∀ c ∈ acc, c.Vals.length ≤ 8) →
    (rcomps bs i r acc s).1.length ≤ acc.length + r.length ∧ ∀ c ∈ (rcomps bs i r acc s).1, c.Vals.length ≤ 8
  | [], _, acc, _, _, h => ⟨by simp [rcomps], h⟩
  | k :: r, i, acc, s, hk, h => by
    rw [rcomps]
    split
    · obtain ⟨h1, h2⟩ := rcomps_fine bs r (i + 1) acc (rget bs s 1).2 (fun k' hk' => hk k' (by simp [hk'])) h
      exact ⟨by simp; omega, h2⟩
    · obtain ⟨h1, h2⟩ := rcomps_fine bs r (i + 1) (acc ++ [⟨i, (rvals bs k.Fields [] (rget bs s 1).2).1⟩]) (rvals bs k.Fields [] (rget bs s 1).2).2 (fun k' hk' => hk k' (by simp [hk'])) (fun c hc => by
        rcases List.mem_append.1 hc with hc | hc
        · exact h c hc
        · obtain rfl := List.mem_singleton.1 hc
          have := rvals_len bs k.Fields [] (rget bs s 1).2
          have := hk k (by simp)
          simp only [List.length_nil] at *
          omega)
      exact ⟨by simp at h1; simp; omega, h2⟩
theorem ritems_fine (bs : List Int) (ks : List GKind) (hk : ∀ k ∈ ks, k.Fields.length ≤ 8) : ∀ (n : Nat) (gs : List Int) (its : List GItem) (s : RS), (∀ it ∈ its, it.Comps.length ≤ ks.length ∧ ∀ c ∈ it.Comps, c.Vals.length ≤ 8) →
    (ritems bs ks n gs its s).1.length ≤ gs.length + n ∧ (ritems bs ks n gs its s).2.1.length ≤ its.length + n ∧ ∀ it ∈ (ritems bs ks n gs its s).2.1, it.Comps.length ≤ ks.length ∧ ∀ c ∈ it.Comps, c.Vals.length ≤ 8
  | 0, gs, its, s, h => ⟨by simp [ritems], by simp [ritems], h⟩
  | n + 1, gs, its, s, h => by
    rw [ritems]
    split
    · exact ⟨by simp, by simp, h⟩
    · split
      · obtain ⟨c1, c2⟩ := rcomps_fine bs ks 0 [] (rget bs ((rnat bs s.1).2.2, false) 1).2 hk (by simp)
        obtain ⟨h1, h2, h3⟩ := ritems_fine bs ks hk n (gs ++ [((rnat bs s.1).1 : Int)]) (its ++ [⟨⟨gs.length, (rnat bs s.1).1⟩, (rcomps bs 0 ks [] (rget bs ((rnat bs s.1).2.2, false) 1).2).1⟩]) (rcomps bs 0 ks [] (rget bs ((rnat bs s.1).2.2, false) 1).2).2 (fun it hit => by
          rcases List.mem_append.1 hit with hit | hit
          · exact h it hit
          · obtain rfl := List.mem_singleton.1 hit
            exact ⟨by simpa using c1, c2⟩)
        exact ⟨by simp at h1; omega, by simp at h2; omega, h3⟩
      · obtain ⟨h1, h2, h3⟩ := ritems_fine bs ks hk n (gs ++ [((rnat bs s.1).1 : Int)]) its (rget bs ((rnat bs s.1).2.2, false) 1).2 h
        exact ⟨by simp at h1; omega, by omega, h3⟩

theorem ritemsM_fine (body : List Int) (ks : List GKind) (s : RS) (ce1 : ks.length ≤ 16) (ce2 : ∀ x ∈ ks, x.Fields.length ≤ 8) :
    Fine (ritemsM body ks s).1 ∧ ∀ it ∈ (ritemsM body ks s).1.Items, ∀ c ∈ it.Comps, c.Vals.length ≤ 1000 := by
  have hW : ritemsM body ks s = (⟨ks, (ritems body ks (rget body s 9).1 [] [] (rget body s 9).2).1, (ritems body ks (rget body s 9).1 [] [] (rget body s 9).2).2.1⟩, (ritems body ks (rget body s 9).1 [] [] (rget body s 9).2).2.2) := rfl
  have h9 := rget_lt body s 9
  obtain ⟨i1, i2, i3⟩ := ritems_fine body ks ce2 (rget body s 9).1 [] [] (rget body s 9).2 (by simp)
  rw [hW]
  simp only [List.length_nil] at i1 i2
  exact ⟨⟨by simp only; omega, fun x hx => by have := ce2 x hx; omega, by simp only; omega, by simp only; omega, fun it hit => by have := (i3 it hit).1; omega, fun it hit c hc => by have := (i3 it hit).2 c hc; omega⟩, fun it hit c hc => by have := (i3 it hit).2 c hc; omega⟩
theorem rkinds_ok (bs : List Int) (s : RS) (h : (rkinds bs s).2.2 = false) : checkE (rkinds bs s).1 = 0 := by
  have h' : ((rkindsGo bs (rget bs s 5).1 [] (rget bs s 5).2).2.2 || decide (checkE (rkindsGo bs (rget bs s 5).1 [] (rget bs s 5).2).1 ≠ 0)) = false := h
  rw [Bool.or_eq_false_iff] at h'
  show checkE (rkindsGo bs (rget bs s 5).1 [] (rget bs s 5).2).1 = 0
  exact Decidable.byContradiction fun e => by simp [e] at h'

def w00 : GWorld := ⟨[], [], []⟩
def readB (body b : List Int) : GWorld × Int :=
  if (rget body (0, false) 8).1 ≠ 1 ∨ (rget body (0, false) 8).2.2 = true then (w00, 3)
  else if (rkinds body (rget body (0, false) 8).2).2.2 = true then (w00, 3)
  else if (ritemsM body (rkinds body (rget body (0, false) 8).2).1 (rkinds body (rget body (0, false) 8).2).2).2.2 = true then (w00, 3)
  else if (writeM (ritemsM body (rkinds body (rget body (0, false) 8).2).1 (rkinds body (rget body (0, false) 8).2).2).1).2 ≠ 0 ∨ (writeM (ritemsM body (rkinds body (rget body (0, false) 8).2).1 (rkinds body (rget body (0, false) 8).2).2).1).1 ≠ b then (w00, 3)
  else ((ritemsM body (rkinds body (rget body (0, false) 8).2).1 (rkinds body (rget body (0, false) 8).2).2).1, 0)
def readM (b : List Int) : GWorld × Int :=
  if 65536 < b.length then (w00, 2) else if b.length < 8 then (w00, 14) else if sealB (b.take (b.length - 8)) ≠ b then (w00, 13) else readB (b.take (b.length - 8)) b

set_option maxRecDepth 20000 in
theorem New_fn (bs : List Int) (hl : bs.length ≤ 100000) : FnD Try.prog 45 [slB bs] [] (.ptr 0 0) [some (rSt bs 0)] := by
  have him : ∀ bs : List Int, (bs.map kU8).all PV.immB = true := fun bs => by simp
  refine fnd_go Try.func45 rfl ?_
  have h1 : bs.length ≤ 140737488355328 := by omega
  have h2 : bs.length ≤ maxLen := by simp only [maxLen]; omega
  simp [Try.ntmps45, h1, h2]
  rw [flatB]
  refine finG_fz 1 (bs.map kU8) ?_
  simp [chunks_b]
  exact finGm [2]

theorem sealB_ok {l : List Int} (h : BytesOk l) : BytesOk (sealB l) := fun c hc => by
  rcases List.mem_append.1 hc with hc | hc
  · exact h c hc
  · obtain ⟨i, _, rfl⟩ := List.mem_map.1 hc; omega
theorem writeM_ok (W : GWorld) : BytesOk (writeM W).1 := by
  unfold writeM
  split
  · intro c hc; simp at hc
  · split
    · intro c hc; simp at hc
    · exact sealB_ok (pack_ok _)
theorem ent_w00 {N k : Nat} {T : List (Nat × PV)} {σ : Boxes} : Ent ⟨N, T, some [kNil, kNil, kNil] :: σ, k⟩ ⟨N, T, some w00.e :: σ, k⟩ :=
  (ent_cell (s := ⟨N, T, some [kNil, kNil, kNil] :: σ, k⟩) (cs := [kNil, kNil, kNil]) 0 0 (tell_nil 2)).trans ((ent_cell (s := ⟨N, T, some [.sl 2 [], kNil, kNil] :: σ, k⟩) (cs := [.sl 2 [], kNil, kNil]) 0 1 (tell_nil 1)).trans (ent_cell (s := ⟨N, T, some [.sl 2 [], .sl 1 [], kNil] :: σ, k⟩) (cs := [.sl 2 [], .sl 1 [], kNil]) 0 2 (tell_nil 3)))

set_option maxRecDepth 20000 in
set_option maxHeartbeats 2000000 in
theorem Read_fn (b : List Int) (hb : BytesOk b) : Fn Try.prog 31 [slB b] (.tup [.agg (readM b).1.e, kI (readM b).2]) := by
  have him : ∀ bs : List Int, (bs.map kU8).all PV.immB = true := fun bs => by simp
  refine fn_go Try.func31 rfl ?_
  by_cases h1 : 65536 < b.length
  · have e : readM b = (w00, 2) := by simp [readM, h1]
    have h1' : (65536 : Int) < b.length := by omega
    rw [e]
    simp [Try.ntmps31, h1, h1']
    refine fin_ent ent_w00 ?_
    exact finm
  · by_cases h2 : b.length < 8
    · have e : readM b = (w00, 14) := by simp [readM, h1, h2]
      have h1' : ¬ (65536 : Int) < b.length := by omega
      have h2' : (b.length : Int) < 8 := by omega
      rw [e]
      simp [Try.ntmps31, h1, h1', h2, h2']
      refine fin_ent ent_w00 ?_
      exact finm
    · have h1' : ¬ (65536 : Int) < b.length := by omega
      have h2' : ¬ (b.length : Int) < 8 := by omega
      obtain ⟨m, hm⟩ : ∃ m, b.length - 8 = m := ⟨_, rfl⟩
      obtain ⟨body, hbody⟩ : ∃ body, b.take m = body := ⟨_, rfl⟩
      have hbl : body.length = m := by rw [← hbody]; simp; omega
      have hbb : BytesOk body := fun c hc => hb c (List.mem_of_mem_take (hbody ▸ hc))
      have hM : readM b = if sealB body ≠ b then (w00, 13) else readB body b := by simp [readM, h1, h2, hm, hbody]
      have hw1 : IntKind.i64.wrap ((b.length : Int) - 8) = m := by rw [wrap_id (by omega) (by omega)]; omega
      have hmb : (m : Int) ≤ b.length := by omega
      have hmin : min m b.length = m := by omega
      have hb1 : m ≤ 140737488355328 := by omega
      have hb2 : m ≤ maxLen := by simp only [maxLen]; omega
      rw [hM]
      simp [Try.ntmps31, h1, h1', h2, h2', hw1, hmb, hmin, hb1, hb2]
      rw [← List.map_take, hbody, flatB]
      have hS := Seal_fn body (by omega) hbb
      rw [hbl] at hS
      refine calD [2] hS ?_ (hbox := by simp [imms_ren (him _), imms_lt (him _)])
      have hsb : BytesOk (sealB body) := fun c hc => by
        rcases List.mem_append.1 hc with hc | hc
        · exact hbb c hc
        · obtain ⟨i, _, rfl⟩ := List.mem_map.1 hc; omega
      simp [imms_ren (him _), imms_lt (him _)]
      refine calS (Equal_fn (sealB body) b hsb hb) ?_ (hren := by simp [chunks_b])
      by_cases h3 : sealB body = b
      · rw [if_neg (by simpa using h3)]
        simp [h3]
        refine calD [] (New_fn body (by omega)) ?_ (hren := by simp)
        simp
        refine calD [5, 4] (RGet_fn body (0, false) 8 (by omega) (by omega) hbb (by omega)) ?_
        have q1 := rget_le (bs := body) (s := (0, false)) (n := 8) (by omega)
        have hB : readB body b = if (rget body (0, false) 8).1 ≠ 1 ∨ (rget body (0, false) 8).2.2 = true then (w00, 3)
          else if (rkinds body (rget body (0, false) 8).2).2.2 = true then (w00, 3)
          else if (ritemsM body (rkinds body (rget body (0, false) 8).2).1 (rkinds body (rget body (0, false) 8).2).2).2.2 = true then (w00, 3)
          else if (writeM (ritemsM body (rkinds body (rget body (0, false) 8).2).1 (rkinds body (rget body (0, false) 8).2).2).1).2 ≠ 0 ∨ (writeM (ritemsM body (rkinds body (rget body (0, false) 8).2).1 (rkinds body (rget body (0, false) 8).2).2).1).1 ≠ b then (w00, 3)
          else ((ritemsM body (rkinds body (rget body (0, false) 8).2).1 (rkinds body (rget body (0, false) 8).2).2).1, 0) := rfl
        obtain ⟨g, hg⟩ : ∃ g, rget body (0, false) 8 = g := ⟨_, rfl⟩
        rw [hg] at q1 hB ⊢
        by_cases h4 : g.1 = 1
        · by_cases h5 : g.2.2 = true
          · rw [if_pos (.inr h5)] at hB
            rw [hB]
            simp [h4, h5]
            refine fin_ent ent_w00 ?_
            exact finm
          · rw [if_neg (by simp [h4, h5])] at hB
            have h5' : g.2.2 = false := by simpa using h5
            simp [h4, h5']
            refine calD [5, 4] (RKinds_fn body g.2 (by omega) hbb q1) ?_ (hbox := by simp [h5'])
            have q2 : (rkinds body g.2).2.1 ≤ 8 * body.length := rkindsGo_le body _ _ _ (rget_le q1)
            have q3 := rkinds_ok body g.2
            obtain ⟨k, hk⟩ : ∃ k, rkinds body g.2 = k := ⟨_, rfl⟩
            rw [hk] at q2 q3 hB ⊢
            by_cases h6 : k.2.2 = true
            · rw [if_pos h6] at hB
              rw [hB]
              simp [h6]
              refine fin_ent ent_w00 ?_
              exact finm
            · have h6' : k.2.2 = false := by simpa using h6
              rw [if_neg h6] at hB
              have hce := q3 h6'
              obtain ⟨ce1, ce2⟩ := checkE_le hce
              have hone := checkE_one hce
              have hff : ∀ x ∈ k.1, x.Fields.length ≤ 8 ∧ ∀ f ∈ x.Fields, fieldB f = true := fun x hx => ⟨ce2 x hx, oneE_fields (hone x hx)⟩
              simp [h6']
              refine calD [5, 4] (RItems_fn body k.2 k.1 ce1 hff (by omega) hbb q2) ?_ (hbox := by simp [h6'])
              obtain ⟨hfi, hvl⟩ := ritemsM_fine body k.1 k.2 ce1 ce2
              obtain ⟨W, hWe⟩ : ∃ W, ritemsM body k.1 k.2 = W := ⟨_, rfl⟩
              rw [hWe] at hfi hvl hB ⊢
              by_cases h7 : W.2.2 = true
              · rw [if_pos h7] at hB
                rw [hB]
                simp [h7]
                refine fin_ent ent_w00 ?_
                exact finm
              · have h7' : W.2.2 = false := by simpa using h7
                rw [if_neg h7] at hB
                simp [h7']
                refine cal (Write_fn W.1 hfi hvl) ?_
                obtain ⟨c, hc⟩ : ∃ c, writeM W.1 = c := ⟨_, rfl⟩
                rw [hc] at hB ⊢
                by_cases h8 : c.2 = 0
                · have hcb : BytesOk c.1 := hc ▸ writeM_ok W.1
                  simp [h8]
                  refine cal (Equal_fn c.1 b hcb hb) ?_
                  by_cases h9 : c.1 = b
                  · rw [if_neg (by simp [h8, h9])] at hB
                    rw [hB]
                    simp [h9]
                    exact finm
                  · rw [if_pos (.inr h9)] at hB
                    rw [hB]
                    simp [h9]
                    refine fin_ent ent_w00 ?_
                    exact finm
                · rw [if_pos (.inl h8)] at hB
                  rw [hB]
                  simp [h8]
                  refine fin_ent ent_w00 ?_
                  exact finm
        · rw [if_pos (.inl h4)] at hB
          have h4' : ¬ (g.1 : Int) = 1 := by omega
          rw [hB]
          simp [h4, h4']
          refine fin_ent ent_w00 ?_
          exact finm
      · rw [if_pos h3]
        simp [h3]
        refine fin_ent ent_w00 ?_
        exact finm
end Go.Proofs.Ytemlkbcfplkniaa.Am
