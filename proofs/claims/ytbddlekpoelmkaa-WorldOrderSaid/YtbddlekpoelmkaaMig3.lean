/- Package migrate: one move, walked. -/
import Derived.Test.YtbddlekpoelmkaaMig2
set_option linter.unusedVariables false
set_option linter.unusedSimpArgs false
namespace Go.Proofs.Ytbddlekpoelmkaa.Am
open Go Go.RowKit

theorem kset (ks : List GKind) (i : Nat) (hi : i < ks.length) (F : List GField) : ((ks.map GKind.e).flatten).set (i * 2 + 1) (.sl 3 (F.map GField.e)) = ((ks.set i ⟨ks[i].Name, F⟩).map GKind.e).flatten := by
  rw [← row_put GKind.e_len ks i 1 (.sl 3 (F.map GField.e)) ⟨ks[i].Name, F⟩ hi (by omega) rfl, List.set_eq_take_append_cons_drop, if_pos (by rw [flat_lenE GKind.e_len]; omega)]
theorem kAt_ren (ks : List GKind) (i m : Nat) : renL (thF [] 1) (kAt ks i m (ks.map GKind.e).flatten) = ((ks.map GKind.e).flatten).set (i * 2 + 1) (.osl 2 3 0 m) := by
  unfold kAt
  rw [renL_set, GKind.ren]; simp [thF]
theorem set_put {B : List PV} {p : Nat} {x y : PV} (hp : p < B.length) : (B.set p x).take p ++ y :: (B.set p x).drop (p + 1) = B.set p y := by
  rw [List.take_set_of_le (by omega), List.drop_set_of_lt (by omega), List.set_eq_take_append_cons_drop, if_pos hp]

set_option maxRecDepth 20000 in
theorem one_fn (ks : List GKind) (m : GMove) (hl : ks.length ≤ 1000000) (hf : ∀ k ∈ ks, k.Fields.length ≤ 1000000) (hm : m.Whole.Fields.length ≤ 1000000) : Fn Try.prog 44 [.sl 2 (ks.map GKind.e), .agg m.e] (.tup [.sl 2 ((oneM ks m).1.map GKind.e), kI (oneM ks m).2]) := by
  refine fn_go Try.func44 rfl ?_
  simp [Try.ntmps44]
  refine cal (place_fn ks m (by omega) (fun k hk => by have := hf k hk; omega)) ?_
  by_cases he : (placeM ks m).2.2 = 0
  · simp [he]
    have hone : oneM ks m = if checkE (oneK ks m (placeM ks m).1.toNat (placeM ks m).2.1.toNat) ≠ 0 then ([], checkE (oneK ks m (placeM ks m).1.toNat (placeM ks m).2.1.toNat)) else (oneK ks m (placeM ks m).1.toNat (placeM ks m).2.1.toNat, 0) := by simp [oneM, he]
    rcases placeM_ok he with h0 | ⟨i, hi, hpi, hd1, hd2, hd3⟩
    · -- AddKind
      refine calD [] (KCopy_own ks (by omega) (fun k hk => by have := hf k hk; omega)) ?_ (hren := by simp)
      simp [h0]
      refine ops_fz 2 m.Whole.e ?_
      simp
      refine cal (KCopy_fn [m.Whole] (by simp) (by simp; omega)) ?_ (hren := by simp [chunks, List.range, List.range.loop])
      have hb1 : (ks.length + 1) * 40 ≤ 140737488355328 := by omega
      have hb2 : ks.length + 1 ≤ maxLen := by simp only [maxLen]; omega
      simp [hb1, hb2]
      obtain ⟨o, ho⟩ : ∃ o, ks ++ [m.Whole] = o := ⟨_, rfl⟩
      have hol : o.length = ks.length + 1 := by rw [← ho]; simp
      have hoe : (ks.map GKind.e).flatten ++ m.Whole.e = (o.map GKind.e).flatten := by rw [← ho]; simp
      have hof : ∀ k ∈ o, k.Fields.length ≤ 9223372036854775807 := fun k hk => by
        rw [← ho] at hk
        rcases List.mem_append.1 hk with h | h
        · have := hf k h; omega
        · obtain rfl : k = m.Whole := by simpa using h
          omega
      have hok : oneK ks m (placeM ks m).1.toNat (placeM ks m).2.1.toNat = o := by simp [oneK, h0, ho]
      rw [hok] at hone
      rw [hoe, ← hol]
      refine calS (Check_fn o hof (by omega)) ?_
      by_cases hc : checkE o = 0
      · simp [hc]
        refine fin_fz 3 _ ?_
        simp
        exact finm (by simp [hone, hc])
      · simp [hc]
        refine fin_ent (ent_nilsl (t := 4) (z := 2) rfl) ?_
        exact finm (by simp [hone, hc])
    · rw [hpi] at hone ⊢
      by_cases h1 : m.Do = 1
      · refine calD [] (KCopy_own ks (by omega) (fun k hk => by have := hf k hk; omega)) ?_ (hren := by simp)
        simp [h1]
        rw [wrap_id (by omega) (by omega)]
        refine calD [1] (DeleteK_fn ks i hi (by omega)) ?_
        obtain ⟨o, ho⟩ : ∃ o, ks.take i ++ ks.drop (i + 1) = o := ⟨_, rfl⟩
        have hol : o.length = ks.length - 1 := by rw [← ho]; simp; omega
        have hof : ∀ k ∈ o, k.Fields.length ≤ 9223372036854775807 := fun k hk => by
          rw [← ho] at hk
          rcases List.mem_append.1 hk with h | h
          · have := hf k (List.mem_of_mem_take h); omega
          · have := hf k (List.mem_of_mem_drop h); omega
        have hok : oneK ks m i (placeM ks m).2.1.toNat = o := by simp [oneK, h1, ho]
        simp only [Int.toNat_natCast] at hone
        rw [hok] at hone
        rw [ho, ← hol]
        simp
        refine ops_ent (ent_trunc 1 (o.length * 2)) (ops_goH ?_)
        have htk : ((o.map GKind.e).flatten ++ [kS ⟨#[]⟩, kNil]).take (o.length * 2) = (o.map GKind.e).flatten := List.take_left' (flat_lenE GKind.e_len o)
        simp only [List.set_cons_succ, List.set_cons_zero]
        rw [htk]
        refine calS (Check_fn o hof (by omega)) ?_
        by_cases hc : checkE o = 0
        · simp [hc]
          refine fin_fz 1 _ ?_
          simp
          exact finm (by simp [hone, hc])
        · simp [hc]
          refine fin_ent (ent_nilsl (t := 4) (z := 2) rfl) ?_
          exact finm (by simp [hone, hc])
      by_cases h2 : m.Do = 2
      · refine calD [] (KCopy_own ks (by omega) (fun k hk => by have := hf k hk; omega)) ?_ (hren := by simp)
        have hrow := row_put GKind.e_len ks i 0 (kS m.Name) ⟨m.Name, ks[i].Fields⟩ hi (by omega) rfl
        obtain ⟨o, ho⟩ : ∃ o, ks.set i ⟨m.Name, ks[i].Fields⟩ = o := ⟨_, rfl⟩
        have hol : o.length = ks.length := by rw [← ho]; simp
        have hof : ∀ k ∈ o, k.Fields.length ≤ 9223372036854775807 := fun k hk => by
          rw [← ho] at hk
          rcases List.mem_or_eq_of_mem_set hk with h | h
          · have := hf k h; omega
          · have := hf _ (List.getElem_mem hi); subst h; simp only; omega
        have hok : oneK ks m i (placeM ks m).2.1.toNat = o := by simp [oneK, h2, ← ho, hi]
        simp only [Int.toNat_natCast] at hone
        rw [hok] at hone
        have hq : i * 2 + 1 ≤ ks.length * 2 := by omega
        simp [h2, hi, hq]
        simp only [Nat.add_zero] at hrow
        rw [hrow, ho, ← hol]
        refine calS (Check_fn o hof (by omega)) ?_
        by_cases hc : checkE o = 0
        · simp [hc]
          refine fin_fz 1 _ ?_
          simp
          exact finm (by simp [hone, hc])
        · simp [hc]
          refine fin_ent (ent_nilsl (t := 4) (z := 2) rfl) ?_
          exact finm (by simp [hone, hc])
      refine calD [] (KCopy_at ks i hi (by omega) (fun k hk => by have := hf k hk; omega)) ?_ (hren := by simp)
      by_cases h3 : m.Do = 3
      · simp only [Int.toNat_natCast] at hone
        have hpl : i * 2 + 1 < ks.length * 2 := by omega
        have hpl2 : i * 2 + 1 + 1 ≤ ks.length * 2 := by omega
        have hfl := hf _ (List.getElem_mem hi)
        have hb1 : (ks[i].Fields.length + 1) * 32 ≤ 140737488355328 := by omega
        have hb2 : ks[i].Fields.length + 1 ≤ maxLen := by simp only [maxLen]; omega
        have hpp := fun x y => set_put (B := (ks.map GKind.e).flatten) (p := i * 2 + 1) (x := x) (y := y) (by rw [flat_lenE GKind.e_len]; omega)
        simp [h3]
        rw [kAt_ren]
        refine awp_draw follows_mix [] [(0, [0, 1, 2]), (0, [0, 1, 2]), (0, [0, 1]), (0, [0, 1]), (0, [0, 1]), (0, [0, 1]), (0, [0, 1]), (0, [0]), (0, [0]), (1, [0]), (1, [1]), (0, [2]), (0, [2]), (1, [2])] 3 (by kernel_rfl) rfl ?_
        simp [hi, hpl, hpl2, hb1, hb2, hpp]
        obtain ⟨F, hF⟩ : ∃ F, ks[i].Fields ++ [m.New] = F := ⟨_, rfl⟩
        have hFl : F.length = ks[i].Fields.length + 1 := by rw [← hF]; simp
        have hFe : (ks[i].Fields.map GField.e).flatten ++ m.New.e = (F.map GField.e).flatten := by rw [← hF]; simp
        rw [hFe, ← hFl]
        refine ops_fz 4 _ ?_
        simp [fzL_set]
        rw [kset ks i hi F]
        obtain ⟨o, ho⟩ : ∃ o, ks.set i ⟨ks[i].Name, F⟩ = o := ⟨_, rfl⟩
        have hol : o.length = ks.length := by rw [← ho]; simp
        have hof : ∀ k ∈ o, k.Fields.length ≤ 9223372036854775807 := fun k hk => by
          rw [← ho] at hk
          rcases List.mem_or_eq_of_mem_set hk with h | h
          · have := hf k h; omega
          · have := hf _ (List.getElem_mem hi); subst h; simp only; omega
        have hok : oneK ks m i (placeM ks m).2.1.toNat = o := by simp [oneK, h3, ← ho, ← hF, hi]
        rw [hok] at hone
        rw [ho, ← hol]
        refine calS (Check_fn o hof (by omega)) ?_
        by_cases hc : checkE o = 0
        · simp [hc]
          refine fin_fz 1 _ ?_
          simp
          exact finm (by simp [hone, hc])
        · simp [hc]
          refine fin_ent (ent_nilsl (t := 4) (z := 2) rfl) ?_
          exact finm (by simp [hone, hc])
      obtain ⟨j, hj, hpj⟩ := hd3.resolve_left (by omega)
      by_cases h4 : m.Do = 4
      · simp only [Int.toNat_natCast] at hone
        rw [hpj] at hone ⊢
        have hpl : i * 2 + 1 < ks.length * 2 := by omega
        have hfl := hf _ (List.getElem_mem hi)
        simp [h4, hi, hpl, kAt_ren]
        rw [wrap_id (by omega) (by omega)]
        refine calD [2] (DeleteF_fn ks[i].Fields j hj (by omega)) ?_
        obtain ⟨F, hF⟩ : ∃ F, ks[i].Fields.take j ++ ks[i].Fields.drop (j + 1) = F := ⟨_, rfl⟩
        have hFl : F.length = ks[i].Fields.length - 1 := by rw [← hF]; simp; omega
        rw [hF, ← hFl]
        have hpl2 : i * 2 + 1 + 1 ≤ ks.length * 2 := by omega
        have hpp := fun x y => set_put (B := (ks.map GKind.e).flatten) (p := i * 2 + 1) (x := x) (y := y) (by rw [flat_lenE GKind.e_len]; omega)
        simp [hi, hpl2, hpp]
        refine ops_ent ((ent_T [(114, .osl 1 2 0 ks.length), (9, .osl 1 2 0 ks.length), (5, kI 0), (4, kNil)]).trans (ent_trunc 2 (F.length * 3))) (ops_goH ?_)
        have htk : ∀ Y, ((F.map GField.e).flatten ++ Y).take (F.length * 3) = (F.map GField.e).flatten := fun Y => List.take_left' (flat_lenE GField.e_len F)
        simp only [List.set_cons_succ, List.set_cons_zero, htk]
        refine ops_fz 2 _ ?_
        simp [fzL_set]
        rw [kset ks i hi F]
        obtain ⟨o, ho⟩ : ∃ o, ks.set i ⟨ks[i].Name, F⟩ = o := ⟨_, rfl⟩
        have hol : o.length = ks.length := by rw [← ho]; simp
        have hof : ∀ k ∈ o, k.Fields.length ≤ 9223372036854775807 := fun k hk => by
          rw [← ho] at hk
          rcases List.mem_or_eq_of_mem_set hk with h | h
          · have := hf k h; omega
          · have := hf _ (List.getElem_mem hi); subst h; simp only; omega
        have hok : oneK ks m i j = o := by simp [oneK, h4, ← ho, ← hF, hi]
        simp only [Int.toNat_natCast] at hone
        rw [hok] at hone
        rw [ho, ← hol]
        refine calS (Check_fn o hof (by omega)) ?_
        by_cases hc : checkE o = 0
        · simp [hc]
          refine fin_fz 1 _ ?_
          simp
          exact finm (by simp [hone, hc])
        · simp [hc]
          refine fin_ent (ent_nilsl (t := 4) (z := 2) rfl) ?_
          exact finm (by simp [hone, hc])
      by_cases h5 : m.Do = 5
      · simp only [Int.toNat_natCast] at hone
        rw [hpj] at hone ⊢
        simp [h5]
        rw [kAt_ren]
        have hpl : i * 2 + 1 < ks.length * 2 := by omega
        have hrow := row_put GField.e_len ks[i].Fields j 0 (kS m.Name) ⟨m.Name, ks[i].Fields[j].Bits, ks[i].Fields[j].Low⟩ hj (by omega) rfl
        refine awp_draw follows_mix [] [(0, [0]), (0, [0]), (0, [0]), (0, [0]), (0, [0]), (0, [0]), (0, [0]), (0, [0]), (0, [0]), (0, [0]), (1, [0])] 1 (by kernel_rfl) rfl ?_
        have hq : j * 3 + 1 ≤ ks[i].Fields.length * 3 := by omega
        simp [hi, hj, hpl, hq]
        simp only [Nat.add_zero] at hrow
        obtain ⟨F, hF⟩ : ∃ F, ks[i].Fields.set j ⟨m.Name, ks[i].Fields[j].Bits, ks[i].Fields[j].Low⟩ = F := ⟨_, rfl⟩
        have hFl : F.length = ks[i].Fields.length := by rw [← hF]; simp
        rw [hrow, hF, ← hFl]
        refine ops_fz 2 _ ?_
        simp [fzL_set]
        rw [kset ks i hi F]
        obtain ⟨o, ho⟩ : ∃ o, ks.set i ⟨ks[i].Name, F⟩ = o := ⟨_, rfl⟩
        have hol : o.length = ks.length := by rw [← ho]; simp
        have hof : ∀ k ∈ o, k.Fields.length ≤ 9223372036854775807 := fun k hk => by
          rw [← ho] at hk
          rcases List.mem_or_eq_of_mem_set hk with h | h
          · have := hf k h; omega
          · have := hf _ (List.getElem_mem hi); subst h; simp only; omega
        have hok : oneK ks m i j = o := by simp [oneK, h5, ← ho, ← hF, hi, hj]
        simp only [Int.toNat_natCast] at hone
        rw [hok] at hone
        rw [ho, ← hol]
        refine calS (Check_fn o hof (by omega)) ?_
        by_cases hc : checkE o = 0
        · simp [hc]
          refine fin_fz 1 _ ?_
          simp
          exact finm (by simp [hone, hc])
        · simp [hc]
          refine fin_ent (ent_nilsl (t := 4) (z := 2) rfl) ?_
          exact finm (by simp [hone, hc])
      have h6 : m.Do = 6 := by omega
      simp only [Int.toNat_natCast] at hone
      rw [hpj] at hone ⊢
      simp [h6]
      rw [kAt_ren]
      have hpl : i * 2 + 1 < ks.length * 2 := by omega
      refine awp_draw follows_mix [] [(0, [0]), (0, [0]), (0, [0]), (0, [0]), (0, [0]), (0, [0]), (0, [0]), (0, [0]), (0, [0]), (0, [0]), (0, [0]), (0, [0, 1]), (0, [0]), (0, [0]), (0, [0]), (0, [0, 1]), (0, [0, 1]), (0, [0, 1]), (0, [0]), (0, [0]), (1, [0]), (0, [1]), (0, [1]), (1, [1])] 2 (by kernel_rfl) rfl ?_
      have hrow1 := row_put GField.e_len ks[i].Fields j 1 (kI m.New.Bits) ⟨ks[i].Fields[j].Name, m.New.Bits, ks[i].Fields[j].Low⟩ hj (by omega) rfl
      obtain ⟨F1, hF1⟩ : ∃ F1, ks[i].Fields.set j ⟨ks[i].Fields[j].Name, m.New.Bits, ks[i].Fields[j].Low⟩ = F1 := ⟨_, rfl⟩
      have hF1l : F1.length = ks[i].Fields.length := by rw [← hF1]; simp
      have hj2 : j < F1.length := by omega
      have hg1 : F1[j] = ⟨ks[i].Fields[j].Name, m.New.Bits, ks[i].Fields[j].Low⟩ := by simp [← hF1]
      have hrow2 := row_put GField.e_len F1 j 2 (kI m.New.Low) ⟨ks[i].Fields[j].Name, m.New.Bits, m.New.Low⟩ hj2 (by omega) (by rw [hg1]; rfl)
      obtain ⟨F, hF⟩ : ∃ F, F1.set j ⟨ks[i].Fields[j].Name, m.New.Bits, m.New.Low⟩ = F := ⟨_, rfl⟩
      have hFl : F.length = ks[i].Fields.length := by rw [← hF]; simp [hF1l]
      rw [← hF1, List.set_set] at hF
      rw [hF1] at hrow1
      have hF2 : F1.set j ⟨ks[i].Fields[j].Name, m.New.Bits, m.New.Low⟩ = F := by rw [← hF1, List.set_set, hF]
      rw [hF2] at hrow2
      have hq1 : j * 3 + 1 + 1 ≤ ks[i].Fields.length * 3 := by omega
      have hq2 : j * 3 + 2 + 1 ≤ F1.length * 3 := by omega
      simp [hi, hj, hpl, hq1, hrow1, hq2, hrow2]
      rw [← hFl]
      refine ops_fz 2 _ ?_
      simp [fzL_set]
      rw [kset ks i hi F]
      obtain ⟨o, ho⟩ : ∃ o, ks.set i ⟨ks[i].Name, F⟩ = o := ⟨_, rfl⟩
      have hol : o.length = ks.length := by rw [← ho]; simp
      have hof : ∀ k ∈ o, k.Fields.length ≤ 9223372036854775807 := fun k hk => by
        rw [← ho] at hk
        rcases List.mem_or_eq_of_mem_set hk with h | h
        · have := hf k h; omega
        · have := hf _ (List.getElem_mem hi); subst h; simp only; omega
      have hok : oneK ks m i j = o := by simp [oneK, h6, ← ho, ← hF, hi, hj]
      simp only [Int.toNat_natCast] at hone
      rw [hok] at hone
      rw [ho, ← hol]
      refine calS (Check_fn o hof (by omega)) ?_
      by_cases hc : checkE o = 0
      · simp [hc]
        refine fin_fz 1 _ ?_
        simp
        exact finm (by simp [hone, hc])
      · simp [hc]
        refine fin_ent (ent_nilsl (t := 4) (z := 2) rfl) ?_
        exact finm (by simp [hone, hc])
  · simp [he]
    refine fin_ent (ent_nilsl (t := 4) (z := 2) rfl) ?_
    exact finm (by simp [oneM, he])
end Go.Proofs.Ytbddlekpoelmkaa.Am
