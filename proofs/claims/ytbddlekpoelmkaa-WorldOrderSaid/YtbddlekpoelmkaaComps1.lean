/- Package migrate: a move on components. -/
import Derived.Test.YtbddlekpoelmkaaMig4
import Derived.Test.YtbddlekpoelmkaaKind7
set_option linter.unusedVariables false
set_option linter.unusedSimpArgs false
namespace Go.Proofs.Ytbddlekpoelmkaa.Am
open Go Go.RowKit

/-- A component after a move; k are the new kinds. -/
def compMv (k : List GKind) (m : GMove) (i j : Nat) (c : GComp) : Option GComp :=
  if m.Do = 1 then if c.Kind = i then none else if (i : Int) < c.Kind then some ⟨c.Kind - 1, c.Vals⟩ else some c
  else if c.Kind = i then
    if m.Do = 3 then some ⟨c.Kind, c.Vals ++ [nearM m.New m.Value]⟩
    else if m.Do = 4 then some ⟨c.Kind, c.Vals.take j ++ c.Vals.drop (j + 1)⟩
    else if m.Do = 6 then some ⟨c.Kind, c.Vals.set j (nearM ((k.getD i k0).Fields.getD j f0) (c.Vals.getD j 0))⟩
    else some c
  else some c
def compsV (k : List GKind) (m : GMove) (i j : Nat) (l : List GComp) : List GComp := l.filterMap (compMv k m i j)

theorem take_fm {α β : Type} (f : α → Option β) {l : List α} {i : Nat} (h : i < l.length) {r : List β} (hr : (f l[i]).toList = r) : (l.take i).filterMap f ++ r = (l.take (i + 1)).filterMap f := by
  rw [← List.take_append_getElem h, List.filterMap_append, ← hr]
  cases hf : f l[i] <;> simp [hf]

theorem flI (l : List Int) : (l.map (fun x : Int => [kI x])).flatten = l.map kI := by induction l with
  | nil => rfl
  | cons x r ih => simp [ih]
theorem DeleteI2_fn (l : List Int) (i : Nat) (hi : i < l.length) (hl : l.length * 8 ≤ 140737488355328) :
    FnD Try.prog 78 [.osl 0 1 0 l.length, kI i, kI ((i : Int) + 1)] [l.map kI] (.osl 0 1 0 (l.length - 1)) [some ((l.take i ++ l.drop (i + 1)).map kI ++ [kI 0])] := by
  have h := DeleteI_fn l i hi hl
  rwa [flI, flI] at h

set_option maxRecDepth 20000 in
theorem mcomps_fn (l : List GComp) (k : List GKind) (m : GMove) (i0 j : Nat) (hl : l.length ≤ 1000000) (hk : k.length ≤ 1000000) (hi0 : i0 ≤ 1000000) (hj0 : j ≤ 1000000)
    (hv : ∀ c ∈ l, c.Vals.length ≤ 1000000 ∧ 0 ≤ c.Kind ∧ c.Kind ≤ 1000000) (h46 : m.Do = 4 ∨ m.Do = 6 → ∀ c ∈ l, c.Kind = i0 → j < c.Vals.length)
    (h6 : m.Do = 6 → ∃ h : i0 < k.length, j < (k[i0]).Fields.length) :
    Fn Try.prog 45 [.sl 2 (l.map GComp.e), .sl 2 (k.map GKind.e), .agg m.e, kI i0, kI j] (.sl 2 ((compsV k m i0 j l).map GComp.e)) := by
  refine fn_go Try.func45 rfl ?_
  simp [Try.ntmps45]
  refine awp_loop (fun x : Nat × List GComp => ⟨101, [(1, .sl 2 (k.map GKind.e)), (3, kI i0), (4, kI j), (7, .ptr 0 0), (11, .osl 1 2 0 x.2.length), (14, .sl 2 (l.map GComp.e)), (15, kI l.length), (16, kI x.1)], [some m.e, some (x.2.map GComp.e).flatten], 0⟩)
    (fun x => x.1 ≤ l.length ∧ x.2 = (l.take x.1).filterMap (compMv k m i0 j)) (fun x => l.length - x.1) (0, []) ?_ ?_ ?_
  · exact (ent_nil (t := 11) (z := 2) rfl).trans (entm [0, 1])
  · simp
  · rintro ⟨i, acc⟩ ⟨hi, hacc⟩
    simp only at hi hacc
    have hal : acc.length ≤ i := by rw [hacc]; exact Nat.le_trans (List.length_filterMap_le _ _) (by simp; omega)
    refine awp_go ?_
    by_cases hlt : i < l.length
    · have hst := fun r hr => take_fm (compMv k m i0 j) hlt (r := r) hr
      rw [← hacc] at hst
      obtain ⟨hv1, hv2, hv3⟩ := hv _ (List.getElem_mem hlt)
      have hj46 := fun h => h46 h _ (List.getElem_mem hlt)
      obtain ⟨c, hc⟩ : ∃ c, l[i] = c := ⟨_, rfl⟩
      rw [hc] at hst hv1 hv2 hv3 hj46
      have hb1 : (acc.length + 1) * 32 ≤ 140737488355328 := by omega
      have hb2 : acc.length + 1 ≤ maxLen := by simp only [maxLen]; omega
      by_cases h1 : m.Do = 1
      · by_cases h2 : c.Kind = i0
        · simp [hlt, hc, h1, h2]
          rw [wrap_id (by omega) (by omega)]
          exact ⟨i + 1, acc, ⟨by omega, by have := hst [] (by simp [compMv, h1, h2]); simpa using this⟩, by omega, entm [0, 1]⟩
        · by_cases h3 : (i0 : Int) < c.Kind
          · have hne : ¬ (c.Kind - 1 = i0) ∨ c.Kind - 1 = i0 := by omega
            simp [hlt, hc, h1, h2, h3]
            rw [wrap_id (by omega) (by omega)]
            rcases hne with hn | hn
            · simp [hn, h1, hb1, hb2]
              rw [wrap_id (by omega) (by omega)]
              exact ⟨i + 1, acc ++ [⟨c.Kind - 1, c.Vals⟩], ⟨by omega, hst _ (by simp [compMv, h1, h2, h3])⟩, by omega, entm [0, 4] (hB := by simp [GComp.e])⟩
            · simp [hn, h1, hb1, hb2]
              rw [wrap_id (by omega) (by omega)]
              exact ⟨i + 1, acc ++ [⟨c.Kind - 1, c.Vals⟩], ⟨by omega, hst _ (by simp [compMv, h1, h2, h3])⟩, by omega, entm [0, 4] (hB := by simp [GComp.e, hn])⟩
          · simp [hlt, hc, h1, h2, h3, hb1, hb2]
            rw [wrap_id (by omega) (by omega)]
            exact ⟨i + 1, acc ++ [c], ⟨by omega, hst _ (by simp [compMv, h1, h2, h3])⟩, by omega, entm [0, 4]⟩
      · by_cases h2 : c.Kind = i0
        · by_cases h3 : m.Do = 3
          · have hv8 : (c.Vals.length + 1) * 8 ≤ 140737488355328 := by omega
            have hvm : c.Vals.length + 1 ≤ maxLen := by simp only [maxLen]; omega
            simp [hlt, hc, h3, h2]
            refine awp_drawS follows_mix [(0, 0), (0, 0), (5, 3), (0, 0), (0, 0), (0, 0), (0, 0), (2, 0), (4, 4), (4, 5), (0, 0), (1, 0)] 3 6 [(2, 3), (2, 4), (2, 5), (2, 6)] (by kernel_rfl) rfl rfl ?_
            simp
            refine gE_call5 (.osl 3 1 0 c.Vals.length) [] (c.Vals.map kI) rfl (fun y => ?_) (by simp) (by simp) (by simp) (by simp) ?_
            · simp
              exact does_fnd [] (CloneI_own c.Vals (by omega)) rfl rfl rfl en_35 rfl (by simp) (by simp) (by simp) (by simp) (by simp) (by simp)
            simp
            refine gE_call (kI (nearM m.New m.Value)) ?_ ?_
            · simp
              exact calO (Near_fn m.New m.Value)
            simp [hv8, hvm, hb1, hb2]
            rw [wrap_id (by omega) (by omega)]
            obtain ⟨V, hV⟩ : ∃ V, c.Vals ++ [nearM m.New m.Value] = V := ⟨_, rfl⟩
            have hVl : V.length = c.Vals.length + 1 := by simp [← hV]
            have hVm : c.Vals.map kI ++ [kI (nearM m.New m.Value)] = V.map kI := by simp [← hV]
            rw [hVm, ← hVl]
            refine ⟨i + 1, acc ++ [⟨c.Kind, V⟩], ⟨by omega, hst _ (by simp [compMv, h1, h2, h3, hV])⟩, by omega, (ent_fz 5 (V.map kI)).trans ?_⟩
            simp
            exact entm [0, 7] (hB := by simp [GComp.e, slI, chunks_ints])
          · by_cases h4 : m.Do = 4
            · simp [hlt, hc, h4, h2]
              refine calD [] (CloneI_own c.Vals (by omega)) ?_ (hren := by simp)
              simp
              rw [wrap_id (by omega) (by omega)]
              have hjv := hj46 (.inl h4) h2
              have hD := DeleteI2_fn c.Vals j hjv (by omega)
              obtain ⟨V, hV⟩ : ∃ V, c.Vals.take j ++ c.Vals.drop (j + 1) = V := ⟨_, rfl⟩
              have hVl : V.length = c.Vals.length - 1 := by simp [← hV]; omega
              rw [hV, ← hVl] at hD
              refine calD [3] hD ?_
              simp [hb1, hb2]
              rw [wrap_id (by omega) (by omega)]
              refine ⟨i + 1, acc ++ [⟨c.Kind, V⟩], ⟨by omega, hst _ (by simp [compMv, h1, h2, h4, hV])⟩, by omega, (ent_trunc 3 V.length).trans ?_⟩
              simp
              refine (ent_fz 3 (V.map kI)).trans ?_
              simp
              exact entm [0, 5] (hB := by simp [GComp.e, slI, chunks_ints])
            · by_cases h7 : m.Do = 6
              · simp [hlt, hc, h7, h2]
                refine calD [] (CloneI_own c.Vals (by omega)) ?_ (hren := by simp)
                simp
                refine awp_draw follows_mix [] [(0, [0]), (0, [0]), (0, [0]), (0, [0]), (0, [0]), (0, [0]), (0, [0]), (0, [0]), (0, [0]), (0, [0]), (0, [0]), (0, [0]), (0, [0]), (0, [0]), (0, [0]), (0, [0]), (2, [0]), (0, [0]), (1, [0])] 1 (by kernel_rfl) rfl ?_
                have hjv := hj46 (.inr h7) h2
                obtain ⟨hik, hjf⟩ := h6 h7
                simp [hjv, hik, hjf]
                refine gD_call (kI (nearM (k[i0]).Fields[j] c.Vals[j])) ?_
                have hjv1 : j + 1 ≤ c.Vals.length := by omega
                simp [hjv, hjv1, hb1, hb2, hik, hjf]
                refine ⟨calO (Near_fn _ _), ?_⟩
                rw [wrap_id (by omega) (by omega)]
                obtain ⟨V, hV⟩ : ∃ V, c.Vals.set j (nearM (k[i0]).Fields[j] c.Vals[j]) = V := ⟨_, rfl⟩
                have hVl : V.length = c.Vals.length := by simp [← hV]
                have hVm : (c.Vals.map kI).take j ++ kI (nearM (k[i0]).Fields[j] c.Vals[j]) :: (c.Vals.map kI).drop (j + 1) = V.map kI := by
                  rw [← hV, List.map_set, List.set_eq_take_append_cons_drop, if_pos (by simpa using hjv)]
                rw [hVm]
                refine ⟨i + 1, acc ++ [⟨c.Kind, V⟩], ⟨by omega, hst _ (by simp [compMv, h1, h2, h7, hik, hjf, hjv, ← hV])⟩, by omega, (ent_fz 3 (V.map kI)).trans ?_⟩
                simp [← hVl]
                exact entm [0, 5] (hB := by simp [GComp.e, slI, chunks_ints])
              · simp [hlt, hc, h1, h2, h3, h4, h7, hb1, hb2]
                rw [wrap_id (by omega) (by omega)]
                exact ⟨i + 1, acc ++ [c], ⟨by omega, hst _ (by simp [compMv, h1, h2, h3, h4, h7])⟩, by omega, entm [0, 4]⟩
        · simp [hlt, hc, h1, h2, hb1, hb2]
          rw [wrap_id (by omega) (by omega)]
          exact ⟨i + 1, acc ++ [c], ⟨by omega, hst _ (by simp [compMv, h1, h2])⟩, by omega, entm [0, 4]⟩
    · have : i = l.length := by omega
      subst this
      simp at hacc
      simp
      refine fin_fz 1 _ ?_
      simp
      exact finm (by simp [compsV, hacc])
end Go.Proofs.Ytbddlekpoelmkaa.Am
