/- Tables: what add keeps, in plain Lean. -/
import Derived.Test.YtidhdlhblhbahaaGreatArc2
set_option linter.unusedVariables false
set_option linter.unusedSimpArgs false
namespace Go.Proofs.YtidhdlhblhbahaaGreat.Am
open Go Go.RowKit

theorem cmpI_anti (a b : Int) : cmpI b a = - cmpI a b := by unfold cmpI; repeat' split <;> omega
theorem cmpI_tri (a b : Int) : (cmpI a b = -1 ∧ a < b) ∨ (cmpI a b = 0 ∧ a = b) ∨ (cmpI a b = 1 ∧ b < a) := by unfold cmpI; repeat' split <;> omega
theorem cmpL_anti : ∀ (x y : List Int), cmpL y x = - cmpL x y
  | [], [] => rfl
  | [], _ :: _ => rfl
  | _ :: _, [] => rfl
  | a :: x, b :: y => by
    rw [cmpL_cons, cmpL_cons, cmpI_anti a b, cmpL_anti x y]
    by_cases h : cmpI a b = 0
    · rw [if_pos h, if_pos (by omega)]
    · rw [if_neg h, if_neg (by omega)]
theorem cmpL_trans : ∀ {x y z : List Int}, cmpL x y < 0 → cmpL y z < 0 → cmpL x z < 0
  | [], [], z, h, _ => by simp [cmpL] at h
  | _ :: _, [], z, h, _ => by simp [cmpL] at h
  | _, _ :: _, [], _, h => by simp [cmpL] at h
  | [], _ :: _, _ :: _, _, _ => by simp [cmpL]
  | a :: x, b :: y, c :: z, h1, h2 => by
    rw [cmpL_cons] at h1 h2 ⊢
    have ih := @cmpL_trans x y z
    rcases cmpI_tri a b with ⟨e1, k1⟩ | ⟨e1, k1⟩ | ⟨e1, k1⟩ <;> rcases cmpI_tri b c with ⟨e2, k2⟩ | ⟨e2, k2⟩ | ⟨e2, k2⟩ <;> rcases cmpI_tri a c with ⟨e3, k3⟩ | ⟨e3, k3⟩ | ⟨e3, k3⟩ <;>
      simp [e1] at h1 <;> simp [e2] at h2 <;> simp [e3] <;> first | omega | exact ih h1 h2

theorem tabI_spec {tabs : List (Nat × GTab)} (hs : tabs.Pairwise fun x y => cmpL x.2.kinds y.2.kinds < 0) (ks : List Int) :
    tabI tabs ks ≤ tabs.length ∧ (∀ x ∈ tabs.take (tabI tabs ks), cmpL x.2.kinds ks < 0) ∧ (tabB tabs ks = false → ∀ x ∈ tabs.drop (tabI tabs ks), cmpL ks x.2.kinds < 0) := by
  have hpw := List.pairwise_iff_getElem.1 hs
  obtain ⟨p, hp⟩ : ∃ p, tabs.findIdx (fun x => !decide (cmpL x.2.kinds ks < 0)) = p := ⟨_, rfl⟩
  have hpl : p ≤ tabs.length := by rw [← hp]; exact List.findIdx_le_length
  have hlt : ∀ j (hj : j < tabs.length), j < p → cmpL tabs[j].2.kinds ks < 0 := fun j hj h => by
    rw [← hp] at h
    have := List.not_of_lt_findIdx h
    simpa using this
  have hge : ∀ (h : p < tabs.length), ¬ cmpL tabs[p].2.kinds ks < 0 := fun h => by
    have := List.findIdx_getElem (xs := tabs) (p := fun x => !decide (cmpL x.2.kinds ks < 0)) (w := by rw [hp]; exact h)
    simp only [hp] at this
    simpa using this
  have hbs : tabI tabs ks = p := bs_eq p hpl fun j hj => ⟨fun h => by
    rcases Nat.lt_or_ge j p with h' | h'
    · exact h'
    · exfalso
      rcases Nat.eq_or_lt_of_le h' with e | h''
      · subst e; exact hge hj h
      · exact hge (by omega) (cmpL_trans (hpw p j (by omega) hj h'') h), fun h => hlt j hj h⟩
  rw [hbs]
  refine ⟨hpl, fun x hx => ?_, fun hB x hx => ?_⟩
  · obtain ⟨j, hj, rfl⟩ := List.getElem_of_mem hx
    rw [List.getElem_take]
    rw [List.length_take] at hj
    exact hlt j (by omega) (by omega)
  · obtain ⟨j, hj, rfl⟩ := List.getElem_of_mem hx
    rw [List.getElem_drop]
    rw [List.length_drop] at hj
    have hp0 : p < tabs.length := by omega
    have h0 : cmpL tabs[p].2.kinds ks ≠ 0 := fun h => by
      unfold tabB bsOk at hB
      have hbs' : bs (fun x : Nat × GTab => cmpL x.2.kinds ks) tabs = p := hbs
      rw [hbs', List.getElem?_eq_getElem hp0] at hB
      simp [h] at hB
    have h1 := hge hp0
    have h2 : cmpL ks tabs[p].2.kinds < 0 := by rw [cmpL_anti]; omega
    by_cases hj0 : j = 0
    · subst hj0; exact h2
    · exact cmpL_trans h2 (hpw p (p + j) hp0 (by omega) (by omega))

theorem addP {tabs A B : List (Nat × GTab)} {oks : List Int} {ofT : Int → Nat} {t : Nat} {T : GTab} {it : GItem} (hP : ArchP tabs oks ofT) (hid : ((A ++ (t, T) :: B).map fun x => x.1).Nodup) (htk : it.Comps.map GComp.Kind = T.kinds) (hkl : T.kinds.length ≤ 1000)
    (hw : tabs = A ++ (t, T) :: B ∨ (T.rows = [] ∧ tabs = A ++ B ∧ (∀ x ∈ A, cmpL x.2.kinds T.kinds < 0) ∧ ∀ x ∈ B, cmpL T.kinds x.2.kinds < 0)) (hn : 0 ≤ it.Ent.N ∧ it.Ent.N < 256) (hnew : it.Ent.N ∉ oks) :
    ArchP (A ++ (t, ⟨T.kinds, T.rows ++ [it]⟩) :: B) (oks ++ [it.Ent.N]) (fun n => if n = it.Ent.N then t else ofT n) ∧ ((A ++ (t, (⟨T.kinds, T.rows ++ [it]⟩ : GTab)) :: B).flatMap fun x => x.2.rows).Perm ((tabs.flatMap fun x => x.2.rows) ++ [it]) := by
  have hAB : ∀ x, x ∈ A ++ B → x ∈ tabs := fun x hx => by
    rcases hw with h | ⟨_, h, _⟩ <;> rw [h]
    · rcases List.mem_append.1 hx with h | h
      · exact List.mem_append_left _ h
      · exact List.mem_append_right _ (List.mem_cons_of_mem _ h)
    · exact hx
  have hT : (t, T) ∈ tabs ∨ T.rows = [] := by
    rcases hw with h | ⟨h, _⟩
    · rw [h]; exact .inl (by simp)
    · exact .inr h
  have hmem : ∀ x, x ∈ A ++ (t, (⟨T.kinds, T.rows ++ [it]⟩ : GTab)) :: B ↔ x ∈ A ++ B ∨ x = (t, ⟨T.kinds, T.rows ++ [it]⟩) := fun x => by
    simp only [List.mem_append, List.mem_cons]
    constructor
    · rintro (h | h | h)
      · exact .inl (.inl h)
      · exact .inr h
      · exact .inl (.inr h)
    · rintro ((h | h) | h)
      · exact .inl h
      · exact .inr (.inr h)
      · exact .inr (.inl h)
  have hsl : (⟨T.kinds, T.rows ++ [it]⟩ : GTab).slots = T.slots ++ [it.Ent.N] := by simp [GTab.slots]
  have hTs : ∀ n ∈ T.slots, (t, T) ∈ tabs := fun n hn => by
    rcases hT with h | h
    · exact h
    · simp [GTab.slots, h] at hn
  have hin : ∀ x ∈ tabs, ∀ n ∈ x.2.slots, n ∈ oks := fun x hx n hn => (hP.okm n).2 ⟨x, hx, hn⟩
  refine ⟨⟨?_, ?_, ?_, ?_, ?_, ?_, ?_, ?_⟩, ?_⟩
  · simpa using hid
  · have h1 : (A ++ (t, T) :: B).Pairwise fun x y => cmpL x.2.kinds y.2.kinds < 0 := by
      rcases hw with h | ⟨_, h, h2, h3⟩
      · rw [← h]; exact hP.srt
      · have hs := hP.srt
        rw [h, List.pairwise_append] at hs
        rw [List.pairwise_append]
        refine ⟨hs.1, List.pairwise_cons.2 ⟨h3, hs.2.1⟩, fun x hx y hy => ?_⟩
        rcases List.mem_cons.1 hy with e | hy
        · subst e; exact h2 x hx
        · exact hs.2.2 x hx y hy
    rw [List.pairwise_append] at h1 ⊢
    refine ⟨h1.1, ?_, fun x hx y hy => ?_⟩
    · have := List.pairwise_cons.1 h1.2.1
      exact List.pairwise_cons.2 this
    · rcases List.mem_cons.1 hy with e | hy
      · subst e; exact h1.2.2 x hx (t, T) (by simp)
      · exact h1.2.2 x hx y (List.mem_cons_of_mem _ hy)
  · intro x hx i hi
    rcases (hmem x).1 hx with h | h
    · exact hP.row x (hAB x h) i hi
    · subst h
      rcases List.mem_append.1 hi with h | h
      · rcases hT with h' | h'
        · exact hP.row _ h' i h
        · rw [h'] at h; simp at h
      · have : i = it := by simpa using h
        subst this
        exact ⟨htk, hn⟩
  · intro x hx
    rcases (hmem x).1 hx with h | h
    · exact hP.ne x (hAB x h)
    · subst h; simp
  · intro x hx
    rcases (hmem x).1 hx with h | h
    · exact hP.kl x (hAB x h)
    · subst h; exact hkl
  · exact List.nodup_append.2 ⟨hP.okn, by simp, fun a ha b hb e => hnew (by simp at hb; rw [← hb, ← e]; exact ha)⟩
  · intro n
    rw [List.mem_append]
    constructor
    · rintro (h | h)
      · obtain ⟨x, hx, hnx⟩ := (hP.okm n).1 h
        by_cases hxx : x ∈ A ++ B
        · exact ⟨x, (hmem x).2 (.inl hxx), hnx⟩
        · have : x = (t, T) := by
            rcases hw with h | ⟨_, h, _⟩
            · rw [h] at hx
              simp only [List.mem_append, List.mem_cons] at hx hxx
              rcases hx with h | h | h
              · exact absurd (.inl h) hxx
              · exact h
              · exact absurd (.inr h) hxx
            · rw [h] at hx; exact absurd hx hxx
          subst this
          exact ⟨_, (hmem _).2 (.inr rfl), by rw [hsl]; exact List.mem_append_left _ hnx⟩
      · have : n = it.Ent.N := by simpa using h
        subst this
        exact ⟨_, (hmem _).2 (.inr rfl), by rw [hsl]; simp⟩
    · rintro ⟨x, hx, hnx⟩
      rcases (hmem x).1 hx with h | h
      · exact .inl (hin x (hAB x h) n hnx)
      · subst h
        rw [hsl] at hnx
        rcases List.mem_append.1 hnx with h | h
        · exact .inl (hin _ (hTs n h) n h)
        · exact .inr h
  · intro x hx n hnx
    rcases (hmem x).1 hx with h | h
    · have h1 := hin x (hAB x h) n hnx
      rw [if_neg fun e => hnew (by rw [← e]; exact h1)]
      exact hP.oft x (hAB x h) n hnx
    · subst h
      rw [hsl] at hnx
      rcases List.mem_append.1 hnx with h | h
      · have h1 := hin _ (hTs n h) n h
        rw [if_neg fun e => hnew (by rw [← e]; exact h1)]
        exact hP.oft _ (hTs n h) n h
      · rw [if_pos (by simpa using h)]
  · have e1 : (tabs.flatMap fun x => x.2.rows) = (A.flatMap fun x => x.2.rows) ++ (T.rows ++ (B.flatMap fun x => x.2.rows)) := by
      rcases hw with h | ⟨h1, h, _⟩ <;> rw [h]
      · simp
      · simp [h1]
    rw [e1]
    simp only [List.flatMap_append, List.flatMap_cons, List.append_assoc]
    refine List.Perm.append_left _ (List.Perm.append_left _ ?_)
    exact List.perm_append_comm
end Go.Proofs.YtidhdlhblhbahaaGreat.Am
