/- What a valid world is. -/
import Derived.Test.YtidhdlhblhbahaaGreatWChk1
set_option linter.unusedVariables false
set_option linter.unusedSimpArgs false
namespace Go.Proofs.YtidhdlhblhbahaaGreat.Am
open Go Go.RowKit

theorem held_cons {ks : List GKind} {last : Int} {c : GComp} {r : List GComp} : heldGo ks last (c :: r) = true ↔ last < c.Kind ∧ c.Kind < ks.length ∧ holdsB (ks.getD c.Kind.toNat k0) c.Vals = true ∧ heldGo ks c.Kind r = true := by
  rw [heldGo]
  split
  · rename_i h
    simp only [Bool.false_eq_true, false_iff]
    rintro ⟨h1, h2, h3, h4⟩
    rcases h with h | h | h
    · omega
    · omega
    · rw [h3] at h; cases h
  · rename_i h
    have h1 : ¬ c.Kind ≤ last := fun e => h (.inl e)
    have h2 : ¬ (ks.length : Int) ≤ c.Kind := fun e => h (.inr (.inl e))
    have h3 : holdsB (ks.getD c.Kind.toNat k0) c.Vals = true := by
      cases e : holdsB (ks.getD c.Kind.toNat k0) c.Vals
      · exact absurd (.inr (.inr e)) h
      · rfl
    exact ⟨fun h4 => ⟨by omega, by omega, h3, h4⟩, fun h4 => h4.2.2.2⟩
theorem items_cons {ks : List GKind} {gs : List Int} {last : Int} {it : GItem} {r : List GItem} : itemsB ks gs last (it :: r) = true ↔
    last < it.Ent.N ∧ it.Ent.N < gs.length ∧ it.Ent.Gen = gs.getD it.Ent.N.toNat 0 ∧ it.Ent.Gen ≠ 1073741824 ∧ heldGo ks (-1) it.Comps = true ∧ itemsB ks gs it.Ent.N r = true := by
  rw [itemsB]
  split
  · rename_i h
    simp only [Bool.false_eq_true, false_iff]
    rintro ⟨h1, h2, h3, h4, h5, h6⟩
    rcases h with h | h | h | h | h
    · omega
    · omega
    · exact h h3
    · exact h4 h
    · rw [h5] at h; cases h
  · rename_i h
    have h1 : ¬ it.Ent.N ≤ last := fun e => h (.inl e)
    have h2 : ¬ (gs.length : Int) ≤ it.Ent.N := fun e => h (.inr (.inl e))
    have h3 : it.Ent.Gen = gs.getD it.Ent.N.toNat 0 := Decidable.byContradiction fun e => h (.inr (.inr (.inl e)))
    have h4 : it.Ent.Gen ≠ 1073741824 := fun e => h (.inr (.inr (.inr (.inl e))))
    have h5 : heldGo ks (-1) it.Comps = true := by
      cases e : heldGo ks (-1) it.Comps
      · exact absurd (.inr (.inr (.inr (.inr e)))) h
      · rfl
    exact ⟨fun h6 => ⟨by omega, by omega, h3, h4, h5, h6⟩, fun h6 => h6.2.2.2.2.2⟩
theorem items_map {ks ks' : List GKind} {gs : List Int} (g : GItem → GItem) (hg1 : ∀ it, (g it).Ent = it.Ent) (hg2 : ∀ it, heldGo ks (-1) it.Comps = true → heldGo ks' (-1) (g it).Comps = true) :
    ∀ {its : List GItem} {last : Int}, itemsB ks gs last its = true → itemsB ks' gs last (its.map g) = true
  | [], _, _ => rfl
  | it :: r, last, h => by
    obtain ⟨h1, h2, h3, h4, h5, h6⟩ := items_cons.1 h
    rw [List.map_cons, items_cons, hg1]
    exact ⟨h1, h2, h3, h4, hg2 _ h5, items_map g hg1 hg2 h6⟩
theorem items_held {ks : List GKind} {gs : List Int} : ∀ {its : List GItem} {last : Int}, itemsB ks gs last its = true → ∀ it ∈ its, heldGo ks (-1) it.Comps = true
  | [], _, _, _, hm => by simp at hm
  | x :: r, last, h, it, hm => by
    obtain ⟨h1, h2, h3, h4, h5, h6⟩ := items_cons.1 h
    rcases List.mem_cons.1 hm with e | hm
    · subst e; exact h5
    · exact items_held h6 it hm
theorem checkW_iff {w : GWorld} : checkW w = 0 ↔ checkE w.Kinds = 0 ∧ w.Gens.length ≤ 256 ∧ w.Items.length ≤ w.Gens.length ∧ w.Gens.any (fun g => decide (g < 0) || decide (1073741824 < g)) = false ∧ itemsB w.Kinds w.Gens (-1) w.Items = true := by
  unfold checkW
  by_cases h1 : checkE w.Kinds = 0
  · by_cases h2 : 256 < w.Gens.length ∨ w.Gens.length < w.Items.length
    · simp only [h1, h2, if_true, ne_eq, not_true_eq_false, if_false, true_and]
      constructor
      · intro h; exact absurd h (by decide)
      · rintro ⟨a, b, _⟩; omega
    · simp only [h1, h2, if_false, ne_eq, not_true_eq_false, true_and]
      have a : w.Gens.length ≤ 256 := by omega
      have b : w.Items.length ≤ w.Gens.length := by omega
      cases h3 : w.Gens.any (fun g => decide (g < 0) || decide (1073741824 < g)) <;> cases h4 : itemsB w.Kinds w.Gens (-1) w.Items <;> simp [a, b]
  · simp [h1]
theorem held_mem {ks : List GKind} : ∀ {l : List GComp} {last : Int}, heldGo ks last l = true → ∀ c ∈ l, last < c.Kind ∧ c.Kind < ks.length ∧ holdsB (ks.getD c.Kind.toNat k0) c.Vals = true
  | [], _, _, _, hm => by simp at hm
  | x :: r, last, h, c, hm => by
    obtain ⟨h1, h2, h3, h4⟩ := held_cons.1 h
    rcases List.mem_cons.1 hm with e | hm
    · subst e; exact ⟨h1, h2, h3⟩
    · obtain ⟨g1, g2⟩ := held_mem h4 c hm
      exact ⟨by omega, g2⟩
theorem held_len {ks : List GKind} : ∀ {l : List GComp} {last : Int}, last < ks.length → heldGo ks last l = true → (l.length : Int) ≤ ks.length - 1 - last
  | [], _, hl, _ => by simp; omega
  | x :: r, last, hl, h => by
    obtain ⟨h1, h2, h3, h4⟩ := held_cons.1 h
    have := held_len h2 h4
    simp only [List.length_cons]; omega
/-- The sizes of a valid world. -/
theorem checkW_fine {w : GWorld} (h : checkW w = 0) : Fine w ∧ ∀ it ∈ w.Items, it.Comps.length ≤ 16 ∧ ∀ c ∈ it.Comps, 0 ≤ c.Kind ∧ c.Kind < w.Kinds.length ∧ holdsB (w.Kinds.getD c.Kind.toNat k0) c.Vals = true ∧ c.Vals.length ≤ 8 := by
  obtain ⟨a, b, c, d, e⟩ := checkW_iff.1 h
  obtain ⟨a1, a2⟩ := checkE_le a
  have key : ∀ it ∈ w.Items, it.Comps.length ≤ 16 ∧ ∀ c ∈ it.Comps, 0 ≤ c.Kind ∧ c.Kind < w.Kinds.length ∧ holdsB (w.Kinds.getD c.Kind.toNat k0) c.Vals = true ∧ c.Vals.length ≤ 8 := fun it hm => by
    have hh := items_held e it hm
    refine ⟨by have := held_len (by omega) hh; omega, fun c hc => ?_⟩
    obtain ⟨g1, g2, g3⟩ := held_mem hh c hc
    refine ⟨by omega, g2, g3, ?_⟩
    obtain ⟨_, e2, _⟩ := holds_iff.1 g3
    have hn : c.Kind.toNat < w.Kinds.length := by omega
    have := a2 _ (List.getElem_mem hn)
    simp only [List.getD, List.getElem?_eq_getElem hn, Option.getD_some] at e2
    omega
  exact ⟨⟨by omega, fun k hk => by have := a2 k hk; omega, by omega, by omega, fun it hm => by have := (key it hm).1; omega, fun it hm c hc => by have := ((key it hm).2 c hc).2.2.2; omega⟩, key⟩
end Go.Proofs.YtidhdlhblhbahaaGreat.Am
