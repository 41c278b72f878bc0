/- Package migrate: moves on worlds. -/
import Derived.Test.YtbddlekpoelmkaaMig5
set_option linter.unusedVariables false
set_option linter.unusedSimpArgs false
namespace Go.Proofs.Ytbddlekpoelmkaa.Am
open Go Go.RowKit

def moveIt (ks : List GKind) (m : GMove) (it : GItem) : GItem := ⟨it.Ent, compsV (oneM ks m).1 m (placeM ks m).1.toNat (placeM ks m).2.1.toNat it.Comps⟩
def stepW (w : GWorld) (m : GMove) : GWorld := ⟨(oneM w.Kinds m).1, w.Gens, w.Items.map (moveIt w.Kinds m)⟩
def stepAll (w : GWorld) (l : List GMove) : GWorld := l.foldl stepW w
def w0 : GWorld := ⟨[], [], []⟩
def worldMv (w : GWorld) (l : List GMove) : GWorld × Int :=
  if checkW w ≠ 0 then (w0, checkW w) else if (kindsMv w.Kinds l).2 ≠ 0 then (w0, (kindsMv w.Kinds l).2) else (stepAll w l, 0)

theorem items_cons {ks : List GKind} {gs : List Int} {last : Int} {it : GItem} {r : List GItem} : itemsB ks gs last (it :: r) = true ↔
    last < it.Ent.N ∧ it.Ent.N < gs.length ∧ it.Ent.Gen = gs.getD it.Ent.N.toNat 0 ∧ it.Ent.Gen ≠ 1073741824 ∧ heldGo ks (-1) it.Comps = true ∧ itemsB ks gs it.Ent.N r = true := by
  rw [itemsB]
  split
  · rename_i h
    simp only [Bool.false_eq_true, false_iff]
    rintro ⟨h1, h2, h3, h4, h5, h6⟩
    rcases h with h | h | h | h | h
    · omega
    · omega
    · exact h h3
    · exact h4 h
    · rw [h5] at h; cases h
  · rename_i h
    have h1 : ¬ it.Ent.N ≤ last := fun e => h (.inl e)
    have h2 : ¬ (gs.length : Int) ≤ it.Ent.N := fun e => h (.inr (.inl e))
    have h3 : it.Ent.Gen = gs.getD it.Ent.N.toNat 0 := Decidable.byContradiction fun e => h (.inr (.inr (.inl e)))
    have h4 : it.Ent.Gen ≠ 1073741824 := fun e => h (.inr (.inr (.inr (.inl e))))
    have h5 : heldGo ks (-1) it.Comps = true := by
      cases e : heldGo ks (-1) it.Comps
      · exact absurd (.inr (.inr (.inr (.inr e)))) h
      · rfl
    exact ⟨fun h6 => ⟨by omega, by omega, h3, h4, h5, h6⟩, fun h6 => h6.2.2.2.2.2⟩
theorem items_map {ks ks' : List GKind} {gs : List Int} (g : GItem → GItem) (hg1 : ∀ it, (g it).Ent = it.Ent) (hg2 : ∀ it, heldGo ks (-1) it.Comps = true → heldGo ks' (-1) (g it).Comps = true) :
    ∀ {its : List GItem} {last : Int}, itemsB ks gs last its = true → itemsB ks' gs last (its.map g) = true
  | [], _, _ => rfl
  | it :: r, last, h => by
    obtain ⟨h1, h2, h3, h4, h5, h6⟩ := items_cons.1 h
    rw [List.map_cons, items_cons, hg1]
    exact ⟨h1, h2, h3, h4, hg2 _ h5, items_map g hg1 hg2 h6⟩
theorem items_held {ks : List GKind} {gs : List Int} : ∀ {its : List GItem} {last : Int}, itemsB ks gs last its = true → ∀ it ∈ its, heldGo ks (-1) it.Comps = true
  | [], _, _, _, hm => by simp at hm
  | x :: r, last, h, it, hm => by
    obtain ⟨h1, h2, h3, h4, h5, h6⟩ := items_cons.1 h
    rcases List.mem_cons.1 hm with e | hm
    · subst e; exact h5
    · exact items_held h6 it hm
theorem checkW_iff {w : GWorld} : checkW w = 0 ↔ checkE w.Kinds = 0 ∧ w.Gens.length ≤ 256 ∧ w.Items.length ≤ w.Gens.length ∧ w.Gens.any (fun g => decide (g < 0) || decide (1073741824 < g)) = false ∧ itemsB w.Kinds w.Gens (-1) w.Items = true := by
  unfold checkW
  by_cases h1 : checkE w.Kinds = 0
  · by_cases h2 : 256 < w.Gens.length ∨ w.Gens.length < w.Items.length
    · simp only [h1, h2, if_true, ne_eq, not_true_eq_false, if_false, true_and]
      constructor
      · intro h; exact absurd h (by decide)
      · rintro ⟨a, b, _⟩; omega
    · simp only [h1, h2, if_false, ne_eq, not_true_eq_false, true_and]
      have a : w.Gens.length ≤ 256 := by omega
      have b : w.Items.length ≤ w.Gens.length := by omega
      cases h3 : w.Gens.any (fun g => decide (g < 0) || decide (1073741824 < g)) <;> cases h4 : itemsB w.Kinds w.Gens (-1) w.Items <;> simp [a, b]
  · simp [h1]
theorem checkW_step {w : GWorld} {m : GMove} (h : checkW w = 0) (h1 : (oneM w.Kinds m).2 = 0) : checkW (stepW w m) = 0 := by
  obtain ⟨a, b, c, d, e⟩ := checkW_iff.1 h
  exact checkW_iff.2 ⟨oneM_ok h1, b, by simpa [stepW] using c, d, items_map (moveIt w.Kinds m) (fun _ => rfl) (fun it hi => held_move h1 hi) e⟩

theorem held_mem {ks : List GKind} : ∀ {l : List GComp} {last : Int}, heldGo ks last l = true → ∀ c ∈ l, last < c.Kind ∧ c.Kind < ks.length ∧ holdsB (ks.getD c.Kind.toNat k0) c.Vals = true
  | [], _, _, _, hm => by simp at hm
  | x :: r, last, h, c, hm => by
    obtain ⟨h1, h2, h3, h4⟩ := held_cons.1 h
    rcases List.mem_cons.1 hm with e | hm
    · subst e; exact ⟨h1, h2, h3⟩
    · obtain ⟨g1, g2⟩ := held_mem h4 c hm
      exact ⟨by omega, g2⟩
theorem held_len {ks : List GKind} : ∀ {l : List GComp} {last : Int}, last < ks.length → heldGo ks last l = true → (l.length : Int) ≤ ks.length - 1 - last
  | [], _, hl, _ => by simp; omega
  | x :: r, last, hl, h => by
    obtain ⟨h1, h2, h3, h4⟩ := held_cons.1 h
    have := held_len h2 h4
    simp only [List.length_cons]; omega
/-- The sizes of a valid world. -/
theorem checkW_fine {w : GWorld} (h : checkW w = 0) : Fine w ∧ ∀ it ∈ w.Items, it.Comps.length ≤ 16 ∧ ∀ c ∈ it.Comps, 0 ≤ c.Kind ∧ c.Kind < w.Kinds.length ∧ holdsB (w.Kinds.getD c.Kind.toNat k0) c.Vals = true ∧ c.Vals.length ≤ 8 := by
  obtain ⟨a, b, c, d, e⟩ := checkW_iff.1 h
  obtain ⟨a1, a2⟩ := checkE_le a
  have key : ∀ it ∈ w.Items, it.Comps.length ≤ 16 ∧ ∀ c ∈ it.Comps, 0 ≤ c.Kind ∧ c.Kind < w.Kinds.length ∧ holdsB (w.Kinds.getD c.Kind.toNat k0) c.Vals = true ∧ c.Vals.length ≤ 8 := fun it hm => by
    have hh := items_held e it hm
    refine ⟨by have := held_len (by omega) hh; omega, fun c hc => ?_⟩
    obtain ⟨g1, g2, g3⟩ := held_mem hh c hc
    refine ⟨by omega, g2, g3, ?_⟩
    obtain ⟨_, e2, _⟩ := holds_iff.1 g3
    have hn : c.Kind.toNat < w.Kinds.length := by omega
    have := a2 _ (List.getElem_mem hn)
    simp only [List.getD, List.getElem?_eq_getElem hn, Option.getD_some] at e2
    omega
  exact ⟨⟨by omega, fun k hk => by have := a2 k hk; omega, by omega, by omega, fun it hm => by have := (key it hm).1; omega, fun it hm c hc => by have := ((key it hm).2 c hc).2.2.2; omega⟩, key⟩

theorem placeM_nat {ks : List GKind} {m : GMove} (hl : ks.length ≤ 1000) (hf : ∀ k ∈ ks, k.Fields.length ≤ 1000) (h : (placeM ks m).2.2 = 0) : ∃ i j : Nat, (placeM ks m).1 = i ∧ (placeM ks m).2.1 = j ∧ i ≤ 1000 ∧ j ≤ 1000 := by
  unfold placeM at h ⊢
  split
  · exact ⟨0, 0, rfl, rfl, by omega, by omega⟩
  · split
    · exact ⟨0, 0, rfl, rfl, by omega, by omega⟩
    · cases hk : ks.findIdx? (fun k => decide (k.Name = m.Kind)) with
      | none => exact ⟨0, 0, rfl, rfl, by omega, by omega⟩
      | some i =>
        have hi : i < ks.length := (List.findIdx?_eq_some_iff_getElem.1 hk).1
        simp only
        by_cases h3 : m.Do ≤ 3
        · rw [if_pos h3]; exact ⟨i, 0, rfl, rfl, by omega, by omega⟩
        · rw [if_neg h3]
          have hg : ks.getD i ⟨⟨#[]⟩, []⟩ = ks[i] := by simp [List.getD, hi]
          rw [hg]
          cases hj : ks[i].Fields.findIdx? (fun f => decide (f.Name = m.Field)) with
          | none => exact ⟨0, 0, rfl, rfl, by omega, by omega⟩
          | some j =>
            have := hf _ (List.getElem_mem hi)
            have hj2 := (List.findIdx?_eq_some_iff_getElem.1 hj).1
            exact ⟨i, j, rfl, rfl, by omega, by omega⟩

/-- What mcomps_fn wants of a move. -/
theorem move_cond {ks : List GKind} {m : GMove} (h : (oneM ks m).2 = 0) {l : List GComp} (hl : heldGo ks (-1) l = true) {i j : Nat} (hi : (placeM ks m).1 = i) (hj : (placeM ks m).2.1 = j) :
    (m.Do = 4 ∨ m.Do = 6 → ∀ c ∈ l, c.Kind = i → j < c.Vals.length) ∧ (m.Do = 6 → ∃ h : i < (oneM ks m).1.length, j < ((oneM ks m).1[i]).Fields.length) := by
  obtain ⟨hp, ho, hc⟩ := oneM_spec h
  rcases placeM_ok hp with h0 | ⟨i2, hi2, hpi, hd1, hd2, hd3⟩
  · exact ⟨fun h1 => by omega, fun h1 => by omega⟩
  · have e : i2 = i := by omega
    subst e
    refine ⟨fun h1 c hm hk => ?_, fun h1 => ?_⟩
    · obtain ⟨j2, hj2, hpj⟩ := hd3.resolve_left (by omega)
      have e : j2 = j := by omega
      subst e
      obtain ⟨_, _, g3⟩ := held_mem hl c hm
      obtain ⟨_, g4, _⟩ := holds_iff.1 g3
      rw [hk] at g4
      simp [List.getD, hi2] at g4
      omega
    · obtain ⟨j2, hj2, hpj⟩ := hd3.resolve_left (by omega)
      have e : j2 = j := by omega
      subst e
      have hx : (oneM ks m).1 = ks.set i2 ⟨(ks[i2]).Name, (ks[i2]).Fields.set j2 ⟨((ks[i2]).Fields.getD j2 f0).Name, m.New.Bits, m.New.Low⟩⟩ := by rw [ho, hpi, hpj]; simp [oneK, h1, hi2]
      refine ⟨by rw [hx]; simpa using hi2, ?_⟩
      simp only [hx, List.getElem_set_self, List.length_set]
      exact hj2
end Go.Proofs.Ytbddlekpoelmkaa.Am
