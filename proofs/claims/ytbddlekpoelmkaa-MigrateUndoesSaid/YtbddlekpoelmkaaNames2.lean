/- Moves that only give names: the plain law. -/
import Derived.Test.YtbddlekpoelmkaaWLaw1
import Derived.Test.YtbddlekpoelmkaaMoves2
set_option linter.unusedVariables false
set_option linter.unusedSimpArgs false
namespace Go.Proofs.Ytbddlekpoelmkaa.Am
open Go Go.RowKit

theorem nmM_all : ∀ a b : Fin 26, nameB ((⟨#[110]⟩ : Str) ++ strOfNums [97 + (a.val : Int), 97 + (b.val : Int)]) = true := by decide +kernel
theorem nmM_ok (n i : Int) : nameB (nmM n i) = true := by
  have b1 := Int.emod_nonneg i (b := 26) (by omega)
  have b2 := Int.emod_lt_of_pos i (b := 26) (by omega)
  have b3 := Int.emod_nonneg n (b := 26) (by omega)
  have b4 := Int.emod_lt_of_pos n (b := 26) (by omega)
  obtain ⟨a, ha⟩ : ∃ a : Nat, i % 26 = a := ⟨(i % 26).toNat, by omega⟩
  obtain ⟨b, hb⟩ : ∃ b : Nat, n % 26 = b := ⟨(n % 26).toNat, by omega⟩
  have := nmM_all ⟨a, by omega⟩ ⟨b, by omega⟩
  unfold nmM
  rw [ha, hb]
  exact this

theorem movesGo_mem : ∀ (l : List Int) (i : Int) (k : List GKind) (out : List GMove), (∀ x ∈ out, (nameB x.Name = true ∧ x.Whole.Fields.length ≤ 1)) → out.length ≤ 6 → (∀ x ∈ movesGo l i k out, (nameB x.Name = true ∧ x.Whole.Fields.length ≤ 1)) ∧ (movesGo l i k out).length ≤ 6
  | a :: b :: c :: r, i, k, out, h, hl => by
    rw [movesGo]
    split
    · rename_i h1
      split
      · exact movesGo_mem r _ _ _ (fun x hx => by
          rcases List.mem_append.1 hx with hx | hx
          · exact h x hx
          · obtain rfl := List.mem_singleton.1 hx; exact ⟨nmM_ok _ _, by simp [moveM]⟩) (by simp; omega)
      · exact movesGo_mem r _ _ _ h hl
    · exact ⟨h, hl⟩
  | [], _, _, _, h, hl => ⟨h, hl⟩
  | [_], _, _, _, h, hl => ⟨h, hl⟩
  | [_, _], _, _, _, h, hl => ⟨h, hl⟩
theorem movesM_mem (k : List GKind) (l : List Int) : (∀ x ∈ movesM k l, (nameB x.Name = true ∧ x.Whole.Fields.length ≤ 1)) ∧ (movesM k l).length ≤ 6 := movesGo_mem l 0 k [] (by simp) (by simp)

theorem checkGo_05 : ∀ {l pre : List GKind}, (∀ k ∈ l, oneE k = 0) → checkGo pre l = 0 ∨ checkGo pre l = 5
  | [], _, _ => .inl rfl
  | x :: r, pre, h => by
    rw [checkGo, if_neg (by simp [h x (List.mem_cons_self ..)])]
    split
    · exact .inr rfl
    · exact checkGo_05 fun k hk => h k (List.mem_cons_of_mem _ hk)
theorem oneE_name {k : GKind} {nm : Str} (h : oneE k = 0) (hn : nameB nm = true) : oneE ⟨nm, k.Fields⟩ = 0 := by
  unfold oneE at h ⊢
  split at h
  · rw [if_pos hn]; exact h
  · simp at h
theorem oneM_name {ks : List GKind} {m : GMove} (hc : checkE ks = 0) (hd : m.Do = 2) (hn : nameB m.Name = true) : (oneM ks m).2 = 0 ∨ (oneM ks m).2 = 4 ∨ (oneM ks m).2 = 5 := by
  by_cases hp : (placeM ks m).2.2 = 0
  · rcases placeM_ok hp with h0 | ⟨i, hi, hpi, _⟩
    · omega
    · have hK : oneK ks m (placeM ks m).1.toNat (placeM ks m).2.1.toNat = ks.set i ⟨m.Name, (ks[i]).Fields⟩ := by rw [hpi]; simp [oneK, hd, hi]
      have hall : ∀ k ∈ ks.set i ⟨m.Name, (ks[i]).Fields⟩, oneE k = 0 := fun k hk => by
        rcases List.mem_or_eq_of_mem_set hk with h | h
        · exact checkE_one hc k h
        · subst h; exact oneE_name (checkE_one hc _ (List.getElem_mem hi)) hn
      have hE : checkE (ks.set i ⟨m.Name, (ks[i]).Fields⟩) = 0 ∨ checkE (ks.set i ⟨m.Name, (ks[i]).Fields⟩) = 5 := by
        have hl := (checkE_le hc).1
        unfold checkE
        rw [if_neg (by simpa using hl)]
        exact checkGo_05 hall
      unfold oneM
      rw [if_neg (by simp [hp]), hK]
      rcases hE with hE | hE
      · rw [if_neg (by simp [hE])]; exact .inl rfl
      · rw [if_pos (by simp [hE])]; exact .inr (.inr hE)
  · have h4 : (placeM ks m).2.2 = 4 := by
      unfold placeM at hp ⊢
      rw [if_neg (by omega), if_neg (by omega)] at hp ⊢
      cases hk : ks.findIdx? (fun k => decide (k.Name = m.Kind)) with
      | none => rfl
      | some i =>
        rw [hk] at hp
        simp only [if_pos (show m.Do ≤ 3 by omega)] at hp
        exact absurd trivial hp
    unfold oneM
    rw [if_pos hp]
    exact .inr (.inl h4)
theorem kindsGo_name : ∀ {A : List GMove} {ks : List GKind}, (∀ x ∈ A, x.Do = 2 ∧ nameB x.Name = true) → checkE ks = 0 → (kindsGo ks A).2 = 0 ∨ (kindsGo ks A).2 = 4 ∨ (kindsGo ks A).2 = 5
  | [], _, _, _ => .inl rfl
  | m :: r, ks, h, hc => by
    obtain ⟨h1, h2⟩ := h m (List.mem_cons_self ..)
    rw [kindsGo]
    split
    · exact oneM_name hc h1 h2
    · rename_i h3
      exact kindsGo_name (fun x hx => h x (List.mem_cons_of_mem _ hx)) (oneM_ok (by omega))
theorem step_name {w : GWorld} {m : GMove} (hd : m.Do = 2) : (stepW w m).Items = w.Items ∧ (stepW w m).Gens = w.Gens := by
  refine ⟨?_, rfl⟩
  show w.Items.map (moveIt w.Kinds m) = w.Items
  have : ∀ it, moveIt w.Kinds m it = it := fun it => by
    have : ∀ (k : List GKind) (i j : Nat) (l : List GComp), compsV k m i j l = l := fun k i j l => by
      unfold compsV
      induction l with
      | nil => rfl
      | cons c r ih => rw [List.filterMap_cons_some (b := c) (by simp [compMv, hd]), ih]
    unfold moveIt
    rw [this]
  rw [List.map_congr_left (fun it _ => this it), List.map_id']
theorem stepAll_name : ∀ {A : List GMove} {w : GWorld}, (∀ x ∈ A, x.Do = 2 ∧ nameB x.Name = true) → (stepAll w A).Items = w.Items ∧ (stepAll w A).Gens = w.Gens
  | [], _, _ => ⟨rfl, rfl⟩
  | m :: r, w, h => by
    obtain ⟨h1, h2⟩ := step_name (w := w) (h m (List.mem_cons_self ..)).1
    obtain ⟨h3, h4⟩ := stepAll_name (A := r) (w := stepW w m) (fun x hx => h x (List.mem_cons_of_mem _ hx))
    exact ⟨h3.trans h1, h4.trans h2⟩
theorem world_name {w : GWorld} {A : List GMove} (hw : checkW w = 0) (hA : ∀ x ∈ A, x.Do = 2 ∧ nameB x.Name = true) (hl : A.length ≤ 100) :
    ((worldMv w A).2 = 0 ∧ (worldMv w A).1.Items = w.Items ∧ (worldMv w A).1.Gens = w.Gens) ∨ (worldMv w A).2 = 4 ∨ (worldMv w A).2 = 5 := by
  obtain ⟨ce, _⟩ := checkW_iff.1 hw
  have hk : kindsMv w.Kinds A = kindsGo w.Kinds A := by
    unfold kindsMv
    rw [if_neg (by simp [ce]), if_neg (by omega)]
  have h := kindsGo_name hA ce
  unfold worldMv
  rw [if_neg (by simp [hw]), hk]
  split
  · rename_i h1
    exact .inr (h.resolve_left h1)
  · exact .inl ⟨rfl, stepAll_name hA⟩
end Go.Proofs.Ytbddlekpoelmkaa.Am
