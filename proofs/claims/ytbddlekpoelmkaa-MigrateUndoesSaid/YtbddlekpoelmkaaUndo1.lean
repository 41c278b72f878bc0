/- MigrateUndoes: the plain law. -/
import Derived.Test.YtbddlekpoelmkaaMig7
set_option linter.unusedVariables false
set_option linter.unusedSimpArgs false
namespace Go.Proofs.Ytbddlekpoelmkaa.Am
open Go Go.RowKit

/-- The move that undoes a move on valid kinds. -/
def invM (ks : List GKind) (m : GMove) : GMove × Bool :=
  if m.Do = 0 then (⟨1, m.Whole.Name, ⟨#[]⟩, ⟨#[]⟩, 0, ⟨⟨#[]⟩, 0, 0⟩, ⟨⟨#[]⟩, []⟩⟩, true)
  else if m.Do = 2 then (⟨2, m.Name, ⟨#[]⟩, m.Kind, 0, ⟨⟨#[]⟩, 0, 0⟩, ⟨⟨#[]⟩, []⟩⟩, true)
  else if m.Do = 3 then (⟨4, m.Kind, m.New.Name, ⟨#[]⟩, 0, ⟨⟨#[]⟩, 0, 0⟩, ⟨⟨#[]⟩, []⟩⟩, true)
  else if m.Do = 5 then (⟨5, m.Kind, m.Name, m.Field, 0, ⟨⟨#[]⟩, 0, 0⟩, ⟨⟨#[]⟩, []⟩⟩, true)
  else if m.Do = 6 then
    let f := (ks.getD (placeM ks m).1.toNat k0).Fields.getD (placeM ks m).2.1.toNat f0
    (⟨6, m.Kind, m.Field, ⟨#[]⟩, 0, ⟨⟨#[]⟩, f.Bits, f.Low⟩, ⟨⟨#[]⟩, []⟩⟩, decide (m.New.Low ≤ f.Low) && decide (highM f ≤ highM ⟨f.Name, m.New.Bits, m.New.Low⟩))
  else (⟨0, ⟨#[]⟩, ⟨#[]⟩, ⟨#[]⟩, 0, ⟨⟨#[]⟩, 0, 0⟩, ⟨⟨#[]⟩, []⟩⟩, false)

/-! ### Names are unique -/
theorem fieldsE_pre : ∀ {l pre : List GField}, fieldsE pre l = 0 → ∀ f ∈ l, pre.any (fun g => decide (g.Name = f.Name)) = false
  | [], _, _, _, hf => by simp at hf
  | x :: r, pre, h, f, hf => by
    unfold fieldsE at h
    split at h
    · rename_i h1; exact absurd h h1
    · split at h
      · simp at h
      · rename_i h2
        rcases List.mem_cons.1 hf with e | hf
        · subst e; simpa using h2
        · have := fieldsE_pre h f hf
          rw [List.any_append, Bool.or_eq_false_iff] at this
          exact this.1
theorem fieldsE_uniq : ∀ {l pre : List GField}, fieldsE pre l = 0 → l.Pairwise (fun a b => a.Name ≠ b.Name)
  | [], _, _ => .nil
  | x :: r, pre, h => by
    unfold fieldsE at h
    split at h
    · rename_i h1; exact absurd h h1
    · split at h
      · simp at h
      · refine List.pairwise_cons.2 ⟨fun f hf e => ?_, fieldsE_uniq h⟩
        have := fieldsE_pre h f hf
        rw [List.any_append, Bool.or_eq_false_iff] at this
        simp [e] at this
theorem oneE_uniq {k : GKind} (h : oneE k = 0) : k.Fields.Pairwise (fun a b => a.Name ≠ b.Name) := by
  unfold oneE at h
  split at h
  · split at h
    · simp at h
    · exact fieldsE_uniq h
  · simp at h
theorem findK_neg {l : List GKind} {nm : Str} (h : findK l nm < 0) : ∀ k ∈ l, k.Name ≠ nm := by
  unfold findK at h
  cases hk : l.findIdx? (fun k => decide (k.Name = nm)) with
  | none =>
    rw [List.findIdx?_eq_none_iff] at hk
    intro k hm; simpa using hk k hm
  | some i => rw [hk] at h; simp only at h; omega
theorem checkGo_pre : ∀ {l pre : List GKind}, checkGo pre l = 0 → ∀ k ∈ l, ∀ g ∈ pre, g.Name ≠ k.Name
  | [], _, _, _, hf => by simp at hf
  | x :: r, pre, h, k, hk => by
    unfold checkGo at h
    split at h
    · rename_i h1; exact absurd h h1
    · split at h
      · simp at h
      · rename_i h2
        rcases List.mem_cons.1 hk with e | hk
        · subst e; exact findK_neg (by omega)
        · exact fun g hg => checkGo_pre h k hk g (List.mem_append_left _ hg)
theorem checkGo_uniq : ∀ {l pre : List GKind}, checkGo pre l = 0 → l.Pairwise (fun a b => a.Name ≠ b.Name)
  | [], _, _ => .nil
  | x :: r, pre, h => by
    unfold checkGo at h
    split at h
    · rename_i h1; exact absurd h h1
    · split at h
      · simp at h
      · exact List.pairwise_cons.2 ⟨fun f hf => checkGo_pre h f hf x (by simp), checkGo_uniq h⟩
theorem checkE_uniq {ks : List GKind} (h : checkE ks = 0) : ks.Pairwise (fun a b => a.Name ≠ b.Name) := by
  unfold checkE at h
  split at h
  · simp at h
  · exact checkGo_uniq h

theorem find_kind {ks : List GKind} (h : checkE ks = 0) {i : Nat} (hi : i < ks.length) {nm : Str} (hn : (ks[i]).Name = nm) : ks.findIdx? (fun k => decide (k.Name = nm)) = some i := by
  rw [List.findIdx?_eq_some_iff_getElem]
  refine ⟨hi, by simpa using hn, fun j hj => ?_⟩
  have := List.pairwise_iff_getElem.1 (checkE_uniq h) j i (by omega) hi hj
  simpa [hn] using this
theorem find_field {k : GKind} (h : oneE k = 0) {j : Nat} (hj : j < k.Fields.length) {nm : Str} (hn : (k.Fields[j]).Name = nm) : k.Fields.findIdx? (fun f => decide (f.Name = nm)) = some j := by
  rw [List.findIdx?_eq_some_iff_getElem]
  refine ⟨hj, by simpa using hn, fun i hi => ?_⟩
  have := List.pairwise_iff_getElem.1 (oneE_uniq h) i j (by omega) hj hi
  simpa [hn] using this
theorem placeM_kind {ks : List GKind} (h : checkE ks = 0) {m : GMove} {i : Nat} (hi : i < ks.length) (hn : (ks[i]).Name = m.Kind) (h1 : 0 < m.Do) (h2 : m.Do ≤ 3) : placeM ks m = ((i : Int), 0, 0) := by
  unfold placeM
  rw [if_neg (by omega), if_neg (by omega), find_kind h hi hn]
  simp [h2]
theorem placeM_field {ks : List GKind} (h : checkE ks = 0) {m : GMove} {i j : Nat} (hi : i < ks.length) (hn : (ks[i]).Name = m.Kind) (hj : j < (ks[i]).Fields.length) (hf : ((ks[i]).Fields[j]).Name = m.Field) (h1 : 3 < m.Do) (h2 : m.Do ≤ 6) : placeM ks m = ((i : Int), (j : Int), 0) := by
  unfold placeM
  have h3 : ¬ m.Do ≤ 3 := by omega
  have hg : ks.getD i ⟨⟨#[]⟩, []⟩ = ks[i] := by simp [List.getD, hi]
  rw [if_neg (by omega), if_neg (by omega), find_kind h hi hn]
  simp only [h3, if_false, hg, find_field (checkE_one h _ (List.getElem_mem hi)) hj hf]

/-- A move that leads to K, where K is valid. -/
theorem oneM_of {ks K : List GKind} {m : GMove} {i j : Nat} (hp : placeM ks m = ((i : Int), (j : Int), 0)) (hK : oneK ks m i j = K) (hc : checkE K = 0) : oneM ks m = (K, 0) := by
  unfold oneM
  rw [hp]
  simp [hK, hc]
theorem stepW_of {w : GWorld} {m : GMove} {K : List GKind} {i j : Nat} (hp : placeM w.Kinds m = ((i : Int), (j : Int), 0)) (hK : oneM w.Kinds m = (K, 0)) : stepW w m = ⟨K, w.Gens, w.Items.map fun it => ⟨it.Ent, compsV K m i j it.Comps⟩⟩ := by
  unfold stepW moveIt
  rw [hp, hK]
  simp
end Go.Proofs.Ytbddlekpoelmkaa.Am
