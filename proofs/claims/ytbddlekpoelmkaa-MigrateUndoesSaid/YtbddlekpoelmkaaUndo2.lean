/- MigrateUndoes: one move is undone. -/
import Derived.Test.YtbddlekpoelmkaaUndo1
set_option linter.unusedVariables false
set_option linter.unusedSimpArgs false
namespace Go.Proofs.Ytbddlekpoelmkaa.Am
open Go Go.RowKit

theorem placeM_ok2 {ks : List GKind} {m : GMove} (h : (placeM ks m).2.2 = 0) (h0 : m.Do ≠ 0) : ∃ i j : Nat, ∃ hi : i < ks.length, placeM ks m = ((i : Int), (j : Int), 0) ∧ (ks[i]).Name = m.Kind ∧ 0 < m.Do ∧ m.Do ≤ 6 ∧
    (m.Do ≤ 3 ∨ 3 < m.Do ∧ ∃ hj : j < (ks[i]).Fields.length, ((ks[i]).Fields[j]).Name = m.Field) := by
  unfold placeM at h ⊢
  split at h
  · simp at h
  · rename_i h1
    rw [if_neg h1, if_neg h0] at *
    cases hk : ks.findIdx? (fun k => decide (k.Name = m.Kind)) with
    | none => rw [hk] at h; simp at h
    | some i =>
      rw [hk] at h
      obtain ⟨hi, hn, _⟩ := List.findIdx?_eq_some_iff_getElem.1 hk
      have hn' : (ks[i]).Name = m.Kind := by simpa using hn
      simp only at h ⊢
      by_cases h3 : m.Do ≤ 3
      · rw [if_pos h3]
        exact ⟨i, 0, hi, rfl, hn', by omega, by omega, .inl h3⟩
      · rw [if_neg h3] at h ⊢
        have hg : ks.getD i ⟨⟨#[]⟩, []⟩ = ks[i] := by simp [List.getD, hi]
        rw [hg] at h ⊢
        cases hj : ks[i].Fields.findIdx? (fun f => decide (f.Name = m.Field)) with
        | none => rw [hj] at h; simp at h
        | some j =>
          obtain ⟨hjl, hjn, _⟩ := List.findIdx?_eq_some_iff_getElem.1 hj
          exact ⟨i, j, hi, rfl, hn', by omega, by omega, .inr ⟨by omega, hjl, by simpa using hjn⟩⟩

theorem fm_id {α : Type} {f : α → Option α} : ∀ {l : List α}, (∀ c ∈ l, f c = some c) → l.filterMap f = l
  | [], _ => rfl
  | c :: r, h => by rw [List.filterMap_cons_some (h c (List.mem_cons_self ..)), fm_id fun x hx => h x (List.mem_cons_of_mem _ hx)]
theorem set_self {α : Type} (l : List α) (i : Nat) (hi : i < l.length) {x : α} (h : l[i] = x) : l.set i x = l := by subst h; exact List.set_getElem_self hi

/-- Two moves on a world, of which the second leads back. -/
theorem undo_of {w : GWorld} {m x : GMove} {K : List GKind} {i j i2 j2 : Nat} (hw : checkW w = 0) (hp : placeM w.Kinds m = ((i : Int), (j : Int), 0)) (h1 : oneM w.Kinds m = (K, 0))
    (hp2 : placeM K x = ((i2 : Int), (j2 : Int), 0)) (hK : oneK K x i2 j2 = w.Kinds)
    (hc : ∀ c : GComp, 0 ≤ c.Kind → c.Kind < (w.Kinds.length : Int) → holdsB (w.Kinds.getD c.Kind.toNat k0) c.Vals = true → (compMv K m i j c).bind (compMv w.Kinds x i2 j2) = some c) :
    oneM K x = (w.Kinds, 0) ∧ stepW (stepW w m) x = w := by
  obtain ⟨a, b, c, d, e⟩ := checkW_iff.1 hw
  have h2 := oneM_of hp2 hK a
  refine ⟨h2, ?_⟩
  rw [stepW_of hp h1]
  have e1 : (⟨K, w.Gens, w.Items.map fun it => ⟨it.Ent, compsV K m i j it.Comps⟩⟩ : GWorld).Kinds = K := rfl
  rw [stepW_of (w := ⟨K, w.Gens, w.Items.map fun it => ⟨it.Ent, compsV K m i j it.Comps⟩⟩) hp2 h2]
  have e2 : (w.Items.map fun it => (⟨it.Ent, compsV K m i j it.Comps⟩ : GItem)).map (fun it => (⟨it.Ent, compsV w.Kinds x i2 j2 it.Comps⟩ : GItem)) = w.Items := by
    rw [List.map_map]
    conv => rhs; rw [← List.map_id w.Items]
    refine List.map_congr_left fun it hit => ?_
    have hh := items_held e it hit
    have : compsV w.Kinds x i2 j2 (compsV K m i j it.Comps) = it.Comps := by
      unfold compsV
      rw [List.filterMap_filterMap]
      refine fm_id fun c hcm => ?_
      obtain ⟨g1, g2, g3⟩ := held_mem hh c hcm
      exact hc c (by omega) g2 g3
    simp [this]
  simp only [e2]

theorem undo_step {w : GWorld} {m : GMove} (hw : checkW w = 0) (h : (oneM w.Kinds m).2 = 0) (hv : (invM w.Kinds m).2 = true) :
    oneM (oneM w.Kinds m).1 (invM w.Kinds m).1 = (w.Kinds, 0) ∧ stepW (stepW w m) (invM w.Kinds m).1 = w := by
  obtain ⟨hp0, ho, hcK⟩ := oneM_spec h
  obtain ⟨ce, _⟩ := checkW_iff.1 hw
  obtain ⟨K, hK⟩ : ∃ K, (oneM w.Kinds m).1 = K := ⟨_, rfl⟩
  have h1 : oneM w.Kinds m = (K, 0) := by rw [← hK, ← h]
  rw [hK] at ho hcK ⊢
  by_cases h0 : m.Do = 0
  · have hp : placeM w.Kinds m = (((0 : Nat) : Int), ((0 : Nat) : Int), 0) := by unfold placeM; rw [if_neg (by omega), if_pos h0]; rfl
    have hk2 : K = w.Kinds ++ [m.Whole] := by rw [ho]; simp [oneK, h0]
    have hl : w.Kinds.length < K.length := by rw [hk2]; simp
    have hx : (invM w.Kinds m).1 = ⟨1, m.Whole.Name, ⟨#[]⟩, ⟨#[]⟩, 0, ⟨⟨#[]⟩, 0, 0⟩, ⟨⟨#[]⟩, []⟩⟩ := by simp [invM, h0]
    rw [hx]
    refine undo_of hw hp h1 (i2 := w.Kinds.length) (j2 := 0) (placeM_kind hcK hl (by simp [hk2]) (by simp) (by simp)) (by simp [oneK, hk2]) (fun c g1 g2 g3 => ?_)
    have e1 : ¬ c.Kind = w.Kinds.length := by omega
    have e2 : ¬ (w.Kinds.length : Int) < c.Kind := by omega
    simp [compMv, h0, e1, e2]
  obtain ⟨i, j, hi, hp, hn, hd1, hd2, hd3⟩ := placeM_ok2 hp0 h0
  rw [hp] at ho
  simp only [Int.toNat_natCast] at ho
  have hgi : w.Kinds.getD i k0 = w.Kinds[i] := by simp [List.getD, hi]
  by_cases d1 : m.Do = 1
  · simp [invM, d1] at hv
  by_cases d2 : m.Do = 2
  · have hk2 : K = w.Kinds.set i ⟨m.Name, (w.Kinds[i]).Fields⟩ := by rw [ho]; simp [oneK, d2, hi]
    have hl : i < K.length := by rw [hk2]; simpa using hi
    have hx : (invM w.Kinds m).1 = ⟨2, m.Name, ⟨#[]⟩, m.Kind, 0, ⟨⟨#[]⟩, 0, 0⟩, ⟨⟨#[]⟩, []⟩⟩ := by simp [invM, d2]
    rw [hx]
    refine undo_of hw hp h1 (i2 := i) (j2 := 0) (placeM_kind hcK hl (by simp [hk2]) (by simp) (by simp)) ?_ (fun c g1 g2 g3 => by simp [compMv, d2])
    rw [hk2]
    simp [oneK, hi, ← hn]
    exact set_self _ _ hi rfl
  by_cases d3 : m.Do = 3
  · have hk2 : K = w.Kinds.set i ⟨(w.Kinds[i]).Name, (w.Kinds[i]).Fields ++ [m.New]⟩ := by rw [ho]; simp [oneK, d3, hi]
    have hl : i < K.length := by rw [hk2]; simpa using hi
    have hx : (invM w.Kinds m).1 = ⟨4, m.Kind, m.New.Name, ⟨#[]⟩, 0, ⟨⟨#[]⟩, 0, 0⟩, ⟨⟨#[]⟩, []⟩⟩ := by simp [invM, d3]
    rw [hx]
    refine undo_of hw hp h1 (i2 := i) (j2 := (w.Kinds[i]).Fields.length) (placeM_field hcK hl (by simp [hk2, hn]) (by simp [hk2]) (by simp [hk2]) (by simp) (by simp)) ?_ (fun c g1 g2 g3 => ?_)
    · rw [hk2]
      simp [oneK, hi]
      exact set_self _ _ hi rfl
    · by_cases e : c.Kind = i
      · obtain ⟨_, a2, _⟩ := holds_iff.1 g3
        have e2 : c.Kind.toNat = i := by omega
        rw [e2, hgi] at a2
        obtain ⟨ck, cv⟩ := c
        simp only at e a2
        subst e
        simp [compMv, d3, ← a2]
      · simp [compMv, d3, e]
  obtain ⟨hd4, hj, hjn⟩ := hd3.resolve_left (by omega)
  by_cases d4 : m.Do = 4
  · simp [invM, d4] at hv
  by_cases d5 : m.Do = 5
  · have hk2 : K = w.Kinds.set i ⟨(w.Kinds[i]).Name, (w.Kinds[i]).Fields.set j ⟨m.Name, (w.Kinds[i]).Fields[j].Bits, (w.Kinds[i]).Fields[j].Low⟩⟩ := by rw [ho]; simp [oneK, d5, hi, hj]
    have hl : i < K.length := by rw [hk2]; simpa using hi
    have hx : (invM w.Kinds m).1 = ⟨5, m.Kind, m.Name, m.Field, 0, ⟨⟨#[]⟩, 0, 0⟩, ⟨⟨#[]⟩, []⟩⟩ := by simp [invM, d5]
    rw [hx]
    refine undo_of hw hp h1 (i2 := i) (j2 := j) (placeM_field hcK hl (by simp [hk2, hn]) (by simpa [hk2] using hj) (by simp [hk2]) (by simp) (by simp)) ?_ (fun c g1 g2 g3 => by simp [compMv, d5])
    rw [hk2]
    have hs : (w.Kinds[i]).Fields.set j ⟨(w.Kinds[i]).Fields[j].Name, (w.Kinds[i]).Fields[j].Bits, (w.Kinds[i]).Fields[j].Low⟩ = (w.Kinds[i]).Fields := set_self _ _ hj rfl
    simp [oneK, hi, hj, ← hjn, hs]
    exact set_self _ _ hi rfl
  have d6 : m.Do = 6 := by omega
  have hk2 : K = w.Kinds.set i ⟨(w.Kinds[i]).Name, (w.Kinds[i]).Fields.set j ⟨(w.Kinds[i]).Fields[j].Name, m.New.Bits, m.New.Low⟩⟩ := by rw [ho]; simp [oneK, d6, hi, hj]
  have hl : i < K.length := by rw [hk2]; simpa using hi
  have hgf : (w.Kinds[i]).Fields.getD j f0 = (w.Kinds[i]).Fields[j] := by simp [List.getD, hj]
  have hx : invM w.Kinds m = (⟨6, m.Kind, m.Field, ⟨#[]⟩, 0, ⟨⟨#[]⟩, (w.Kinds[i]).Fields[j].Bits, (w.Kinds[i]).Fields[j].Low⟩, ⟨⟨#[]⟩, []⟩⟩,
      decide (m.New.Low ≤ (w.Kinds[i]).Fields[j].Low) && decide (highM (w.Kinds[i]).Fields[j] ≤ highM ⟨(w.Kinds[i]).Fields[j].Name, m.New.Bits, m.New.Low⟩)) := by
    unfold invM
    rw [if_neg h0, if_neg d2, if_neg d3, if_neg d5, if_pos d6, hp]
    simp only [Int.toNat_natCast, hgi, hgf]
  rw [hx] at hv ⊢
  simp only [Bool.and_eq_true, decide_eq_true_eq] at hv
  have hKi : K[i] = ⟨(w.Kinds[i]).Name, (w.Kinds[i]).Fields.set j ⟨(w.Kinds[i]).Fields[j].Name, m.New.Bits, m.New.Low⟩⟩ := by simp [hk2]
  have hgB : fieldB ⟨(w.Kinds[i]).Fields[j].Name, m.New.Bits, m.New.Low⟩ = true :=
    oneE_fields (checkE_one hcK _ (List.getElem_mem hl)) _ (by rw [hKi]; exact List.mem_set hj _)
  have hfB : fieldB (w.Kinds[i]).Fields[j] = true := oneE_fields (checkE_one ce _ (List.getElem_mem hi)) _ (List.getElem_mem hj)
  refine undo_of hw hp h1 (i2 := i) (j2 := j) (placeM_field hcK hl (by simp [hk2, hn]) (by simpa [hk2] using hj) (by simpa [hk2] using hjn) (by simp) (by simp)) ?_ (fun c g1 g2 g3 => ?_)
  · rw [hk2]
    have hs : (w.Kinds[i]).Fields.set j ⟨(w.Kinds[i]).Fields[j].Name, (w.Kinds[i]).Fields[j].Bits, (w.Kinds[i]).Fields[j].Low⟩ = (w.Kinds[i]).Fields := set_self _ _ hj rfl
    simp [oneK, hi, hj, hs]
    exact set_self _ _ hi rfl
  · by_cases e : c.Kind = i
    · obtain ⟨_, a2, a3⟩ := holds_iff.1 g3
      have e2 : c.Kind.toNat = i := by omega
      rw [e2, hgi] at a2 a3
      have hjv : j < c.Vals.length := by omega
      have hnear := (zip_iff a2).1 a3 j hj hjv
      have l1 := nearLo hfB c.Vals[j]
      have l2 := nearHi hfB c.Vals[j]
      rw [hnear] at l1 l2
      have hn2 : nearM ⟨(w.Kinds[i]).Fields[j].Name, m.New.Bits, m.New.Low⟩ c.Vals[j] = c.Vals[j] := nearId hgB (by simp only; omega) (by omega)
      have hKg : (K.getD i k0).Fields.getD j f0 = ⟨(w.Kinds[i]).Fields[j].Name, m.New.Bits, m.New.Low⟩ := by
        have : K.getD i k0 = K[i] := by simp [List.getD, hl]
        rw [this, hKi]
        simp [List.getD, hj]
      obtain ⟨ck, cv⟩ := c
      simp only at e hjv hnear hn2
      subst e
      have s1 : compMv K m i j ⟨i, cv⟩ = some ⟨i, cv⟩ := by
        unfold compMv
        rw [hKg]
        simp [d6, hjv, hn2]
      rw [s1, Option.bind_some]
      unfold compMv
      rw [hgi, hgf]
      simp [hjv, hnear]
    · simp [compMv, d6, e]
end Go.Proofs.Ytbddlekpoelmkaa.Am
