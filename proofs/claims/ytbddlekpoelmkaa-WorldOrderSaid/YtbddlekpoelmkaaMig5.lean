/- Moves keep worlds valid: the plain law. -/
import Derived.Test.YtbddlekpoelmkaaWChk1
import Derived.Test.YtbddlekpoelmkaaComps1
set_option linter.unusedVariables false
set_option linter.unusedSimpArgs false
namespace Go.Proofs.Ytbddlekpoelmkaa.Am
open Go Go.RowKit

theorem highV {f : GField} (h : fieldB f = true) : f.Low ≤ highM f := by
  have := (pow_le32 (n := f.Bits.toNat) (by simp only [fieldB, Bool.and_eq_true, decide_eq_true_eq] at h; omega)).2
  simp only [highM, h, if_true]; omega
theorem nearLo {f : GField} (h : fieldB f = true) (x : Int) : f.Low ≤ nearM f x := by
  have := highV h
  simp only [nearM, h, if_true]
  split <;> omega
theorem nearHi {f : GField} (h : fieldB f = true) (x : Int) : nearM f x ≤ highM f := by
  have := highV h
  simp only [nearM, h, if_true]
  split <;> split <;> omega
theorem nearId {f : GField} (h : fieldB f = true) {x : Int} (h1 : f.Low ≤ x) (h2 : x ≤ highM f) : nearM f x = x := by
  simp only [nearM, h, if_true]
  split <;> split <;> omega
theorem nearIdem {f : GField} (h : fieldB f = true) (x : Int) : nearM f (nearM f x) = nearM f x := nearId h (nearLo h x) (nearHi h x)
theorem nearCongr {f g : GField} (hf : fieldB f = true) (hg : fieldB g = true) (h1 : f.Bits = g.Bits) (h2 : f.Low = g.Low) (x : Int) : nearM f x = nearM g x := by
  simp only [nearM, highM, hf, hg, if_true, h1, h2]

theorem holds_iff {k : GKind} {v : List Int} : holdsB k v = true ↔ oneE k = 0 ∧ v.length = k.Fields.length ∧ List.zipWith nearM k.Fields v = v := by
  unfold holdsB fitE fitV fitZ
  by_cases h1 : oneE k = 0
  · by_cases h2 : v.length = k.Fields.length
    · simp [h1, h2]
    · simp [h1, h2]
  · simp [h1]
theorem zip_iff {F : List GField} {v : List Int} (hl : v.length = F.length) : List.zipWith nearM F v = v ↔ ∀ n (h1 : n < F.length) (h2 : n < v.length), nearM F[n] v[n] = v[n] := by
  constructor
  · intro h n h1 h2
    have := congrArg (fun l => l[n]?) h
    simp only [List.getElem?_zipWith, List.getElem?_eq_getElem h1, List.getElem?_eq_getElem h2] at this
    simpa using this
  · intro h
    refine List.ext_getElem (by simp; omega) fun n g1 g2 => ?_
    rw [List.getElem_zipWith]
    exact h n (by omega) g2

theorem fieldsE_ok : ∀ {l pre : List GField}, fieldsE pre l = 0 → ∀ f ∈ l, fieldB f = true
  | [], _, _, _, hf => by simp at hf
  | x :: r, pre, h, f, hf => by
    unfold fieldsE at h
    split at h
    · rename_i h1; exact absurd h h1
    · rename_i h1
      split at h
      · simp at h
      · rcases List.mem_cons.1 hf with e | hf
        · subst e
          by_cases hb : fieldB f = true
          · exact hb
          · exact absurd (by simp [fieldE, hb]) h1
        · exact fieldsE_ok h f hf
theorem oneE_fields {k : GKind} (h : oneE k = 0) : ∀ f ∈ k.Fields, fieldB f = true := by
  unfold oneE at h
  split at h
  · split at h
    · simp at h
    · exact fieldsE_ok h
  · simp at h
theorem checkGo_one : ∀ {l pre : List GKind}, checkGo pre l = 0 → ∀ k ∈ l, oneE k = 0
  | [], _, _, _, hk => by simp at hk
  | x :: r, pre, h, k, hk => by
    unfold checkGo at h
    split at h
    · rename_i h1; exact absurd h h1
    · rename_i h1
      split at h
      · simp at h
      · rcases List.mem_cons.1 hk with e | hk
        · subst e; omega
        · exact checkGo_one h k hk
theorem checkE_one {ks : List GKind} (h : checkE ks = 0) : ∀ k ∈ ks, oneE k = 0 := by
  unfold checkE at h
  split at h
  · simp at h
  · exact checkGo_one h

theorem held_cons {ks : List GKind} {last : Int} {c : GComp} {r : List GComp} : heldGo ks last (c :: r) = true ↔ last < c.Kind ∧ c.Kind < ks.length ∧ holdsB (ks.getD c.Kind.toNat k0) c.Vals = true ∧ heldGo ks c.Kind r = true := by
  rw [heldGo]
  split
  · rename_i h
    simp only [Bool.false_eq_true, false_iff]
    rintro ⟨h1, h2, h3, h4⟩
    rcases h with h | h | h
    · omega
    · omega
    · rw [h3] at h; cases h
  · rename_i h
    have h1 : ¬ c.Kind ≤ last := fun e => h (.inl e)
    have h2 : ¬ (ks.length : Int) ≤ c.Kind := fun e => h (.inr (.inl e))
    have h3 : holdsB (ks.getD c.Kind.toNat k0) c.Vals = true := by
      cases e : holdsB (ks.getD c.Kind.toNat k0) c.Vals
      · exact absurd (.inr (.inr e)) h
      · rfl
    exact ⟨fun h4 => ⟨by omega, by omega, h3, h4⟩, fun h4 => h4.2.2.2⟩

theorem held_step {ks ks' : List GKind} (f : GComp → Option GComp) (sh : Int → Int) (keeps : Int → Bool)
    (H : ∀ c : GComp, 0 ≤ c.Kind → c.Kind < (ks.length : Int) → holdsB (ks.getD c.Kind.toNat k0) c.Vals = true →
      (keeps c.Kind = false ∧ f c = none) ∨ (keeps c.Kind = true ∧ ∃ c' : GComp, f c = some c' ∧ c'.Kind = sh c.Kind ∧ c'.Kind < (ks'.length : Int) ∧ holdsB (ks'.getD c'.Kind.toNat k0) c'.Vals = true))
    (Mo : ∀ a b : Int, a < b → keeps a = true → keeps b = true → sh a < sh b) :
    ∀ (l : List GComp) (last last' : Int), -1 ≤ last → (∀ k : Int, last < k → keeps k = true → last' < sh k) → heldGo ks last l = true → heldGo ks' last' (l.filterMap f) = true
  | [], _, _, _, _, _ => rfl
  | c :: r, last, last', hl, hR, h => by
    obtain ⟨h1, h2, h3, h4⟩ := held_cons.1 h
    rcases H c (by omega) h2 h3 with ⟨g1, g2⟩ | ⟨g1, c', g2, g3, g4, g5⟩
    · rw [List.filterMap_cons_none g2]
      exact held_step f sh keeps H Mo r c.Kind last' (by omega) (fun k hk hk2 => hR k (by omega) hk2) h4
    · rw [List.filterMap_cons_some g2]
      exact held_cons.2 ⟨by rw [g3]; exact hR _ h1 g1, g4, g5, held_step f sh keeps H Mo r c.Kind c'.Kind (by omega) (fun k hk hk2 => by rw [g3]; exact Mo _ _ hk g1 hk2) h4⟩

theorem getD_set (ks : List GKind) (i n : Nat) (x : GKind) (hi : i < ks.length) : (ks.set i x).getD n k0 = if n = i then x else ks.getD n k0 := by
  by_cases h : n = i
  · subst h; simp [List.getD, hi]
  · have h' : ¬ i = n := fun e => h e.symm
    simp [List.getD, h, h', List.getElem?_set]

/-- What a successful move does. -/
theorem oneM_spec {ks : List GKind} {m : GMove} (h : (oneM ks m).2 = 0) : (placeM ks m).2.2 = 0 ∧ (oneM ks m).1 = oneK ks m (placeM ks m).1.toNat (placeM ks m).2.1.toNat ∧ checkE (oneM ks m).1 = 0 := by
  have h1 := oneM_ok h
  unfold oneM at h h1 ⊢
  split at h
  · rename_i h2; exact absurd h h2
  · rename_i h2
    rw [if_neg h2] at h1
    split at h
    · rename_i h3; exact absurd h h3
    · rename_i h3
      rw [if_neg h3] at h1
      rw [if_neg h2, if_neg h3]
      exact ⟨by simpa using h2, rfl, h1⟩

theorem held_move {ks : List GKind} {m : GMove} (h : (oneM ks m).2 = 0) {l : List GComp} (hl : heldGo ks (-1) l = true) :
    heldGo (oneM ks m).1 (-1) (compsV (oneM ks m).1 m (placeM ks m).1.toNat (placeM ks m).2.1.toNat l) = true := by
  obtain ⟨hp, ho, hc⟩ := oneM_spec h
  obtain ⟨k', hk'⟩ : ∃ k', (oneM ks m).1 = k' := ⟨_, rfl⟩
  rw [hk'] at ho hc ⊢
  have hone := checkE_one hc
  rcases placeM_ok hp with h0 | ⟨i, hi, hpi, hd1, hd2, hd3⟩
  · have hk2 : k' = ks ++ [m.Whole] := by rw [ho]; simp [oneK, h0]
    refine held_step _ id (fun _ => true) (fun c g1 g2 g3 => .inr ⟨rfl, c, by simp [compMv, h0], rfl, by rw [hk2]; simp; omega, ?_⟩) (fun a b hab _ _ => hab) l (-1) (-1) (by omega) (fun k hk _ => hk) hl
    have : c.Kind.toNat < ks.length := by omega
    rw [hk2]
    simpa [List.getD, List.getElem?_append_left this] using g3
  · rw [hpi] at ho ⊢
    simp only [Int.toNat_natCast] at ho ⊢
    have hgi : ks.getD i k0 = ks[i] := by simp [List.getD, hi]
    by_cases h1 : m.Do = 1
    · have hk2 : k' = ks.take i ++ ks.drop (i + 1) := by rw [ho]; simp [oneK, h1]
      have hkl : k'.length = ks.length - 1 := by rw [hk2]; simp; omega
      refine held_step _ (fun x => if (i : Int) < x then x - 1 else x) (fun x => decide (x ≠ i)) (fun c g1 g2 g3 => ?_) (fun a b hab ha hb => ?_) l (-1) (-1) (by omega) (fun k hk hk2 => ?_) hl
      · by_cases e : c.Kind = i
        · exact .inl ⟨by simp [e], by simp [compMv, h1, e]⟩
        · refine .inr ⟨by simp [e], ?_⟩
          by_cases e2 : (i : Int) < c.Kind
          · refine ⟨⟨c.Kind - 1, c.Vals⟩, by simp [compMv, h1, e, e2], by simp [e2], by simp only [hkl]; omega, ?_⟩
            have e3 : (c.Kind - 1).toNat = c.Kind.toNat - 1 := by omega
            have e4 : k'.getD (c.Kind.toNat - 1) k0 = ks.getD c.Kind.toNat k0 := by
              rw [hk2]
              simp only [List.getD]
              rw [List.getElem?_append_right (by simp; omega), List.getElem?_drop]
              congr 2
              simp; omega
            simp only [e3, e4]; exact g3
          · refine ⟨c, by simp [compMv, h1, e, e2], by simp [e2], by rw [hkl]; omega, ?_⟩
            have e4 : k'.getD c.Kind.toNat k0 = ks.getD c.Kind.toNat k0 := by
              rw [hk2]
              simp only [List.getD]
              rw [List.getElem?_append_left (by simp; omega), List.getElem?_take]
              rw [if_pos (by omega)]
            rw [e4]; exact g3
      · simp only [decide_eq_true_eq] at ha hb
        split <;> split <;> omega
      · simp only [decide_eq_true_eq] at hk2
        split <;> omega
    · -- one kind is set anew
      have key : ∀ (K : GKind) (g : List Int → List Int), k' = ks.set i K → (∀ c : GComp, c.Kind = i → compMv k' m i (placeM ks m).2.1.toNat c = some ⟨c.Kind, g c.Vals⟩) →
          (∀ v, holdsB ks[i] v = true → holdsB K (g v) = true) → heldGo k' (-1) (compsV k' m i (placeM ks m).2.1.toNat l) = true := fun K g hK hcv hh => by
        refine held_step _ id (fun _ => true) (fun c g1 g2 g3 => .inr ⟨rfl, ?_⟩) (fun a b hab _ _ => hab) l (-1) (-1) (by omega) (fun k hk _ => hk) hl
        by_cases e : c.Kind = i
        · refine ⟨_, hcv c e, rfl, by rw [hK]; simpa using g2, ?_⟩
          have e2 : c.Kind.toNat = i := by omega
          rw [e2, hgi] at g3
          simp only [e2, hK, getD_set ks i i K hi, if_true]
          exact hh _ g3
        · refine ⟨c, by simp [compMv, h1, e], rfl, by rw [hK]; simpa using g2, ?_⟩
          have e2 : ¬ c.Kind.toNat = i := by omega
          rw [hK, getD_set ks i _ K hi, if_neg e2]; exact g3
      have hKm : ∀ K, k' = ks.set i K → oneE K = 0 := fun K hK => hone K (by rw [hK]; exact List.mem_set hi _)
      by_cases h2 : m.Do = 2
      · have hk2 : k' = ks.set i ⟨m.Name, (ks[i]).Fields⟩ := by rw [ho]; simp [oneK, h2, hi]
        refine key _ id hk2 (fun c e => by obtain ⟨ck, cv⟩ := c; simp only at e; subst e; simp [compMv, h2]) (fun v hv => ?_)
        obtain ⟨a1, a2, a3⟩ := holds_iff.1 hv
        exact holds_iff.2 ⟨hKm _ hk2, a2, a3⟩
      by_cases h3 : m.Do = 3
      · have hk2 : k' = ks.set i ⟨(ks[i]).Name, (ks[i]).Fields ++ [m.New]⟩ := by rw [ho]; simp [oneK, h3, hi]
        refine key _ (fun v => v ++ [nearM m.New m.Value]) hk2 (fun c e => by simp [compMv, h3, e]) (fun v hv => ?_)
        obtain ⟨a1, a2, a3⟩ := holds_iff.1 hv
        have hf : fieldB m.New = true := oneE_fields (hKm _ hk2) _ (by simp)
        refine holds_iff.2 ⟨hKm _ hk2, by simp [a2], ?_⟩
        rw [List.zipWith_append (by omega), a3]
        simp [nearIdem hf]
      obtain ⟨j, hj, hpj⟩ := hd3.resolve_left (by omega)
      rw [hpj] at ho key ⊢
      simp only [Int.toNat_natCast] at ho key ⊢
      by_cases h4 : m.Do = 4
      · have hk2 : k' = ks.set i ⟨(ks[i]).Name, (ks[i]).Fields.take j ++ (ks[i]).Fields.drop (j + 1)⟩ := by rw [ho]; simp [oneK, h4, hi]
        refine key _ (fun v => v.take j ++ v.drop (j + 1)) hk2 (fun c e => by simp [compMv, h4, e]) (fun v hv => ?_)
        obtain ⟨a1, a2, a3⟩ := holds_iff.1 hv
        refine holds_iff.2 ⟨hKm _ hk2, by simp [a2], ?_⟩
        rw [List.zipWith_append (by simp; omega), ← List.take_zipWith, ← List.drop_zipWith, a3]
      by_cases h5 : m.Do = 5
      · have hk2 : k' = ks.set i ⟨(ks[i]).Name, (ks[i]).Fields.set j ⟨m.Name, (ks[i]).Fields[j].Bits, (ks[i]).Fields[j].Low⟩⟩ := by rw [ho]; simp [oneK, h5, hi, hj]
        refine key _ id hk2 (fun c e => by obtain ⟨ck, cv⟩ := c; simp only at e; subst e; simp [compMv, h5]) (fun v hv => ?_)
        obtain ⟨a1, a2, a3⟩ := holds_iff.1 hv
        have hK := hKm _ hk2
        have hal := oneE_fields hK
        have hal0 := oneE_fields a1
        refine holds_iff.2 ⟨hK, by simp [a2], ?_⟩
        rw [zip_iff a2] at a3
        simp only [id]
        rw [zip_iff (by simp [a2])]
        intro n n1 n2
        simp only [List.length_set] at n1
        have b := a3 n n1 n2
        rw [List.getElem_set]
        split
        · rename_i e
          subst e
          have hfa := hal _ (List.mem_set (l := (ks[i]).Fields) hj ⟨m.Name, (ks[i]).Fields[j].Bits, (ks[i]).Fields[j].Low⟩)
          rw [nearCongr hfa (hal0 _ (List.getElem_mem hj)) rfl rfl]
          exact b
        · exact b
      have h6 : m.Do = 6 := by omega
      have hk2 : k' = ks.set i ⟨(ks[i]).Name, (ks[i]).Fields.set j ⟨(ks[i]).Fields[j].Name, m.New.Bits, m.New.Low⟩⟩ := by rw [ho]; simp [oneK, h6, hi, hj]
      have hK := hKm _ hk2
      have hal := oneE_fields hK
      have hfa := hal _ (List.mem_set (l := (ks[i]).Fields) hj ⟨(ks[i]).Fields[j].Name, m.New.Bits, m.New.Low⟩)
      refine key _ (fun v => v.set j (nearM ⟨(ks[i]).Fields[j].Name, m.New.Bits, m.New.Low⟩ (v.getD j 0))) hk2 (fun c e => ?_) (fun v hv => ?_)
      · have e3 : (k'.getD i k0).Fields.getD j f0 = ⟨(ks[i]).Fields[j].Name, m.New.Bits, m.New.Low⟩ := by
          rw [hk2, getD_set ks i i _ hi, if_pos rfl]
          simp [List.getD, hj]
        unfold compMv
        rw [e3]
        simp [h6, e]
      · obtain ⟨a1, a2, a3⟩ := holds_iff.1 hv
        refine holds_iff.2 ⟨hK, by simp [a2], ?_⟩
        rw [zip_iff a2] at a3
        rw [zip_iff (by simp [a2])]
        intro n n1 n2
        simp only [List.length_set] at n1 n2
        have b := a3 n n1 n2
        rw [List.getElem_set, List.getElem_set]
        split
        · exact nearIdem hfa _
        · exact b
end Go.Proofs.Ytbddlekpoelmkaa.Am
