/- Kinds and values: what a valid kind is, and what fitting does. -/
import Derived.Test.YtidhdlhblhbahaaGreatKind4
import Derived.Test.YtidhdlhblhbahaaGreatKind7h
set_option linter.unusedVariables false
set_option linter.unusedSimpArgs false
namespace Go.Proofs.YtidhdlhblhbahaaGreat.Am
open Go Go.RowKit

def k0 : GKind := ⟨⟨#[]⟩, []⟩
def f0 : GField := ⟨⟨#[]⟩, 0, 0⟩
theorem oneE_le {k : GKind} (h : oneE k = 0) : k.Fields.length ≤ 8 := by
  unfold oneE at h
  split at h
  · split at h
    · simp at h
    · omega
  · simp at h
theorem checkGo_le : ∀ {l pre : List GKind}, checkGo pre l = 0 → ∀ k ∈ l, k.Fields.length ≤ 8
  | [], _, _, _, hk => by simp at hk
  | x :: r, pre, h, k, hk => by
    unfold checkGo at h
    split at h
    · rename_i h1; exact absurd h h1
    · rename_i h1
      split at h
      · simp at h
      · rcases List.mem_cons.1 hk with e | hk
        · subst e; exact oneE_le (by omega)
        · exact checkGo_le h k hk
theorem checkE_le {ks : List GKind} (h : checkE ks = 0) : ks.length ≤ 16 ∧ ∀ k ∈ ks, k.Fields.length ≤ 8 := by
  unfold checkE at h
  split at h
  · simp at h
  · exact ⟨by omega, checkGo_le h⟩
theorem highV {f : GField} (h : fieldB f = true) : f.Low ≤ highM f := by
  have := (pow_le32 (n := f.Bits.toNat) (by simp only [fieldB, Bool.and_eq_true, decide_eq_true_eq] at h; omega)).2
  simp only [highM, h, if_true]; omega
theorem nearLo {f : GField} (h : fieldB f = true) (x : Int) : f.Low ≤ nearM f x := by
  have := highV h
  simp only [nearM, h, if_true]
  split <;> omega
theorem nearHi {f : GField} (h : fieldB f = true) (x : Int) : nearM f x ≤ highM f := by
  have := highV h
  simp only [nearM, h, if_true]
  split <;> split <;> omega
theorem nearId {f : GField} (h : fieldB f = true) {x : Int} (h1 : f.Low ≤ x) (h2 : x ≤ highM f) : nearM f x = x := by
  simp only [nearM, h, if_true]
  split <;> split <;> omega
theorem nearIdem {f : GField} (h : fieldB f = true) (x : Int) : nearM f (nearM f x) = nearM f x := nearId h (nearLo h x) (nearHi h x)
theorem nearCongr {f g : GField} (hf : fieldB f = true) (hg : fieldB g = true) (h1 : f.Bits = g.Bits) (h2 : f.Low = g.Low) (x : Int) : nearM f x = nearM g x := by
  simp only [nearM, highM, hf, hg, if_true, h1, h2]
theorem holds_iff {k : GKind} {v : List Int} : holdsB k v = true ↔ oneE k = 0 ∧ v.length = k.Fields.length ∧ List.zipWith nearM k.Fields v = v := by
  unfold holdsB fitE fitV fitZ
  by_cases h1 : oneE k = 0
  · by_cases h2 : v.length = k.Fields.length
    · simp [h1, h2]
    · simp [h1, h2]
  · simp [h1]
theorem zip_iff {F : List GField} {v : List Int} (hl : v.length = F.length) : List.zipWith nearM F v = v ↔ ∀ n (h1 : n < F.length) (h2 : n < v.length), nearM F[n] v[n] = v[n] := by
  constructor
  · intro h n h1 h2
    have := congrArg (fun l => l[n]?) h
    simp only [List.getElem?_zipWith, List.getElem?_eq_getElem h1, List.getElem?_eq_getElem h2] at this
    simpa using this
  · intro h
    refine List.ext_getElem (by simp; omega) fun n g1 g2 => ?_
    rw [List.getElem_zipWith]
    exact h n (by omega) g2
theorem fieldsE_ok : ∀ {l pre : List GField}, fieldsE pre l = 0 → ∀ f ∈ l, fieldB f = true
  | [], _, _, _, hf => by simp at hf
  | x :: r, pre, h, f, hf => by
    unfold fieldsE at h
    split at h
    · rename_i h1; exact absurd h h1
    · rename_i h1
      split at h
      · simp at h
      · rcases List.mem_cons.1 hf with e | hf
        · subst e
          by_cases hb : fieldB f = true
          · exact hb
          · exact absurd (by simp [fieldE, hb]) h1
        · exact fieldsE_ok h f hf
theorem oneE_fields {k : GKind} (h : oneE k = 0) : ∀ f ∈ k.Fields, fieldB f = true := by
  unfold oneE at h
  split at h
  · split at h
    · simp at h
    · exact fieldsE_ok h
  · simp at h
theorem checkGo_one : ∀ {l pre : List GKind}, checkGo pre l = 0 → ∀ k ∈ l, oneE k = 0
  | [], _, _, _, hk => by simp at hk
  | x :: r, pre, h, k, hk => by
    unfold checkGo at h
    split at h
    · rename_i h1; exact absurd h h1
    · rename_i h1
      split at h
      · simp at h
      · rcases List.mem_cons.1 hk with e | hk
        · subst e; omega
        · exact checkGo_one h k hk
theorem checkE_one {ks : List GKind} (h : checkE ks = 0) : ∀ k ∈ ks, oneE k = 0 := by
  unfold checkE at h
  split at h
  · simp at h
  · exact checkGo_one h
end Go.Proofs.YtidhdlhblhbahaaGreat.Am
