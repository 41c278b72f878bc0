/- Plain facts on lists that the library's slice functions ask. -/
import Derived.Test.YtidhdlhblhbahaaGreatDat
namespace Go.Proofs.YtidhdlhblhbahaaGreat.Am
def idxB {α : Type} (p : α → Bool) (l : List α) : Int := match l.findIdx? p with | some i => i | none => -1
theorem idxB_some {α : Type} {p : α → Bool} {l : List α} {i : Nat} (hi : i < l.length) (hno : ∀ j, j < i → ∀ x, l[j]? = some x → p x = false) (h : p l[i] = true) : idxB p l = i := by
  unfold idxB
  have : l.findIdx? p = some i := by
    rw [List.findIdx?_eq_some_iff_getElem]
    exact ⟨hi, h, fun j hj => by simpa using hno j hj l[j] (List.getElem?_eq_getElem (by omega))⟩
  rw [this]
theorem idxB_none {α : Type} {p : α → Bool} {l : List α} (hno : ∀ j, j < l.length → ∀ x, l[j]? = some x → p x = false) : idxB p l = -1 := by
  unfold idxB
  have : l.findIdx? p = none := by
    rw [List.findIdx?_eq_none_iff]
    intro x hx
    obtain ⟨j, hj, rfl⟩ := List.getElem_of_mem hx
    simpa using hno j hj l[j] (List.getElem?_eq_getElem hj)
  rw [this]
theorem idxB_any {α : Type} (p : α → Bool) (l : List α) : decide (0 ≤ idxB p l) = l.any p := by
  unfold idxB
  cases h : l.findIdx? p with
  | none =>
    rw [List.findIdx?_eq_none_iff] at h
    have : l.any p = false := by simpa using h
    simp [this]
  | some i =>
    rw [List.findIdx?_eq_some_iff_getElem] at h
    obtain ⟨hi, hp, _⟩ := h
    have : l.any p = true := List.any_eq_true.2 ⟨_, List.getElem_mem hi, hp⟩
    simp [this]
theorem no_succ {α : Type} {p : α → Bool} {l : List α} {i : Nat} (hi : i < l.length) (hno : ∀ j, j < i → ∀ x, l[j]? = some x → p x = false) (h : p l[i] = false) : ∀ j, j < i + 1 → ∀ x, l[j]? = some x → p x = false := fun j hj x hx => by
  by_cases e : j = i
  · subst e; simp [hi] at hx; subst hx; exact h
  · exact hno j (by omega) x hx
mutual
theorem lt_mono : (p : PV) → p.lt 0 = true → ∀ n, p.lt n = true
  | .k _, _, _ | .sl _ _, _, _ | .eptr _, _, _ => rfl
  | .osl _ _ _ _, h, _ | .osc _ _ _ _ _, h, _ | .ptr _ _, h, _ => by simp [PV.lt] at h
  | .clo _ caps, h, n => by simp only [PV.lt] at h ⊢; exact ltL_mono' caps h n
  | .agg cs, h, n => by simp only [PV.lt] at h ⊢; exact ltL_mono' cs h n
  | .tup ps, h, n => by simp only [PV.lt] at h ⊢; exact ltL_mono' ps h n
theorem ltL_mono' : (ps : List PV) → ltL 0 ps = true → ∀ n, ltL n ps = true
  | [], _, _ => rfl
  | p :: ps, h, n => by
    have h2 : p.lt 0 = true ∧ ltL 0 ps = true := by simpa [ltL] using h
    simp only [ltL]
    rw [lt_mono p h2.1 n, ltL_mono' ps h2.2 n]; rfl
end
theorem ltL_mono {ps : List PV} (h : ltL 0 ps = true) (n : Nat) : ltL n ps = true := ltL_mono' ps h n
end Go.Proofs.YtidhdlhblhbahaaGreat.Am
