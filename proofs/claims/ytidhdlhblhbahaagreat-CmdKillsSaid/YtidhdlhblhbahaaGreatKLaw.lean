/- The lists of kinds that tourmake makes are valid. -/
import Derived.Test.YtidhdlhblhbahaaGreatMake2
import Derived.Test.YtidhdlhblhbahaaGreatKind4
set_option linter.unusedVariables false
set_option linter.unusedSimpArgs false
namespace Go.Proofs.YtidhdlhblhbahaaGreat.Am
open Go Go.RowKit

def GoodF (j : Nat) (f : GField) : Prop := f.Name = nm3 j ∧ fieldB f = true
def GoodFs (fs : List GField) : Prop := fs.length ≤ 3 ∧ ∀ j f, fs[j]? = some f → GoodF j f
def GoodK (j : Nat) (k : GKind) : Prop := k.Name = nm4 j ∧ GoodFs k.Fields ∧ 0 < k.Fields.length
def GoodKs (ks : List GKind) : Prop := ks.length ≤ 4 ∧ ∀ j k, ks[j]? = some k → GoodK j k

theorem nmT0 : nameB (nm3 0) = true := by kernel_rfl
theorem nmT1 : nameB (nm3 1) = true := by kernel_rfl
theorem nmT2 : nameB (nm3 2) = true := by kernel_rfl
theorem nmOk3 {j : Nat} (h : j < 3) : nameB (nm3 j) = true := by
  match j, h with
  | 0, _ => exact nmT0
  | 1, _ => exact nmT1
  | 2, _ => exact nmT2
theorem nmF0 : nameB (nm4 0) = true := by kernel_rfl
theorem nmF1 : nameB (nm4 1) = true := by kernel_rfl
theorem nmF2 : nameB (nm4 2) = true := by kernel_rfl
theorem nmF3 : nameB (nm4 3) = true := by kernel_rfl
theorem nmOk4 {j : Nat} (h : j < 4) : nameB (nm4 j) = true := by
  match j, h with
  | 0, _ => exact nmF0
  | 1, _ => exact nmF1
  | 2, _ => exact nmF2
  | 3, _ => exact nmF3
theorem nmInj3 {i j : Nat} (hi : i < 3) (hj : j < 3) (h : nm3 i = nm3 j) : i = j := by
  match i, j, hi, hj with
  | 0, 0, _, _ | 1, 1, _, _ | 2, 2, _, _ => rfl
  | 0, 1, _, _ | 0, 2, _, _ | 1, 0, _, _ | 1, 2, _, _ | 2, 0, _, _ | 2, 1, _, _ => simp [nm3] at h
theorem nmInj4 {i j : Nat} (hi : i < 4) (hj : j < 4) (h : nm4 i = nm4 j) : i = j := by
  match i, j, hi, hj with
  | 0, 0, _, _ | 1, 1, _, _ | 2, 2, _, _ | 3, 3, _, _ => rfl
  | 0, 1, _, _ | 0, 2, _, _ | 0, 3, _, _ | 1, 0, _, _ | 1, 2, _, _ | 1, 3, _, _ | 2, 0, _, _ | 2, 1, _, _ | 2, 3, _, _ | 3, 0, _, _ | 3, 1, _, _ | 3, 2, _, _ => simp [nm4] at h

theorem mkField_good {j : Nat} (hj : j < 3) (l : List Int) : GoodF j (mkField j l).1 := by
  have h1 := nextV_lt (l := l) (n := 9) (by omega)
  have h2 := nextV_lt (l := nextL l 9) (n := 40) (by omega)
  have h3 := nmOk3 hj
  unfold mkField
  simp only
  split
  · exact ⟨rfl, by simp [fieldB, h3]⟩
  · refine ⟨rfl, ?_⟩
    simp [fieldB, h3]
    omega

theorem mkFields_good : ∀ (n i : Nat) (acc : List GField) (l : List Int), acc.length = i → i + n ≤ 3 → GoodFs acc → GoodFs (mkFields n i acc l).1 ∧ (mkFields n i acc l).1.length = i + n
  | 0, i, acc, l, h, _, ha => ⟨ha, h⟩
  | n + 1, i, acc, l, h, hn, ha => by
    rw [mkFields]
    have := mkFields_good n (i + 1) (acc ++ [(mkField i l).1]) (mkField i l).2 (by simp [h]) (by omega) ⟨by simp; omega, fun j f hf => by
      rcases Nat.lt_or_ge j acc.length with g | g
      · rw [List.getElem?_append_left g] at hf; exact ha.2 j f hf
      · rw [List.getElem?_append_right g] at hf
        have hj : j - acc.length = 0 := by
          have := (List.getElem?_eq_some_iff.1 hf).1
          simp at this; omega
        rw [hj] at hf
        simp at hf
        have : j = i := by omega
        subst this
        subst hf
        exact mkField_good (by omega) l⟩
    exact ⟨this.1, by rw [this.2]; omega⟩

theorem mkKind_good {j : Nat} (l : List Int) : GoodK j (mkKind j l).1 := by
  have h1 := nextV_lt (l := l) (n := 3) (by omega)
  have := mkFields_good (1 + nextV l 3).toNat 0 [] (nextL l 3) rfl (by omega) ⟨by simp, by simp⟩
  exact ⟨rfl, this.1, by show 0 < (mkFields _ _ _ _).1.length; rw [this.2]; omega⟩

theorem mkKinds_good : ∀ (n i : Nat) (acc : List GKind) (l : List Int), acc.length = i → i + n ≤ 4 → GoodKs acc → GoodKs (mkKinds n i acc l).1 ∧ (mkKinds n i acc l).1.length = i + n
  | 0, i, acc, l, h, _, ha => ⟨ha, h⟩
  | n + 1, i, acc, l, h, hn, ha => by
    rw [mkKinds]
    have := mkKinds_good n (i + 1) (acc ++ [(mkKind i l).1]) (mkKind i l).2 (by simp [h]) (by omega) ⟨by simp; omega, fun j f hf => by
      rcases Nat.lt_or_ge j acc.length with g | g
      · rw [List.getElem?_append_left g] at hf; exact ha.2 j f hf
      · rw [List.getElem?_append_right g] at hf
        have hj : j - acc.length = 0 := by
          have := (List.getElem?_eq_some_iff.1 hf).1
          simp at this; omega
        rw [hj] at hf
        simp at hf
        have : j = i := by omega
        subst this
        subst hf
        exact mkKind_good l⟩
    exact ⟨this.1, by rw [this.2]; omega⟩

theorem kindsM_good (l : List Int) : GoodKs (kindsM l).1 ∧ 0 < (kindsM l).1.length := by
  have h1 := nextV_lt (l := l) (n := 4) (by omega)
  have := mkKinds_good (1 + nextV l 4).toNat 0 [] (nextL l 4) rfl (by omega) ⟨by simp, by simp⟩
  exact ⟨this.1, by show 0 < (mkKinds _ _ _ _).1.length; rw [this.2]; omega⟩

theorem fieldsE_good : ∀ (r pre : List GField), GoodFs (pre ++ r) → fieldsE pre r = 0
  | [], pre, _ => rfl
  | f :: r, pre, h => by
    have hl := h.1
    simp at hl
    have hf := h.2 pre.length f (by simp)
    have h0 : fieldE f = 0 := by simp [fieldE, hf.2]
    have hn : pre.any (fun g => decide (g.Name = f.Name)) = false := by
      rw [List.any_eq_false]
      intro g hg
      obtain ⟨j, hj, rfl⟩ := List.getElem_of_mem hg
      have hgj := h.2 j pre[j] (by rw [List.getElem?_append_left hj]; exact List.getElem?_eq_getElem hj)
      simp only [decide_eq_true_eq]
      intro e
      rw [hgj.1, hf.1] at e
      have := nmInj3 (by omega) (by omega) e
      omega
    rw [fieldsE, if_neg (by simp [h0]), if_neg (by simp [hn])]
    exact fieldsE_good r (pre ++ [f]) (by simpa using h)

theorem oneE_good {j : Nat} (hj : j < 4) {k : GKind} (h : GoodK j k) : oneE k = 0 := by
  have h1 : nameB k.Name = true := by rw [h.1]; exact nmOk4 hj
  rw [oneE, if_pos h1, if_neg (by have := h.2.1.1; omega)]
  exact fieldsE_good k.Fields [] (by simpa using h.2.1)

theorem findK_good {ks : List GKind} (h : GoodKs ks) {i : Nat} (hi : i < ks.length) : findK ks ks[i].Name = i :=
  findK_some hi (fun j hj k hk e => by
    have h1 := (h.2 j k hk).1
    have h2 := (h.2 i ks[i] (List.getElem?_eq_getElem hi)).1
    have hl := h.1
    rw [h1, h2] at e
    have := nmInj4 (by omega) (by omega) e
    omega) rfl

theorem checkGo_good : ∀ (r pre s : List GKind), GoodKs (pre ++ r) → checkGo pre (r ++ s) = checkGo (pre ++ r) s
  | [], pre, s, _ => by simp
  | k :: r, pre, s, h => by
    have hl := h.1
    simp at hl
    have hk := h.2 pre.length k (by simp)
    have h0 := oneE_good (by omega) hk
    have hn : ¬ findK pre k.Name ≥ 0 := by
      rw [findK_none fun j hj g hg e => ?_]
      · omega
      · have hgj := h.2 j g (by rw [List.getElem?_append_left hj]; exact hg)
        rw [hgj.1, hk.1] at e
        have := nmInj4 (by omega) (by omega) e
        omega
    rw [List.cons_append, checkGo, if_neg (by simp [h0]), if_neg hn, checkGo_good r (pre ++ [k]) s (by simpa using h)]
    simp

theorem checkE_good {ks : List GKind} (h : GoodKs ks) : checkE ks = 0 := by
  have hl := h.1
  rw [checkE, if_neg (by omega)]
  have := checkGo_good ks [] [] (by simpa using h)
  simpa [checkGo] using this

theorem checkE_twice {ks : List GKind} (h : GoodKs ks) {i : Nat} (hi : i < ks.length) : checkE (ks ++ [ks[i]]) = 5 := by
  have hl := h.1
  rw [checkE, if_neg (by simp; omega)]
  have := checkGo_good ks [] [ks[i]] (by simpa using h)
  rw [this, List.nil_append, checkGo, if_neg (by simp [oneE_good (by omega) (h.2 i ks[i] (List.getElem?_eq_getElem hi))]), if_pos (by rw [findK_good h hi]; omega)]
end Go.Proofs.YtidhdlhblhbahaaGreat.Am
