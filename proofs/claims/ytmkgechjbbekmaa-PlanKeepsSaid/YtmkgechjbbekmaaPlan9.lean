/- A longest chain: its links conflict, and it has as many systems as there are layers. -/
import Derived.Test.YtmkgechjbbekmaaPlan8
set_option linter.unusedVariables false
set_option linter.unusedSimpArgs false
namespace Go.Proofs.Ytmkgechjbbekmaa.Am
open Go Go.RowKit

def resF (l : List GSystem) (i : Nat) : Int := (resL l l.length l.length).getD i 0
theorem resL_get (l : List GSystem) (n : Nat) : ∀ (k i : Nat), k ≤ n → n - k ≤ i → i < n → (resL l n k).getD (i - (n - k)) 0 = resAt l i (resL l n (n - 1 - i)) (n - 1 - i)
  | 0, i, h1, h2, h3 => by omega
  | k + 1, i, h1, h2, h3 => by
    by_cases e : i = n - (k + 1)
    · subst e
      rw [Nat.sub_self, show n - 1 - (n - (k + 1)) = k by omega]; rfl
    · rw [show i - (n - (k + 1)) = (i - (n - k)) + 1 by omega, resL, List.getD_cons_succ]
      exact resL_get l n k i (by omega) (by omega) h3
theorem resF_eq (l : List GSystem) {i : Nat} (h : i < l.length) : resF l i = resAt l i (resL l l.length (l.length - 1 - i)) (l.length - 1 - i) := by
  have := resL_get l l.length l.length i (Nat.le_refl _) (by omega) h
  rw [Nat.sub_self, Nat.sub_zero] at this
  exact this
theorem resF_suf (l : List GSystem) {i t : Nat} (h : i + 1 + t < l.length) : (resL l l.length (l.length - 1 - i)).getD t 0 = resF l (i + 1 + t) := by
  rw [resF_eq l h]
  have := resL_get l l.length (l.length - 1 - i) (i + 1 + t) (by omega) (by omega) h
  rw [show i + 1 + t - (l.length - (l.length - 1 - i)) = t by omega] at this
  exact this
theorem resAt_ge (l : List GSystem) (i : Nat) (r : List Int) : ∀ n t, t < n → confAt l i (i + 1 + t) = true → r.getD t 0 + 1 ≤ resAt l i r n
  | 0, _, h, _ => by omega
  | n + 1, t, h, hc => by
    unfold resAt
    by_cases e : t = n
    · subst e; rw [if_pos hc]; omega
    · have := resAt_ge l i r n t (by omega) hc
      split <;> omega
theorem resAt_wit (l : List GSystem) (i : Nat) (r : List Int) : ∀ n, resAt l i r n = 1 ∨ ∃ t, t < n ∧ confAt l i (i + 1 + t) = true ∧ resAt l i r n = r.getD t 0 + 1
  | 0 => .inl rfl
  | n + 1 => by
    unfold resAt
    split
    · rename_i hc
      rcases resAt_wit l i r n with h | ⟨j, h1, h2, h3⟩
      · by_cases e : resAt l i r n ≤ r.getD n 0 + 1
        · exact .inr ⟨n, by omega, hc, by omega⟩
        · exact .inl (by omega)
      · by_cases e : resAt l i r n ≤ r.getD n 0 + 1
        · exact .inr ⟨n, by omega, hc, by omega⟩
        · exact .inr ⟨j, by omega, h2, by omega⟩
    · rcases resAt_wit l i r n with h | ⟨j, h1, h2, h3⟩
      · exact .inl h
      · exact .inr ⟨j, by omega, h2, h3⟩
theorem resF_conf (l : List GSystem) {i j : Nat} (hj : i < j) (hi : j < l.length) (hc : confAt l i j = true) : resF l j + 1 ≤ resF l i := by
  obtain ⟨t, rfl⟩ : ∃ t, j = i + 1 + t := ⟨j - i - 1, by omega⟩
  rw [resF_eq l (by omega : i < l.length), ← resF_suf l hi]
  exact resAt_ge l i _ _ t (by omega) hc
theorem resF_wit (l : List GSystem) {i : Nat} (hi : i < l.length) : resF l i = 1 ∨ ∃ j, i < j ∧ j < l.length ∧ confAt l i j = true ∧ resF l i = resF l j + 1 := by
  rw [resF_eq l hi]
  rcases resAt_wit l i (resL l l.length (l.length - 1 - i)) (l.length - 1 - i) with h | ⟨t, h1, h2, h3⟩
  · exact .inl h
  · exact .inr ⟨i + 1 + t, by omega, by omega, h2, by rw [h3, resF_suf l (by omega)]⟩
theorem resF_pos (l : List GSystem) {i : Nat} (hi : i < l.length) : 1 ≤ resF l i := by
  have hl := resL_len l l.length l.length
  refine (resL_le l l.length l.length _ ?_).1
  simp only [resF, List.getD_eq_getElem?_getD]
  rw [List.getElem?_eq_getElem (by omega)]
  exact List.getElem_mem _
def bestF (l : List GSystem) : Int := bestL (resL l l.length l.length)
theorem bestL_ge : ∀ (r : List Int), ∀ x ∈ r, x ≤ bestL r
  | [], x, h => by simp at h
  | y :: r, x, h => by
    simp only [bestL]
    rcases List.mem_cons.1 h with rfl | h
    · omega
    · have := bestL_ge r x h; omega
theorem bestL_wit : ∀ (r : List Int), bestL r = 0 ∨ bestL r ∈ r
  | [] => .inl rfl
  | y :: r => by
    simp only [bestL]
    by_cases e : bestL r ≤ y
    · right; rw [show max (bestL r) y = y by omega]; simp
    · rw [show max (bestL r) y = bestL r by omega]
      rcases bestL_wit r with h | h
      · exact .inl h
      · exact .inr (by simp [h])
theorem bestF_ge (l : List GSystem) {i : Nat} (hi : i < l.length) : resF l i ≤ bestF l := by
  have hl := resL_len l l.length l.length
  refine bestL_ge _ _ ?_
  simp only [resF, List.getD_eq_getElem?_getD]
  rw [List.getElem?_eq_getElem (by omega)]
  exact List.getElem_mem _
theorem bestF_wit (l : List GSystem) : bestF l = 0 ∨ ∃ i, i < l.length ∧ resF l i = bestF l := by
  rcases bestL_wit (resL l l.length l.length) with h | h
  · exact .inl h
  · obtain ⟨i, hi, e⟩ := List.getElem_of_mem h
    rw [resL_len] at hi
    refine .inr ⟨i, hi, ?_⟩
    simp only [resF, bestF, List.getD_eq_getElem?_getD]
    rw [List.getElem?_eq_getElem (by rw [resL_len]; exact hi)]
    exact e
/-! ### As many as there are layers -/
theorem dual1 (l : List GSystem) : ∀ i, i < l.length → depF l i + resF l i ≤ bestF l + 1 := fun i => by
  induction i using Nat.strongRecOn with
  | _ i ih =>
    intro hi
    rcases depF_wit l hi with h | ⟨j, h1, h2, h3⟩
    · have := bestF_ge l hi; omega
    · have := ih j h1 (by omega)
      have := resF_conf l h1 hi h2
      omega
theorem dual2 (l : List GSystem) : ∀ m i, i < l.length → l.length - i = m → depF l i + resF l i ≤ depMax l l.length + 1 := fun m => by
  induction m using Nat.strongRecOn with
  | _ m ih =>
    intro i hi hm
    have hd := depF_le l hi
    have hg := depMax_ge l l.length i hi
    rcases resF_wit l hi with h | ⟨j, h1, h2, h3, h4⟩
    · omega
    · have := ih (l.length - j) (by omega) j h2 rfl
      have := depF_conf l h1 h2 h3
      omega
theorem depMax_wit (l : List GSystem) : ∀ m, m ≤ l.length → depMax l m = 0 ∨ ∃ i, i < m ∧ (depF l i).toNat = depMax l m
  | 0, _ => .inl rfl
  | m + 1, h => by
    simp only [depMax]
    by_cases e : depMax l m ≤ (depF l m).toNat
    · exact .inr ⟨m, by omega, by omega⟩
    · rcases depMax_wit l m (by omega) with h2 | ⟨i, h1, h2⟩
      · exact .inl (by omega)
      · exact .inr ⟨i, by omega, by omega⟩
theorem best_eq (l : List GSystem) : bestF l = depMax l l.length := by
  have h0 : 0 ≤ bestF l := by
    rcases bestF_wit l with h | ⟨i, hi, h⟩
    · omega
    · have := resF_pos l hi; omega
  have h1 : bestF l ≤ depMax l l.length := by
    rcases bestF_wit l with h | ⟨i, hi, h⟩
    · omega
    · have := dual2 l _ i hi rfl
      have := depF_le l hi
      omega
  have h2 : (depMax l l.length : Int) ≤ bestF l := by
    rcases depMax_wit l l.length (Nat.le_refl _) with h | ⟨i, hi, h⟩
    · omega
    · have := dual1 l i hi
      have := resF_pos l hi
      have := depF_le l hi
      omega
  omega
/-! ### The chain that is taken -/
def lastI (out : List Int) : Nat := (out.getD (out.length - 1) 0).toNat
structure ChInv (l : List GSystem) (i : Nat) (out : List Int) : Prop where
  mem : ∀ y ∈ out, 0 ≤ y ∧ y < (i : Int)
  link : ∀ (m : Nat) (h : m + 1 < out.length), out[m]'(by omega) < out[m + 1] ∧ confAt l (out[m]'(by omega)).toNat (out[m + 1]).toNat = true
  le : (out.length : Int) ≤ bestF l
  wit : (out.length : Int) = bestF l ∨ ∃ k, i ≤ k ∧ k < l.length ∧ resF l k = bestF l - out.length ∧ (out = [] ∨ confAt l (lastI out) k = true)
theorem lastI_app (out : List Int) (i : Nat) : lastI (out ++ [(i : Int)]) = i := by simp [lastI, List.getD]
theorem chC_iff (l : List GSystem) (out : List Int) (i : Nat) : chC l (resL l l.length l.length) (bestF l) out i = true ↔ (out.length : Int) < bestF l ∧ resF l i = bestF l - out.length ∧ (out = [] ∨ confAt l (lastI out) i = true) := by
  simp [chC, resF, lastI, List.getD_eq_getElem?_getD]
theorem ch_step (l : List GSystem) {i : Nat} {out : List Int} (hi : i < l.length) (h : ChInv l i out) : ChInv l (i + 1) (if chC l (resL l l.length l.length) (bestF l) out i = true then out ++ [(i : Int)] else out) := by
  obtain ⟨h1, h2, h3, h4⟩ := h
  by_cases hc : chC l (resL l l.length l.length) (bestF l) out i = true
  · rw [if_pos hc]
    obtain ⟨c1, c2, c3⟩ := (chC_iff l out i).1 hc
    refine ⟨fun y hy => ?_, fun m hm => ?_, by simp; omega, ?_⟩
    · rcases List.mem_append.1 hy with hy | hy
      · have := h1 y hy; omega
      · simp at hy; omega
    · simp at hm
      by_cases e : m + 1 < out.length
      · have := h2 m e
        rw [List.getElem_append_left (by omega), List.getElem_append_left e]
        exact this
      · have e2 : m + 1 = out.length := by omega
        have hne : out ≠ [] := fun e3 => by subst e3; simp at e2
        have hl := h1 out[m] (List.getElem_mem (by omega))
        rw [List.getElem_append_left (by omega), List.getElem_append_right (by omega)]
        simp only [List.getElem_singleton]
        refine ⟨by omega, ?_⟩
        have hla : lastI out = (out[m]'(by omega)).toNat := by
          simp only [lastI, List.getD_eq_getElem?_getD, show out.length - 1 = m by omega]
          rw [List.getElem?_eq_getElem (by omega)]; rfl
        rw [← hla]
        exact c3.resolve_left hne
    · rw [List.length_append, List.length_singleton]
      by_cases e : (out.length : Int) + 1 = bestF l
      · exact .inl (by omega)
      · rcases resF_wit l hi with h | ⟨j, g1, g2, g3, g4⟩
        · omega
        · exact .inr ⟨j, by omega, g2, by omega, .inr (by rw [lastI_app]; exact g3)⟩
  · rw [if_neg hc]
    refine ⟨fun y hy => by have := h1 y hy; omega, h2, h3, ?_⟩
    rcases h4 with h | ⟨k, g1, g2, g3, g4⟩
    · exact .inl h
    · by_cases e : k = i
      · subst e
        by_cases e2 : (out.length : Int) = bestF l
        · exact .inl e2
        · exact absurd ((chC_iff l out k).2 ⟨by omega, g3, g4⟩) hc
      · exact .inr ⟨k, by omega, g2, g3, g4⟩
theorem ch_go (l : List GSystem) : ∀ (n i : Nat) (out : List Int), i + n = l.length → ChInv l i out → ChInv l l.length (chGo l (resL l l.length l.length) (bestF l) n i out)
  | 0, i, out, h, hi => by
    have : i = l.length := by omega
    subst this; exact hi
  | n + 1, i, out, h, hi => ch_go l n (i + 1) _ (by omega) (ch_step l (by omega) hi)
theorem chain_inv (l : List GSystem) : ChInv l l.length (chainL l) := by
  have h0 : 0 ≤ bestF l := by rw [best_eq]; omega
  refine ch_go l l.length 0 [] (by omega) ⟨by simp, fun m h => by simp at h, by simpa using h0, ?_⟩
  rcases bestF_wit l with h | ⟨i, hi, h⟩
  · exact .inl (by simp [h])
  · exact .inr ⟨i, by omega, hi, by simpa using h, .inl rfl⟩
theorem chain_len (l : List GSystem) : (chainL l).length = (layersL l).length := by
  have h := chain_inv l
  have h1 : ((chainL l).length : Int) = bestF l := by
    rcases h.wit with h | ⟨k, g1, g2, _⟩
    · exact h
    · omega
  rw [best_eq] at h1
  rw [(lay_inv l).len]; omega
end Go.Proofs.Ytmkgechjbbekmaa.Am
