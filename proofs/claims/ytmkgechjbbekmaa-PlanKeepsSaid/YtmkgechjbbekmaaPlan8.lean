/- The layers are a right division; the longest chain has as many systems as there are layers. -/
import Derived.Test.YtmkgechjbbekmaaPlan3
import Derived.Test.YtmkgechjbbekmaaPlan6
import Derived.Test.YtmkgechjbbekmaaPlan7
set_option linter.unusedVariables false
set_option linter.unusedSimpArgs false
namespace Go.Proofs.Ytmkgechjbbekmaa.Am
open Go Go.RowKit

/-! ### Depths -/
def depF (l : List GSystem) (k : Nat) : Int := (depsL l l.length).getD k 0
theorem depsL_get (l : List GSystem) : ∀ (n k : Nat), k < n → (depsL l n).getD k 0 = depAt l (depsL l k) k k
  | 0, _, h => by omega
  | n + 1, k, h => by
    have hl := depsL_len l n
    simp only [depsL, List.getD_eq_getElem?_getD]
    by_cases e : k = n
    · subst e
      rw [List.getElem?_append_right (by omega), hl, Nat.sub_self]; rfl
    · rw [List.getElem?_append_left (by omega), ← List.getD_eq_getElem?_getD]
      exact depsL_get l n k (by omega)
theorem depF_eq (l : List GSystem) (k : Nat) (h : k < l.length) : depF l k = depAt l (depsL l k) k k := depsL_get l _ k h
theorem depF_pre (l : List GSystem) (k j : Nat) (h : k ≤ l.length) (hj : j < k) : (depsL l k).getD j 0 = depF l j := by
  rw [depsL_get l k j hj, depF_eq l j (by omega)]
theorem depAt_ge (l : List GSystem) (out : List Int) (i : Nat) : ∀ n j, j < n → confAt l j i = true → out.getD j 0 + 1 ≤ depAt l out i n
  | 0, _, h, _ => by omega
  | n + 1, j, h, hc => by
    unfold depAt
    by_cases e : j = n
    · subst e; rw [if_pos hc]; omega
    · have := depAt_ge l out i n j (by omega) hc
      split <;> omega
theorem depAt_wit (l : List GSystem) (out : List Int) (i : Nat) : ∀ n, depAt l out i n = 1 ∨ ∃ j, j < n ∧ confAt l j i = true ∧ depAt l out i n = out.getD j 0 + 1
  | 0 => .inl rfl
  | n + 1 => by
    unfold depAt
    split
    · rename_i hc
      rcases depAt_wit l out i n with h | ⟨j, h1, h2, h3⟩
      · by_cases e : depAt l out i n ≤ out.getD n 0 + 1
        · exact .inr ⟨n, by omega, hc, by omega⟩
        · exact .inl (by omega)
      · by_cases e : depAt l out i n ≤ out.getD n 0 + 1
        · exact .inr ⟨n, by omega, hc, by omega⟩
        · exact .inr ⟨j, by omega, h2, by omega⟩
    · rcases depAt_wit l out i n with h | ⟨j, h1, h2, h3⟩
      · exact .inl h
      · exact .inr ⟨j, by omega, h2, h3⟩
theorem depF_conf (l : List GSystem) {i j : Nat} (hj : j < i) (hi : i < l.length) (hc : confAt l j i = true) : depF l j + 1 ≤ depF l i := by
  rw [depF_eq l i hi, ← depF_pre l i j (by omega) hj]
  exact depAt_ge l _ i i j hj hc
theorem depF_wit (l : List GSystem) {i : Nat} (hi : i < l.length) : depF l i = 1 ∨ ∃ j, j < i ∧ confAt l j i = true ∧ depF l i = depF l j + 1 := by
  rw [depF_eq l i hi]
  rcases depAt_wit l (depsL l i) i i with h | ⟨j, h1, h2, h3⟩
  · exact .inl h
  · exact .inr ⟨j, h1, h2, by rw [h3, depF_pre l i j (by omega) h1]⟩
theorem depF_le (l : List GSystem) {i : Nat} (hi : i < l.length) : 1 ≤ depF l i ∧ depF l i ≤ l.length := by
  have hl := depsL_len l l.length
  refine depsL_le l l.length _ ?_
  simp only [depF, List.getD_eq_getElem?_getD]
  rw [List.getElem?_eq_getElem (by omega)]
  exact List.getElem_mem _

/-! ### Layers -/
def gRow (l : List GSystem) (m d : Nat) : List Int := ((List.range m).filter fun k : Nat => decide (depF l k = (d : Int) + 1)).map fun k : Nat => (k : Int)
def depMax (l : List GSystem) : Nat → Nat
  | 0 => 0
  | m + 1 => max (depMax l m) (depF l m).toNat
theorem depMax_ge (l : List GSystem) : ∀ m k, k < m → (depF l k).toNat ≤ depMax l m
  | 0, _, h => by omega
  | m + 1, k, h => by
    simp only [depMax]
    by_cases e : k = m
    · subst e; omega
    · have := depMax_ge l m k (by omega); omega
theorem gRow_nil (l : List GSystem) (m d : Nat) (h : depMax l m ≤ d) : gRow l m d = [] := by
  simp only [gRow, List.map_eq_nil_iff, List.filter_eq_nil_iff, List.mem_range, decide_eq_true_eq]
  intro k hk e
  have := depMax_ge l m k hk
  omega
theorem gRow_succ (l : List GSystem) (m d : Nat) : gRow l (m + 1) d = if depF l m = (d : Int) + 1 then gRow l m d ++ [(m : Int)] else gRow l m d := by
  simp only [gRow, List.range_succ, List.filter_append, List.map_append]
  split
  · rename_i h; simp [h]
  · rename_i h; simp [h]
structure LayInv (l : List GSystem) (m : Nat) (rows : List (List Int)) : Prop where
  get : ∀ d, rows.getD d [] = gRow l m d
  len : rows.length = depMax l m
  sum : rows.flatten.length = m
theorem set_flat {α : Type} (x : α) : ∀ (rows : List (List α)) (k : Nat), k < rows.length → (rows.set k (rows.getD k [] ++ [x])).flatten.length = rows.flatten.length + 1
  | [], _, h => by simp at h
  | r :: rows, 0, _ => by simp [List.getD]; omega
  | r :: rows, k + 1, h => by
    have := set_flat x rows k (by simpa using h)
    simp only [List.set_cons_succ, List.flatten_cons, List.length_append, List.getD_cons_succ]
    omega
theorem lay_step (l : List GSystem) {m : Nat} {rows : List (List Int)} (hm : m < l.length) (h : LayInv l m rows) : LayInv l (m + 1) (layAdd (layExt (depF l m).toNat rows) ((depF l m).toNat - 1) m) := by
  obtain ⟨h1, h2, h3⟩ := h
  have hd := depF_le l hm
  obtain ⟨e, he⟩ : ∃ e : Nat, depF l m = (e : Int) + 1 := ⟨(depF l m).toNat - 1, by omega⟩
  have het : (depF l m).toNat = e + 1 := by omega
  rw [het]
  have hextl : (layExt (e + 1) rows).length = max rows.length (e + 1) := by simp [layExt]; omega
  have hextg : ∀ d, (layExt (e + 1) rows).getD d [] = gRow l m d := fun d => by
    rw [← h1 d]
    simp only [layExt, List.getD_eq_getElem?_getD]
    by_cases hdl : d < rows.length
    · rw [List.getElem?_append_left hdl]
    · rw [List.getElem?_append_right (by omega), List.getElem?_replicate]
      rw [List.getElem?_eq_none (by omega)]
      split <;> rfl
  have hextf : (layExt (e + 1) rows).flatten = rows.flatten := by
    have : ∀ n, (List.replicate n ([] : List Int)).flatten = [] := fun n => by simp
    simp [layExt]
  have hk : e < (layExt (e + 1) rows).length := by rw [hextl]; omega
  refine ⟨fun d => ?_, ?_, ?_⟩
  · rw [gRow_succ, he]
    simp only [layAdd, Nat.add_sub_cancel, List.getD_eq_getElem?_getD, List.getElem?_set]
    by_cases hde : d = e
    · subst hde
      rw [if_pos rfl, if_pos hk, if_pos rfl, ← List.getD_eq_getElem?_getD, hextg]; rfl
    · rw [if_neg (fun e => hde e.symm), if_neg (by omega), ← List.getD_eq_getElem?_getD, hextg]
  · simp only [layAdd, List.length_set, hextl, depMax, h2, het]
  · simp only [layAdd, Nat.add_sub_cancel]
    rw [set_flat _ _ _ hk, hextf, h3]
theorem lay_go (l : List GSystem) : ∀ (n m : Nat) (rows : List (List Int)), m + n = l.length → LayInv l m rows → LayInv l l.length (layGo ((depsL l l.length).drop m) m rows)
  | 0, m, rows, h, hi => by
    have hl := depsL_len l l.length
    rw [List.drop_eq_nil_of_le (by omega), layGo]
    have : m = l.length := by omega
    subst this; exact hi
  | n + 1, m, rows, h, hi => by
    have hl := depsL_len l l.length
    have hm : m < (depsL l l.length).length := by omega
    rw [List.drop_eq_getElem_cons hm, layGo]
    have e : (depsL l l.length)[m] = depF l m := by simp [depF, List.getD, List.getElem?_eq_getElem hm]
    rw [e]
    exact lay_go l n (m + 1) _ (by omega) (lay_step l (by omega) hi)
theorem lay_inv (l : List GSystem) : LayInv l l.length (layersL l) := by
  have := lay_go l l.length 0 [] (by omega) ⟨fun d => by simp [gRow], rfl, rfl⟩
  simpa [layersL] using this
theorem lay_row (l : List GSystem) {d : Nat} {row : List Int} (h : (layersL l)[d]? = some row) : row = gRow l l.length d := by
  have := (lay_inv l).get d
  rw [List.getD_eq_getElem?_getD, h] at this
  exact this
theorem gRow_mem (l : List GSystem) (m d : Nat) (x : Int) : x ∈ gRow l m d ↔ ∃ k : Nat, x = k ∧ k < m ∧ depF l k = d + 1 := by
  simp only [gRow, List.mem_map, List.mem_filter, List.mem_range, decide_eq_true_eq]
  constructor
  · rintro ⟨k, ⟨h1, h2⟩, rfl⟩; exact ⟨k, rfl, h1, h2⟩
  · rintro ⟨k, rfl, h1, h2⟩; exact ⟨k, ⟨h1, h2⟩, rfl⟩
theorem gRow_pair (l : List GSystem) (m d : Nat) : (gRow l m d).Pairwise (· < ·) := by
  refine List.Pairwise.map _ (fun a b (h : a < b) => by omega) (List.Pairwise.filter _ ?_)
  exact List.pairwise_lt_range
theorem right_layers (l : List GSystem) : RightL l (layersL l) (depF l) := by
  have hI := lay_inv l
  refine ⟨?_, fun d row h x hx => ?_, fun k hk => ?_, hI.sum, fun d row h i hi => ?_, fun i j hj hi hc => by have := depF_conf l hj hi hc; omega⟩
  · rw [List.nodup_iff_pairwise_ne, List.pairwise_flatten]
    refine ⟨fun row hrow => ?_, ?_⟩
    · obtain ⟨d, hd, rfl⟩ := List.getElem_of_mem hrow
      have := lay_row l (List.getElem?_eq_getElem hd)
      rw [this]
      exact (gRow_pair l _ _).imp fun h => by omega
    · rw [List.pairwise_iff_getElem]
      intro a b ha hb hab x hx y hy exy
      subst exy
      have e1 := lay_row l (List.getElem?_eq_getElem ha)
      have e2 := lay_row l (List.getElem?_eq_getElem hb)
      rw [e1, gRow_mem] at hx
      rw [e2, gRow_mem] at hy
      obtain ⟨k1, q1, _, q2⟩ := hx
      obtain ⟨k2, q3, _, q4⟩ := hy
      have : k1 = k2 := by omega
      subst this
      omega
  · rw [lay_row l h, gRow_mem] at hx; exact hx
  · have hd := depF_le l hk
    have hm := depMax_ge l l.length k hk
    obtain ⟨e, he⟩ : ∃ e : Nat, depF l k = (e : Int) + 1 := ⟨(depF l k).toNat - 1, by omega⟩
    have hel : e < (layersL l).length := by rw [hI.len]; omega
    refine List.mem_flatten.2 ⟨(layersL l)[e], List.getElem_mem hel, ?_⟩
    rw [lay_row l (List.getElem?_eq_getElem hel), gRow_mem]
    exact ⟨k, rfl, hk, he⟩
  · have e := lay_row l h
    subst e
    exact List.pairwise_iff_getElem.1 (gRow_pair l _ _) i (i + 1) (by omega) hi (by omega)
end Go.Proofs.Ytmkgechjbbekmaa.Am
