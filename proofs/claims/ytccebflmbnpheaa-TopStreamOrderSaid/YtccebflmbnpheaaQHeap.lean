/- A heap of numbered values: the plain law. -/
import Derived.Test.YtccebflmbnpheaaDat
set_option linter.unusedVariables false
set_option linter.unusedSimpArgs false
namespace Go.Proofs.Ytccebflmbnpheaa.Am
open Go Go.RowKit

/-- Comes out before: by number, then by when it came. -/
def bef (a b : GMark) : Bool := if a.Kind ≠ b.Kind then decide (a.Kind < b.Kind) else decide (a.Tick < b.Tick)
theorem bef_iff (a b : GMark) : bef a b = true ↔ a.Kind < b.Kind ∨ (a.Kind = b.Kind ∧ a.Tick < b.Tick) := by
  unfold bef
  split <;> simp <;> omega
theorem bef_false (a b : GMark) : bef a b = false ↔ b.Kind < a.Kind ∨ (a.Kind = b.Kind ∧ b.Tick ≤ a.Tick) := by
  have := bef_iff a b
  cases h : bef a b with
  | true => rw [h] at this; simp at this ⊢; omega
  | false => rw [h] at this; simp at this ⊢; omega
theorem nb_trans {a b c : GMark} (h1 : bef a b = false) (h2 : bef b c = false) : bef a c = false := by
  rw [bef_false] at *; omega
theorem bef_nb {a b : GMark} (h : bef a b = true) : bef b a = false := by
  rw [bef_iff] at h; rw [bef_false]; omega
def q0 : GMark := ⟨0, 0, 0⟩
def atQ (h : List GMark) (i : Nat) : GMark := h.getD i q0
def swp (h : List GMark) (i j : Nat) : List GMark := (h.set i (atQ h j)).set j (atQ h i)
theorem swp_len (h : List GMark) (i j : Nat) : (swp h i j).length = h.length := by simp [swp]
theorem atQ_get {h : List GMark} {i : Nat} (hi : i < h.length) : atQ h i = h[i] := by simp [atQ, List.getD, hi]
theorem swp_perm {h : List GMark} {i j : Nat} (hi : i < h.length) (hj : j < h.length) : (swp h i j).Perm h := by
  unfold swp
  rw [atQ_get hi, atQ_get hj]
  exact List.set_set_perm hi hj
theorem atQ_set {h : List GMark} {i k : Nat} {x : GMark} : atQ (h.set i x) k = if i = k ∧ i < h.length then x else atQ h k := by
  unfold atQ
  simp only [List.getD, List.getElem?_set]
  by_cases e : i = k
  · subst e
    by_cases hl : i < h.length
    · simp [hl]
    · simp [hl, List.getElem?_eq_none (Nat.le_of_not_lt hl)]
  · simp [e]
theorem atQ_swp {h : List GMark} {i j : Nat} (hi : i < h.length) (hj : j < h.length) (k : Nat) : atQ (swp h i j) k = if k = j then atQ h i else if k = i then atQ h j else atQ h k := by
  unfold swp
  rw [atQ_set, atQ_set, List.length_set]
  by_cases h1 : j = k
  · subst h1; simp [hj]
  · have h1' : ¬ k = j := fun e => h1 e.symm
    by_cases h2 : i = k
    · subst h2; simp [h1, h1', hi]
    · have h2' : ¬ k = i := fun e => h2 e.symm
      simp [h1, h2, h1', h2']

def HeapOn (h : List GMark) (n : Nat) : Prop := ∀ j, 0 < j → j < n → bef (atQ h j) (atQ h ((j - 1) / 2)) = false
def up : Nat → List GMark → Nat → List GMark
  | 0, h, _ => h
  | f + 1, h, i => if 0 < i ∧ bef (atQ h i) (atQ h ((i - 1) / 2)) = true then up f (swp h i ((i - 1) / 2)) ((i - 1) / 2) else h
theorem up_spec : ∀ (f : Nat) (h : List GMark) (i : Nat), i < h.length → i < f → (∀ j, 0 < j → j < h.length → j ≠ i → bef (atQ h j) (atQ h ((j - 1) / 2)) = false) → (∀ j, 0 < i → 0 < j → j < h.length → (j - 1) / 2 = i → bef (atQ h j) (atQ h ((i - 1) / 2)) = false) →
    HeapOn (up f h i) h.length ∧ (up f h i).Perm h ∧ (up f h i).length = h.length
  | 0, h, i, _, hf, _, _ => by omega
  | f + 1, h, i, hi, hf, H1, H2 => by
    unfold up
    split
    · rename_i hc
      obtain ⟨h0, hb⟩ := hc
      obtain ⟨p, hp⟩ : ∃ p, (i - 1) / 2 = p := ⟨_, rfl⟩
      rw [hp] at hb ⊢
      have hpi : p < i := by omega
      have hpl : p < h.length := by omega
      have hat := atQ_swp hi hpl
      have hlen := swp_len h i p
      have hA : ∀ j, 0 < j → j < (swp h i p).length → j ≠ p → bef (atQ (swp h i p) j) (atQ (swp h i p) ((j - 1) / 2)) = false := fun j j0 jl jp => by
        rw [hlen] at jl
        rw [hat j, hat ((j - 1) / 2)]
        rw [if_neg jp]
        by_cases ji : j = i
        · subst ji
          rw [if_pos rfl, hp, if_pos rfl]
          exact bef_nb hb
        · rw [if_neg ji]
          by_cases hq : (j - 1) / 2 = p
          · rw [if_pos hq]
            have h1 := H1 j j0 jl ji
            rw [hq] at h1
            exact nb_trans h1 (bef_nb hb)
          · rw [if_neg hq]
            by_cases hr : (j - 1) / 2 = i
            · rw [if_pos hr]
              have := H2 j h0 j0 jl hr
              rwa [hp] at this
            · rw [if_neg hr]
              exact H1 j j0 jl ji
      have hB : ∀ j, 0 < p → 0 < j → j < (swp h i p).length → (j - 1) / 2 = p → bef (atQ (swp h i p) j) (atQ (swp h i p) ((p - 1) / 2)) = false := fun j p0 j0 jl jp => by
        rw [hlen] at jl
        rw [hat j, hat ((p - 1) / 2)]
        have hpp : ¬ (p - 1) / 2 = p := by omega
        have hpi2 : ¬ (p - 1) / 2 = i := by omega
        rw [if_neg hpp, if_neg hpi2, if_neg (by omega)]
        have hpar := H1 p p0 hpl (by omega)
        by_cases ji : j = i
        · rw [if_pos ji]; exact hpar
        · rw [if_neg ji]
          have h1 := H1 j j0 jl ji
          rw [jp] at h1
          exact nb_trans h1 hpar
      obtain ⟨g1, g2, g3⟩ := up_spec f (swp h i p) p (by omega) (by omega) hA hB
      rw [hlen] at g1 g3
      exact ⟨g1, g2.trans (swp_perm hi hpl), g3⟩
    · rename_i hc
      refine ⟨fun j j0 jl => ?_, List.Perm.refl _, rfl⟩
      by_cases ji : j = i
      · subst ji
        cases hb : bef (atQ h j) (atQ h ((j - 1) / 2)) with
        | true => exact absurd ⟨j0, hb⟩ hc
        | false => rfl
      · exact H1 j j0 jl ji
def putQ (h : List GMark) (x : GMark) : List GMark := up (h.length + 1) (h ++ [x]) h.length
theorem putQ_spec {h : List GMark} (hh : HeapOn h h.length) (x : GMark) : HeapOn (putQ h x) (h.length + 1) ∧ (putQ h x).Perm (h ++ [x]) ∧ (putQ h x).length = h.length + 1 := by
  have hat : ∀ k, k < h.length → atQ (h ++ [x]) k = atQ h k := fun k hk => by simp [atQ, List.getD, List.getElem?_append_left hk]
  have := up_spec (h.length + 1) (h ++ [x]) h.length (by simp) (by omega) (fun j j0 jl jn => by
    have : j < h.length := by simp at jl; omega
    rw [hat j this, hat _ (by omega)]
    exact hh j j0 this) (fun j i0 j0 jl jp => by simp at jl; omega)
  simpa [putQ] using this

def down : Nat → List GMark → Nat → Nat → List GMark
  | 0, h, _, _ => h
  | f + 1, h, n, i =>
    let k := if 2 * i + 1 + 1 < n ∧ bef (atQ h (2 * i + 1 + 1)) (atQ h (2 * i + 1)) = true then 2 * i + 1 + 1 else 2 * i + 1
    if n ≤ k ∨ bef (atQ h i) (atQ h k) = true then h else down f (swp h i k) n k
theorem down_spec : ∀ (f : Nat) (h : List GMark) (n i : Nat), n = h.length → n < f + i → (∀ j, 0 < j → j < n → (j - 1) / 2 ≠ i → bef (atQ h j) (atQ h ((j - 1) / 2)) = false) → (∀ j, 0 < i → 0 < j → j < n → (j - 1) / 2 = i → bef (atQ h j) (atQ h ((i - 1) / 2)) = false) →
    HeapOn (down f h n i) n ∧ (down f h n i).Perm h ∧ (down f h n i).length = h.length
  | 0, h, n, i, hn, hf, D1, D2 => by
    unfold down
    exact ⟨fun j j0 jn => D1 j j0 jn (by omega), List.Perm.refl _, rfl⟩
  | f + 1, h, n, i, hn, hf, D1, D2 => by
    unfold down
    obtain ⟨k, hk⟩ : ∃ k, (if 2 * i + 1 + 1 < n ∧ bef (atQ h (2 * i + 1 + 1)) (atQ h (2 * i + 1)) = true then 2 * i + 1 + 1 else 2 * i + 1) = k := ⟨_, rfl⟩
    simp only [hk]
    have hkc : k = 2 * i + 1 ∨ k = 2 * i + 1 + 1 := by rw [← hk]; split <;> simp
    have hpk : (k - 1) / 2 = i := by omega
    have hnk : n ≤ k → n ≤ 2 * i + 1 := fun hle => by
      by_cases hc : 2 * i + 1 + 1 < n ∧ bef (atQ h (2 * i + 1 + 1)) (atQ h (2 * i + 1)) = true
      · rw [if_pos hc] at hk; omega
      · rw [if_neg hc] at hk; omega
    -- k is the least of the children
    have hmin : ∀ j, 0 < j → j < n → (j - 1) / 2 = i → k < n → bef (atQ h j) (atQ h k) = false := fun j j0 jn jp kn => by
      have hj : j = 2 * i + 1 ∨ j = 2 * i + 1 + 1 := by omega
      have hself : ∀ x : GMark, bef x x = false := fun x => by rw [bef_false]; omega
      by_cases hc : 2 * i + 1 + 1 < n ∧ bef (atQ h (2 * i + 1 + 1)) (atQ h (2 * i + 1)) = true
      · rw [if_pos hc] at hk
        rw [← hk]
        rcases hj with rfl | rfl
        · exact bef_nb hc.2
        · exact hself _
      · rw [if_neg hc] at hk
        rw [← hk]
        rcases hj with rfl | rfl
        · exact hself _
        · cases hb : bef (atQ h (2 * i + 1 + 1)) (atQ h (2 * i + 1)) with
          | true => exact absurd ⟨jn, hb⟩ hc
          | false => rfl
    split
    · rename_i hc
      refine ⟨fun j j0 jn => ?_, List.Perm.refl _, rfl⟩
      by_cases jp : (j - 1) / 2 = i
      · rcases hc with hc | hc
        · have := hnk hc
          omega
        · have hkn : k < n := by
            rcases Nat.lt_or_ge k n with h | h
            · exact h
            · have := hnk h
              omega
          rw [jp]
          exact nb_trans (hmin j j0 jn jp hkn) (bef_nb hc)
      · exact D1 j j0 jn jp
    · rename_i hc
      have hkn : k < n := by
        rcases Nat.lt_or_ge k n with h | h
        · exact h
        · exact absurd (.inl h) hc
      have hik : bef (atQ h i) (atQ h k) = false := by
        cases hb : bef (atQ h i) (atQ h k) with
        | true => exact absurd (.inr hb) hc
        | false => rfl
      have hil : i < h.length := by omega
      have hkl : k < h.length := by omega
      have hat := atQ_swp hil hkl
      have hlen := swp_len h i k
      have hA : ∀ j, 0 < j → j < n → (j - 1) / 2 ≠ k → bef (atQ (swp h i k) j) (atQ (swp h i k) ((j - 1) / 2)) = false := fun j j0 jn jp => by
        rw [hat j, hat ((j - 1) / 2), if_neg jp]
        by_cases hjk : j = k
        · subst hjk
          rw [if_pos rfl, hpk, if_pos rfl]
          exact hik
        · rw [if_neg hjk]
          by_cases hji : j = i
          · subst hji
            rw [if_pos rfl, if_neg (by omega)]
            exact D2 k j0 (by omega) hkn hpk
          · rw [if_neg hji]
            by_cases hq : (j - 1) / 2 = i
            · rw [if_pos hq]; exact hmin j j0 jn hq hkn
            · rw [if_neg hq]; exact D1 j j0 jn hq
      have hB : ∀ j, 0 < k → 0 < j → j < n → (j - 1) / 2 = k → bef (atQ (swp h i k) j) (atQ (swp h i k) ((k - 1) / 2)) = false := fun j k0 j0 jn jp => by
        rw [hat j, hat ((k - 1) / 2), hpk, if_neg (by omega : ¬ i = k), if_pos rfl, if_neg (by omega), if_neg (by omega)]
        have := D1 j j0 jn (by omega)
        rwa [jp] at this
      obtain ⟨g1, g2, g3⟩ := down_spec f (swp h i k) n k (by omega) (by omega) hA hB
      exact ⟨g1, g2.trans (swp_perm hil hkl), by omega⟩
theorem heap_min {h : List GMark} {n : Nat} (hh : HeapOn h n) : ∀ j, j < n → bef (atQ h j) (atQ h 0) = false := by
  intro j
  induction j using Nat.strongRecOn with
  | _ j ih =>
    intro hj
    rcases Nat.eq_zero_or_pos j with h0 | h0
    · subst h0; rw [bef_false]; omega
    · exact nb_trans (hh j h0 hj) (ih ((j - 1) / 2) (by omega) (by omega))

/-- Without its first value. -/
def takeH (h : List GMark) (n : Nat) : List GMark := down (n + 1) ((h.set 0 (atQ h n)).take n) n 0
theorem takeH_spec {h : List GMark} {n : Nat} (hl : h.length = n + 1) (hh : HeapOn h (n + 1)) : HeapOn (takeH h n) n ∧ (atQ h 0 :: takeH h n).Perm h ∧ (takeH h n).length = n := by
  have hl2 : ((h.set 0 (atQ h n)).take n).length = n := by simp; omega
  have hat : ∀ k, 0 < k → k < n → atQ ((h.set 0 (atQ h n)).take n) k = atQ h k := fun k k0 kn => by
    simp only [atQ, List.getD]
    rw [List.getElem?_take_of_lt kn, List.getElem?_set_ne (by omega)]
  obtain ⟨g1, g2, g3⟩ := down_spec (n + 1) ((h.set 0 (atQ h n)).take n) n 0 hl2.symm (by omega) (fun j j0 jn jp => by
    rw [hat j j0 jn, hat ((j - 1) / 2) (by omega) (by omega)]
    exact hh j j0 (by omega)) (fun j i0 => by omega)
  refine ⟨g1, ?_, by unfold takeH; omega⟩
  refine (List.Perm.cons _ g2).trans ?_
  cases h with
  | nil => simp at hl
  | cons a r =>
    simp only [List.length_cons, Nat.add_right_cancel_iff] at hl
    subst hl
    simp only [atQ, List.getD, List.getElem?_cons_zero, Option.getD_some, List.set_cons_zero]
    cases hr : r.reverse with
    | nil =>
      have : r = [] := by simpa using hr
      subst this; simp
    | cons z m =>
      have e : r = m.reverse ++ [z] := by rw [← List.reverse_reverse r, hr]; simp
      subst e
      have hz : (a :: (m.reverse ++ [z]))[(m.reverse ++ [z]).length]? = some z := by
        rw [List.length_append, List.length_singleton, List.getElem?_cons_succ, List.getElem?_append_right (by simp)]; simp
      rw [hz]
      have ht : (z :: (m.reverse ++ [z])).take (m.reverse ++ [z]).length = z :: m.reverse := by simp
      simp only [Option.getD_some]
      rw [ht]
      exact List.Perm.cons _ (List.perm_append_comm (l₁ := [z]) (l₂ := m.reverse))
def takes : Nat → List GMark → List GMark
  | 0, _ => []
  | n + 1, h => atQ h 0 :: takes n (takeH h n)
theorem takes_spec : ∀ (n : Nat) (h : List GMark), h.length = n → HeapOn h n → (takes n h).Perm h ∧ (takes n h).Pairwise (fun a b => bef b a = false)
  | 0, h, hl, _ => by
    obtain rfl := List.length_eq_zero_iff.1 hl
    exact ⟨List.Perm.refl _, List.Pairwise.nil⟩
  | n + 1, h, hl, hh => by
    obtain ⟨g1, g2, g3⟩ := takeH_spec hl hh
    obtain ⟨t1, t2⟩ := takes_spec n (takeH h n) g3 g1
    refine ⟨(List.Perm.cons _ t1).trans g2, List.pairwise_cons.2 ⟨fun b hb => ?_, t2⟩⟩
    have hbh : b ∈ h := g2.mem_iff.1 (List.mem_cons_of_mem _ (t1.mem_iff.1 hb))
    obtain ⟨j, hj, rfl⟩ := List.getElem_of_mem hbh
    have := heap_min hh j (by omega)
    rwa [atQ_get hj] at this
/-- All values put one after the other. -/
def putsQ (l : List Int) : List GMark := (l.zipIdx.foldl (fun h x => putQ h ⟨x.2, x.1, x.2⟩) [])
def itemsQ (l : List Int) : List GMark := l.zipIdx.map fun x => ⟨x.2, x.1, x.2⟩
theorem putsQ_spec (l : List Int) : HeapOn (putsQ l) l.length ∧ (putsQ l).Perm (itemsQ l) ∧ (putsQ l).length = l.length := by
  have key : ∀ (m : List (Int × Nat)) (h : List GMark), HeapOn h h.length → HeapOn (m.foldl (fun h x => putQ h ⟨x.2, x.1, x.2⟩) h) (h.length + m.length) ∧ (m.foldl (fun h x => putQ h ⟨x.2, x.1, x.2⟩) h).Perm (h ++ m.map fun x => ⟨x.2, x.1, x.2⟩) ∧ (m.foldl (fun h x => putQ h ⟨x.2, x.1, x.2⟩) h).length = h.length + m.length := fun m => by
    induction m with
    | nil => intro h hh; exact ⟨by simpa using hh, by simp, by simp⟩
    | cons x m ih =>
      intro h hh
      obtain ⟨g1, g2, g3⟩ := putQ_spec hh ⟨x.2, x.1, x.2⟩
      obtain ⟨k1, k2, k3⟩ := ih (putQ h ⟨x.2, x.1, x.2⟩) (by rw [g3]; exact g1)
      rw [g3] at k1 k3
      refine ⟨by simp only [List.foldl_cons, List.length_cons]; rwa [show h.length + 1 + m.length = h.length + (m.length + 1) by omega] at k1, ?_, by simp only [List.foldl_cons, List.length_cons]; omega⟩
      simp only [List.foldl_cons, List.map_cons]
      refine k2.trans ?_
      refine (List.Perm.append_right _ g2).trans ?_
      simp
  have := key l.zipIdx [] (fun j j0 jn => by simp at jn)
  simpa [putsQ, itemsQ] using this
/-- What queue.Sort returns. -/
def qsortM (l : List Int) : List Int := (takes l.length (putsQ l)).map GMark.N
theorem qsort_perm {l : List Int} (hl : l.Perm ((List.range l.length).map fun i : Nat => (i : Int))) : (qsortM l).length = l.length ∧ ∀ i (h : i < l.length), ∃ k : Nat, (qsortM l)[i]? = some (k : Int) ∧ l[k]? = some (i : Int) := by
  obtain ⟨p1, p2, p3⟩ := putsQ_spec l
  obtain ⟨t1, t2⟩ := takes_spec l.length (putsQ l) p3 p1
  have ht := t1.trans p2
  have hr : ((takes l.length (putsQ l)).map GMark.Kind).Perm ((List.range l.length).map fun i : Nat => (i : Int)) := by
    refine (ht.map _).trans ?_
    have : (itemsQ l).map GMark.Kind = l := by
      unfold itemsQ
      rw [List.map_map]
      have e : (GMark.Kind ∘ fun x : Int × Nat => (⟨x.2, x.1, x.2⟩ : GMark)) = Prod.fst := rfl
      rw [e, List.zipIdx_map_fst]
    rw [this]; exact hl
  have hs : ((takes l.length (putsQ l)).map GMark.Kind).Pairwise (· ≤ ·) := by
    rw [List.pairwise_map]
    exact t2.imp fun {a b} h => by rw [bef_false] at h; omega
  have hs2 : ((List.range l.length).map fun i : Nat => (i : Int)).Pairwise (· ≤ ·) := by
    rw [List.pairwise_map]
    exact List.pairwise_lt_range.imp fun h => by omega
  have he : (takes l.length (putsQ l)).map GMark.Kind = (List.range l.length).map fun i : Nat => (i : Int) := List.Perm.eq_of_pairwise (fun a b _ _ h1 h2 => Int.le_antisymm h1 h2) hs hs2 hr
  have hlen : (takes l.length (putsQ l)).length = l.length := by
    have := congrArg List.length he
    simpa using this
  refine ⟨by simp [qsortM, hlen], fun i hi => ?_⟩
  have hx : (takes l.length (putsQ l))[i]'(by omega) ∈ itemsQ l := ht.mem_iff.1 (List.getElem_mem _)
  have hk : ((takes l.length (putsQ l))[i]'(by omega)).Kind = i := by
    have := congrArg (fun z => z[i]?) he
    simpa [hi, hlen] using this
  obtain ⟨z, hz, hze⟩ := List.mem_map.1 hx
  refine ⟨z.2, ?_, ?_⟩
  · unfold qsortM
    rw [List.getElem?_map, List.getElem?_eq_getElem (by omega), ← hze]; rfl
  · have := List.mem_zipIdx_iff_getElem?.1 hz
    rw [this]
    rw [← hze] at hk
    simp only at hk
    rw [hk]
end Go.Proofs.Ytccebflmbnpheaa.Am
