/- WorldSmallest: the law. -/
import Derived.Test.YtemlkbcfplkniaaWFree
import Derived.Test.YtemlkbcfplkniaaBegun
import Derived.Test.YtemlkbcfplkniaaWLaw1
set_option linter.unusedVariables false
set_option linter.unusedSimpArgs false
namespace Go.Proofs.Ytemlkbcfplkniaa.Am
open Go Go.RowKit

theorem free_small {w : GWorld} (hw : checkW w = 0) (hg : w.Gens.length < 256) (h3 : ∀ g ∈ w.Gens, g < 3) : ∃ n : Nat, freeM w = ((n : Int), true) ∧ n ≤ w.Gens.length ∧ (∀ it ∈ w.Items, it.Ent.N ≠ n) ∧ ∀ t, t < n → usedB w.Items t = true := by
  obtain ⟨_, _, _, _, he⟩ := checkW_iff.1 hw
  unfold freeM
  have key : ∀ t, t < w.Gens.length → (!usedB w.Items t && decide (w.Gens.getD t 0 < 1073741824)) = false → usedB w.Items t = true := fun t ht h => by
    have := h3 _ (List.getElem_mem ht)
    have e : w.Gens.getD t 0 = w.Gens[t] := by simp [List.getD, ht]
    rw [e, decide_eq_true (by omega)] at h
    simpa using h
  cases hf : (List.range w.Gens.length).findIdx? (fun t => !usedB w.Items t && decide (w.Gens.getD t 0 < 1073741824)) with
  | some t =>
    obtain ⟨h1, h2, h4⟩ := List.findIdx?_eq_some_iff_getElem.1 hf
    have h1' : t < w.Gens.length := by simpa using h1
    have h2' : (!usedB w.Items t && decide (w.Gens.getD t 0 < 1073741824)) = true := by simpa using h2
    rw [Bool.and_eq_true] at h2'
    refine ⟨t, rfl, by omega, fun it hit e => ?_, fun j hj => ?_⟩
    · have : usedB w.Items t = true := List.any_eq_true.2 ⟨it, hit, by simpa using e⟩
      rw [this] at h2'
      simp at h2'
    · have := h4 j hj
      simp only [List.getElem_range] at this
      exact key j (by omega) (by simpa using this)
  | none =>
    refine ⟨w.Gens.length, ?_, Nat.le_refl _, fun it hit e => ?_, fun t ht => key t ht ?_⟩
    · have : ((w.Gens.length : Nat) : Int) < 256 := by omega
      simp [this]
    · have := ((items_iff.1 he).2 it hit).2.1
      omega
    · exact List.findIdx?_eq_none_iff.1 hf t (by simpa using ht)

theorem worldM_gens (l : List Int) : (worldM l).Gens.length < 256 ∧ ∀ g ∈ (worldM l).Gens, g < 3 := by
  have hc : checkE (kindsM l).1 = 0 := checkE_good (kindsM_good l).1
  have hv := nextV_lt (l := (kindsM l).2) (n := 12) (by omega)
  obtain ⟨h1, _, h3, _⟩ := mkWorld_valid hc (nextV (kindsM l).2 12).toNat 0 [] [] (nextL (kindsM l).2 12) rfl (by simp) (by simp) (by simp) rfl
  refine ⟨?_, fun g hg => ?_⟩
  · show (mkWorld _ _ _ _ _ _).1.length < 256
    rw [h1]; omega
  · exact (h3 g hg).2

set_option maxRecDepth 20000 in
theorem WorldSmallest_law (l : List Int) (hw : ∀ x ∈ l, (Lit.int .i64 x).wf = true) : Fn Try.prog 4 [slI l] (kB true) := by
  refine fn_go Try.func4 rfl ?_
  simp [Try.ntmps4]
  refine cal (World_fn l) ?_
  have hv := worldM_valid l
  obtain ⟨hg256, hg3⟩ := worldM_gens l
  generalize worldM l = w at hv hg256 hg3 ⊢
  obtain ⟨hfi, hfc⟩ := checkW_fine hv
  obtain ⟨ce, cg, ci, cn, cit⟩ := checkW_iff.1 hv
  obtain ⟨n, hfree, hn, hno, hsm⟩ := free_small hv hg256 hg3
  have hF := Free_fn w hfi
  rw [hfree] at hF
  obtain ⟨hsort, _⟩ := items_iff.1 cit
  obtain ⟨ks, gs, its⟩ := w
  simp only at hg256 hg3 ci hno hsm hn hsort hF ⊢
  simp
  refine cal begun_fn ?_
  simp
  refine cal hF ?_
  have hn0 : ¬ (n : Int) < 0 := by omega
  have hng : ¬ (gs.length : Int) < n := by omega
  simp [hn0, hng, GWorld.e]
  obtain ⟨L, hL0, hLs, hLm⟩ : ∃ L : Nat → List Int, L 0 = [] ∧ (∀ i (h : i < its.length), L (i + 1) = L i ++ [its[i].Ent.N]) ∧ ∀ i t, t ∈ L i ↔ ∃ it ∈ its.take i, it.Ent.N = t :=
    ⟨fun i => (its.take i).map fun it => it.Ent.N, rfl, fun i h => by show (its.take (i + 1)).map _ = _; rw [List.take_add_one, List.getElem?_eq_getElem h]; exact List.map_append, fun i t => List.mem_map⟩
  have him : ∀ i : Nat, ((L i).map kI).all PV.immB = true := fun i => by simp
  have hiv : ∀ i : Nat, (List.replicate i (kB true)).all PV.immB = true := fun i => by simp
  have hget : ∀ (L : List Int) (t : Int), L.findIdx? (fun x => decide (t = x)) = none ↔ t ∉ L := fun L t => by
    rw [List.findIdx?_eq_none_iff]
    exact ⟨fun h hm => by have := h t hm; simp at this, fun h x hx => by simp; intro e; subst e; exact h hx⟩
  refine awp_loop (fun i : Nat => ⟨58, [(34, .sl 3 (its.map GItem.e)), (35, kI its.length), (36, kI i), (6, .mref 0), (4, kI n), (2, kB false)], [some [.tup ((L i).map kI), .tup (List.replicate i (kB true))]], 0⟩)
    (fun i => i ≤ its.length) (fun i => its.length - i) 0 ?_ ?_ ?_
  · exact entm [1] (hB := by simp [hL0])
  · simp
  · intro i hi
    refine awp_go ?_
    by_cases hlt : i < its.length
    · obtain ⟨x, hx⟩ : ∃ x, its[i] = x := ⟨_, rfl⟩
      have hno2 : (L i).findIdx? (fun y => decide (x.Ent.N = y)) = none := by
        rw [hget, hLm]
        rintro ⟨y, hy, e⟩
        obtain ⟨j, hj, rfl⟩ := List.getElem_of_mem hy
        simp at hj
        have := List.pairwise_iff_getElem.1 hsort j i (by omega) hlt (by omega)
        simp at e
        rw [hx, e] at this
        omega
      have hk2 := keyAt_ints x.Ent.N (L i)
      rw [hno2] at hk2
      have h1 := him i
      have h2 := hiv i
      simp [hlt, hx, hk2]
      rw [wrap_id (by omega) (by omega)]
      refine ⟨i + 1, by omega, by omega, entm [0] (hB := ?_)⟩
      simp [hLs i hlt, hx, imms_ren h1, imms_lt h1, imms_ren h2, imms_lt h2, List.replicate_succ']
    · have : i = its.length := by omega
      subst this
      have h1 := him its.length
      have h2 := hiv its.length
      have hlen : (L its.length).length = its.length := by
        have : ∀ i, i ≤ its.length → (L i).length = i := fun i => by
          induction i with
          | zero => simp [hL0]
          | succ i ih => intro h; rw [hLs i (by omega)]; simp [ih (by omega)]
        exact this _ (Nat.le_refl _)
      have hin : ∀ t : Nat, t < n → ∃ k, k < its.length ∧ (L its.length).findIdx? (fun x => decide ((t : Int) = x)) = some k := fun t ht => by
        cases hf : (L its.length).findIdx? (fun x => decide ((t : Int) = x)) with
        | some k => exact ⟨k, by have := (List.findIdx?_eq_some_iff_getElem.1 hf).1; omega, rfl⟩
        | none =>
          rw [hget] at hf
          obtain ⟨it, hit, e⟩ := List.any_eq_true.1 (hsm t ht)
          exact absurd ((hLm _ _).2 ⟨it, by simpa using hit, by simpa using e⟩) hf
      have hnin : (L its.length).findIdx? (fun x => decide ((n : Int) = x)) = none := by
        rw [hget, hLm]
        rintro ⟨it, hit, e⟩
        exact hno it (by simpa using hit) e
      simp
      refine awp_loop (fun i : Nat => ⟨58, [(45, kI n), (46, kI i), (6, .mref 0), (4, kI n), (2, kB false)], [some [.tup ((L its.length).map kI), .tup (List.replicate its.length (kB true))]], 0⟩)
        (fun i => i ≤ n) (fun i => n - i) 0 ?_ ?_ ?_
      · exact entm [0] (hB := by simp [imms_ren h1, imms_lt h1, imms_ren h2, imms_lt h2])
      · simp
      · intro t ht
        refine awp_go ?_
        by_cases hlt2 : t < n
        · obtain ⟨k, hk, hf⟩ := hin t hlt2
          have hk2 := keyAt_ints t (L its.length)
          rw [hf] at hk2
          simp [hlt2, hk2, hk]
          rw [wrap_id (by omega) (by omega)]
          exact ⟨t + 1, by omega, by omega, entm [0] (hB := by simp [imms_ren h1, imms_lt h1, imms_ren h2, imms_lt h2])⟩
        · have : t = n := by omega
          subst this
          have hk2 := keyAt_ints t (L its.length)
          rw [hnin] at hk2
          simp [hk2]
          exact finm
end Go.Proofs.Ytemlkbcfplkniaa.Am
