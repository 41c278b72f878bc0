/- The worlds that tourmake makes are valid. -/
import Derived.Test.YtidhdlhblhbahaaGreatCLaw
import Derived.Test.YtidhdlhblhbahaaGreatKLaw
import Derived.Test.YtidhdlhblhbahaaGreatMake5
set_option linter.unusedVariables false
set_option linter.unusedSimpArgs false
namespace Go.Proofs.YtidhdlhblhbahaaGreat.Am
open Go Go.RowKit

theorem mkVals_spec : ∀ (r : List GField) (acc l : List Int), (∀ f ∈ r, fieldB f = true) → ∃ vs, (mkVals r acc l).1 = acc ++ vs ∧ vs.length = r.length ∧ List.zipWith nearM r vs = vs
  | [], acc, l, _ => ⟨[], by simp [mkVals], rfl, rfl⟩
  | f :: r, acc, l, h => by
    rw [mkVals]
    obtain ⟨vs, h1, h2, h3⟩ := mkVals_spec r (acc ++ [f.Low + nextV l (2 ^ f.Bits.toNat)]) (nextL l (2 ^ f.Bits.toNat)) (fun g hg => h g (List.mem_cons_of_mem _ hg))
    have hf := h f (List.mem_cons_self ..)
    have hp := pow_le32 (n := f.Bits.toNat) (by simp only [fieldB, Bool.and_eq_true, decide_eq_true_eq] at hf; omega)
    have hv := nextV_lt (l := l) hp.2
    refine ⟨(f.Low + nextV l (2 ^ f.Bits.toNat)) :: vs, by rw [h1]; simp, by simp [h2], ?_⟩
    rw [List.zipWith_cons_cons, h3, nearId hf (by omega) (by simp only [highM, hf, if_true]; omega)]

theorem held_snoc {ks : List GKind} {x : GComp} (h2 : x.Kind < ks.length) (h3 : holdsB (ks.getD x.Kind.toNat k0) x.Vals = true) : ∀ {l : List GComp} {last : Int}, last < x.Kind → (∀ c ∈ l, c.Kind < x.Kind) → heldGo ks last l = true → heldGo ks last (l ++ [x]) = true
  | [], last, h1, _, _ => held_cons.2 ⟨h1, h2, h3, rfl⟩
  | c :: r, last, h1, hm, h => by
    obtain ⟨g1, g2, g3, g4⟩ := held_cons.1 h
    exact held_cons.2 ⟨g1, g2, g3, held_snoc h2 h3 (hm c (List.mem_cons_self ..)) (fun y hy => hm y (List.mem_cons_of_mem _ hy)) g4⟩
theorem mkComps_held (ks : List GKind) (hone : ∀ k ∈ ks, oneE k = 0) : ∀ (r pre : List GKind) (acc : List GComp) (l : List Int), ks = pre ++ r → heldGo ks (-1) acc = true → (∀ c ∈ acc, c.Kind < pre.length) →
    heldGo ks (-1) (mkComps pre.length r acc l).1 = true
  | [], pre, acc, l, _, h, _ => by simpa [mkComps] using h
  | k :: r, pre, acc, l, he, h, hm => by
    rw [mkComps]
    have he2 : ks = (pre ++ [k]) ++ r := by rw [he]; simp
    have hl : (pre ++ [k]).length = pre.length + 1 := by simp
    have hkl : pre.length < ks.length := by rw [he]; simp
    have hkk : ks.getD pre.length k0 = k := by rw [he]; simp [List.getD]
    split
    · have := mkComps_held ks hone r (pre ++ [k]) acc (nextL l 3) he2 h (fun c hc => by have := hm c hc; rw [hl]; omega)
      rwa [hl] at this
    · have hk1 := hone k (by rw [he]; simp)
      obtain ⟨vs, h1, h2, h3⟩ := mkVals_spec k.Fields [] (nextL l 3) (oneE_fields hk1)
      have := mkComps_held ks hone r (pre ++ [k]) (acc ++ [⟨pre.length, (mkVals k.Fields [] (nextL l 3)).1⟩]) (mkVals k.Fields [] (nextL l 3)).2 he2
        (held_snoc (by simp only; omega) (by simp only [Int.toNat_natCast, hkk, h1, List.nil_append]; exact holds_iff.2 ⟨hk1, h2, h3⟩) (by simp only; omega) (by simpa using hm) h)
        (fun c hc => by
          rw [hl]
          rcases List.mem_append.1 hc with hc | hc
          · have := hm c hc; omega
          · obtain rfl := List.mem_singleton.1 hc
            simp only; omega)
      rwa [hl] at this
theorem compsM_held {ks : List GKind} (hc : checkE ks = 0) (l : List Int) : heldGo ks (-1) (compsM ks l).1 = true :=
  mkComps_held ks (checkE_one hc) ks [] [] l rfl rfl (by simp)

theorem items_snoc {ks : List GKind} {gs : List Int} {x : GItem} (h2 : x.Ent.N < gs.length) (h3 : x.Ent.Gen = gs.getD x.Ent.N.toNat 0) (h4 : x.Ent.Gen ≠ 1073741824) (h5 : heldGo ks (-1) x.Comps = true) :
    ∀ {its : List GItem} {last : Int}, last < x.Ent.N → (∀ it ∈ its, it.Ent.N < x.Ent.N) → itemsB ks gs last its = true → itemsB ks gs last (its ++ [x]) = true
  | [], last, h1, _, _ => items_cons.2 ⟨h1, h2, h3, h4, h5, rfl⟩
  | c :: r, last, h1, hm, h => by
    obtain ⟨g1, g2, g3, g4, g5, g6⟩ := items_cons.1 h
    exact items_cons.2 ⟨g1, g2, g3, g4, g5, items_snoc h2 h3 h4 h5 (hm c (List.mem_cons_self ..)) (fun y hy => hm y (List.mem_cons_of_mem _ hy)) g6⟩
theorem items_gens {ks : List GKind} {gs : List Int} (g : Int) : ∀ {its : List GItem} {last : Int}, -1 ≤ last → itemsB ks gs last its = true → itemsB ks (gs ++ [g]) last its = true
  | [], _, _, _ => rfl
  | c :: r, last, hl, h => by
    obtain ⟨g1, g2, g3, g4, g5, g6⟩ := items_cons.1 h
    have hn : c.Ent.N.toNat < gs.length := by omega
    refine items_cons.2 ⟨g1, by simp; omega, ?_, g4, g5, items_gens g (by omega) g6⟩
    rw [g3]
    simp [List.getD, List.getElem?_append_left hn]

theorem mkWorld_valid {ks : List GKind} (hc : checkE ks = 0) : ∀ (n i : Nat) (gs : List Int) (its : List GItem) (l : List Int), gs.length = i → its.length ≤ i → (∀ g ∈ gs, 0 ≤ g ∧ g < 3) → (∀ it ∈ its, it.Ent.N < i) → itemsB ks gs (-1) its = true →
    (mkWorld ks n i gs its l).1.length = i + n ∧ (mkWorld ks n i gs its l).2.1.length ≤ i + n ∧ (∀ g ∈ (mkWorld ks n i gs its l).1, 0 ≤ g ∧ g < 3) ∧ itemsB ks (mkWorld ks n i gs its l).1 (-1) (mkWorld ks n i gs its l).2.1 = true
  | 0, i, gs, its, l, h1, h2, h3, _, h4 => ⟨h1, h2, h3, h4⟩
  | n + 1, i, gs, its, l, h1, h2, h3, hm, h4 => by
    rw [mkWorld]
    have hv := nextV_lt (l := l) (n := 3) (by omega)
    have a1 : (gs ++ [nextV l 3]).length = i + 1 := by simp [h1]
    have a3 : ∀ g ∈ gs ++ [nextV l 3], 0 ≤ g ∧ g < 3 := fun g hg => by
      rcases List.mem_append.1 hg with hg | hg
      · exact h3 g hg
      · obtain rfl := List.mem_singleton.1 hg; exact hv
    have a4 := items_gens (nextV l 3) (by omega) h4
    split
    · have := mkWorld_valid hc n (i + 1) (gs ++ [nextV l 3]) its (nextL (nextL l 3) 4) a1 (by omega) a3 (fun it hit => by have := hm it hit; omega) a4
      rwa [show i + 1 + n = i + (n + 1) by omega] at this
    · have := mkWorld_valid hc n (i + 1) (gs ++ [nextV l 3]) (its ++ [⟨⟨i, nextV l 3⟩, (compsM ks (nextL (nextL l 3) 4)).1⟩]) (compsM ks (nextL (nextL l 3) 4)).2 a1 (by simp; omega) a3
        (fun it hit => by
          rcases List.mem_append.1 hit with hit | hit
          · have := hm it hit; omega
          · obtain rfl := List.mem_singleton.1 hit
            simp only; omega)
        (items_snoc (by simp only [a1]; omega) (by simp [List.getD, ← h1]) (by simp only; omega) (compsM_held hc _) (by simp only; omega) (by simpa using hm) a4)
      rwa [show i + 1 + n = i + (n + 1) by omega] at this

theorem worldM_valid (l : List Int) : checkW (worldM l) = 0 := by
  have hc : checkE (kindsM l).1 = 0 := checkE_good (kindsM_good l).1
  have hv := nextV_lt (l := (kindsM l).2) (n := 12) (by omega)
  obtain ⟨h1, h2, h3, h4⟩ := mkWorld_valid hc (nextV (kindsM l).2 12).toNat 0 [] [] (nextL (kindsM l).2 12) rfl (by simp) (by simp) (by simp) rfl
  refine checkW_iff.2 ⟨hc, ?_, ?_, ?_, h4⟩
  · show (mkWorld _ _ _ _ _ _).1.length ≤ 256
    rw [h1]; omega
  · show (mkWorld _ _ _ _ _ _).2.1.length ≤ (mkWorld _ _ _ _ _ _).1.length
    rw [h1]; exact h2
  · show List.any (mkWorld _ _ _ _ _ _).1 _ = false
    rw [List.any_eq_false]
    intro g hg
    have := h3 g hg
    simp; omega
end Go.Proofs.YtidhdlhblhbahaaGreat.Am
