/- The machine of values: regions in any order, with boxes that are made and written: what one operation does. -/
import Derived.Test.YtmkgechjbbekmaaAm20
import Derived.Test.YtmkgechjbbekmaaAm22
set_option linter.unusedVariables false
set_option linter.unusedSimpArgs false
namespace Go.Proofs.Ytmkgechjbbekmaa.Am
open Go Go.RowKit

abbrev Eff := List (Nat × Option (List PV))
def applyE : Eff → Boxes → Boxes
  | [], σ => σ
  | x :: e, σ => applyE e (σ.set x.1 x.2)

/-- What one operation does: its value, the boxes that it looks at, those that it sets, and the place of a new one. -/
structure Rcd where
  p : PV
  need : List Nat
  eff : Eff
  fresh : Option Nat

theorem applyE_len : ∀ (e : Eff) (σ : Boxes), (applyE e σ).length = σ.length
  | [], _ => rfl
  | x :: e, σ => by rw [applyE, applyE_len e]; simp

theorem box_set_ne {σ : Boxes} {b i : Nat} {x : Option (List PV)} (h : i ≠ b) : box (σ.set b x) i = box σ i := by
  unfold box; rw [List.getElem?_set_ne (fun e => h e.symm)]

theorem box_applyE_ne {b : Nat} : ∀ (e : Eff) (σ : Boxes), b ∉ e.map (·.1) → box (applyE e σ) b = box σ b
  | [], _, _ => rfl
  | x :: e, σ, h => by
    simp at h
    rw [applyE, box_applyE_ne e _ (by simpa using h.2), box_set_ne h.1]

theorem box_applyE_congr {b : Nat} : ∀ (e : Eff) (σ σ' : Boxes), σ.length = σ'.length → box σ b = box σ' b → box (applyE e σ) b = box (applyE e σ') b
  | [], _, _, _, h => h
  | x :: e, σ, σ', hl, h => by
    rw [applyE, applyE]
    refine box_applyE_congr e _ _ (by simpa using hl) ?_
    by_cases hx : x.1 < σ.length
    · rw [box_set hx, box_set (by omega), h]
    · rw [List.set_eq_of_length_le (by omega), List.set_eq_of_length_le (by omega)]; exact h

/-- Where an operation writes, what was there does not matter. -/
theorem box_applyE_in {b : Nat} : ∀ (e : Eff) (σ σ' : Boxes), σ.length = σ'.length → b ∈ e.map (·.1) → box (applyE e σ) b = box (applyE e σ') b
  | [], _, _, _, h => by simp at h
  | x :: e, σ, σ', hl, h => by
    rw [applyE, applyE]
    by_cases hx : b = x.1
    · refine box_applyE_congr e _ _ (by simpa using hl) ?_
      subst hx
      by_cases hx : x.1 < σ.length
      · rw [box_set hx, box_set (by omega), if_pos rfl, if_pos rfl]
      · unfold box
        rw [List.getElem?_eq_none (by simp; omega), List.getElem?_eq_none (by simp; omega)]
    · simp [hx] at h
      exact box_applyE_in e _ _ (by simpa using hl) (by simpa using h)

theorem boxes_ext {σ σ' : Boxes} (hl : σ.length = σ'.length) (h : ∀ b, box σ b = box σ' b) : σ = σ' := by
  refine List.ext_getElem hl fun i h1 h2 => ?_
  have := h i
  unfold box at this
  rw [List.getElem?_eq_getElem h1, List.getElem?_eq_getElem h2] at this
  simpa using this

def SA (A : Nat → Bool) : Nat → List Rcd → Boxes → Boxes
  | _, [], σ => σ
  | i, r :: rs, σ => SA A (i + 1) rs (if A i = true then applyE r.eff σ else σ)

theorem SA_len (A : Nat → Bool) : ∀ (rs : List Rcd) (i : Nat) (σ : Boxes), (SA A i rs σ).length = σ.length
  | [], _, _ => rfl
  | r :: rs, i, σ => by
    rw [SA, SA_len A rs]
    split
    · exact applyE_len _ _
    · rfl

theorem box_SA_congr {A A' : Nat → Bool} {b : Nat} : ∀ (rs : List Rcd) (i : Nat) (σ σ' : Boxes), σ.length = σ'.length → box σ b = box σ' b →
    (∀ (j : Nat) (r : Rcd), rs[j]? = some r → b ∈ r.eff.map (·.1) → A (i + j) = A' (i + j)) → box (SA A i rs σ) b = box (SA A' i rs σ') b
  | [], _, _, _, _, h, _ => h
  | r :: rs, i, σ, σ', hl, h, hA => by
    rw [SA, SA]
    have hl' : (if A i = true then applyE r.eff σ else σ).length = (if A' i = true then applyE r.eff σ' else σ').length := by
      split <;> split <;> simp [applyE_len, hl]
    refine box_SA_congr rs (i + 1) _ _ hl' ?_ fun j r' hj hb => by
      have := hA (j + 1) r' (by simpa using hj) hb
      rwa [show i + (j + 1) = i + 1 + j by omega] at this
    by_cases hb : b ∈ r.eff.map (·.1)
    · have := hA 0 r (by simp) hb
      simp at this
      rw [this]
      split
      · exact box_applyE_congr _ _ _ hl h
      · exact h
    · split <;> split <;> (try simp only [box_applyE_ne _ _ hb]) <;> exact h

theorem SA_none {A : Nat → Bool} : ∀ (rs : List Rcd) (i : Nat) (σ : Boxes), (∀ j, i ≤ j → A j = false) → SA A i rs σ = σ
  | [], _, _, _ => rfl
  | r :: rs, i, σ, h => by
    rw [SA, h i (Nat.le_refl _)]
    simp only [Bool.false_eq_true, if_false]
    exact SA_none rs (i + 1) σ fun j hj => h j (by omega)

/-- One more operation. -/
theorem box_SA_ins {A : Nat → Bool} {b : Nat} {r : Rcd} : ∀ (rs : List Rcd) (i jj : Nat) (σ : Boxes), rs[jj]? = some r → A (i + jj) = false →
    (b ∈ r.eff.map (·.1) → ∀ (j : Nat) (r' : Rcd), rs[j]? = some r' → jj < j → A (i + j) = true → b ∉ r'.eff.map (·.1)) →
    box (SA (fun m => A m || decide (m = i + jj)) i rs σ) b = box (applyE r.eff (SA A i rs σ)) b
  | [], _, _, _, h, _, _ => by simp at h
  | r0 :: rs, i, 0, σ, h, hA, hno => by
    simp at h; subst h
    simp at hA
    rw [SA, SA]
    simp only [hA, Nat.add_zero, decide_true, Bool.or_true, if_true, Bool.false_eq_true, if_false]
    have hc : ∀ σ2, box (SA (fun m => A m || decide (m = i)) (i + 1) rs σ2) b = box (SA A (i + 1) rs σ2) b := fun σ2 =>
      box_SA_congr rs (i + 1) _ _ rfl rfl fun j r' _ _ => by
        have : i + 1 + j ≠ i := by omega
        simp [this]
    rw [hc]
    by_cases hb : b ∈ r0.eff.map (·.1)
    · have hun : ∀ σ2 : Boxes, box (SA A (i + 1) rs σ2) b = box σ2 b := fun σ2 => by
        rw [box_SA_congr (A' := fun _ => false) rs (i + 1) σ2 σ2 rfl rfl fun j r' hj hbr => by
          cases hAj : A (i + 1 + j) with
          | false => rfl
          | true => exact absurd hbr (hno hb (j + 1) r' (by simpa using hj) (by omega) (by rw [show i + (j + 1) = i + 1 + j by omega]; exact hAj)),
          SA_none rs (i + 1) σ2 (fun _ _ => rfl)]
      rw [hun]
      exact box_applyE_in _ _ _ (by rw [SA_len]) hb
    · rw [box_applyE_ne _ _ hb]
      exact box_SA_congr rs (i + 1) _ _ (applyE_len _ _) (box_applyE_ne _ _ hb) fun _ _ _ _ => rfl
  | r0 :: rs, i, jj + 1, σ, h, hA, hno => by
    rw [SA, SA]
    have h0 : (decide (i = i + (jj + 1))) = false := by simp
    simp only [h0, Bool.or_false]
    have ih := box_SA_ins (A := A) (b := b) (r := r) rs (i + 1) jj (if A i = true then applyE r0.eff σ else σ) (by simpa using h) (by rw [show i + 1 + jj = i + (jj + 1) by omega]; exact hA)
      (fun hb j r' hj hlt hAj => hno hb (j + 1) r' (by simpa using hj) (by omega) (by rw [show i + (j + 1) = i + 1 + j by omega]; exact hAj))
    rw [show i + 1 + jj = i + (jj + 1) by omega] at ih
    exact ih

theorem SA_ins {A : Nat → Bool} {r : Rcd} {rs : List Rcd} {i : Nat} {σ : Boxes} (h : rs[i]? = some r) (hA : A i = false)
    (hno : ∀ b, b ∈ r.eff.map (·.1) → ∀ (j : Nat) (r' : Rcd), rs[j]? = some r' → i < j → A j = true → b ∉ r'.eff.map (·.1)) :
    SA (fun m => A m || decide (m = i)) 0 rs σ = applyE r.eff (SA A 0 rs σ) := by
  refine boxes_ext (by rw [applyE_len, SA_len, SA_len]) fun b => ?_
  have := box_SA_ins (A := A) (b := b) (r := r) rs 0 i σ h (by simpa using hA) (fun hb j r' hj hlt hAj => hno b hb j r' hj hlt (by simpa using hAj))
  simpa using this

/-! ### One operation -/
def DoesR (P : Program) (o : Oper) (s : St) (r : Rcd) : Prop :=
  ∀ c ι S a w, Rel c ι S s a w → (∀ j, r.fresh = some j → ι j = none) → ∀ (K : Act → World → Prop) QQ, (∀ ι' S' v w', Store c ι' S' (applyE r.eff s.σ) w' → (∀ v p, VRel s.σ.length ι S w v p → VRel s.σ.length ι' S' w' v p) →
    VRel s.σ.length ι' S' w' v r.p → (∀ b, b < s.σ.length → r.fresh ≠ some b → ι' b = ι b) → K (a.put o.dst v) w') → o.wp P a w K QQ

theorem doesR_of {P : Program} {o : Oper} {s : St} {r : Rcd} (h : Does P o s (applyE r.eff s.σ) r.p) : DoesR P o s r := fun c ι S a w hr _ K QQ hK =>
  h c ι S a w hr K QQ fun ι' S' v w' h1 h2 h3 h4 => hK ι' S' v w' h1 (fun v p hv => by have := h2 v p hv; rwa [applyE_len] at this) (by rwa [applyE_len] at h3) fun b hb _ => h4 b hb

theorem box_kill {ks : List Nat} : ∀ {σ : Boxes} {i : Nat} {ci : List PV}, box (applyE (ks.map fun k => (k, none)) σ) i = some ci → box σ i = some ci := by
  induction ks with
  | nil => intro σ i ci h; exact h
  | cons k ks ih =>
    intro σ i ci h
    have h := ih (σ := σ.set k none) h
    by_cases e : i = k
    · subst e
      unfold box at h
      by_cases hl : i < σ.length
      · simp [hl] at h
      · rw [List.getElem?_eq_none (by simp; omega)] at h; simp at h
    · rwa [box_set_ne e] at h

theorem applyE_append : ∀ (e e' : Eff) (σ : Boxes), applyE (e ++ e') σ = applyE e' (applyE e σ)
  | [], _, _ => rfl
  | x :: e, e', σ => by rw [List.cons_append, applyE, applyE, applyE_append e e']

theorem doesR_fresh {P : Program} {o : Oper} {s : St} {p q : PV} {need ks : List Nat} {j d : Nat} {cs : List PV} (h : Does P o s (applyE (ks.map fun k => (k, none)) s.σ ++ List.replicate d none ++ [some cs]) q)
    (hj : j < s.σ.length) (hk : s.k ≤ j) (hcs : ltL s.σ.length cs = true) (hp : p.lt s.σ.length = true) (hq : q = p.ren (mvθ j (s.σ.length + d))) :
    DoesR P o s ⟨p, need, (ks.map fun k => (k, none)) ++ [(j, some cs)], some j⟩ := fun c ι S a w hr hι K QQ hK => by
  refine h c ι S a w hr K QQ fun ι' S' v w' h1 h2 h3 h4 => ?_
  have hl : (applyE (ks.map fun k => (k, none)) s.σ).length = s.σ.length := applyE_len _ _
  have hM : (applyE (ks.map fun k => (k, none)) s.σ ++ List.replicate d none ++ [some cs]).length = s.σ.length + d + 1 := by simp [hl]; omega
  obtain ⟨ι'', m1, m2, m3, m4⟩ := Store.move (j := j) h1 (by omega) (by have := hr.ck; omega) (by rw [h4 j hj]; exact hι j rfl) (fun i ci hi => by
    rw [hl]
    refine ltL_of fun jj p hp => ?_
    rcases hr.st.boxes i ci (box_kill hi) with ⟨_, g⟩ | ⟨blk, c', e, g1, g2, g3, g4⟩
    · subst g; simp at hp
    · obtain ⟨v, _, hv⟩ := g4 jj p hp; exact hv.lt) (by rw [hl]; exact hcs)
  rw [hl] at m2 m3 m4
  refine hK ι'' S' v w' ?_ (fun v p hv => m2 v p hv.lt (by have := h2 v p hv; simp only [hM] at this; exact this)) (m3 v p hp (by simp only [hM] at h3; rw [← hq]; exact h3)) fun b hb hne => ?_
  · rw [applyE_append]; exact m1
  · rw [m4 b hb (fun e => hne (by simp [e])), h4 b hb]

end Go.Proofs.Ytmkgechjbbekmaa.Am
