/- KindFits: the law. -/
import Derived.Test.YtmkgechjbbekmaaFits
import Derived.Test.YtmkgechjbbekmaaKLaw
set_option linter.unusedVariables false
set_option linter.unusedSimpArgs false
namespace Go.Proofs.Ytmkgechjbbekmaa.Am
open Go Go.RowKit

theorem high_ge {f : GField} (h : fieldB f = true) : f.Low ≤ highM f := by
  have := (pow_le32 (n := f.Bits.toNat) (by simp only [fieldB, Bool.and_eq_true, decide_eq_true_eq] at h; omega)).2
  simp only [highM, h, if_true]; omega
theorem near_lo {f : GField} (h : fieldB f = true) (x : Int) : f.Low ≤ nearM f x := by
  have := high_ge h
  simp only [nearM, h, if_true]
  split <;> omega
theorem near_hi {f : GField} (h : fieldB f = true) (x : Int) : nearM f x ≤ highM f := by
  have := high_ge h
  simp only [nearM, h, if_true]
  split <;> split <;> omega
theorem near_id {f : GField} (h : fieldB f = true) {x : Int} (h1 : f.Low ≤ x) (h2 : x ≤ highM f) : nearM f x = x := by
  simp only [nearM, h, if_true]
  split <;> split <;> omega

theorem KindFits_law (l : List Int) (n : Int) (hw : ∀ x ∈ l, (Lit.int .i64 x).wf = true) (hn : (Lit.int .i64 n).wf = true) : Fn Try.prog 6 [slI l, kI n] (kB true) := by
  obtain ⟨hg, hp⟩ := kindsM_good l
  have hl4 := hg.1
  have h1 := Int.emod_nonneg n (b := ((kindsM l).1.length : Int)) (by omega)
  have h2 := Int.emod_lt_of_pos n (b := ((kindsM l).1.length : Int)) (by omega)
  obtain ⟨i, hi⟩ : ∃ i : Nat, n % ((kindsM l).1.length : Int) = i := ⟨(n % ((kindsM l).1.length : Int)).toNat, by omega⟩
  have hil : i < (kindsM l).1.length := by omega
  obtain ⟨k, hk⟩ : ∃ k, (kindsM l).1[i] = k := ⟨_, rfl⟩
  have hgk := hg.2 i k (by rw [List.getElem?_eq_getElem hil, hk])
  have hone := oneE_good (by omega) hgk
  have hfb : ∀ (j : Nat) (hj : j < k.Fields.length), fieldB k.Fields[j] = true := fun j hj => (hgk.2.1.2 j _ (List.getElem?_eq_getElem hj)).2
  have hfl := hgk.2.1.1
  obtain ⟨c, hc⟩ : ∃ c, compV n l k.Fields.length = c := ⟨_, rfl⟩
  have hcl : c.length = k.Fields.length := by rw [← hc]; simp [compV]
  have hfit : ∀ x : List Int, x.length = k.Fields.length → fitV k x = fitZ k x ∧ fitE k x = 0 := fun x hx => by
    simp [fitV, fitE, hone, hx]
  obtain ⟨v, hv⟩ : ∃ v, fitZ k c = v := ⟨_, rfl⟩
  have hvl : v.length = k.Fields.length := by rw [← hv]; simp [fitZ, hcl]
  have hnear : ∀ (j : Nat) (h1 : j < v.length) (h2 : j < k.Fields.length) (h3 : j < c.length), v[j] = nearM k.Fields[j] c[j] := fun j h1 h2 h3 => by
    subst hv; simp [fitZ]
  have hzz : fitZ k v = v := by
    refine List.ext_getElem (by simp [fitZ, hvl]) fun j g1 g2 => ?_
    have g3 : j < k.Fields.length := by omega
    have g4 : j < c.length := by omega
    have e : (fitZ k v)[j] = nearM k.Fields[j] v[j] := by simp [fitZ]
    rw [e, hnear j g2 g3 g4]
    exact near_id (hfb j g3) (near_lo (hfb j g3) _) (near_hi (hfb j g3) _)
  refine KindFits_fn l n (kindsM l).1 i rfl hl4 hp hi hil k hk hfl c v hc (by rw [(hfit c hcl).1, hv]) (hfit c hcl).2 (by rw [(hfit v hvl).1, hzz]) (hfit v hvl).2 hvl hcl
    (by simp [holdsB, (hfit v hvl).1, (hfit v hvl).2, hzz]) (fun j g1 g2 => ?_) (fun j g1 g2 => ?_) hnear (fun j g1 g2 g3 q1 q2 => ?_)
  · rw [hnear j g1 g2 (by omega)]; exact near_lo (hfb j g2) _
  · rw [hnear j g1 g2 (by omega)]; exact near_hi (hfb j g2) _
  · rw [hnear j g1 g2 g3]; exact near_id (hfb j g2) q1 q2
end Go.Proofs.Ytmkgechjbbekmaa.Am
