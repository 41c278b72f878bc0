/- Package arch: kindsOf, and the order of sets of kinds. -/
import Derived.Test.YtidhdlhblhbahaaGreatLie
import Derived.Test.YtidhdlhblhbahaaGreatCmp
import Derived.Test.YtidhdlhblhbahaaGreatKind6
set_option linter.unusedVariables false
set_option linter.unusedSimpArgs false
namespace Go.Proofs.YtidhdlhblhbahaaGreat.Am
open Go Go.RowKit

set_option maxRecDepth 20000 in
theorem kindsOf_fn (l : List GComp) (hl : l.length ≤ 1000000) : Fn Tryz.prog 132 [.sl 2 (l.map GComp.e)] (slI (l.map GComp.Kind)) := by
  obtain ⟨Z, hZd⟩ : ∃ Z, l.map GComp.Kind = Z := ⟨_, rfl⟩
  rw [hZd]
  refine fn_go Tryz.func132 rfl ?_
  have hb1 : 8 * (l.length : Int) ≤ 281474976710656 := by omega
  have hb2 : (l.length : Int) ≤ 9223372036854775807 := by omega
  simp [Tryz.ntmps132, hb1, hb2]
  have hZ : Z.length = l.length := by rw [← hZd]; simp
  refine awp_loop (fun x : Nat × List Int => ⟨23, [(3, .osl 0 1 0 l.length), (9, .sl 2 (l.map GComp.e)), (10, kI l.length), (11, kI x.1)], [some (x.2.map kI)], 0⟩)
    (fun x => x.1 ≤ l.length ∧ x.2 = Z.take x.1 ++ List.replicate (l.length - x.1) 0) (fun x => l.length - x.1) (0, List.replicate l.length 0) ?_ ?_ ?_
  · exact entm [0]
  · simp
  · rintro ⟨i, B⟩ ⟨hi, hB⟩
    simp only at hi hB
    have hBl : B.length = l.length := by rw [hB]; simp; omega
    refine awp_go ?_
    by_cases hlt : i < l.length
    · have hz : Z[i] = (l[i]).Kind := by subst hZd; simp
      have hB2 : B.set i (l[i]).Kind = Z.take (i + 1) ++ List.replicate (l.length - (i + 1)) 0 := by
        rw [← hz]; subst hB; exact fill_set hZ hlt
      have hib : i + 1 ≤ B.length := by omega
      simp [hlt, hib]
      rw [wrap_id (by omega) (by omega)]
      refine ⟨i + 1, B.set i (l[i]).Kind, ⟨by omega, hB2⟩, by omega, entm [0] (hB := ?_)⟩
      rw [← set_ints (by omega)]
      simp
    · have hin : i = l.length := by omega
      subst hin
      simp
      have hB3 : B = Z := by rw [hB]; simp [← hZ]
      have hch := chunks_ints B
      rw [hBl, hB3] at hch
      refine fin_fz 0 (B.map kI) ?_
      simp [hBl, hB3, hch, hZ]
      exact finm (by simp [slI_def, hch])

/-- The order of lists of numbers. -/
def cmpL : List Int → List Int → Int
  | [], [] => 0
  | [], _ :: _ => -1
  | _ :: _, [] => 1
  | a :: x, b :: y => if cmpI a b = 0 then cmpL x y else cmpI a b
theorem cmpL_cons (a : Int) (x : List Int) (b : Int) (y : List Int) : cmpL (a :: x) (b :: y) = if cmpI a b = 0 then cmpL x y else cmpI a b := rfl
theorem cmpL_same : ∀ {x y : List Int}, cmpL x y = 0 ↔ x = y
  | [], [] => by simp [cmpL]
  | [], b :: y => by simp [cmpL]
  | a :: x, [] => by simp [cmpL]
  | a :: x, b :: y => by
    have ih := @cmpL_same x y
    unfold cmpL
    by_cases h : cmpI a b = 0
    · rw [if_pos h, ih]
      have : a = b := by unfold cmpI at h; split at h <;> (try split at h) <;> omega
      simp [this]
    · rw [if_neg h]
      constructor
      · intro h'; exact absurd h' h
      · intro h'
        simp only [List.cons.injEq] at h'
        exact absurd (by rw [h'.1]; unfold cmpI; simp) h

set_option maxRecDepth 20000 in
theorem CompareI_fn (a b : List Int) (ha : a.length ≤ 1000000000) (hb : b.length ≤ 1000000000) : Fn Tryz.prog 135 [slI a, slI b] (kI (cmpL a b)) := by
  refine fn_go Tryz.func135 rfl ?_
  simp [Tryz.ntmps135, slI_def]
  refine awp_loop (fun x : Nat => ⟨36, [(0, .sl 1 (a.map fun x => [kI x])), (1, .sl 1 (b.map fun x => [kI x])), (9, .sl 1 (a.map fun x => [kI x])), (10, kI a.length), (11, kI x)], [], 0⟩)
    (fun x => x ≤ a.length ∧ x ≤ b.length ∧ cmpL (a.drop x) (b.drop x) = cmpL a b) (fun x => a.length - x) 0 ?_ ?_ ?_
  · exact entm []
  · simp
  · rintro i ⟨hi, hib, hR⟩
    refine awp_go ?_
    by_cases hlt : i < a.length
    · rw [List.drop_eq_getElem_cons hlt] at hR
      by_cases hlb : i < b.length
      · rw [List.drop_eq_getElem_cons hlb] at hR
        have h1 : ¬ b.length ≤ i := by omega
        simp [hlt, h1, hlb]
        refine cal (Compare_fn a[i] b[i]) ?_
        rw [cmpL_cons] at hR
        by_cases hc : cmpI a[i] b[i] = 0
        · rw [if_pos hc] at hR
          simp [hc]
          rw [wrap_id (by omega) (by omega)]
          exact ⟨i + 1, ⟨by omega, by omega, hR⟩, by omega, entm []⟩
        · rw [if_neg hc] at hR
          simp [hc]
          exact finm (by simp [hR])
      · have h1 : b.length ≤ i := by omega
        rw [List.drop_eq_nil_of_le h1] at hR
        simp [hlt, h1]
        exact finm (by simp [← hR, cmpL])
    · have hin : i = a.length := by omega
      subst hin
      simp
      rw [List.drop_length] at hR
      by_cases hlb : a.length < b.length
      · rw [List.drop_eq_getElem_cons hlb] at hR
        simp [hlb]
        exact finm (by simp [← hR, cmpL])
      · rw [List.drop_eq_nil_of_le (by omega)] at hR
        simp [hlb]
        exact finm (by simp [← hR, cmpL])

set_option maxRecDepth 20000 in
/-- The order of a table's kinds. -/
theorem add1_L {σ : Boxes} {t : Nat} {x y : PV} {ks l : List Int} (ht : box σ t = some [slI ks, x, y]) (hk : ks.length ≤ 1000000000) (hl : l.length ≤ 1000000000) :
    FnL Tryz.prog 134 [.ptr t 0, slI l] σ (fun p τ => p = kI (cmpL ks l) ∧ τ = σ) := by
  refine fnl_go Tryz.func134 rfl fun _ => ?_
  simp [Tryz.ntmps134, entryL, boxG ht]
  refine cal (CompareI_fn ks l hk hl) ?_
  simp
  exact finL ⟨rfl, rfl⟩

set_option maxRecDepth 20000 in
theorem BinarySearchT_L {α : Type} {σ : Boxes} {tb : Nat} (l : List α) (id : α → Nat) (ks : List Int) (fn : FuncId) (c : α → Int) (hb : box σ tb = some (l.map fun t => PV.ptr (id t) 0)) (hl : l.length ≤ 4611686018427387904) (he : enterable Tryz.prog fn = true)
    (hf : ∀ t ∈ l, FnL Tryz.prog fn [.ptr (id t) 0, slI ks] σ (fun p τ => p = kI (c t) ∧ τ = σ)) :
    FnL Tryz.prog 133 [.osl tb 1 0 l.length, slI ks, .clo (.func fn) []] σ (fun p τ => p = .tup [kI (bs c l), kB (bsOk c l)] ∧ τ = σ) := by
  refine fnl_go Tryz.func133 rfl fun _ => ?_
  simp [Tryz.ntmps133, entryL]
  refine awp_loop (fun x : Nat × Nat × Nat => ⟨49, [(0, .osl tb 1 0 l.length), (1, slI ks), (2, .clo (.func fn) []), (8, kI l.length), (9, kI x.1), (10, kI x.2.1)], σ, σ.length⟩)
    (fun x => x.1 ≤ x.2.1 ∧ x.2.1 ≤ l.length ∧ x.2.1 ≤ x.1 + x.2.2 ∧ bsG (bsC c l) x.2.2 x.1 x.2.1 = bs c l) (fun x => x.2.1 - x.1) (0, l.length, l.length) ?_ ?_ ?_
  · exact ent_T _
  · exact ⟨by simp, by simp, by simp, rfl⟩
  · rintro ⟨i, j, f⟩ ⟨hij, hj, hf0, hR⟩
    simp only at hij hj hf0 hR
    refine awp_go ?_
    by_cases hlt : i < j
    · obtain ⟨f, rfl⟩ : ∃ f', f = f' + 1 := ⟨f - 1, by omega⟩
      obtain ⟨h, hd⟩ : ∃ h, (i + j) / 2 = h := ⟨_, rfl⟩
      have hh : h < l.length := by omega
      have e1 := half_ops i j (by omega)
      have h1 : i ≤ h := by omega
      have h2 : h < j := by omega
      have h3 : j ≤ h + 1 + f := by omega
      have h4 : h ≤ i + f := by omega
      rw [bsG_step _ _ _ _ hlt, hd, bsC_get c l h hh] at hR
      rw [hd] at e1
      simp [hlt]
      rw [e1]
      simp [hh, boxG hb]
      refine calL (hf l[h] (List.getElem_mem hh)) (fun p τ hp => ?_) (he := he)
      obtain ⟨rfl, rfl⟩ := hp
      by_cases hn : c l[h] < 0
      · simp [hn] at hR
        simp [hn]
        rw [wrap_id (by omega) (by omega)]
        exact ⟨h + 1, j, ⟨by omega, hj, f, by omega, hR⟩, by omega, ent_T _⟩
      · simp [hn] at hR
        simp [hn]
        exact ⟨i, h, ⟨by omega, by omega, f, by omega, hR⟩, by omega, ent_T _⟩
    · rw [bsG_stop _ _ _ _ hlt] at hR
      subst hR
      simp [hlt]
      by_cases hin : bs c l < l.length
      · simp [hin, boxG hb]
        refine calL (hf l[bs c l] (List.getElem_mem hin)) (fun p τ hp => ?_) (he := he)
        obtain ⟨rfl, rfl⟩ := hp
        simp
        exact finL (p := .tup [kI (bs c l), kB (bsOk c l)]) ⟨rfl, rfl⟩ (h := by simp [bsOk, hin])
      · simp [hin]
        exact finL (p := .tup [kI (bs c l), kB (bsOk c l)]) ⟨rfl, rfl⟩ (h := by simp [bsOk, hin])
end Go.Proofs.YtidhdlhblhbahaaGreat.Am
