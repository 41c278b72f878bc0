/- Events: the plain law of the parts. -/
import Derived.Test.YtmkgechjbbekmaaPart4
import Derived.Test.YtmkgechjbbekmaaMake5
import Derived.Test.YtmkgechjbbekmaaRowE
set_option linter.unusedVariables false
set_option linter.unusedSimpArgs false
namespace Go.Proofs.Ytmkgechjbbekmaa.Am
open Go Go.RowKit

theorem mkWorld_items (ks : List GKind) : ∀ (n i : Nat) (gs : List Int) (its : List GItem) (l : List Int), its.length ≤ 8 → (mkWorld ks n i gs its l).2.1.length ≤ 8
  | 0, _, _, _, _, h => h
  | n + 1, i, gs, its, l, h => by
    unfold mkWorld
    split
    · exact mkWorld_items ks n _ _ _ _ h
    · rename_i hc
      exact mkWorld_items ks n _ _ _ _ (by simp; omega)
theorem worldM_items (l : List Int) : (worldM l).Items.length ≤ 8 := mkWorld_items _ _ _ _ _ _ (by simp)

def SortedC (out : List GCount) : Prop := out.Pairwise fun a b => a.System < b.System
theorem cut_sorted (s : Int) : ∀ (out : List GCount), SortedC out → ∃ p, p ≤ out.length ∧ ∀ j (hj : j < out.length), cntC s out[j] < 0 ↔ j < p
  | [], _ => ⟨0, by simp, by simp⟩
  | a :: r, h => by
    have h1 := List.pairwise_cons.1 h
    by_cases ha : a.System < s
    · obtain ⟨p, hp, hj⟩ := cut_sorted s r h1.2
      refine ⟨p + 1, by simp; omega, fun j hjl => ?_⟩
      cases j with
      | zero => simp [cntC, cmpI_lt, ha]
      | succ j => simp at hjl; simpa using hj j hjl
    · refine ⟨0, by simp, fun j hjl => ?_⟩
      cases j with
      | zero => simp [cntC, cmpI_lt]; omega
      | succ j =>
        simp at hjl
        have := h1.1 r[j] (List.getElem_mem hjl)
        simp [cntC, cmpI_lt]; omega

def cntP (pre : List GEvent) (s : Int) : Int := (pre.countP fun e => decide (e.System = s) : Nat)
structure GoodC (pre : List GEvent) (out : List GCount) : Prop where
  sorted : SortedC out
  num : ∀ x ∈ out, x.N = cntP pre x.System
  all : ∀ e ∈ pre, ∃ x ∈ out, x.System = e.System
theorem cntP_succ (pre : List GEvent) (e : GEvent) (s : Int) : cntP (pre ++ [e]) s = cntP pre s + if e.System = s then 1 else 0 := by
  unfold cntP
  rw [List.countP_append]
  by_cases h : e.System = s <;> simp [h]

def sumC (l : List GCount) : Int := (l.map GCount.N).sum
theorem sumC_app (a b : List GCount) : sumC (a ++ b) = sumC a + sumC b := by simp [sumC]
theorem sumC_cons (x : GCount) (b : List GCount) : sumC (x :: b) = x.N + sumC b := by simp [sumC]
theorem sumC_split (l : List GCount) (i : Nat) : sumC l = sumC (l.take i) + sumC (l.drop i) := by rw [← sumC_app, List.take_append_drop]
theorem cntIns_sum (out : List GCount) (s : Int) : sumC (cntIns out s) = sumC out + 1 := by
  cases h : bsOk (cntC s) out with
  | true =>
    obtain ⟨hi, _⟩ := bsOk_lt h
    rw [cntIns_ok h hi, List.set_eq_take_append_cons_drop, if_pos hi, sumC_app, sumC_cons, sumC_split out (bs (cntC s) out), List.drop_eq_getElem_cons hi, sumC_cons]
    simp only; omega
  | false =>
    rw [cntIns_no h, sumC_app, sumC_cons, sumC_split out (bs (cntC s) out)]
    simp only; omega
theorem countsL_sum (l : List GEvent) : ∀ i, i ≤ l.length → sumC (countsL (l.take i)) = i
  | 0, _ => by simp [sumC]
  | i + 1, h => by
    rw [countsL_succ l i h, cntIns_sum, countsL_sum l i (by omega)]; simp

theorem mem_set_ne {α : Type} {l : List α} {i : Nat} {y x : α} (h : x ∈ l.set i y) : x = y ∨ ∃ j, ∃ hj : j < l.length, j ≠ i ∧ x = l[j] := by
  obtain ⟨j, hj, rfl⟩ := List.getElem_of_mem h
  rw [List.length_set] at hj
  by_cases e : i = j
  · subst e; simp
  · right; exact ⟨j, hj, fun h => e h.symm, by rw [List.getElem_set_ne e]⟩

theorem sorted_ne {out : List GCount} (h : SortedC out) {i j : Nat} (hi : i < out.length) (hj : j < out.length) (hij : i < j) : out[i].System < out[j].System :=
  List.pairwise_iff_getElem.1 h i j hi hj hij

theorem good_step {pre : List GEvent} {out : List GCount} (e : GEvent) (h : GoodC pre out) : GoodC (pre ++ [e]) (cntIns out e.System) := by
  obtain ⟨hs, hn, ha⟩ := h
  obtain ⟨p, hp, hj⟩ := cut_sorted e.System out hs
  have hbs : bs (cntC e.System) out = p := bs_eq p hp hj
  cases hok : bsOk (cntC e.System) out with
  | true =>
    obtain ⟨hi, h0⟩ := bsOk_lt hok
    rw [cntIns_ok hok hi]
    have hi2 : p < out.length := by omega
    simp only [hbs] at h0 ⊢
    have hse : out[p].System = e.System := (cmpI_eq _ _).1 h0
    refine ⟨?_, fun x hx => ?_, fun f hf => ?_⟩
    · refine List.pairwise_iff_getElem.2 fun i j h1 h2 hij => ?_
      simp only [List.length_set] at h1 h2
      have := sorted_ne hs h1 h2 hij
      simp only [List.getElem_set]
      split <;> split <;> simp_all <;> omega
    · rcases mem_set_ne hx with h1 | ⟨j, hj1, hne, h1⟩
      · subst h1
        simp only [cntP_succ, hse, if_pos]
        rw [hn _ (List.getElem_mem hi2), hse]
      · subst h1
        have hne2 : ¬ e.System = out[j].System := by
          rcases Nat.lt_or_gt_of_ne hne with hl | hl
          · have := sorted_ne hs hj1 hi2 hl; omega
          · have := sorted_ne hs hi2 hj1 hl; omega
        rw [cntP_succ, if_neg hne2, hn _ (List.getElem_mem hj1)]; omega
    · have key : ∀ s, (∃ x ∈ out, x.System = s) → ∃ x ∈ out.set p ⟨out[p].System, out[p].N + 1⟩, x.System = s := by
        rintro s ⟨x, hx, rfl⟩
        obtain ⟨j, hj1, rfl⟩ := List.getElem_of_mem hx
        by_cases e1 : p = j
        · subst e1; exact ⟨_, List.mem_set hi2 _, rfl⟩
        · exact ⟨out[j], List.mem_iff_getElem.2 ⟨j, by simpa using hj1, by rw [List.getElem_set_ne e1]⟩, rfl⟩
      rcases List.mem_append.1 hf with h1 | h1
      · exact key _ (ha f h1)
      · have : f = e := by simpa using h1
        subst this
        exact key _ ⟨out[p], List.getElem_mem hi2, hse⟩
  | false =>
    rw [cntIns_no hok, hbs]
    have hne : ∀ j (hj1 : j < out.length), out[j].System ≠ e.System := fun j hj1 heq => by
      have h1 : ¬ j < p := fun hlt => by
        have := (hj j hj1).2 hlt
        rw [cntC, cmpI_lt] at this; omega
      have hpl : p < out.length := by omega
      have h2 : ¬ cntC e.System out[p] = 0 := fun h0 => by
        simp [bsOk, hbs, hpl, h0] at hok
      have h3 : ¬ cntC e.System out[p] < 0 := fun h0 => by have := (hj p hpl).1 h0; omega
      rw [cntC, cmpI_eq] at h2
      rw [cntC, cmpI_lt] at h3
      rcases Nat.lt_or_ge p j with hl | hl
      · have := sorted_ne hs hpl hj1 hl; omega
      · have : p = j := by omega
        subst this; exact h2 heq
    refine ⟨?_, fun x hx => ?_, fun f hf => ?_⟩
    · unfold SortedC
      rw [List.pairwise_append, List.pairwise_cons]
      refine ⟨hs.sublist (List.take_sublist _ _), ⟨fun x hx => ?_, hs.sublist (List.drop_sublist _ _)⟩, fun x hx y hy => ?_⟩
      · obtain ⟨j, hj1, rfl⟩ := List.getElem_of_mem hx
        rw [List.length_drop] at hj1
        rw [List.getElem_drop]
        have h3 : ¬ cntC e.System out[p + j] < 0 := fun h0 => by have := (hj (p + j) (by omega)).1 h0; omega
        rw [cntC, cmpI_lt] at h3
        have := hne (p + j) (by omega)
        simp only; omega
      · obtain ⟨i, hi1, rfl⟩ := List.getElem_of_mem hx
        rw [List.length_take] at hi1
        rw [List.getElem_take]
        have h3 := (hj i (by omega)).2 (by omega)
        rw [cntC, cmpI_lt] at h3
        rcases List.mem_cons.1 hy with h1 | h1
        · subst h1; exact h3
        · obtain ⟨j, hj1, rfl⟩ := List.getElem_of_mem h1
          rw [List.length_drop] at hj1
          rw [List.getElem_drop]
          exact sorted_ne hs (by omega) (by omega) (by omega)
    · have old : ∀ x ∈ out, x.N = cntP (pre ++ [e]) x.System := fun x hx => by
        obtain ⟨j, hj1, rfl⟩ := List.getElem_of_mem hx
        rw [cntP_succ, if_neg (fun h => hne j hj1 h.symm), hn _ (List.getElem_mem hj1)]; omega
      rcases List.mem_append.1 hx with h1 | h1
      · exact old x (List.mem_of_mem_take h1)
      · rcases List.mem_cons.1 h1 with h2 | h2
        · subst h2
          simp only [cntP_succ, if_pos]
          have : cntP pre e.System = 0 := by
            unfold cntP
            have : pre.countP (fun f => decide (f.System = e.System)) = 0 := by
              rw [List.countP_eq_zero]
              intro f hf hh
              obtain ⟨x, hx2, hx3⟩ := ha f hf
              obtain ⟨j, hj1, rfl⟩ := List.getElem_of_mem hx2
              exact hne j hj1 (by rw [hx3]; simpa using hh)
            rw [this]; rfl
          rw [this]; rfl
        · exact old x (List.mem_of_mem_drop h2)
    · rcases List.mem_append.1 hf with h1 | h1
      · obtain ⟨x, hx, hx2⟩ := ha f h1
        refine ⟨x, ?_, hx2⟩
        rw [← List.take_append_drop p out] at hx
        rcases List.mem_append.1 hx with h2 | h2
        · exact List.mem_append_left _ h2
        · exact List.mem_append_right _ (List.mem_cons_of_mem _ h2)
      · have : f = e := by simpa using h1
        subst this
        exact ⟨⟨f.System, 1⟩, by simp, rfl⟩
theorem countsL_good (l : List GEvent) : ∀ i, i ≤ l.length → GoodC (l.take i) (countsL (l.take i))
  | 0, _ => ⟨by simp [SortedC], by simp, by simp⟩
  | i + 1, h => by
    rw [countsL_succ l i h, ← List.take_append_getElem h]
    exact good_step _ (countsL_good l i (by omega))

theorem i64_of_wf {x : Int} (h : (Lit.int .i64 x).wf = true) : -9223372036854775808 ≤ x ∧ x ≤ 9223372036854775807 := by
  simp [Lit.wf, IntKind.min, IntKind.max, IntKind.bits, IntKind.signed] at h
  omega
theorem of_all (l : List GEvent) (hw : ∀ e ∈ l, e.wf) (s : Int) : (l.filter (ofP s (-9223372036854775808) 9223372036854775807)) = if s = -1 then l else l.filter fun e => decide (e.System = s) := by
  have key : ∀ e ∈ l, ofP s (-9223372036854775808) 9223372036854775807 e = (decide (s = -1) || decide (e.System = s)) := fun e he => by
    have h1 := (hw e he).2.2.2
    obtain ⟨h2, h3⟩ := i64_of_wf h1
    simp [ofP, h2, h3]
  rw [List.filter_congr key]
  split
  · rename_i h; subst h; simp
  · rename_i h; simp [h]
end Go.Proofs.Ytmkgechjbbekmaa.Am
