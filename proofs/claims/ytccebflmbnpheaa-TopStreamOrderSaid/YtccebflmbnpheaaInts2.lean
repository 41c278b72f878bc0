/- Package world: Ints, walked. -/
import Derived.Test.YtccebflmbnpheaaInts1
set_option linter.unusedVariables false
set_option linter.unusedSimpArgs false
namespace Go.Proofs.Ytccebflmbnpheaa.Am
open Go Go.RowKit

theorem nameI_len (s : Str) : (nameI s).length = s.size + 1 := by rw [nameI, List.length_cons, List.length_map, Array.length_toList]; rfl
theorem fm_drop {α : Type} (f : α → List Int) (l : List α) (i : Nat) (h : i < l.length) : (l.drop i).flatMap f = f l[i] ++ (l.drop (i + 1)).flatMap f := by
  rw [List.drop_eq_getElem_cons h, List.flatMap_cons]

set_option maxHeartbeats 1000000 in
set_option maxRecDepth 20000 in
theorem Ints_fn (w : GWorld) (hw : Fine w) (hT : (intsM w).length ≤ 1000000000) : Fn Try.prog 36 [.agg w.e] (slI (intsM w)) := by
  refine fn_go Try.func36 rfl ?_
  have hm : ∀ n : Nat, n ≤ 4000000000 → n * 8 ≤ 140737488355328 ∧ n ≤ maxLen := fun n hn => ⟨by omega, by simp only [maxLen]; omega⟩
  simp [Try.ntmps36]
  refine awp_loop (fun x : Nat × List Int => ⟨112, [(1, .ptr 0 0), (3, .ptr 1 0), (4, .clo (.func 53) [.ptr 1 0]), (19, .sl 2 (w.Kinds.map GKind.e)), (20, kI w.Kinds.length), (21, kI x.1)], [some w.e, some [.osl 2 1 0 x.2.length], some (x.2.map kI)], 0⟩)
    (fun x => x.1 ≤ w.Kinds.length ∧ x.2 ++ ((w.Kinds.drop x.1).flatMap kindI ++ tailI w) = intsM w) (fun x => w.Kinds.length - x.1) (0, [(w.Kinds.length : Int)]) ?_ ?_ ?_
  · exact entm [0, 2, 1]
  · simp [intsM]
  · rintro ⟨i, a⟩ ⟨hi, hrun⟩
    simp only at hi hrun
    have hal := len_le hrun
    refine awp_go ?_
    by_cases hlt : i < w.Kinds.length
    · rw [fm_drop kindI _ i hlt] at hrun
      obtain ⟨k, hk⟩ : ∃ k, w.Kinds[i] = k := ⟨_, rfl⟩
      rw [hk] at hrun
      have hkf := hw.kf k (hk ▸ List.getElem_mem hlt)
      have hn1 : (a ++ nameI k.Name).length ≤ 1000000000 := by
        have : (a ++ nameI k.Name) ++ (((k.Fields.length : Int) :: k.Fields.flatMap fieldI) ++ ((w.Kinds.drop (i + 1)).flatMap kindI ++ tailI w)) = intsM w := by rw [← hrun]; simp [kindI]
        have := len_le this
        omega
      have hns : k.Name.size ≤ 1000000000 := by
        rw [List.length_append, nameI_len] at hn1; omega
      simp [hlt, hk]
      refine calD [1, 2] (name_fn a k.Name (by omega)) ?_
      obtain ⟨b, hb⟩ : ∃ b, a ++ nameI k.Name = b := ⟨_, rfl⟩
      rw [hb] at hn1 ⊢
      obtain ⟨g1, g2⟩ := hm (b.length + 1) (by omega)
      simp [g1, g2]
      obtain ⟨R, hR⟩ : ∃ R, (w.Kinds.drop (i + 1)).flatMap kindI ++ tailI w = R := ⟨_, rfl⟩
      have hrun2 : (b ++ [(k.Fields.length : Int)]) ++ (k.Fields.flatMap fieldI ++ R) = intsM w := by rw [← hrun, ← hb, ← hR]; simp [kindI]
      refine awp_loop (fun x : Nat × List Int => ⟨112, [(1, .ptr 0 0), (3, .ptr 1 0), (4, .clo (.func 53) [.ptr 1 0]), (19, .sl 2 (w.Kinds.map GKind.e)), (20, kI w.Kinds.length), (21, kI i), (36, .sl 3 (k.Fields.map GField.e)), (37, kI k.Fields.length), (38, kI x.1)], [some w.e, some [.osl 2 1 0 x.2.length], some (x.2.map kI)], 0⟩)
        (fun x => x.1 ≤ k.Fields.length ∧ x.2 ++ ((k.Fields.drop x.1).flatMap fieldI ++ R) = intsM w) (fun x => k.Fields.length - x.1) (0, b ++ [(k.Fields.length : Int)]) ?_ ?_ ?_
      · exact entm [0, 1, 6]
      · simpa using hrun2
      · rintro ⟨j, c⟩ ⟨hj, hrunj⟩
        simp only at hj hrunj
        refine awp_go ?_
        by_cases hjt : j < k.Fields.length
        · rw [fm_drop fieldI _ j hjt] at hrunj
          obtain ⟨f, hf⟩ : ∃ f, k.Fields[j] = f := ⟨_, rfl⟩
          rw [hf] at hrunj
          have hn2 : (c ++ nameI f.Name).length ≤ 1000000000 := by
            have : (c ++ nameI f.Name) ++ ([f.Bits, f.Low] ++ ((k.Fields.drop (j + 1)).flatMap fieldI ++ R)) = intsM w := by rw [← hrunj]; simp [fieldI]
            have := len_le this
            omega
          have hns2 : f.Name.size ≤ 1000000000 ∧ c.length ≤ 1000000000 := by
            rw [List.length_append, nameI_len] at hn2; omega
          simp [hjt, hf]
          refine calD [1, 2] (name_fn c f.Name (by omega)) ?_
          obtain ⟨d, hd⟩ : ∃ d, c ++ nameI f.Name = d := ⟨_, rfl⟩
          rw [hd] at hn2 ⊢
          obtain ⟨g3, g4⟩ := hm (d.length + 2) (by omega)
          simp [g3, g4]
          rw [wrap_id (by omega) (by have := hw.kf k (hk ▸ List.getElem_mem hlt); omega)]
          exact ⟨j + 1, d ++ [f.Bits, f.Low], ⟨by omega, by rw [← hrunj, ← hd]; simp [fieldI]⟩, by omega, entm [0, 1, 6]⟩
        · have : j = k.Fields.length := by omega
          subst this
          simp at hrunj
          simp
          rw [wrap_id (by omega) (by have := hw.kl; omega)]
          exact ⟨i + 1, c, ⟨by omega, by rw [hR]; exact hrunj⟩, by omega, entm [0, 1, 2]⟩
    · have : i = w.Kinds.length := by omega
      subst this
      simp at hrun
      have hgl := hw.gl
      have hil := hw.il
      obtain ⟨q1, q2⟩ := hm (a.length + 1) (by omega)
      obtain ⟨q3, q4⟩ := hm (a.length + 1 + w.Gens.length) (by omega)
      obtain ⟨q5, q6⟩ := hm (a.length + 1 + w.Gens.length + 1) (by omega)
      have q7 : a.length + (w.Gens.length + 1) = a.length + 1 + w.Gens.length := by omega
      simp [q1, q2, q3, q4, q5, q6, q7]
      have hrun3 : (a ++ ((w.Gens.length : Int) :: (w.Gens ++ [(w.Items.length : Int)]))) ++ w.Items.flatMap itemI = intsM w := by rw [← hrun]; simp [tailI]
      refine awp_loop (fun x : Nat × List Int => ⟨112, [(1, .ptr 0 0), (3, .ptr 1 0), (72, .sl 3 (w.Items.map GItem.e)), (73, kI w.Items.length), (74, kI x.1)], [some w.e, some [.osl 2 1 0 x.2.length], some (x.2.map kI)], 0⟩)
        (fun x => x.1 ≤ w.Items.length ∧ x.2 ++ (w.Items.drop x.1).flatMap itemI = intsM w) (fun x => w.Items.length - x.1) (0, a ++ ((w.Gens.length : Int) :: (w.Gens ++ [(w.Items.length : Int)]))) ?_ ?_ ?_
      · exact entm [0, 1, 7] (hB := by simp; omega)
      · simpa using hrun3
      · rintro ⟨i, c⟩ ⟨hi, hruni⟩
        simp only at hi hruni
        have hcl := len_le hruni
        refine awp_go ?_
        by_cases hlt : i < w.Items.length
        · rw [fm_drop itemI _ i hlt] at hruni
          obtain ⟨it, hit⟩ : ∃ it, w.Items[i] = it := ⟨_, rfl⟩
          have hmem : it ∈ w.Items := hit ▸ List.getElem_mem hlt
          have hic := hw.ic it hmem
          rw [hit] at hruni
          obtain ⟨p1, p2⟩ := hm (c.length + 3) (by omega)
          simp [hlt, hit, p1, p2]
          obtain ⟨R, hR⟩ : ∃ R, (w.Items.drop (i + 1)).flatMap itemI = R := ⟨_, rfl⟩
          have hrun4 : (c ++ [it.Ent.N, it.Ent.Gen, (it.Comps.length : Int)]) ++ (it.Comps.flatMap compI ++ R) = intsM w := by rw [← hruni, ← hR]; simp [itemI]
          refine awp_loop (fun x : Nat × List Int => ⟨112, [(1, .ptr 0 0), (3, .ptr 1 0), (72, .sl 3 (w.Items.map GItem.e)), (73, kI w.Items.length), (74, kI i), (91, .sl 2 (it.Comps.map GComp.e)), (92, kI it.Comps.length), (93, kI x.1)], [some w.e, some [.osl 2 1 0 x.2.length], some (x.2.map kI)], 0⟩)
            (fun x => x.1 ≤ it.Comps.length ∧ x.2 ++ ((it.Comps.drop x.1).flatMap compI ++ R) = intsM w) (fun x => it.Comps.length - x.1) (0, c ++ [it.Ent.N, it.Ent.Gen, (it.Comps.length : Int)]) ?_ ?_ ?_
          · exact entm [0, 1, 5]
          · simpa using hrun4
          · rintro ⟨j, d⟩ ⟨hj, hrunj⟩
            simp only at hj hrunj
            have hdl := len_le hrunj
            refine awp_go ?_
            by_cases hjt : j < it.Comps.length
            · rw [fm_drop compI _ j hjt] at hrunj
              obtain ⟨x, hx⟩ : ∃ x, it.Comps[j] = x := ⟨_, rfl⟩
              have hxv := hw.iv it hmem x (hx ▸ List.getElem_mem hjt)
              rw [hx] at hrunj
              obtain ⟨p3, p4⟩ := hm (d.length + 2) (by omega)
              obtain ⟨p5, p6⟩ := hm (d.length + 2 + x.Vals.length) (by omega)
              have p7 : d.length + (x.Vals.length + 2) = d.length + 2 + x.Vals.length := by omega
              have p8 : d.length + (x.Vals.length + 1 + 1) = d.length + 2 + x.Vals.length := by omega
              simp [hjt, hx, p3, p4, p5, p6, p7, p8]
              rw [wrap_id (by omega) (by omega)]
              refine ⟨j + 1, d ++ (x.Kind :: (x.Vals.length : Int) :: x.Vals), ⟨by omega, by rw [← hrunj]; simp [compI]⟩, by omega, entm [0, 1, 6] (hB := by simp; omega)⟩
            · have : j = it.Comps.length := by omega
              subst this
              simp at hrunj
              simp
              rw [wrap_id (by omega) (by omega)]
              exact ⟨i + 1, d, ⟨by omega, by rw [hR]; exact hrunj⟩, by omega, entm [0, 1, 2]⟩
        · have : i = w.Items.length := by omega
          subst this
          simp at hruni
          simp
          refine fin_fz 2 _ ?_
          simp
          exact finm (by simp [hruni, slI_def, chunks_ints])
end Go.Proofs.Ytccebflmbnpheaa.Am
