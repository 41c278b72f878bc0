/- The library's slice functions, at the program's types. -/
import Derived.Test.YtfojnhceiabbhaaGreatSl1
import Derived.Test.YtfojnhceiabbhaaGreatKind6
set_option linter.unusedVariables false
set_option linter.unusedSimpArgs false
namespace Go.Proofs.YtfojnhceiabbhaaGreat.Am
open Go Go.RowKit

set_option maxRecDepth 20000 in
theorem GrowNilI_fn (n : Int) (h0 : 0 ≤ n) (hn : n ≤ 1000000000) : FnD Tryz.prog 77 [kNil, kI n] [] (.osl 0 1 0 0) [some []] := by
  refine fnd_go Tryz.func77 rfl ?_
  have h1 : ¬ n < 0 := by omega
  simp [Tryz.ntmps77, h1]
  rw [wrap_id (by omega) (by omega)]
  by_cases hp : 0 < n
  · have h2 : n.toNat * 8 ≤ 140737488355328 := by omega
    have h3 : n.toNat ≤ maxLen := by simp only [maxLen]; omega
    have h4 : n ≤ 9223372036854775807 := by omega
    have h5 : ¬ n ≤ 0 := by omega
    have h6 : 0 ≤ max n 0 := by omega
    simp [hp, h0, h2, h3, h4, h5, h6]
    refine finG_ent (ent_trunc 1 0) ?_
    simp
    exact finGm [1]
  · simp [hp]
    refine finG_ent (ent_nil (t := 4) (z := 1) rfl) ?_
    exact finGm [0]

set_option maxRecDepth 20000 in
theorem ConcatI_fn (ls : List (List Int)) (r : List Int) (hr : ls.flatten = r) (hl : r.length ≤ 1000000) (hls : ls.length ≤ 1000000000) : Fn Tryz.prog 48 [.sl 1 (ls.map fun l => [slI l])] (slI r) := by
  refine fn_go Tryz.func48 rfl ?_
  simp [Tryz.ntmps48]
  have hpre : ∀ i, (ls.take i).flatten.length ≤ r.length := fun i => by
    have : ls.flatten = (ls.take i).flatten ++ (ls.drop i).flatten := by rw [← List.flatten_append, List.take_append_drop]
    rw [← hr, this]; simp only [List.length_append]; omega
  have hsucc : ∀ i (h : i < ls.length), (ls.take (i + 1)).flatten = (ls.take i).flatten ++ ls[i] := fun i h => by
    rw [← List.take_append_getElem h, List.flatten_append]; simp
  have hall : (ls.take ls.length).flatten = r := by rw [List.take_of_length_le (Nat.le_refl _), hr]
  refine awp_loop (fun x : Nat × Nat => ⟨36, [(0, .sl 1 (ls.map fun l => [slI l])), (3, kI x.2), (9, .sl 1 (ls.map fun l => [slI l])), (10, kI ls.length), (11, kI x.1)], [], 0⟩) (fun x => x.1 ≤ ls.length ∧ x.2 = (ls.take x.1).flatten.length) (fun x => ls.length - x.1) (0, 0) ?_ ?_ ?_
  · exact entm []
  · exact ⟨by simp, rfl⟩
  · rintro ⟨i, m⟩ ⟨hi, hm⟩
    simp only at hi hm
    refine awp_go ?_
    by_cases hlt : i < ls.length
    · have hs := hsucc i hlt
      have h1 := hpre (i + 1)
      have h0 : (ls.take (i + 1)).flatten.length = m + ls[i].length := by rw [hs, List.length_append, hm]
      rw [h0] at h1
      simp [hlt]
      rw [wrap_id (by omega) (by omega)]
      have h2 : ¬ ((m : Int) + ((ls[i].length : Nat) : Int) < 0) := by omega
      simp [h2]
      rw [wrap_id (by omega) (by omega)]
      exact ⟨i + 1, m + ls[i].length, ⟨by omega, by simpa using h0.symm⟩, by omega, entm []⟩
    · have hin : i = ls.length := by omega
      subst hin
      rw [hall] at hm
      subst hm
      simp
      refine calD [] (GrowNilI_fn (r.length) (by omega) (by omega)) ?_ (hren := by simp)
      simp
      refine awp_loop (fun x : Nat × List Int => ⟨36, [(6, .osl 0 1 0 x.2.length), (25, .sl 1 (ls.map fun l => [slI l])), (26, kI ls.length), (27, kI x.1)], [some (x.2.map kI)], 0⟩) (fun x => x.1 ≤ ls.length ∧ x.2 = (ls.take x.1).flatten) (fun x => ls.length - x.1) (0, []) ?_ ?_ ?_
      · exact entm [0]
      · exact ⟨by simp, rfl⟩
      · rintro ⟨i, acc⟩ ⟨hi, hm⟩
        simp only at hi hm
        refine awp_go ?_
        by_cases hlt : i < ls.length
        · have hs := hsucc i hlt
          have h1 := hpre (i + 1)
          rw [hs, List.length_append, ← hm] at h1
          have h2 : (acc.length + ls[i].length) * 8 ≤ 140737488355328 := by omega
          have h3 : acc.length + ls[i].length ≤ maxLen := by simp only [maxLen]; omega
          simp [hlt, h2, h3]
          rw [wrap_id (by omega) (by omega)]
          exact ⟨i + 1, acc ++ ls[i], ⟨by omega, by rw [hs, hm]⟩, by omega, entm [1]⟩
        · have hin : i = ls.length := by omega
          subst hin
          rw [hall] at hm
          subst hm
          simp
          refine fin_fz 0 (acc.map kI) ?_
          simp
          exact finm (by simp [slI_def, chunks_ints])

set_option maxRecDepth 20000 in
/-- Deleted by a test: what is left, and zeros behind. -/
theorem DeleteFuncI_fn (l : List Int) (fn : FuncId) (caps : List PV) (p : Int → Bool) (hl : l.length ≤ 1000000000) (he : enterable Tryz.prog fn = true) (hc : ltL 0 caps = true)
    (hf : ∀ x ∈ l, Fn Tryz.prog fn (kI x :: caps) (kB (p x))) : FnD Tryz.prog 69 [.osl 0 1 0 l.length, .clo (.func fn) caps] [(l.map kI)] (.osl 0 1 0 (l.filter fun x => !p x).length)
      [some (((l.filter fun x => !p x).map kI) ++ List.replicate (l.length - (l.filter fun x => !p x).length) (kI 0))] := by
  refine fnd_go Tryz.func69 rfl ?_
  simp [Tryz.ntmps69]
  refine calS (IndexFuncI_fn l fn caps p (by omega) he hc hf) ?_ (hren := by simp [slI_def, chunks_ints]) (hlt := by simp [hc])
  cases hidx : l.findIdx? p with
  | none =>
    have hi : idxB p l = -1 := by simp [idxB, hidx]
    have hall : l.filter (fun x => !p x) = l := by
      rw [List.findIdx?_eq_none_iff] at hidx
      rw [List.filter_eq_self]; intro x hx; simp [hidx x hx]
    simp [hi]
    exact finGm [0] (hres := by simp [hall]) (hB := by simp [hall])
  | some i0 =>
    have hi : idxB p l = i0 := by simp [idxB, hidx]
    rw [List.findIdx?_eq_some_iff_getElem] at hidx
    obtain ⟨hi0, hp0, hno⟩ := hidx
    have hne : ¬ ((i0 : Int) = -1) := by omega
    simp [hi, hne]
    rw [wrap_id (by omega) (by omega)]
    have hF0 : (l.take (i0 + 1)).filter (fun x => !p x) = l.take i0 := by
      rw [← List.take_append_getElem hi0, List.filter_append]
      have : (l.take i0).filter (fun x => !p x) = l.take i0 := by
        rw [List.filter_eq_self]; intro x hx
        obtain ⟨j, hj, rfl⟩ := List.getElem_of_mem hx
        have hj' : j < i0 := by simp at hj; omega
        simpa using hno j hj'
      rw [this]; simp [hp0]
    have hcnt : ∀ j, i0 + 1 ≤ j → ((l.take j).filter (fun x => !p x)).length < j := fun j hj => by
      have h1 : l.take j = l.take (i0 + 1) ++ (l.take j).drop (i0 + 1) := by
        have := List.take_append_drop (i0 + 1) (l.take j)
        rw [List.take_take, Nat.min_eq_left hj] at this
        exact this.symm
      rw [h1, List.filter_append, hF0, List.length_append]
      have h2 := List.length_filter_le (fun x => !p x) ((l.take j).drop (i0 + 1))
      simp at h2 ⊢
      omega
    refine awp_loop (fun x : Nat × List Int × List Int => ⟨42, [(0, .osl 0 1 0 l.length), (1, .clo (.func fn) caps), (5, kI x.2.1.length), (6, kI x.1)], [some (x.2.2.map kI)], 1⟩)
      (fun x => i0 + 1 ≤ x.1 ∧ x.1 ≤ l.length ∧ x.2.1 = (l.take x.1).filter (fun x => !p x) ∧ x.2.2 = x.2.1 ++ l.drop x.2.1.length) (fun x => l.length - x.1) (i0 + 1, l.take i0, l) ?_ ?_ ?_
    · refine entm [0] (hT := ?_)
      have : min i0 l.length = i0 := by omega
      simp [renL_lt0 _ _ hc, hc, ltL_mono hc, this]
    · have hlt : (l.take i0).length = i0 := by simp; omega
      exact ⟨Nat.le_refl _, hi0, hF0.symm, by simp only [hlt, List.take_append_drop]⟩
    · rintro ⟨j, F, B⟩ ⟨hj0, hj, hF, hB⟩
      simp only at hj0 hj hF hB
      have hc1 := hcnt j hj0
      rw [← hF] at hc1
      have hBl : B.length = l.length := by rw [hB]; simp; omega
      refine awp_go ?_
      by_cases hlt : j < l.length
      · have hBj : B[j]? = some l[j] := by
          rw [hB, List.getElem?_append_right (by omega), List.getElem?_drop, show F.length + (j - F.length) = j by omega, List.getElem?_eq_getElem hlt]
        simp [hlt, hBj]
        refine cal (hf l[j] (List.getElem_mem hlt)) ?_ (he := he) (hlt := by simp [hc])
        by_cases hp : p l[j] = true
        · simp [hp]
          rw [wrap_id (by omega) (by omega)]
          refine ⟨j + 1, F, B, ⟨by omega, by omega, ?_, hB⟩, by omega, entm [0] (hT := by simp [renL_lt0 _ _ hc, ltL_mono hc])⟩
          rw [← List.take_append_getElem hlt, List.filter_append, hF]; simp [hp]
        · simp only [Bool.not_eq_true] at hp
          have h1 : (F.length : Int) < l.length := by omega
          have h2 : F.length + 1 ≤ B.length := by omega
          simp [hp, h1, h2]
          rw [wrap_id (by omega) (by omega), wrap_id (by omega) (by omega)]
          refine ⟨j + 1, F ++ [l[j]], F ++ l[j] :: l.drop (F.length + 1), ⟨by omega, by omega, ?_, by simp⟩, by omega, entm [0] (hT := by simp [renL_lt0 _ _ hc, ltL_mono hc]) (hB := ?_)⟩
          · rw [← List.take_append_getElem hlt, List.filter_append, hF]; simp [hp]
          · have e1 : B.take F.length = F := by rw [hB]; simp
            have e2 : B.drop (F.length + 1) = l.drop (F.length + 1) := by
              rw [hB, List.drop_append]; simp
            simp [← List.map_take, ← List.map_drop, e1, e2]
      · have hjl : j = l.length := by omega
        subst hjl
        rw [List.take_of_length_le (Nat.le_refl _)] at hF
        have h1 : (F.length : Int) ≤ l.length := by omega
        have h2 : F.length ≤ B.length := by omega
        simp [h1, h2]
        have e1 : B.take F.length = F := by rw [hB]; simp
        exact finGm [0] (hres := by simp [← hF]) (hB := by
          have e3 : B.length ≤ F.length + (l.length - F.length) := by omega
          simp [← hF, ← List.map_take, e1, List.drop_eq_nil_of_le, e3])

end Go.Proofs.YtfojnhceiabbhaaGreat.Am
