/- The library's slice functions, at the program's types. -/
import Derived.Test.YtmkgechjbbekmaaCmp
import Derived.Test.YtmkgechjbbekmaaSl2
set_option linter.unusedVariables false
set_option linter.unusedSimpArgs false
namespace Go.Proofs.Ytmkgechjbbekmaa.Am
open Go Go.RowKit

set_option maxRecDepth 20000 in
theorem EqualF_fn (a b : List GField) (ha : a.length ≤ 1000000000) : Fn Try.prog 96 [.sl 3 (a.map GField.e), .sl 3 (b.map GField.e)] (kB (decide (a = b))) := by
  refine fn_go Try.func96 rfl ?_
  simp [Try.ntmps96]
  by_cases h : a.length = b.length
  · have h' : (a.length : Int) = b.length := by omega
    simp [h']
    refine awp_loop (fun i : Nat => ⟨26, [(0, .sl 3 (a.map GField.e)), (1, .sl 3 (b.map GField.e)), (12, kI b.length), (13, kI i)], [], 0⟩) (fun i => i ≤ a.length ∧ a.take i = b.take i) (fun i => a.length - i) 0 ?_ ?_ ?_
    · exact entm []
    · simp
    · intro i ⟨hi, hp⟩
      refine awp_go ?_
      by_cases hlt : i < b.length
      · have hla : i < a.length := by omega
        simp [hlt]
        refine awp_draw follows_mix [] [(0, [0]), (0, [0]), (0, [0]), (0, [0]), (0, [0]), (0, [0]), (0, [0]), (0, [0]), (0, [0])] 0 (by kernel_rfl) rfl ?_
        simp [hlt, hla]
        by_cases he : a[i] = b[i]
        · simp [he]
          rw [wrap_id (by omega) (by omega)]
          exact ⟨i + 1, ⟨by omega, take_extG hla hlt hp he⟩, by omega, entm []⟩
        · simp [he]
          have hne : a ≠ b := fun e => by subst e; exact he rfl
          exact finm (by simp [hne])
      · simp [hlt]
        have hab : a = b := by
          have e1 : a.take i = a := List.take_of_length_le (by omega)
          have e2 : b.take i = b := List.take_of_length_le (by omega)
          rw [← e1, ← e2]; exact hp
        exact finm (by simp [hab])
  · have h' : ¬ ((a.length : Int) = b.length) := by omega
    simp [h']
    have hne : a ≠ b := fun e => by subst e; exact h rfl
    exact finm (by simp [hne])

set_option maxRecDepth 20000 in
theorem EqualFuncC_fn (a b : List GComp) (fn : FuncId) (caps : List PV) (ha : a.length ≤ 1000000000) (he : enterable Try.prog fn = true) (hc : ltL 0 caps = true)
    (hf : ∀ x ∈ a, ∀ y ∈ b, Fn Try.prog fn (.agg x.e :: .agg y.e :: caps) (kB (decide (x = y)))) : Fn Try.prog 125 [.sl 2 (a.map GComp.e), .sl 2 (b.map GComp.e), .clo (.func fn) caps] (kB (decide (a = b))) := by
  refine fn_go Try.func125 rfl ?_
  simp [Try.ntmps125]
  by_cases h : a.length = b.length
  · have h' : (a.length : Int) = b.length := by omega
    simp [h']
    refine awp_loop (fun i : Nat => ⟨32, [(1, .sl 2 (b.map GComp.e)), (2, .clo (.func fn) caps), (15, .sl 2 (a.map GComp.e)), (16, kI b.length), (17, kI i)], [], 0⟩) (fun i => i ≤ a.length ∧ a.take i = b.take i) (fun i => a.length - i) 0 ?_ ?_ ?_
    · exact entm [] (hT := by simp [renL_lt0 _ _ hc, hc])
    · simp
    · intro i ⟨hi, hp⟩
      refine awp_go ?_
      by_cases hlt : i < b.length
      · have hla : i < a.length := by omega
        simp [hlt, hla]
        refine cal (hf a[i] (List.getElem_mem hla) b[i] (List.getElem_mem hlt)) ?_ (he := he) (hlt := by simp [hc])
        by_cases he : a[i] = b[i]
        · simp [he]
          rw [wrap_id (by omega) (by omega)]
          exact ⟨i + 1, ⟨by omega, take_extG hla hlt hp he⟩, by omega, entm [] (hT := by simp [renL_lt0 _ _ hc, hc])⟩
        · simp [he]
          have hne : a ≠ b := fun e => by subst e; exact he rfl
          exact finm (by simp [hne])
      · simp [hlt]
        have hab : a = b := by
          have e1 : a.take i = a := List.take_of_length_le (by omega)
          have e2 : b.take i = b := List.take_of_length_le (by omega)
          rw [← e1, ← e2]; exact hp
        exact finm (by simp [hab])
  · have h' : ¬ ((a.length : Int) = b.length) := by omega
    simp [h']
    have hne : a ≠ b := fun e => by subst e; exact h rfl
    exact finm (by simp [hne])

set_option maxRecDepth 20000 in
theorem EqualFuncIt_fn (a b : List GItem) (fn : FuncId) (caps : List PV) (ha : a.length ≤ 1000000000) (he : enterable Try.prog fn = true) (hc : ltL 0 caps = true)
    (hf : ∀ x ∈ a, ∀ y ∈ b, Fn Try.prog fn (.agg x.e :: .agg y.e :: caps) (kB (decide (x = y)))) : Fn Try.prog 89 [.sl 3 (a.map GItem.e), .sl 3 (b.map GItem.e), .clo (.func fn) caps] (kB (decide (a = b))) := by
  refine fn_go Try.func89 rfl ?_
  simp [Try.ntmps89]
  by_cases h : a.length = b.length
  · have h' : (a.length : Int) = b.length := by omega
    simp [h']
    refine awp_loop (fun i : Nat => ⟨32, [(1, .sl 3 (b.map GItem.e)), (2, .clo (.func fn) caps), (15, .sl 3 (a.map GItem.e)), (16, kI b.length), (17, kI i)], [], 0⟩) (fun i => i ≤ a.length ∧ a.take i = b.take i) (fun i => a.length - i) 0 ?_ ?_ ?_
    · exact entm [] (hT := by simp [renL_lt0 _ _ hc, hc])
    · simp
    · intro i ⟨hi, hp⟩
      refine awp_go ?_
      by_cases hlt : i < b.length
      · have hla : i < a.length := by omega
        simp [hlt, hla]
        refine cal (hf a[i] (List.getElem_mem hla) b[i] (List.getElem_mem hlt)) ?_ (he := he) (hlt := by simp [hc])
        by_cases he : a[i] = b[i]
        · simp [he]
          rw [wrap_id (by omega) (by omega)]
          exact ⟨i + 1, ⟨by omega, take_extG hla hlt hp he⟩, by omega, entm [] (hT := by simp [renL_lt0 _ _ hc, hc])⟩
        · simp [he]
          have hne : a ≠ b := fun e => by subst e; exact he rfl
          exact finm (by simp [hne])
      · simp [hlt]
        have hab : a = b := by
          have e1 : a.take i = a := List.take_of_length_le (by omega)
          have e2 : b.take i = b := List.take_of_length_le (by omega)
          rw [← e1, ← e2]; exact hp
        exact finm (by simp [hab])
  · have h' : ¬ ((a.length : Int) = b.length) := by omega
    simp [h']
    have hne : a ≠ b := fun e => by subst e; exact h rfl
    exact finm (by simp [hne])

set_option maxRecDepth 20000 in
theorem EqualFuncK_fn (a b : List GKind) (fn : FuncId) (caps : List PV) (ha : a.length ≤ 1000000000) (he : enterable Try.prog fn = true) (hc : ltL 0 caps = true)
    (hf : ∀ x ∈ a, ∀ y ∈ b, Fn Try.prog fn (.agg x.e :: .agg y.e :: caps) (kB (decide (x = y)))) : Fn Try.prog 94 [.sl 2 (a.map GKind.e), .sl 2 (b.map GKind.e), .clo (.func fn) caps] (kB (decide (a = b))) := by
  refine fn_go Try.func94 rfl ?_
  simp [Try.ntmps94]
  by_cases h : a.length = b.length
  · have h' : (a.length : Int) = b.length := by omega
    simp [h']
    refine awp_loop (fun i : Nat => ⟨32, [(1, .sl 2 (b.map GKind.e)), (2, .clo (.func fn) caps), (15, .sl 2 (a.map GKind.e)), (16, kI b.length), (17, kI i)], [], 0⟩) (fun i => i ≤ a.length ∧ a.take i = b.take i) (fun i => a.length - i) 0 ?_ ?_ ?_
    · exact entm [] (hT := by simp [renL_lt0 _ _ hc, hc])
    · simp
    · intro i ⟨hi, hp⟩
      refine awp_go ?_
      by_cases hlt : i < b.length
      · have hla : i < a.length := by omega
        simp [hlt, hla]
        refine cal (hf a[i] (List.getElem_mem hla) b[i] (List.getElem_mem hlt)) ?_ (he := he) (hlt := by simp [hc])
        by_cases he : a[i] = b[i]
        · simp [he]
          rw [wrap_id (by omega) (by omega)]
          exact ⟨i + 1, ⟨by omega, take_extG hla hlt hp he⟩, by omega, entm [] (hT := by simp [renL_lt0 _ _ hc, hc])⟩
        · simp [he]
          have hne : a ≠ b := fun e => by subst e; exact he rfl
          exact finm (by simp [hne])
      · simp [hlt]
        have hab : a = b := by
          have e1 : a.take i = a := List.take_of_length_le (by omega)
          have e2 : b.take i = b := List.take_of_length_le (by omega)
          rw [← e1, ← e2]; exact hp
        exact finm (by simp [hab])
  · have h' : ¬ ((a.length : Int) = b.length) := by omega
    simp [h']
    have hne : a ≠ b := fun e => by subst e; exact h rfl
    exact finm (by simp [hne])

set_option maxRecDepth 20000 in
theorem IndexFuncM_fn (l : List GMove) (fn : FuncId) (caps : List PV) (p : GMove → Bool) (hl : l.length ≤ 4611686018427387904) (he : enterable Try.prog fn = true) (hc : ltL 0 caps = true)
    (hf : ∀ x ∈ l, Fn Try.prog fn (.agg x.e :: caps) (kB (p x))) : Fn Try.prog 83 [.sl 10 (l.map GMove.e), .clo (.func fn) caps] (kI (idxB p l)) := by
  refine fn_go Try.func83 rfl ?_
  simp [Try.ntmps83]
  refine awp_loop (fun i : Nat => ⟨19, [(0, .sl 10 (l.map GMove.e)), (1, .clo (.func fn) caps), (7, kI l.length), (8, kI i)], [], 0⟩) (fun i => i ≤ l.length ∧ ∀ j, j < i → ∀ x, l[j]? = some x → p x = false) (fun i => l.length - i) 0 ?_ ?_ ?_
  · exact entm [] (hT := by simp [renL_lt0 _ _ hc, hc])
  · simp
  · intro i ⟨hi, hno⟩
    refine awp_go ?_
    by_cases hlt : i < l.length
    · simp [hlt]
      refine cal (hf l[i] (List.getElem_mem hlt)) ?_ (he := he) (hlt := by simp [hc])
      by_cases hp : p l[i] = true
      · simp [hp]
        exact finm (by simp [idxB_some hlt hno hp])
      · have hp' : p l[i] = false := by simpa using hp
        simp [hp']
        rw [wrap_id (by omega) (by omega)]
        exact ⟨i + 1, ⟨by omega, no_succ hlt hno hp'⟩, by omega, entm [] (hT := by simp [renL_lt0 _ _ hc, hc])⟩
    · simp [hlt]
      have : i = l.length := by omega
      subst this
      exact finm (by simp [idxB_none hno])

set_option maxRecDepth 20000 in
theorem GrowNilM_fn (n : Int) (h0 : 0 ≤ n) (hn : n ≤ 1000000000) : FnD Try.prog 92 [kNil, kI n] [] (.osl 0 10 0 0) [some []] := by
  refine fnd_go Try.func92 rfl ?_
  have h1 : ¬ n < 0 := by omega
  simp [Try.ntmps92, h1]
  rw [wrap_id (by omega) (by omega)]
  by_cases hp : 0 < n
  · have h2 : n.toNat * 136 ≤ 140737488355328 := by omega
    have h3 : n.toNat ≤ maxLen := by simp only [maxLen]; omega
    have h4 : n ≤ 9223372036854775807 := by omega
    have h5 : ¬ n ≤ 0 := by omega
    have h6 : 0 ≤ max n 0 := by omega
    simp [hp, h0, h2, h3, h4, h5, h6]
    refine finG_ent (ent_trunc 1 0) ?_
    simp
    exact finGm [1]
  · simp [hp]
    refine finG_ent (ent_nil (t := 4) (z := 10) rfl) ?_
    exact finGm [0]

set_option maxRecDepth 20000 in
theorem ConcatM_fn (ls : List (List GMove)) (r : List GMove) (hr : ls.flatten = r) (hl : r.length ≤ 1000000) (hls : ls.length ≤ 1000000000) : Fn Try.prog 52 [.sl 1 (ls.map fun l => [.sl 10 (l.map GMove.e)])] (.sl 10 (r.map GMove.e)) := by
  refine fn_go Try.func52 rfl ?_
  simp [Try.ntmps52]
  have hpre : ∀ i, (ls.take i).flatten.length ≤ r.length := fun i => by
    have : ls.flatten = (ls.take i).flatten ++ (ls.drop i).flatten := by rw [← List.flatten_append, List.take_append_drop]
    rw [← hr, this]; simp only [List.length_append]; omega
  have hsucc : ∀ i (h : i < ls.length), (ls.take (i + 1)).flatten = (ls.take i).flatten ++ ls[i] := fun i h => by
    rw [← List.take_append_getElem h, List.flatten_append]; simp
  have hall : (ls.take ls.length).flatten = r := by rw [List.take_of_length_le (Nat.le_refl _), hr]
  refine awp_loop (fun x : Nat × Nat => ⟨36, [(0, .sl 1 (ls.map fun l => [.sl 10 (l.map GMove.e)])), (3, kI x.2), (9, .sl 1 (ls.map fun l => [.sl 10 (l.map GMove.e)])), (10, kI ls.length), (11, kI x.1)], [], 0⟩) (fun x => x.1 ≤ ls.length ∧ x.2 = (ls.take x.1).flatten.length) (fun x => ls.length - x.1) (0, 0) ?_ ?_ ?_
  · exact entm []
  · exact ⟨by simp, rfl⟩
  · rintro ⟨i, m⟩ ⟨hi, hm⟩
    simp only at hi hm
    refine awp_go ?_
    by_cases hlt : i < ls.length
    · have hs := hsucc i hlt
      have h1 := hpre (i + 1)
      have h0 : (ls.take (i + 1)).flatten.length = m + ls[i].length := by rw [hs, List.length_append, hm]
      rw [h0] at h1
      simp [hlt]
      rw [wrap_id (by omega) (by omega)]
      have h2 : ¬ ((m : Int) + ((ls[i].length : Nat) : Int) < 0) := by omega
      simp [h2]
      rw [wrap_id (by omega) (by omega)]
      exact ⟨i + 1, m + ls[i].length, ⟨by omega, by simpa using h0.symm⟩, by omega, entm []⟩
    · have hin : i = ls.length := by omega
      subst hin
      rw [hall] at hm
      subst hm
      simp
      refine calD [] (GrowNilM_fn (r.length) (by omega) (by omega)) ?_ (hren := by simp)
      simp
      refine awp_loop (fun x : Nat × List GMove => ⟨36, [(6, .osl 0 10 0 x.2.length), (25, .sl 1 (ls.map fun l => [.sl 10 (l.map GMove.e)])), (26, kI ls.length), (27, kI x.1)], [some (x.2.map GMove.e).flatten], 0⟩) (fun x => x.1 ≤ ls.length ∧ x.2 = (ls.take x.1).flatten) (fun x => ls.length - x.1) (0, []) ?_ ?_ ?_
      · exact entm [0]
      · exact ⟨by simp, rfl⟩
      · rintro ⟨i, acc⟩ ⟨hi, hm⟩
        simp only at hi hm
        refine awp_go ?_
        by_cases hlt : i < ls.length
        · have hs := hsucc i hlt
          have h1 := hpre (i + 1)
          rw [hs, List.length_append, ← hm] at h1
          have h2 : (acc.length + ls[i].length) * 136 ≤ 140737488355328 := by omega
          have h3 : acc.length + ls[i].length ≤ maxLen := by simp only [maxLen]; omega
          simp [hlt, h2, h3]
          rw [wrap_id (by omega) (by omega)]
          exact ⟨i + 1, acc ++ ls[i], ⟨by omega, by rw [hs, hm]⟩, by omega, entm [1]⟩
        · have hin : i = ls.length := by omega
          subst hin
          rw [hall] at hm
          subst hm
          simp
          refine fin_fz 0 (acc.map GMove.e).flatten ?_
          simp
          exact finm (by simp [slI_def, chunks_ints])

set_option maxRecDepth 20000 in
/-- Deleted by a test: what is left, and zeros behind. -/
theorem DeleteFuncM_fn (l : List GMove) (fn : FuncId) (caps : List PV) (p : GMove → Bool) (hl : l.length ≤ 1000000000) (he : enterable Try.prog fn = true) (hc : ltL 0 caps = true)
    (hf : ∀ x ∈ l, Fn Try.prog fn (.agg x.e :: caps) (kB (p x))) : FnD Try.prog 47 [.osl 0 10 0 l.length, .clo (.func fn) caps] [(l.map GMove.e).flatten] (.osl 0 10 0 (l.filter fun x => !p x).length)
      [some (((l.filter fun x => !p x).map GMove.e).flatten ++ (List.replicate (l.length - (l.filter fun x => !p x).length) [kI 0, kS ⟨#[]⟩, kS ⟨#[]⟩, kS ⟨#[]⟩, kI 0, kS ⟨#[]⟩, kI 0, kI 0, kS ⟨#[]⟩, kNil]).flatten)] := by
  refine fnd_go Try.func47 rfl ?_
  simp [Try.ntmps47]
  refine calS (IndexFuncM_fn l fn caps p (by omega) he hc hf) ?_ (hlt := by simp [hc])
  cases hidx : l.findIdx? p with
  | none =>
    have hi : idxB p l = -1 := by simp [idxB, hidx]
    have hall : l.filter (fun x => !p x) = l := by
      rw [List.findIdx?_eq_none_iff] at hidx
      rw [List.filter_eq_self]; intro x hx; simp [hidx x hx]
    simp [hi]
    exact finGm [0] (hres := by simp [hall]) (hB := by simp [hall])
  | some i0 =>
    have hi : idxB p l = i0 := by simp [idxB, hidx]
    rw [List.findIdx?_eq_some_iff_getElem] at hidx
    obtain ⟨hi0, hp0, hno⟩ := hidx
    have hne : ¬ ((i0 : Int) = -1) := by omega
    simp [hi, hne]
    rw [wrap_id (by omega) (by omega)]
    have hF0 : (l.take (i0 + 1)).filter (fun x => !p x) = l.take i0 := by
      rw [← List.take_append_getElem hi0, List.filter_append]
      have : (l.take i0).filter (fun x => !p x) = l.take i0 := by
        rw [List.filter_eq_self]; intro x hx
        obtain ⟨j, hj, rfl⟩ := List.getElem_of_mem hx
        have hj' : j < i0 := by simp at hj; omega
        simpa using hno j hj'
      rw [this]; simp [hp0]
    have hcnt : ∀ j, i0 + 1 ≤ j → ((l.take j).filter (fun x => !p x)).length < j := fun j hj => by
      have h1 : l.take j = l.take (i0 + 1) ++ (l.take j).drop (i0 + 1) := by
        have := List.take_append_drop (i0 + 1) (l.take j)
        rw [List.take_take, Nat.min_eq_left hj] at this
        exact this.symm
      rw [h1, List.filter_append, hF0, List.length_append]
      have h2 := List.length_filter_le (fun x => !p x) ((l.take j).drop (i0 + 1))
      simp at h2 ⊢
      omega
    refine awp_loop (fun x : Nat × List GMove × List GMove => ⟨42, [(0, .osl 0 10 0 l.length), (1, .clo (.func fn) caps), (5, kI x.2.1.length), (6, kI x.1)], [some (x.2.2.map GMove.e).flatten], 1⟩)
      (fun x => i0 + 1 ≤ x.1 ∧ x.1 ≤ l.length ∧ x.2.1 = (l.take x.1).filter (fun x => !p x) ∧ x.2.2 = x.2.1 ++ l.drop x.2.1.length) (fun x => l.length - x.1) (i0 + 1, l.take i0, l) ?_ ?_ ?_
    · refine entm [0] (hT := ?_)
      have : min i0 l.length = i0 := by omega
      simp [renL_lt0 _ _ hc, hc, ltL_mono hc, this]
    · have hlt : (l.take i0).length = i0 := by simp; omega
      exact ⟨Nat.le_refl _, hi0, hF0.symm, by simp only [hlt, List.take_append_drop]⟩
    · rintro ⟨j, F, B⟩ ⟨hj0, hj, hF, hB⟩
      simp only at hj0 hj hF hB
      have hc1 := hcnt j hj0
      rw [← hF] at hc1
      have hBl : B.length = l.length := by rw [hB]; simp; omega
      refine awp_go ?_
      by_cases hlt : j < l.length
      · have hBj : B[j]? = some l[j] := by
          rw [hB, List.getElem?_append_right (by omega), List.getElem?_drop, show F.length + (j - F.length) = j by omega, List.getElem?_eq_getElem hlt]
        have hjB : j < B.length := by omega
        have hBj2 : B[j] = l[j] := by rw [List.getElem?_eq_getElem hjB] at hBj; exact Option.some.inj hBj
        have hq3 : j * 10 + 10 ≤ B.length * 10 := by omega
        simp [hlt, hjB, hBj2, hq3]
        refine cal (hf l[j] (List.getElem_mem hlt)) ?_ (he := he) (hlt := by simp [hc])
        by_cases hp : p l[j] = true
        · simp [hp]
          rw [wrap_id (by omega) (by omega)]
          refine ⟨j + 1, F, B, ⟨by omega, by omega, ?_, hB⟩, by omega, entm [0] (hT := by simp [renL_lt0 _ _ hc, ltL_mono hc])⟩
          rw [← List.take_append_getElem hlt, List.filter_append, hF]; simp [hp]
        · simp only [Bool.not_eq_true] at hp
          have h1 : (F.length : Int) < l.length := by omega
          have h2 : F.length * 10 + 10 ≤ B.length * 10 := by omega
          have h3 : F.length < B.length := by omega
          have hrow := row_set (e := GMove.e) (z := 10) (fun _ => rfl) B F.length l[j] h3
          have hBs : B.set F.length l[j] = F ++ l[j] :: l.drop (F.length + 1) := by
            have e0 : (l.drop F.length) = l[F.length] :: l.drop (F.length + 1) := List.drop_eq_getElem_cons (by omega)
            rw [hB, List.set_append_right _ _ (Nat.le_refl _), Nat.sub_self, e0, List.set_cons_zero]
          simp [hp, h1, h2, h3]
          rw [hrow, hBs, wrap_id (by omega) (by omega), wrap_id (by omega) (by omega)]
          refine ⟨j + 1, F ++ [l[j]], F ++ l[j] :: l.drop (F.length + 1), ⟨by omega, by omega, ?_, by simp⟩, by omega, entm [0] (hT := by simp [renL_lt0 _ _ hc, ltL_mono hc]) (hB := by simp [-List.map_drop])⟩
          rw [← List.take_append_getElem hlt, List.filter_append, hF]; simp [hp]
      · have hjl : j = l.length := by omega
        subst hjl
        rw [List.take_of_length_le (Nat.le_refl _)] at hF
        have h1 : (F.length : Int) ≤ l.length := by omega
        have h2 : F.length * 10 ≤ B.length * 10 := by omega
        simp [h1, h2]
        have e1 : B.take F.length = F := by rw [hB]; simp
        have e4 : (B.map GMove.e).flatten.take (F.length * 10) = (F.map GMove.e).flatten := by rw [flat_take (e := GMove.e) (z := 10) (fun _ => rfl), e1]
        have e3 : B.length * 10 ≤ F.length * 10 + (l.length - F.length) * 10 := by omega
        rw [e4, List.drop_eq_nil_of_le (by simp [GMove.sum]; omega), ← hF]
        have hz : ((List.replicate (l.length - F.length) [kI 0, kS ⟨#[]⟩, kS ⟨#[]⟩, kS ⟨#[]⟩, kI 0, kS ⟨#[]⟩, kI 0, kI 0, kS ⟨#[]⟩, kNil]).flatten).all PV.immB = true := by
          rw [List.all_eq_true]; intro q hq
          obtain ⟨r, hr, hq2⟩ := List.mem_flatten.1 hq
          obtain rfl := (List.mem_replicate.1 hr).2
          exact List.all_eq_true.1 (rfl : ([kI 0, kS ⟨#[]⟩, kS ⟨#[]⟩, kS ⟨#[]⟩, kI 0, kS ⟨#[]⟩, kI 0, kI 0, kS ⟨#[]⟩, kNil] : List PV).all PV.immB = true) q hq2
        have hz1 := fun θ => imms_ren hz θ
        have hz2 := fun n => imms_lt hz n
        generalize (List.replicate (l.length - F.length) [kI 0, kS ⟨#[]⟩, kS ⟨#[]⟩, kS ⟨#[]⟩, kI 0, kS ⟨#[]⟩, kI 0, kI 0, kS ⟨#[]⟩, kNil]).flatten = Z at hz1 hz2 ⊢
        exact finGm [0] (hres := by simp) (hB := by simp [hz1, hz2])

end Go.Proofs.Ytmkgechjbbekmaa.Am
