/- The library's slice functions, at the program's types. -/
import Derived.Test.YtmkgechjbbekmaaCmp
set_option linter.unusedVariables false
set_option linter.unusedSimpArgs false
namespace Go.Proofs.Ytmkgechjbbekmaa.Am
open Go Go.RowKit

set_option maxRecDepth 20000 in
theorem BinarySearchN_fn (l : List GCount) (t : Int) (fn : FuncId) (caps : List PV) (c : GCount → Int) (hl : l.length ≤ 4611686018427387904) (he : enterable Try.prog fn = true) (hc : ltL 0 caps = true)
    (hf : ∀ x ∈ l, Fn Try.prog fn (.agg x.e :: kI t :: caps) (kI (c x))) : Fn Try.prog 71 [.sl 2 (l.map GCount.e), kI t, .clo (.func fn) caps] (.tup [kI (bs c l), kB (bsOk c l)]) := by
  refine fn_go Try.func71 rfl ?_
  simp [Try.ntmps71]
  refine awp_loop (fun x : Nat × Nat × Nat => ⟨49, [(0, .sl 2 (l.map GCount.e)), (1, kI t), (2, .clo (.func fn) caps), (8, kI l.length), (9, kI x.1), (10, kI x.2.1)], [], 0⟩)
    (fun x => x.1 ≤ x.2.1 ∧ x.2.1 ≤ l.length ∧ x.2.1 ≤ x.1 + x.2.2 ∧ bsG (bsC c l) x.2.2 x.1 x.2.1 = bs c l) (fun x => x.2.1 - x.1) (0, l.length, l.length) ?_ ?_ ?_
  · exact entm [] (hT := by simp [renL_lt0 _ _ hc, hc])
  · exact ⟨by simp, by simp, by simp, rfl⟩
  · rintro ⟨i, j, f⟩ ⟨hij, hj, hf0, hR⟩
    simp only at hij hj hf0 hR
    refine awp_go ?_
    by_cases hlt : i < j
    · obtain ⟨f, rfl⟩ : ∃ f', f = f' + 1 := ⟨f - 1, by omega⟩
      obtain ⟨h, hd⟩ : ∃ h, (i + j) / 2 = h := ⟨_, rfl⟩
      have hh : h < l.length := by omega
      have e1 := half_ops i j (by omega)
      have h1 : i ≤ h := by omega
      have h2 : h < j := by omega
      have h3 : j ≤ h + 1 + f := by omega
      have h4 : h ≤ i + f := by omega
      rw [bsG_step _ _ _ _ hlt, hd, bsC_get c l h hh] at hR
      rw [hd] at e1
      simp [hlt]
      rw [e1]
      simp [hh]
      refine cal (hf l[h] (List.getElem_mem hh)) ?_ (he := he) (hlt := by simp [hc])
      by_cases hn : c l[h] < 0
      · simp [hn] at hR
        simp [hn]
        rw [wrap_id (by omega) (by omega)]
        exact ⟨h + 1, j, ⟨by omega, hj, f, by omega, hR⟩, by omega, entm [] (hT := by simp [renL_lt0 _ _ hc, hc])⟩
      · simp [hn] at hR
        simp [hn]
        exact ⟨i, h, ⟨by omega, by omega, f, by omega, hR⟩, by omega, entm [] (hT := by simp [renL_lt0 _ _ hc, hc])⟩
    · rw [bsG_stop _ _ _ _ hlt] at hR
      subst hR
      simp [hlt]
      by_cases hin : bs c l < l.length
      · simp [hin]
        refine cal (hf l[bs c l] (List.getElem_mem hin)) ?_ (he := he) (hlt := by simp [hc])
        simp
        exact finm (by simp [bsOk, hin])
      · simp [hin]
        exact finm (by simp [bsOk, hin])

set_option maxRecDepth 20000 in
theorem BinarySearchE_fn (l : List GEvent) (t : GEvent) (fn : FuncId) (caps : List PV) (c : GEvent → Int) (hl : l.length ≤ 4611686018427387904) (he : enterable Try.prog fn = true) (hc : ltL 0 caps = true)
    (hf : ∀ x ∈ l, Fn Try.prog fn (.agg x.e :: .agg t.e :: caps) (kI (c x))) : Fn Try.prog 77 [.sl 4 (l.map GEvent.e), .agg t.e, .clo (.func fn) caps] (.tup [kI (bs c l), kB (bsOk c l)]) := by
  refine fn_go Try.func77 rfl ?_
  simp [Try.ntmps77]
  refine awp_loop (fun x : Nat × Nat × Nat => ⟨49, [(0, .sl 4 (l.map GEvent.e)), (4, .ptr 0 0), (2, .clo (.func fn) caps), (8, kI l.length), (9, kI x.1), (10, kI x.2.1)], [some t.e], 0⟩)
    (fun x => x.1 ≤ x.2.1 ∧ x.2.1 ≤ l.length ∧ x.2.1 ≤ x.1 + x.2.2 ∧ bsG (bsC c l) x.2.2 x.1 x.2.1 = bs c l) (fun x => x.2.1 - x.1) (0, l.length, l.length) ?_ ?_ ?_
  · exact entm [0] (hT := by simp [renL_lt0 _ _ hc, hc, ltL_mono hc])
  · exact ⟨by simp, by simp, by simp, rfl⟩
  · rintro ⟨i, j, f⟩ ⟨hij, hj, hf0, hR⟩
    simp only at hij hj hf0 hR
    refine awp_go ?_
    by_cases hlt : i < j
    · obtain ⟨f, rfl⟩ : ∃ f', f = f' + 1 := ⟨f - 1, by omega⟩
      obtain ⟨h, hd⟩ : ∃ h, (i + j) / 2 = h := ⟨_, rfl⟩
      have hh : h < l.length := by omega
      have e1 := half_ops i j (by omega)
      have h1 : i ≤ h := by omega
      have h2 : h < j := by omega
      have h3 : j ≤ h + 1 + f := by omega
      have h4 : h ≤ i + f := by omega
      rw [bsG_step _ _ _ _ hlt, hd, bsC_get c l h hh] at hR
      rw [hd] at e1
      simp [hlt]
      rw [e1]
      refine awp_draw follows_mix [] [(0, [0]), (0, [0]), (0, [0]), (0, [0]), (0, [0]), (0, [0]), (2, [0]), (0, [0])] 0 (by kernel_rfl) rfl ?_
      simp [hh]
      refine gD_call (kI (c l[h])) ?_
      simp [hh]
      refine ⟨calO (hf l[h] (List.getElem_mem hh)) (he := he) (hlt := by simp [hc]), ?_⟩
      by_cases hn : c l[h] < 0
      · simp [hn] at hR
        simp [hn]
        rw [wrap_id (by omega) (by omega)]
        exact ⟨h + 1, j, ⟨by omega, hj, f, by omega, hR⟩, by omega, entm [0] (hT := by simp [renL_lt0 _ _ hc, ltL_mono hc])⟩
      · simp [hn] at hR
        simp [hn]
        exact ⟨i, h, ⟨by omega, by omega, f, by omega, hR⟩, by omega, entm [0] (hT := by simp [renL_lt0 _ _ hc, ltL_mono hc])⟩
    · rw [bsG_stop _ _ _ _ hlt] at hR
      subst hR
      simp [hlt]
      refine awp_draw follows_mix [] [(0, [0]), (0, [0]), (0, [0]), (0, [0]), (0, [0]), (0, [0]), (0, [0]), (0, [0]), (0, [0]), (0, [0]), (0, [0]), (2, [0]), (0, [0]), (0, [0]), (0, [0]), (0, [0])] 0 (by kernel_rfl) rfl ?_
      by_cases hin : bs c l < l.length
      · simp [hin]
        refine gD_call (kI (c l[bs c l])) ?_
        simp [hin]
        refine ⟨calO (hf l[bs c l] (List.getElem_mem hin)) (he := he) (hlt := by simp [hc]), ?_⟩
        exact finm (by simp [bsOk, hin])
      · simp [hin]
        refine ⟨fun σ => .inr ⟨rfl, rfl, rfl⟩, ?_⟩
        exact finm (by simp [bsOk, hin])

set_option maxRecDepth 20000 in
theorem IndexFuncIt_fn (l : List GItem) (fn : FuncId) (caps : List PV) (p : GItem → Bool) (hl : l.length ≤ 4611686018427387904) (he : enterable Try.prog fn = true) (hc : ltL 0 caps = true)
    (hf : ∀ x ∈ l, Fn Try.prog fn (.agg x.e :: caps) (kB (p x))) : Fn Try.prog 111 [.sl 3 (l.map GItem.e), .clo (.func fn) caps] (kI (idxB p l)) := by
  refine fn_go Try.func111 rfl ?_
  simp [Try.ntmps111]
  refine awp_loop (fun i : Nat => ⟨19, [(0, .sl 3 (l.map GItem.e)), (1, .clo (.func fn) caps), (7, kI l.length), (8, kI i)], [], 0⟩) (fun i => i ≤ l.length ∧ ∀ j, j < i → ∀ x, l[j]? = some x → p x = false) (fun i => l.length - i) 0 ?_ ?_ ?_
  · exact entm [] (hT := by simp [renL_lt0 _ _ hc, hc])
  · simp
  · intro i ⟨hi, hno⟩
    refine awp_go ?_
    by_cases hlt : i < l.length
    · simp [hlt]
      refine cal (hf l[i] (List.getElem_mem hlt)) ?_ (he := he) (hlt := by simp [hc])
      by_cases hp : p l[i] = true
      · simp [hp]
        exact finm (by simp [idxB_some hlt hno hp])
      · have hp' : p l[i] = false := by simpa using hp
        simp [hp']
        rw [wrap_id (by omega) (by omega)]
        exact ⟨i + 1, ⟨by omega, no_succ hlt hno hp'⟩, by omega, entm [] (hT := by simp [renL_lt0 _ _ hc, hc])⟩
    · simp [hlt]
      have : i = l.length := by omega
      subst this
      exact finm (by simp [idxB_none hno])

theorem ContainsFuncIt_fn (l : List GItem) (fn : FuncId) (caps : List PV) (p : GItem → Bool) (hl : l.length ≤ 4611686018427387904) (he : enterable Try.prog fn = true) (hc : ltL 0 caps = true)
    (hf : ∀ x ∈ l, Fn Try.prog fn (.agg x.e :: caps) (kB (p x))) : Fn Try.prog 75 [.sl 3 (l.map GItem.e), .clo (.func fn) caps] (kB (l.any p)) := by
  refine fn_go Try.func75 rfl ?_
  simp [Try.ntmps75]
  refine cal (IndexFuncIt_fn l fn caps p hl he hc hf) ?_ (hlt := by simp [hc])
  have h := idxB_any p l
  simp
  exact finm (by simp [h])

end Go.Proofs.Ytmkgechjbbekmaa.Am
