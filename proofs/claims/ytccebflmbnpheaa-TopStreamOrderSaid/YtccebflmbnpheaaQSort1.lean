/- Package queue: before, Len, Put. -/
import Derived.Test.YtccebflmbnpheaaQHeap
import Derived.Test.YtccebflmbnpheaaCmp
set_option linter.unusedVariables false
set_option linter.unusedSimpArgs false
namespace Go.Proofs.Ytccebflmbnpheaa.Am
open Go Go.RowKit

set_option maxRecDepth 20000 in
set_option maxHeartbeats 1000000 in
theorem before_fn (H : List GMark) (n : Nat) (c : Int) (i k : Nat) (hi : i < n) (hk : k < n) (hn : n ≤ H.length) (hl : n ≤ 1000000) : FnD Try.prog 39 [.ptr 0 0, kI i, kI k] [[.osl 1 3 0 n, kI c], (H.map GMark.e).flatten] (kB (bef (atQ H i) (atQ H k)))
    [some [.osl 1 3 0 n, kI c], some (H.map GMark.e).flatten] := by
  have hiH : i < H.length := by omega
  have hkH : k < H.length := by omega
  rw [atQ_get hiH, atQ_get hkH]
  have r1 := GMark.row H i hiH
  have r2 := GMark.row H k hkH
  obtain ⟨x, hx⟩ : ∃ x, H[i] = x := ⟨_, rfl⟩
  obtain ⟨y, hy⟩ : ∃ y, H[k] = y := ⟨_, rfl⟩
  rw [hx] at r1
  rw [hy] at r2
  rw [hx, hy]
  have hBl : (H.map GMark.e).flatten.length = H.length * 3 := flat_lenE GMark.e_len H
  have hBi : (H.map GMark.e).flatten.all PV.immB = true := flat_imm GMark.e_imm H
  generalize (H.map GMark.e).flatten = B at *
  have g1 : i * 3 + 3 ≤ B.length := by omega
  have g2 : k * 3 + 3 ≤ B.length := by omega
  refine fnd_go Try.func39 rfl ?_
  simp [Try.ntmps39]
  refine awp_drawS follows_mix [(0, 0), (0, 0), (0, 0), (0, 0), (0, 0), (0, 0), (0, 0), (0, 0), (0, 0), (0, 0), (0, 0), (0, 0), (0, 0), (0, 0), (4, 2), (4, 3), (1, 0), (1, 0)] 2 4 [(0, 14), (0, 15), (1, 14), (1, 15), (2, 14), (2, 15), (3, 14), (3, 15), (4, 14), (4, 15), (5, 14), (5, 15), (6, 14), (6, 15), (7, 14), (7, 15), (7, 16), (8, 14), (8, 15), (8, 16), (9, 14), (9, 15), (9, 16), (10, 14), (10, 15), (10, 16), (11, 14), (11, 15), (11, 16), (12, 14), (12, 15), (12, 16), (13, 14), (13, 15), (13, 16), (14, 15)] (by kernel_rfl) rfl rfl ?_
  simp [hi, hk, g1, g2, r1, r2]
  by_cases hr : x.Kind = y.Kind
  · simp [hr]
    exact finGm [0, 1] (hres := by simp [bef, hr]) (hB := by simp [imms_ren hBi, imms_lt hBi])
  · simp [hr]
    exact finGm [0, 1] (hres := by simp [bef, hr]) (hB := by simp [imms_ren hBi, imms_lt hBi])

theorem QLen_fn (H : List GMark) (n : Nat) (c : Int) : FnD Try.prog 23 [.ptr 0 0] [[.osl 1 3 0 n, kI c], (H.map GMark.e).flatten] (kI n) [some [.osl 1 3 0 n, kI c], some (H.map GMark.e).flatten] := by
  refine fnd_go Try.func23 rfl ?_
  simp [Try.ntmps23]
  exact finGm [0, 1]

set_option maxRecDepth 20000 in
set_option maxHeartbeats 2000000 in
theorem QPut_q (h : List GMark) (c v r : Int) (hl : h.length ≤ 4000) (hc : 0 ≤ c ∧ c ≤ 1000000) : FnD Try.prog 22 [.ptr 0 0, kI v, kI r] [[.osl 1 3 0 h.length, kI c], (h.map GMark.e).flatten] (kI 0)
    [some [.osl 2 3 0 (h.length + 1), kI (c + 1)], none, some ((putQ h ⟨v, r, c⟩).map GMark.e).flatten] := by
  refine fnd_go Try.func22 rfl ?_
  have h1 : ¬ 4096 ≤ (h.length : Int) := by omega
  have h2 : (h.length + 1) * 24 ≤ 140737488355328 := by omega
  have h3 : h.length + 1 ≤ maxLen := by simp only [maxLen]; omega
  have h4 : (h.map GMark.e).flatten.length = h.length * 3 := flat_lenE GMark.e_len h
  have hw : IntKind.i64.wrap (c + 1) = c + 1 := wrap_id (by omega) (by omega)
  have hw2 : IntKind.i64.wrap ((h.length : Int) + 1 - 1) = h.length := by rw [wrap_id (by omega) (by omega)]; omega
  have hw6 : IntKind.i64.wrap (h.length : Int) = h.length := wrap_id (by omega) (by omega)
  have hap : (h.map GMark.e).flatten ++ [kI v, kI r, kI c] = ((h ++ [(⟨v, r, c⟩ : GMark)]).map GMark.e).flatten := by simp [GMark.e]
  simp [Try.ntmps22, h1]
  refine awp_draw follows_mix [] [(0, [0, 1, 2]), (0, [0, 1]), (0, [0, 1]), (0, [0, 1]), (0, [0, 1]), (0, [0]), (0, [0]), (0, [0]), (0, [0]), (0, [0]), (0, [0]), (0, [0]), (1, [0]), (1, [1]), (0, [2]), (0, [2]), (1, [2])] 3 (by kernel_rfl) rfl ?_
  simp [h2, h3, h4, hw, hw2]
  rw [hap]
  refine awp_loop (fun x : Nat × List GMark × Nat => ⟨86, [(0, .ptr 0 0), (6, kI 0), (7, kI x.2.2)], [some [.osl 2 3 0 (h.length + 1), kI (c + 1)], none, some (x.2.1.map GMark.e).flatten], 2⟩)
    (fun x => x.2.1.length = h.length + 1 ∧ x.2.2 < h.length + 1 ∧ x.2.2 < x.1 ∧ up x.1 x.2.1 x.2.2 = putQ h ⟨v, r, c⟩) (fun x => x.2.2) (h.length + 1, h ++ [(⟨v, r, c⟩ : GMark)], h.length) ?_ ?_ ?_
  · exact entm [0, 1, 3] (hT := by simp [hw6])
  · exact ⟨by simp, by simp, by simp, rfl⟩
  · rintro ⟨f, H, i⟩ ⟨hH, hi, hif, hrun⟩
    simp only at hH hi hif hrun
    obtain ⟨f, rfl⟩ : ∃ g, f = g + 1 := ⟨f - 1, by omega⟩
    refine awp_go ?_
    by_cases h0 : 0 < i
    · obtain ⟨p, hp⟩ : ∃ p, (i - 1) / 2 = p := ⟨_, rfl⟩
      have hw3 : IntKind.i64.wrap ((i : Int) - 1) = ((i - 1 : Nat) : Int) := by rw [wrap_id (by omega) (by omega)]; omega
      have hw4 : Int.tdiv ((i - 1 : Nat) : Int) 2 = (p : Int) := by rw [Int.tdiv_eq_ediv_of_nonneg (by omega)]; omega
      have hw5 : IntKind.i64.wrap (p : Int) = (p : Int) := wrap_id (by omega) (by omega)
      have hB := before_fn H (h.length + 1) (c + 1) i p (by omega) (by omega) (by omega) (by omega)
      simp [h0, hw3, hw4, hw5]
      refine calD [0, 2] hB ?_
      rw [up, hp] at hrun
      by_cases hb : bef (atQ H i) (atQ H p) = true
      · rw [if_pos ⟨h0, hb⟩] at hrun
        have hiH : i < H.length := by omega
        have hpH : p < H.length := by omega
        have hi1 : i < h.length + 1 := hi
        have hp1 : p < h.length + 1 := by omega
        have g1 : i * 3 + 3 ≤ H.length * 3 := by omega
        have g2 : p * 3 + 3 ≤ H.length * 3 := by omega
        have r1 := row_set (e := GMark.e) (z := 3) GMark.e_len H i H[p] hiH
        have hpS : p < (H.set i H[p]).length := by simpa using hpH
        have r2 := row_set (e := GMark.e) (z := 3) GMark.e_len (H.set i H[p]) p H[i] hpS
        have hsw : (H.set i H[p]).set p H[i] = swp H i p := by unfold swp; rw [atQ_get hiH, atQ_get hpH]
        rw [hsw] at r2
        obtain ⟨L1, hL1⟩ : ∃ L1, H.set i H[p] = L1 := ⟨_, rfl⟩
        rw [hL1] at r1 r2
        have hl1 : L1.length = H.length := by rw [← hL1]; simp
        have g3 : p * 3 + 3 ≤ L1.length * 3 := by omega
        have hsl := swp_len H i p
        have hpi : p < i := by omega
        have hi2 : (i : Int) < (h.length : Int) + 1 := by omega
        have hp2 : (p : Int) < (h.length : Int) + 1 := by omega
        simp [hb]
        refine awp_draw follows_mix [] [(0, [0]), (0, [0]), (0, [0]), (0, [0]), (0, [0]), (0, [0]), (0, [0]), (0, [0]), (0, [0]), (0, [0, 1]), (0, [0, 1]), (0, [0, 1]), (0, [0]), (0, [0]), (0, [0]), (0, [0]), (0, [0]), (0, [0]), (0, [0]), (0, [0]), (0, [0]), (0, [0]), (0, [0]), (0, [0]), (0, [0]), (0, [0]), (0, [0]), (0, [0]), (0, [0]), (1, [0]), (0, [1]), (1, [1])] 2 (by kernel_rfl) rfl ?_
        simp [hw3, hw4, hw5, hiH, hpH, hi1, hp1, hi2, hp2, g1, g2, g3, r1, r2]
        exact ⟨f, swp H i p, p, ⟨by omega, by omega, by omega, hrun⟩, by omega, entm [0, 1, 2] (hT := by simp [hw5])⟩
      · rw [if_neg (fun h => hb h.2)] at hrun
        subst hrun
        simp [hb]
        exact finGm [0, 1, 2]
    · have hi0 : i = 0 := by omega
      subst hi0
      rw [up, if_neg (fun h => h0 h.1)] at hrun
      subst hrun
      simp
      exact finGm [0, 1, 2]
end Go.Proofs.Ytccebflmbnpheaa.Am
