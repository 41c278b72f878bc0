/- Package queue: Sort. -/
import Derived.Test.YtccebflmbnpheaaQSort2
import Derived.Test.YtccebflmbnpheaaKind6
set_option linter.unusedVariables false
set_option linter.unusedSimpArgs false
namespace Go.Proofs.Ytccebflmbnpheaa.Am
open Go Go.RowKit

theorem down_len : ∀ (f : Nat) (h : List GMark) (n i : Nat), (down f h n i).length = h.length
  | 0, _, _, _ => rfl
  | f + 1, h, n, i => by
    rw [down]
    split
    all_goals
      split
      · rfl
      · rw [down_len f, swp_len]
theorem takeH_len {h : List GMark} {n : Nat} (hl : h.length = n + 1) : (takeH h n).length = n := by
  unfold takeH; rw [down_len]; simp; omega
theorem up_len : ∀ (f : Nat) (h : List GMark) (i : Nat), (up f h i).length = h.length
  | 0, _, _ => rfl
  | f + 1, h, i => by
    rw [up]
    split
    · rw [up_len f, swp_len]
    · rfl
theorem putQ_len (h : List GMark) (x : GMark) : (putQ h x).length = h.length + 1 := by unfold putQ; rw [up_len]; simp

set_option maxRecDepth 20000 in
set_option maxHeartbeats 2000000 in
theorem QSort_fn (l : List Int) (hl : l.length ≤ 4000) : Fn Try.prog 11 [slI l] (.tup [slI (qsortM l), kI 0]) := by
  refine fn_go Try.func11 rfl ?_
  have h1 : ¬ 4096 < (l.length : Int) := by omega
  simp [Try.ntmps11, h1]
  refine awp_loop (fun x : Nat × List GMark => ⟨37, [(4, .ptr 0 0), (14, slI l), (15, kI l.length), (16, kI x.1)], [some [.osl 1 3 0 x.1, kI x.1], some (x.2.map GMark.e).flatten], 0⟩)
    (fun x => x.1 ≤ l.length ∧ x.2.length = x.1 ∧ (l.zipIdx.drop x.1).foldl (fun h x => putQ h ⟨x.2, x.1, x.2⟩) x.2 = putsQ l) (fun x => l.length - x.1) (0, []) ?_ ?_ ?_
  · exact (ent_nilb (b := 0) (j := 0) (z := 3) rfl rfl).trans (entm [0, 1])
  · exact ⟨by simp, rfl, rfl⟩
  · rintro ⟨i, h⟩ ⟨hi, hh, hrun⟩
    simp only at hi hh hrun
    refine awp_go ?_
    by_cases hlt : i < l.length
    · have hzl : i < l.zipIdx.length := by simpa using hlt
      rw [List.drop_eq_getElem_cons hzl, List.foldl_cons] at hrun
      have hz : l.zipIdx[i] = (l[i], i) := by simp
      rw [hz] at hrun
      simp only at hrun
      have hP := QPut_q h i i l[i] (by omega) (by omega)
      rw [hh] at hP
      have hw : IntKind.i64.wrap ((i : Int) + 1) = (i : Int) + 1 := wrap_id (by omega) (by omega)
      have hpl := putQ_len h ⟨i, l[i], i⟩
      simp [hlt]
      refine calD [0, 1] hP ?_
      simp [hw]
      exact ⟨i + 1, putQ h ⟨i, l[i], i⟩, ⟨by omega, by omega, hrun⟩, by omega, entm [0, 2]⟩
    · obtain rfl : i = l.length := by omega
      rw [List.drop_of_length_le (by simp), List.foldl_nil] at hrun
      simp
      refine awp_loop (fun x : Nat × List GMark × List GMark × List Int => ⟨37, [(4, .ptr 0 0), (7, .osl 2 1 0 x.2.2.2.length)], [some [.osl 1 3 0 x.1, kI l.length], some ((x.2.1 ++ x.2.2.1).map GMark.e).flatten, some (x.2.2.2.map kI)], 0⟩)
        (fun x => x.1 ≤ l.length ∧ x.2.1.length = x.1 ∧ x.2.2.2.length + x.1 = l.length ∧ x.2.2.2 ++ (takes x.1 x.2.1).map GMark.N = qsortM l) (fun x => x.1) (l.length, h, [], []) ?_ ?_ ?_
      · exact (ent_nil (t := 7) (z := 1) rfl).trans (entm [0, 1, 2])
      · exact ⟨by simp, hh, by simp, by simp [qsortM, hrun]⟩
      · rintro ⟨n, g, zs, acc⟩ ⟨hn, hg, hacc, hr⟩
        simp only at hn hg hacc hr
        refine awp_go ?_
        simp
        refine calD [0, 1] (QLen_fn (g ++ zs) n l.length) ?_
        rcases Nat.eq_zero_or_pos n with h0 | h0
        · subst h0
          simp
          refine fin_fz 2 (acc.map kI) ?_
          have hch := chunks_ints acc
          simp [hch]
          have : acc = qsortM l := by rw [← hr]; simp [takes]
          exact finm (by simp [← this, slI_def])
        · obtain ⟨m, rfl⟩ : ∃ m, n = m + 1 := ⟨n - 1, by omega⟩
          have hT := QTake_q g zs m l.length hg (by omega)
          rw [takes] at hr
          have ha1 : (acc.length + 1) * 8 ≤ 140737488355328 := by omega
          have ha2 : acc.length + 1 ≤ maxLen := by simp only [maxLen]; omega
          simp
          refine calD [0, 1] hT ?_
          simp [ha1, ha2]
          have htl := takeH_len hg
          exact ⟨m, takeH g m, q0 :: zs, acc ++ [(atQ g 0).N], ⟨by omega, htl, by simp; omega, by rw [← hr]; simp⟩, by omega, entm [0, 1, 4] (hT := by simp) (hB := by simp)⟩
end Go.Proofs.Ytccebflmbnpheaa.Am
