/- The library's slice functions, at the program's types. -/
import Derived.Test.YtbddlekpoelmkaaCmp
set_option linter.unusedVariables false
set_option linter.unusedSimpArgs false
namespace Go.Proofs.Ytbddlekpoelmkaa.Am
open Go Go.RowKit

set_option maxRecDepth 20000 in
theorem ReverseM_fn (l : List GMove) (hl : l.length ≤ 1000000000) :
    FnD Try.prog 47 [.osl 0 10 0 l.length] [(l.map GMove.e).flatten] (.tup []) [some (l.reverse.map GMove.e).flatten] := by
  obtain ⟨R, hRv⟩ : ∃ R, l.reverse = R := ⟨_, rfl⟩
  rw [hRv]
  refine fnd_go Try.func47 rfl ?_
  simp [Try.ntmps47]
  rw [wrap_id (by omega) (by omega)]
  obtain ⟨n, hn⟩ : ∃ n, l.length = n := ⟨_, rfl⟩
  rw [hn] at hl ⊢
  refine awp_loop (fun x : Nat × List GMove => ⟨28, [(0, .osl 0 10 0 n), (2, kI x.1), (3, kI ((n : Int) - 1 - x.1))], [some (x.2.map GMove.e).flatten], 1⟩)
    (fun x => 2 * x.1 ≤ n + 1 ∧ x.2.length = n ∧ ∀ t, t < n → x.2[t]? = if t < x.1 ∨ n - x.1 ≤ t then l[n - 1 - t]? else l[t]?) (fun x => n - x.1) (0, l) ?_ ?_ ?_
  · exact entm [0] (hT := by simp)
  · exact ⟨by simp, hn, fun t ht => by rw [if_neg (by omega)]⟩
  · rintro ⟨i, L⟩ ⟨hi, hL, hp⟩
    simp only at hi hL hp
    refine awp_go ?_
    by_cases hlt : (i : Int) < (n : Int) - 1 - i
    · obtain ⟨j, hj⟩ : ∃ j : Nat, (n : Int) - 1 - i = j := ⟨n - 1 - i, by omega⟩
      have hij : i < j := by omega
      have hiL : i < L.length := by omega
      have hjL : j < L.length := by omega
      have hin : i < n := by omega
      have hjn : j < n := by omega
      have hjS : j < (L.set i L[j]).length := by simpa using hjL
      have g1 : i * 10 + 10 ≤ L.length * 10 := by omega
      have g2 : j * 10 + 10 ≤ L.length * 10 := by omega
      have r1 := row_set (e := GMove.e) (z := 10) (fun _ => rfl) L i L[j] hiL
      have r2 := row_set (e := GMove.e) (z := 10) (fun _ => rfl) (L.set i L[j]) j L[i] hjS
      obtain ⟨L1, hL1⟩ : ∃ L1, L.set i L[j] = L1 := ⟨_, rfl⟩
      obtain ⟨L2, hL2⟩ : ∃ L2, L1.set j L[i] = L2 := ⟨_, rfl⟩
      rw [hL1] at r1 r2
      rw [hL2] at r2
      have hl1 : L1.length = L.length := by rw [← hL1]; simp
      have g3 : j * 10 + 10 ≤ L1.length * 10 := by omega
      have hij' : (i : Int) < (j : Int) := by omega
      simp [hj, hij]
      refine awp_draw follows_mix [] [(0, [0]), (0, [0]), (0, [0, 1]), (0, [0, 1]), (0, [0]), (0, [0]), (0, [0]), (0, [0]), (0, [0]), (0, [0]), (0, [0]), (0, [0]), (0, [0]), (1, [0]), (0, [1]), (1, [1])] 2 (by kernel_rfl) rfl ?_
      simp [hin, hjn, hiL, hjL, g1, g2, g3, r1, r2]
      rw [wrap_id (by omega) (by omega), wrap_id (by omega) (by omega)]
      refine ⟨i + 1, L2, ⟨by omega, by rw [← hL2, ← hL1]; simpa using hL, fun t ht => ?_⟩, by omega, entm [0] (hT := by simp; omega)⟩
      rw [← hL2, ← hL1]
      have pi := hp i (by omega)
      have pj := hp j (by omega)
      rw [List.getElem?_eq_getElem hiL, if_neg (by omega)] at pi
      rw [List.getElem?_eq_getElem hjL, if_neg (by omega)] at pj
      have pt := hp t ht
      rw [List.getElem?_set, List.getElem?_set]
      by_cases tj : j = t
      · subst tj
        rw [if_pos rfl, if_pos (by simpa using hjL), if_pos (by omega), pi]
        congr 1; omega
      · rw [if_neg tj]
        by_cases ti : i = t
        · subst ti
          rw [if_pos rfl, if_pos hiL, if_pos (by omega), pj]
          congr 1; omega
        · rw [if_neg ti, pt]
          by_cases h1 : t < i ∨ n - i ≤ t
          · rw [if_pos h1, if_pos (by omega)]
          · rw [if_neg h1, if_neg (by omega)]
    · simp [hlt]
      have hR : L = R := by
        rw [← hRv]
        refine List.ext_getElem? fun t => ?_
        by_cases ht : t < n
        · rw [hp t ht, List.getElem?_reverse (by omega), hn]
          split
          · rfl
          · congr 1; omega
        · rw [List.getElem?_eq_none (by omega), List.getElem?_eq_none (by simp; omega)]
      subst hR
      exact finGm [0]

end Go.Proofs.Ytbddlekpoelmkaa.Am
