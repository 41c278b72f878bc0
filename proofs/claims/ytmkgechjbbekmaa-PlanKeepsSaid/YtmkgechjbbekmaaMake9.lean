/- Package tourmake: lists of systems. -/
import Derived.Test.YtmkgechjbbekmaaMake8
set_option linter.unusedVariables false
set_option linter.unusedSimpArgs false
namespace Go.Proofs.Ytmkgechjbbekmaa.Am
open Go Go.RowKit

def sysLoop (ks : List GKind) : Nat → Nat → List GSystem → List Int → List GSystem
  | 0, _, acc, _ => acc
  | n + 1, i, acc, l => sysLoop ks n (i + 1) (acc ++ [(sysM ks l i).1]) (sysM ks l i).2
def systemsM (ks : List GKind) (l : List Int) : List GSystem := sysLoop ks (nextV l 6).toNat 0 [] (nextL l 6)

set_option maxRecDepth 20000 in
theorem Systems_fn (ks : List GKind) (l : List Int) (hk : OkKs ks) (hk0 : 0 < ks.length) : Fn Try.prog 35 [.sl 2 (ks.map GKind.e), slI l] (.sl 7 ((systemsM ks l).map GSystem.e)) := by
  refine fn_go Try.func35 rfl ?_
  simp [Try.ntmps35]
  refine calD [0] (Next_fn l 6 (by omega)) ?_
  have hv := nextV_lt (l := l) (n := 6) (by omega)
  obtain ⟨n, hn⟩ : ∃ n : Nat, nextV l 6 = n := ⟨(nextV l 6).toNat, by omega⟩
  have hs : systemsM ks l = sysLoop ks n 0 [] (nextL l 6) := by simp [systemsM, hn]
  simp [hn]
  refine awp_loop (fun x : Nat × List GSystem × List Int => ⟨25, [(0, .sl 2 (ks.map GKind.e)), (5, .ptr 0 0), (6, .osl 1 7 0 x.2.1.length), (12, kI n), (13, kI x.1)], [some [slI x.2.2], some (x.2.1.map GSystem.e).flatten], 0⟩)
    (fun x => x.1 ≤ n ∧ x.2.1.length = x.1 ∧ sysLoop ks (n - x.1) x.1 x.2.1 x.2.2 = systemsM ks l) (fun x => n - x.1) (0, [], nextL l 6) ?_ ?_ ?_
  · exact (ent_nil (t := 6) (z := 7) rfl).trans (entm [0, 1])
  · simp [hs]
  · rintro ⟨i, acc, l1⟩ ⟨hi, hai, hrun⟩
    simp only at hi hai hrun
    refine awp_go ?_
    by_cases hlt : i < n
    · rw [show n - i = (n - (i + 1)) + 1 by omega, sysLoop] at hrun
      have c1 : (acc.length + 1) * 160 ≤ 140737488355328 := by omega
      have c2 : acc.length + 1 ≤ maxLen := by simp only [maxLen]; omega
      simp [hlt]
      refine calD [0] (system_fn ks l1 i hk hk0 (by omega)) ?_
      simp [c1, c2]
      rw [wrap_id (by omega) (by omega)]
      exact ⟨i + 1, acc ++ [(sysM ks l1 i).1], _, ⟨by omega, by simp [hai], hrun⟩, by omega, entm [0, 3]⟩
    · simp [hlt]
      have hin : n = i := by omega
      subst hin
      rw [Nat.sub_self, sysLoop] at hrun
      refine fin_fz 1 (acc.map GSystem.e).flatten ?_
      simp
      exact finm (by simp [hrun])
set_option maxRecDepth 20000 in
theorem Systems_own (ks : List GKind) (l : List Int) (hk : OkKs ks) (hk0 : 0 < ks.length) : FnD Try.prog 35 [.sl 2 (ks.map GKind.e), slI l] [] (.osl 0 7 0 (systemsM ks l).length) [some ((systemsM ks l).map GSystem.e).flatten] := by
  refine fnd_go Try.func35 rfl ?_
  simp [Try.ntmps35]
  refine calD [0] (Next_fn l 6 (by omega)) ?_
  have hv := nextV_lt (l := l) (n := 6) (by omega)
  obtain ⟨n, hn⟩ : ∃ n : Nat, nextV l 6 = n := ⟨(nextV l 6).toNat, by omega⟩
  have hs : systemsM ks l = sysLoop ks n 0 [] (nextL l 6) := by simp [systemsM, hn]
  simp [hn]
  refine awp_loop (fun x : Nat × List GSystem × List Int => ⟨25, [(0, .sl 2 (ks.map GKind.e)), (5, .ptr 0 0), (6, .osl 1 7 0 x.2.1.length), (12, kI n), (13, kI x.1)], [some [slI x.2.2], some (x.2.1.map GSystem.e).flatten], 0⟩)
    (fun x => x.1 ≤ n ∧ x.2.1.length = x.1 ∧ sysLoop ks (n - x.1) x.1 x.2.1 x.2.2 = systemsM ks l) (fun x => n - x.1) (0, [], nextL l 6) ?_ ?_ ?_
  · exact (ent_nil (t := 6) (z := 7) rfl).trans (entm [0, 1])
  · simp [hs]
  · rintro ⟨i, acc, l1⟩ ⟨hi, hai, hrun⟩
    simp only at hi hai hrun
    refine awp_go ?_
    by_cases hlt : i < n
    · rw [show n - i = (n - (i + 1)) + 1 by omega, sysLoop] at hrun
      have c1 : (acc.length + 1) * 160 ≤ 140737488355328 := by omega
      have c2 : acc.length + 1 ≤ maxLen := by simp only [maxLen]; omega
      simp [hlt]
      refine calD [0] (system_fn ks l1 i hk hk0 (by omega)) ?_
      simp [c1, c2]
      rw [wrap_id (by omega) (by omega)]
      exact ⟨i + 1, acc ++ [(sysM ks l1 i).1], _, ⟨by omega, by simp [hai], hrun⟩, by omega, entm [0, 3]⟩
    · simp [hlt]
      have hin : n = i := by omega
      subst hin
      rw [Nat.sub_self, sysLoop] at hrun
      exact finGm [1] (hres := by simp [hrun]) (hB := by simp [hrun])
end Go.Proofs.Ytmkgechjbbekmaa.Am
