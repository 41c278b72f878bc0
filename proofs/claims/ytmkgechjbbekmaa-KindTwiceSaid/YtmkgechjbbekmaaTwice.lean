/- KindTwice: the walk. -/
import Derived.Test.YtmkgechjbbekmaaMake3
import Derived.Test.YtmkgechjbbekmaaKind4
import Derived.Test.YtmkgechjbbekmaaClone
import Derived.Test.YtmkgechjbbekmaaAmB
set_option linter.unusedVariables false
set_option linter.unusedSimpArgs false
namespace Go.Proofs.Ytmkgechjbbekmaa.Am
open Go Go.RowKit

theorem chunks_snoc {α : Type} {z : Nat} {f : α → List PV} (h : ∀ x, (f x).length = z) (l : List α) (x : α) : chunks z ((l.map f).flatten ++ f x) (l.length + 1) = (l ++ [x]).map f := by
  have := chunks_map h (l ++ [x])
  simpa using this

set_option maxRecDepth 20000 in
theorem KindTwice_fn (l : List Int) (n : Int) (k : List GKind) (i : Nat) (hk : (kindsM l).1 = k) (hlen : k.length ≤ 4) (hpos : 0 < k.length) (hi : n % (k.length : Int) = i) (hfl : ∀ x ∈ k, x.Fields.length ≤ 3) (hil : i < k.length)
    (h1 : checkE (k ++ [k[i]]) = 5) (h2 : checkE k = 0) (h3 : findK k k[i].Name = i) : Fn Try.prog 5 [slI l, kI n] (kB true) := by
  refine fn_go Try.func5 rfl ?_
  simp [Try.ntmps5]
  refine ops_fn (Kinds_fn l) rfl rfl rfl (by simp) en_24 rfl (by simp) (by simp) (by simp) ?_
  simp [hk]
  refine ops_fn (Below_fn n k.length (by omega) (by omega)) rfl rfl rfl (by simp) en_22 rfl (by simp) (by simp) (by simp) ?_
  simp [hi]
  refine awp_drawS follows_mix [(0, 0), (5, 0), (0, 0), (0, 0), (0, 0), (0, 0), (4, 1), (4, 2), (3, 0), (0, 0), (0, 0), (0, 0), (2, 0), (0, 0), (0, 0), (0, 0), (0, 0), (0, 0), (0, 0), (0, 0), (0, 0), (0, 0), (2, 0), (0, 0), (0, 0), (0, 0), (0, 0)] 0 3 [(0, 6), (1, 2), (1, 3), (1, 4), (1, 5), (1, 6)] (by kernel_rfl) rfl rfl ?_
  simp
  refine gE_call5 (.osl 0 2 0 k.length) [] (k.map GKind.e).flatten rfl (fun y => ?_) (by simp) (by simp) (by simp) (by simp) ?_
  · simp
    exact does_fnd [] (CloneK_own k (by omega)) rfl rfl rfl en_26 rfl (by simp) (by simp) (by simp) (by simp) (by simp) (by simp)
  have g1 : (k.length + 1) * 40 ≤ 140737488355328 := by omega
  have g2 : k.length + 1 ≤ maxLen := by simp only [maxLen]; omega
  simp [hil, g1, g2]
  have hfl' : ∀ x ∈ k ++ [k[i]], x.Fields.length ≤ 9223372036854775807 := fun x hx => by
    rcases List.mem_append.1 hx with hx | hx
    · exact Nat.le_trans (hfl x hx) (by decide)
    · simp at hx; subst hx; exact Nat.le_trans (hfl _ (List.getElem_mem hil)) (by decide)
  have hC := Check_fn (k ++ [k[i]]) hfl' (by simp; omega)
  rw [h1] at hC
  have hC2 := Check_fn k (fun x hx => Nat.le_trans (hfl x hx) (by decide)) (by omega)
  rw [h2] at hC2
  have hF := Find_fn k k[i].Name (by omega)
  rw [h3] at hF
  have hsz : (k.length + 1) * 2 = k.length * 2 + 2 := by omega
  refine gE_callW (kI 5) [2] [] rfl (fun y => ?_) ?_
  · simp
    exact does_snap hC rfl rfl rfl en_25 (by simp [hsz, GKind.e_imm, chunks_snoc GKind.e_len]) (by simp) (by simp)
  simp [hil, g1, g2]
  refine gE_call (kI 0) ?_ ?_
  · simp
    exact callOk_fn hC2 rfl en_25 (fun _ => rfl) (fun _ => rfl) (fun _ => rfl) (by simp) (by simp) (by simp)
  simp [hil]
  refine gE_call (kI i) ?_ ?_
  · simp
    exact callOk_fn hF rfl en_27 (fun _ => rfl) (fun _ => rfl) (fun _ => rfl) (by simp) (by simp) (by simp)
  simp
  exact fin_now (by simp) rfl rfl
end Go.Proofs.Ytmkgechjbbekmaa.Am
