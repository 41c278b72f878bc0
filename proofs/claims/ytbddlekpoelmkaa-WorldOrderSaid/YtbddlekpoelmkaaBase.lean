/- The small world of the laws, and a component from raw numbers. -/
import Derived.Test.YtbddlekpoelmkaaMake1
import Derived.Test.YtbddlekpoelmkaaKind6
set_option linter.unusedVariables false
set_option linter.unusedSimpArgs false
namespace Go.Proofs.Ytbddlekpoelmkaa.Am
open Go Go.RowKit

def baseW : GWorld := ⟨[⟨⟨#[108, 105, 102, 101]⟩, [⟨⟨#[120]⟩, 8, 0⟩]⟩], [0], [⟨⟨0, 0⟩, [⟨0, [9]⟩]⟩]⟩

theorem base_fn : Fn Try.prog 36 [] (.agg baseW.e) := by
  refine fn_go Try.func36 rfl ?_
  simp [Try.ntmps36]
  refine fin_ent (ent_frz 1 3 1 _ (by simp) rfl (by simp) (by simp)) ?_
  simp [St.frz, chunks]
  refine fin_ent (ent_frz 2 2 1 _ (by simp) rfl (by simp) (by simp)) ?_
  simp [St.frz, chunks]
  refine fin_ent (ent_frz 3 1 1 _ (by simp) rfl (by simp) (by simp)) ?_
  simp [St.frz, chunks]
  refine fin_ent (ent_frz 4 1 1 _ (by simp) rfl (by simp) (by simp)) ?_
  simp [St.frz, chunks]
  refine fin_ent (ent_frz 5 2 1 _ (by simp) rfl (by simp) (by simp)) ?_
  simp [St.frz, chunks]
  refine fin_ent (ent_frz 6 3 1 _ (by simp) rfl (by simp) (by simp)) ?_
  simp [St.frz, chunks]
  exact fin_now (by simp [baseW, GWorld.e, GKind.e, GField.e, GItem.e, GComp.e, slI]) rfl rfl

/-- The values of a component out of raw numbers. -/
def compV (n : Int) (l : List Int) (m : Nat) : List Int := (List.range m).map fun i => l.getD i n

theorem compV_succ (n : Int) (l : List Int) (m : Nat) : compV n l (m + 1) = compV n l m ++ [l.getD m n] := by
  simp [compV, List.range_succ]

set_option maxRecDepth 20000 in
theorem comp_fn (k : List GKind) (n : Int) (l : List Int) (i : Nat) (hk : 0 < k.length) (hkl : k.length ≤ 1000) (hn : n % (k.length : Int) = i) (hi : i < k.length) (hf : k[i].Fields.length ≤ 1000) :
    Fn Try.prog 16 [.sl 2 (k.map GKind.e), kI n, slI l] (.agg (GComp.e ⟨i, compV n l k[i].Fields.length⟩)) := by
  refine fn_go Try.func16 rfl ?_
  simp [Try.ntmps16]
  refine ops_fn (Below_fn n k.length (by omega) (by omega)) rfl rfl rfl (by simp) en_21 rfl (by simp) (by simp) (by simp) ?_
  simp [hn, hi]
  generalize hm : k[i].Fields.length = m at *
  refine awp_loop (fun x : Nat × List Int => ⟨42, [(1, kI n), (2, slI l), (6, .ptr 0 0), (7, .ptr 1 0), (21, kI m), (22, kI x.1)], [some [kI 0, .k (.slice none 0 0)], some [kI i, .osl 2 1 0 x.2.length], some (x.2.map kI)], 0⟩)
    (fun x => x.1 ≤ m ∧ x.2 = compV n l x.1) (fun x => m - x.1) (0, []) ?_ ?_ ?_
  · exact (ent_nilb (b := 1) (j := 1) (z := 1) rfl rfl).trans (ent_mk [0, 1, 2] rfl rfl rfl (by simp) (by simp) (by simp) (by simp) (by simp))
  · simp [compV]
  · rintro ⟨j, A⟩ ⟨hj, hA⟩
    simp only at hj hA
    have hAl : A.length = j := by rw [hA]; simp [compV]
    refine awp_go ?_
    by_cases hlt : j < m
    · have hb1 : (A.length + 1) * 8 ≤ 140737488355328 := by omega
      have hb2 : A.length + 1 ≤ maxLen := by simp only [maxLen]; omega
      by_cases hjl : j < l.length
      · simp [hlt, hjl, slI, hb1, hb2]
        rw [wrap_id (by omega) (by omega)]
        exact ⟨j + 1, A ++ [l[j]], ⟨by omega, by rw [hA, compV_succ]; simp [hjl]⟩, by omega, ent_mk [0, 1, 4] rfl rfl rfl (by simp) (by simp) (by simp) (by simp [slI]) (by simp)⟩
      · simp [hlt, hjl, slI, hb1, hb2]
        rw [wrap_id (by omega) (by omega)]
        exact ⟨j + 1, A ++ [n], ⟨by omega, by rw [hA, compV_succ]; simp [hjl]⟩, by omega, ent_mk [0, 1, 4] rfl rfl rfl (by simp) (by simp) (by simp) (by simp [slI]) (by simp)⟩
    · have hjm : j = m := by omega
      subst hjm
      simp
      refine fin_ent (ent_frz 2 1 A.length (A.map kI) (by simp) rfl (by simp) (ints_imm A)) ?_
      simp [St.frz, chunks_ints]
      exact fin_now (by simp [GComp.e, slI, ← hA]) rfl rfl
end Go.Proofs.Ytbddlekpoelmkaa.Am
