/- Package tourtop: h6begun, without the digests of bytes. -/
import Derived.Test.YtccebflmbnpheaaSpawnW
import Derived.Test.YtccebflmbnpheaaTell
import Derived.Test.YtccebflmbnpheaaDig1
set_option linter.unusedVariables false
set_option linter.unusedSimpArgs false
namespace Go.Proofs.Ytccebflmbnpheaa.Am
open Go Go.RowKit

def ks6 : List GKind := [⟨⟨#[97]⟩, [⟨⟨#[120]⟩, 4, 0⟩]⟩]
def w6 : GWorld := ⟨ks6, [], []⟩
def c6 : List GComp := [⟨0, [3]⟩]
theorem ks6_ok : checkE ks6 = 0 := by kernel_rfl
theorem w6_ok : checkW w6 = 0 := by kernel_rfl
theorem fit6 : fitC w6.Kinds c6 = (c6, 0) := by kernel_rfl
theorem free6 : freeM w6 = (((0 : Nat) : Int), true) := by kernel_rfl
theorem dig6 : decide (wordsM ((intsM (spawnW w6 0 c6)).map IntKind.u64.wrap) ≠ wordsM ((intsM w6).map IntKind.u64.wrap)) = true := by kernel_rfl
def digN : Int := joinM 11170449401992604703 (IntKind.u64.wrap 0)
theorem sum6 : decide (wordsM [] ≠ digN) = true := by kernel_rfl
theorem sp6 : Fine (spawnW w6 0 c6) := (checkW_fine (by kernel_rfl)).1
theorem il6 : (intsM (spawnW w6 0 c6)).length ≤ 1000000000 ∧ (intsM w6).length ≤ 1000000000 := of_decide_eq_true (by kernel_rfl)
set_option maxRecDepth 20000 in
theorem WNew_fn (ks : List GKind) (h : checkE ks = 0) : Fn Try.prog 12 [.sl 2 (ks.map GKind.e)] (.tup [.agg (GWorld.mk ks [] []).e, kI 0]) := by
  obtain ⟨h1, h2⟩ := checkE_le h
  refine fn_go Try.func12 rfl ?_
  simp [Try.ntmps12]
  refine cal (Check_fn ks (fun k hk => by have := h2 k hk; omega) (by omega)) ?_
  simp [h]
  refine cal (KCopy_fn ks (by omega) (fun k hk => by have := h2 k hk; omega)) ?_
  simp
  refine fin_ent (ent_cell (cs := [.sl 2 (ks.map GKind.e), kNil, kNil]) 0 1 (tell_nil 1)) ?_
  refine fin_ent (ent_cell (cs := [.sl 2 (ks.map GKind.e), .sl 1 [], kNil]) 0 2 (tell_nil 3)) ?_
  exact finm (by simp [GWorld.e, slI_def])

theorem Words_nil : Fn Try.prog 15 [kNil] (kU (wordsM [])) :=
  fn_tell (Words_fn [] (by simp)) rfl fun j p' hj => by
    match j, hj with
    | 0, hj => simp at hj; subst hj; exact ⟨_, rfl, (tell_nil 1).2⟩
    | j + 1, hj => simp at hj
set_option maxRecDepth 20000 in
theorem SumBytes_nil : Fn Try.prog 16 [kNil] (kU digN) := by
  refine fn_go Try.func16 rfl ?_
  simp [Try.ntmps16]
  refine cal (Join_fn _ _) ?_ (hren := by rfl)
  simp
  refine awp_loop (fun _ : Nat => ⟨42, [(0, kNil), (3, kU digN)], [], 0⟩) (fun _ => True) (fun x => x) 0 ?_ ?_ ?_
  · exact entm [] (hT := by simp [digN])
  · trivial
  · intro _ _
    refine awp_go ?_
    simp
    exact finm
set_option maxRecDepth 20000 in
set_option maxHeartbeats 1000000 in
theorem h6begun_fn : Fn Try.prog 4 [] (kB true) := by
  refine fn_go Try.func4 rfl ?_
  simp [Try.ntmps4]
  refine ops_fz 0 [kS ⟨#[120]⟩, kI 4, kI 0] ?_
  simp [chunks, List.range, List.range.loop]
  refine ops_fz 1 [kS ⟨#[97]⟩, .sl 3 [[kS ⟨#[120]⟩, kI 4, kI 0]]] ?_
  simp [chunks, List.range, List.range.loop]
  refine ops_ent (s' := ⟨44, [(10, .sl 2 (ks6.map GKind.e)), (0, kB false)], [], 0⟩) (entm [] (hT := by simp [ks6, GKind.e, GField.e])) (ops_goH ?_)
  refine cal (WNew_fn ks6 ks6_ok) ?_
  have hW : GWorld.mk ks6 [] [] = w6 := rfl
  rw [hW]
  obtain ⟨W, hWd⟩ : ∃ W, w6 = W := ⟨_, rfl⟩
  have hS := Spawn_ok w6 c6 c6 0 w6_ok fit6 free6 (by decide) (by decide) (by decide)
  have hD1 := Digest_fn w6 (checkW_fine w6_ok).1 il6.2
  have hD2 := Digest_fn (spawnW w6 0 c6) sp6 il6.1
  have hne := of_decide_eq_true dig6
  have hse := of_decide_eq_true sum6
  have hg : (spawnG w6.Gens 0).getD 0 0 = 0 := by decide
  rw [hg] at hS
  rw [hWd] at hS hD1 hD2 hne ⊢
  simp
  refine ops_fz 1 [kI 3] ?_
  simp [chunks, List.range, List.range.loop]
  refine ops_fz 2 [kI 0, .sl 1 [[kI 3]]] ?_
  simp [chunks, List.range, List.range.loop]
  refine ops_ent (s' := ⟨44, [(20, .sl 2 (c6.map GComp.e)), (17, .agg W.e), (1, .ptr 0 0), (0, kB false)], [some W.e], 0⟩) (entm [0] (hT := by simp [c6, GComp.e, slI_def])) (ops_goH ?_)
  refine cal hS ?_
  obtain ⟨V, hV⟩ : ∃ V, spawnW W 0 c6 = V := ⟨_, rfl⟩
  rw [hV] at hD2 hne ⊢
  simp
  refine awp_draw follows_mix [] [(0, [0]), (0, [0]), (0, [0]), (0, [0]), (0, [0]), (0, [0]), (0, [0]), (0, [0]), (0, [0]), (2, [0]), (0, [0]), (2, [0]), (0, [0]), (0, [0]), (0, [0]), (2, [0]), (2, [0]), (0, [0]), (0, [0]), (0, [0])] 0 (by kernel_rfl) rfl ?_
  simp [GEnt.e]
  refine gD_call (kU (wordsM ((intsM V).map IntKind.u64.wrap))) ?_
  simp
  refine gD_call (kU (wordsM ((intsM W).map IntKind.u64.wrap))) ?_
  simp [hne]
  refine gD_call (kU (wordsM [])) ?_
  simp
  refine gD_call (kU (digN)) ?_
  simp [hse]
  and_intros
  · exact calO hD2
  · exact calO hD1
  · exact hne
  · exact calO Words_nil
  · exact calO SumBytes_nil
  · rfl
  · exact finm
end Go.Proofs.Ytccebflmbnpheaa.Am
