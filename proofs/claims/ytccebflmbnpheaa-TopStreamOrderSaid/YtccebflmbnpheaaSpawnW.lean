/- Package world: Spawn. -/
import Derived.Test.YtccebflmbnpheaaFree1
import Derived.Test.YtccebflmbnpheaaSl13i
import Derived.Test.YtccebflmbnpheaaFit1
import Derived.Test.YtccebflmbnpheaaCLaw
set_option linter.unusedVariables false
set_option linter.unusedSimpArgs false
namespace Go.Proofs.Ytccebflmbnpheaa.Am
open Go Go.RowKit

theorem wdropS (w : GWorld) : List.drop 3 w.e = [] := rfl
def insI (its : List GItem) (x : GItem) : List GItem := its.take (bs (fun it : GItem => cmpI it.Ent.N x.Ent.N) its) ++ x :: its.drop (bs (fun it : GItem => cmpI it.Ent.N x.Ent.N) its)
def spawnG (gs : List Int) (n : Nat) : List Int := if n = gs.length then gs ++ [0] else gs
def spawnW (w : GWorld) (n : Nat) (C : List GComp) : GWorld := ⟨w.Kinds, spawnG w.Gens n, insI w.Items ⟨⟨n, (spawnG w.Gens n).getD n 0⟩, C⟩⟩
theorem Spawn1_fn (x : GItem) (n : Int) : Fn Try.prog 32 [.agg x.e, kI n] (kI (cmpI x.Ent.N n)) := by
  refine fn_go Try.func32 rfl ?_
  simp [Try.ntmps32]
  refine cal (Compare_fn x.Ent.N n) ?_
  simp
  exact finm (by simp)
set_option maxHeartbeats 2000000 in
set_option maxRecDepth 20000 in
theorem Spawn_ok (w : GWorld) (C0 C : List GComp) (n : Nat) (hw : checkW w = 0) (hfit : fitC w.Kinds C0 = (C, 0)) (hfree : freeM w = ((n : Int), true)) (hn : n ≤ w.Gens.length) (hCl : C0.length ≤ 12) (hCv : ∀ c ∈ C0, c.Vals.length ≤ 1000) :
    Fn Try.prog 13 [.agg w.e, .sl 2 (C0.map GComp.e)] (.tup [.agg (spawnW w n C).e, .agg (GEnt.e ⟨n, (spawnG w.Gens n).getD n 0⟩), kI 0]) := by
  obtain ⟨hfi, hfc⟩ := checkW_fine hw
  have hil := hfi.il
  have hgl := hfi.gl
  have hF := WFit_fn w.Kinds C0 hfi.kl hfi.kf hCl hCv
  rw [hfit] at hF
  have hFr := Free_fn w hfi
  rw [hfree] at hFr
  obtain ⟨p, hp⟩ : ∃ p, bs (fun it : GItem => cmpI it.Ent.N n) w.Items = p := ⟨_, rfl⟩
  have hpl : p ≤ w.Items.length := by rw [← hp]; exact bs_le _ _
  have hbs := BinarySearchIt_fn w.Items n 32 [] (fun it => cmpI it.Ent.N n) (by omega) en_32 rfl fun x _ => Spawn1_fn x n
  rw [hp] at hbs
  refine fn_go Try.func13 rfl ?_
  simp [Try.ntmps13]
  refine cal (WCheck_fn w hfi (fun it hi c hc => by have := ((hfc it hi).2 c hc).2.2.2; omega)) ?_
  simp [hw]
  refine cal hF ?_
  simp
  refine cal hFr ?_
  simp
  refine calD [] (WCopy_og w hfi) ?_ (hren := by simp)
  by_cases hnl : n = w.Gens.length
  · have b1 : (w.Gens.length + 1) * 8 ≤ 140737488355328 := by omega
    have b2 : w.Gens.length + 1 ≤ maxLen := by simp only [maxLen]; omega
    have hnl' : (n : Int) = w.Gens.length := by omega
    have hlt1 : (w.Gens.length : Int) < (w.Gens.length : Int) + 1 := by omega
    have hsg : spawnG w.Gens n = w.Gens ++ [0] := by unfold spawnG; rw [if_pos hnl]
    have hgd : (w.Gens ++ [0]).getD n 0 = 0 := by rw [hnl]; simp [List.getD]
    obtain ⟨x, hx⟩ : ∃ x : GItem, x = ⟨⟨n, 0⟩, C⟩ := ⟨_, rfl⟩
    obtain ⟨G2, hG2⟩ : ∃ G2, w.Gens ++ [0] = G2 := ⟨_, rfl⟩
    have hG2l : G2.length = w.Gens.length + 1 := by rw [← hG2]; simp
    have hG2m : w.Gens.map kI ++ [kI 0] = G2.map kI := by rw [← hG2]; simp
    have hIns := InsertIt_fn w.Items p x hpl (by omega)
    obtain ⟨I2, hI2⟩ : ∃ I2, w.Items.take p ++ x :: w.Items.drop p = I2 := ⟨_, rfl⟩
    have hI2l : I2.length = w.Items.length + 1 := by rw [← hI2]; simp; omega
    rw [hI2, ← hI2l] at hIns
    have hW : spawnW w n C = ⟨w.Kinds, G2, I2⟩ := by
      unfold spawnW insI
      rw [hsg, hgd, ← hx]
      have : x.Ent.N = n := by rw [hx]
      rw [this, hp, hI2, hG2]
    rw [hW, hsg, hgd]
    rw [hnl] at hbs hx
    simp [hnl, b1, b2, wdropS, hlt1]
    rw [hG2m, ← hG2l]
    refine calS hbs ?_
    simp
    refine calD [3, 8] hIns ?_ (hbox := by simp [hx, GItem.e])
    simp
    refine awp_draw follows_mix [] [(0, [0]), (0, [0, 1]), (1, [0]), (1, [1]), (0, [2])] 2 (by kernel_rfl) rfl ?_
    simp
    refine fin_ent (ent_T [(4, .ptr 1 0), (5, .ptr 2 0), (6, kI 0)]) ?_
    refine fin_fz 9 _ ?_
    simp
    refine fin_fz 6 _ ?_
    simp
    exact finm (by simp [GWorld.e, GEnt.e, slI_def, chunks_ints, hnl'])
  · have hnl' : ¬ (n : Int) = w.Gens.length := by omega
    have hng : n < w.Gens.length := by omega
    have hsg : spawnG w.Gens n = w.Gens := by unfold spawnG; rw [if_neg hnl]
    have hgd : w.Gens.getD n 0 = w.Gens[n] := by simp [List.getD, hng]
    obtain ⟨x, hx⟩ : ∃ x : GItem, x = ⟨⟨n, w.Gens[n]⟩, C⟩ := ⟨_, rfl⟩
    have hIns := InsertIt_fn w.Items p x hpl (by omega)
    obtain ⟨I2, hI2⟩ : ∃ I2, w.Items.take p ++ x :: w.Items.drop p = I2 := ⟨_, rfl⟩
    have hI2l : I2.length = w.Items.length + 1 := by rw [← hI2]; simp; omega
    rw [hI2, ← hI2l] at hIns
    have hW : spawnW w n C = ⟨w.Kinds, w.Gens, I2⟩ := by
      unfold spawnW insI
      rw [hsg, hgd, ← hx]
      have : x.Ent.N = n := by rw [hx]
      rw [this, hp, hI2]
    rw [hW, hsg, hgd]
    simp [hnl', hng, wdropS]
    refine calS hbs ?_
    simp
    refine calD [3, 6] hIns ?_ (hbox := by simp [hx, GItem.e])
    simp
    refine awp_draw follows_mix [] [(0, [0]), (0, [0, 1]), (1, [0]), (1, [1]), (0, [2])] 2 (by kernel_rfl) rfl ?_
    simp
    refine fin_ent (ent_T [(4, .ptr 1 0), (5, .ptr 2 0), (6, kI 0)]) ?_
    refine fin_fz 7 _ ?_
    simp
    refine fin_fz 4 _ ?_
    simp
    exact finm (by simp [GWorld.e, GEnt.e, slI_def, chunks_ints])
end Go.Proofs.Ytccebflmbnpheaa.Am
