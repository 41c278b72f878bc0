/- tourkeep3: the system older; two layers. -/
import Derived.Test.YtmkgechjbbekmaaPlan3
import Derived.Test.YtmkgechjbbekmaaMake9
set_option linter.unusedVariables false
set_option linter.unusedSimpArgs false
namespace Go.Proofs.Ytmkgechjbbekmaa.Am
open Go Go.RowKit

def olderS : GSystem := ⟨⟨#[111, 108, 100, 101, 114]⟩, [0], [], [], [0], [⟨1, ⟨0, 0⟩, ⟨true, 0, ⟨0, 0⟩⟩, ⟨false, 1, ⟨0, 0⟩⟩⟩, ⟨12, ⟨0, 0⟩, ⟨false, 1, ⟨0, 0⟩⟩, ⟨true, 0, ⟨0, 0⟩⟩⟩], []⟩
set_option maxRecDepth 20000 in
theorem older_fn : Fn Try.prog 64 [] (.agg olderS.e) := by
  refine fn_go Try.func64 rfl ?_
  simp [Try.ntmps64]
  refine fin_fz 2 [kI 0] ?_
  simp
  refine fin_fz 3 [kI 0] ?_
  simp
  have hO : olderS.Ops.length = 2 := rfl
  have hch : chunks 11 (olderS.Ops.map GOp.e).flatten 2 = olderS.Ops.map GOp.e := GOp.chk olderS.Ops
  refine fin_fz 4 (olderS.Ops.map GOp.e).flatten ?_ (hb := by simp [olderS, GOp.e])
  simp [hO, hch]
  refine fin_ent (ent_cell 0 2 (tell_nil 1)) (fin_ent (ent_cell 0 3 (tell_nil 1)) (fin_ent (ent_cell 0 6 (tell_nil 2)) ?_))
  refine finm (h := ?_)
  simp [GSystem.e, slI_one_]
  simp [olderS, slI_one_]

theorem layersL_older : layersL [olderS, olderS] = [[0], [1]] := by decide

set_option maxRecDepth 20000 in
theorem layered_fn : Fn Try.prog 34 [] (kB true) := by
  refine fn_go Try.func34 rfl ?_
  simp [Try.ntmps34]
  refine cal older_fn ?_
  simp
  refine cal older_fn ?_
  simp
  refine ops_fz 0 ([olderS, olderS].map GSystem.e).flatten ?_ (hb := by simp [GSystem.e])
  simp
  have hch : chunks 7 (olderS.e ++ olderS.e) 2 = [olderS, olderS].map GSystem.e := by
    have := GSystem.chk [olderS, olderS]
    simpa using this
  rw [hch]
  refine cal (Layers_fn [olderS, olderS] (by simp) (fun s hs => by simp at hs; subst hs; exact ⟨by decide, by decide⟩)) ?_
  rw [layersL_older]
  simp
  exact finm

/-- What is asked of systems that were made. -/
theorem sysM_len (ks : List GKind) (l : List Int) (n : Nat) (hk : OkKs ks) (hk0 : 0 < ks.length) : SysLen (sysM ks l n).1 := by
  have h := allSets_ok (ks := ks) (l := l) hk0
  have := hk.1
  simp only [sysM, SysLen]
  omega
theorem sysLoop_len (ks : List GKind) (hk : OkKs ks) (hk0 : 0 < ks.length) : ∀ (n i : Nat) (acc : List GSystem) (l : List Int), (∀ s ∈ acc, SysLen s) → (∀ s ∈ sysLoop ks n i acc l, SysLen s) ∧ (sysLoop ks n i acc l).length = acc.length + n
  | 0, _, acc, _, h => ⟨h, rfl⟩
  | n + 1, i, acc, l, h => by
    have := sysLoop_len ks hk hk0 n (i + 1) (acc ++ [(sysM ks l i).1]) (sysM ks l i).2 (fun s hs => by
      rcases List.mem_append.1 hs with hs | hs
      · exact h s hs
      · simp at hs; subst hs; exact sysM_len ks l i hk hk0)
    refine ⟨this.1, this.2.trans ?_⟩
    simp; omega
theorem systemsM_ok (ks : List GKind) (l : List Int) (hk : OkKs ks) (hk0 : 0 < ks.length) : (∀ s ∈ systemsM ks l, SysLen s) ∧ (systemsM ks l).length ≤ 5 := by
  have hv := nextV_lt (l := l) (n := 6) (by omega)
  obtain ⟨h1, h2⟩ := sysLoop_len ks hk hk0 (nextV l 6).toNat 0 [] (nextL l 6) (by simp)
  refine ⟨h1, ?_⟩
  unfold systemsM
  rw [h2]; simp; omega
end Go.Proofs.Ytmkgechjbbekmaa.Am
