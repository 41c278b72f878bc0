/- Package query: the iterator of All, and Count. -/
import Derived.Test.YtfojnhceiabbhaaGreatQuery2
import Derived.Test.YtfojnhceiabbhaaGreatAmC
set_option linter.unusedVariables false
set_option linter.unusedSimpArgs false
namespace Go.Proofs.YtfojnhceiabbhaaGreat.Am
open Go Go.RowKit

def yRow (x : GRow) : List PV × List (List PV) := ([kI x.1, .agg x.2.e], [])

set_option maxRecDepth 20000 in
theorem All1_seq (rows : List GRow) (hl : rows.length ≤ 1000000) (hc : ∀ x ∈ rows, x.2.Comps.length ≤ 1000000) (hv : ∀ x ∈ rows, ∀ c ∈ x.2.Comps, c.Vals.length ≤ 1000000) :
    SeqOk Tryz.prog 56 [.eptr [.sl 4 (rows.map rowE)]] (rows.map yRow) := by
  refine seqOk_of Tryz.func56 rfl rfl ?_
  intro l J hy
  refine awpI_seq (awpI_of (awp_go ?_))
  simp [Tryz.ntmps56, thenI]
  refine awpI_block (awpI_loop (fun i => ⟨25, [(0, .k (.func (.yield l) #[] #[])), (5, .sl 4 (rows.map rowE)), (6, kI rows.length), (7, kI i)], [], 0⟩) (fun i => i ≤ rows.length) (fun i => rows.length - i) (entm []) (by omega) ?_)
  intro i hi
  refine awpI_seq (awpI_of (awp_go ?_))
  by_cases hlt : i < rows.length
  · obtain ⟨x, hx⟩ : ∃ x, rows[i] = x := ⟨_, rfl⟩
    have hm : x ∈ rows := hx ▸ List.getElem_mem hlt
    simp [hlt, thenI]
    refine awpI_seq (awpI_of (awp_go ?_))
    simp [thenI]
    refine awpI_seq (awpI_block (awpI_seq (awpI_of (awp_go ?_))))
    simp [hlt, hx, thenI, rowE]
    refine awpI_seq (awpI_yieldK hy follows_mix 11 [(0, .k (.func (.yield l) #[] #[])), (5, .sl 4 (rows.map rowE)), (6, kI rows.length), (7, kI i)] ?_ ?_)
    · simp only [List.take_succ_cons, List.take_zero]
      refine draw_S [(0, 0), (0, 0), (0, 0), (0, 0), (0, 0), (0, 0), (0, 0), (0, 0), (0, 0), (2, 0), (0, 0)] 1 1 [] (by kernel_rfl) rfl rfl ?_
      simp
      refine gE_call (.sl 2 (x.2.Comps.map GComp.e)) ?_ ?_
      · simp
        exact calO (CopyComps_fn x.2.Comps (by have := hc x hm; omega) (fun c h => by have := hv x hm c h; omega))
      simp
      refine ⟨rfl, ⟨_, [kI x.1, .agg [kI x.2.Ent.N, kI x.2.Ent.Gen, .sl 2 (x.2.Comps.map GComp.e)]], [], [], rfl, by simp [hlt, hx, yRow, GItem.e], rfl, List.nodup_nil, by simp, by simp, fun _ _ _ h => by simp at h⟩, keepB_T (by simp [keepB])⟩
    · simp only [thenI]
      refine awpI_of (awp_go ?_)
      simp [inBlockI, thenI]
      refine awpI_of (awp_go ?_)
      simp [thenI]
      rw [wrap_id (by omega) (by omega)]
      exact ⟨by omega, by omega, entm []⟩
  · simp [hlt, thenI]
    refine awpI_seq (awpI_of (awp_go ?_))
    simp [inBlockI, thenI]
    omega
end Go.Proofs.YtfojnhceiabbhaaGreat.Am
