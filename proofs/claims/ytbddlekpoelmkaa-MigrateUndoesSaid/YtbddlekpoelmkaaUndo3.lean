/- Package migrate: the move that undoes a move. -/
import Derived.Test.YtbddlekpoelmkaaUndo2
set_option linter.unusedVariables false
set_option linter.unusedSimpArgs false
namespace Go.Proofs.Ytbddlekpoelmkaa.Am
open Go Go.RowKit

set_option maxHeartbeats 1000000 in
set_option maxRecDepth 20000 in
theorem inverse_fn (ks : List GKind) (m : GMove) (hc : checkE ks = 0) (hp0 : (placeM ks m).2.2 = 0) : Fn Try.prog 46 [.sl 2 (ks.map GKind.e), .agg m.e] (.tup [.agg (invM ks m).1.e, kB (invM ks m).2]) := by
  refine fn_go Try.func46 rfl ?_
  simp [Try.ntmps46]
  obtain ⟨hl, hf⟩ := checkE_le hc
  refine cal (place_fn ks m (by omega) (fun k hk => by have := hf k hk; omega)) ?_
  by_cases h0 : m.Do = 0
  · simp [h0]
    refine fin_ent (ent_cell 1 9 (tell_nil 3)) ?_
    simp
    exact finm (by simp [invM, h0, GMove.e])
  by_cases h2 : m.Do = 2
  · simp [h2]
    refine fin_ent (ent_cell 1 9 (tell_nil 3)) ?_
    simp
    exact finm (by simp [invM, h2, GMove.e])
  by_cases h3 : m.Do = 3
  · simp [h3]
    refine fin_ent (ent_cell 1 9 (tell_nil 3)) ?_
    simp
    exact finm (by simp [invM, h3, GMove.e])
  by_cases h5 : m.Do = 5
  · simp [h5]
    refine fin_ent (ent_cell 1 9 (tell_nil 3)) ?_
    simp
    exact finm (by simp [invM, h5, GMove.e])
  by_cases h6 : m.Do = 6
  · obtain ⟨i, j, hi, hp, hn, _, _, hd3⟩ := placeM_ok2 hp0 h0
    obtain ⟨_, hj, _⟩ := hd3.resolve_left (by omega)
    obtain ⟨f, hfe⟩ : ∃ f, (ks[i]).Fields[j] = f := ⟨_, rfl⟩
    have hx : invM ks m = (⟨6, m.Kind, m.Field, ⟨#[]⟩, 0, ⟨⟨#[]⟩, f.Bits, f.Low⟩, ⟨⟨#[]⟩, []⟩⟩, decide (m.New.Low ≤ f.Low) && decide (highM f ≤ highM ⟨f.Name, m.New.Bits, m.New.Low⟩)) := by
      unfold invM
      rw [if_neg h0, if_neg h2, if_neg h3, if_neg h5, if_pos h6, hp]
      have hgi : ks.getD i k0 = ks[i] := by simp [List.getD, hi]
      have hgf : (ks[i]).Fields.getD j f0 = (ks[i]).Fields[j] := by simp [List.getD, hj]
      simp only [Int.toNat_natCast, hgi, hgf, hfe]
    simp [h6, hp, hi, hj, hfe]
    refine awp_draw follows_mix [] [(0, [0]), (0, [0]), (0, [0]), (0, [0, 1]), (0, [0, 1]), (0, [0, 1]), (0, [0]), (1, [0]), (0, [1]), (1, [1])] 2 (by kernel_rfl) rfl ?_
    simp
    refine awp_drawS follows_mix [(0, 0), (0, 0), (0, 0), (0, 0), (0, 0), (0, 0), (0, 0), (0, 0), (0, 0), (0, 0), (0, 0), (0, 0), (0, 0), (0, 0), (0, 0), (0, 0), (0, 0), (2, 0), (0, 0), (2, 0), (0, 0), (0, 0), (1, 0), (0, 0)] 4 4 [(20, 22), (21, 22)] (by kernel_rfl) rfl rfl ?_
    simp
    by_cases h7 : m.New.Low ≤ f.Low
    · simp [h7]
      refine gE_call (kI (highM ⟨f.Name, m.New.Bits, m.New.Low⟩)) ?_ ?_
      · simp
        exact calO (High_fn ⟨f.Name, m.New.Bits, m.New.Low⟩) (hren := by simp [GField.e])
      simp
      refine gE_call (kI (highM f)) ?_ ?_
      · simp
        exact calO (High_fn f)
      simp
      refine fin_ent (ent_cell 1 9 (tell_nil 3)) ?_
      simp
      exact finm (by simp [hx, h7, GMove.e])
    · simp [h7]
      refine fin_ent (ent_cell 1 9 (tell_nil 3)) ?_
      simp
      exact finm (by simp [hx, h7, GMove.e])
  · simp [h0, h2, h3, h5, h6]
    refine fin_ent (ent_cell 1 9 (tell_nil 3)) ?_
    simp
    exact finm (by simp [invM, h0, h2, h3, h5, h6, GMove.e])
end Go.Proofs.Ytbddlekpoelmkaa.Am
