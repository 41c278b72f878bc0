/- Package query: Count. -/
import Derived.Test.YtemlkbcfplkniaaQuery3
set_option linter.unusedVariables false
set_option linter.unusedSimpArgs false
namespace Go.Proofs.Ytemlkbcfplkniaa.Am
open Go Go.RowKit

def countM (w : GWorld) (wi wo : List Int) : Nat := (rowsM w wi wo).length

theorem rowsGo_mem (p : GItem → Bool) : ∀ (l : List GItem) (i : Nat) (x : GRow), x ∈ rowsGo p i l → x.2 ∈ l
  | [], _, x, h => by simp [rowsGo] at h
  | y :: r, i, x, h => by
    rw [rowsGo] at h
    split at h
    · rcases List.mem_cons.1 h with e | h
      · subst e; simp
      · exact List.mem_cons_of_mem _ (rowsGo_mem p r (i + 1) x h)
    · exact List.mem_cons_of_mem _ (rowsGo_mem p r (i + 1) x h)

set_option maxRecDepth 20000 in
theorem Count_fn (w : GWorld) (wi wo : List Int) (hw : Fine w) (h1 : wi.length ≤ 4611686018427387904) (h2 : wo.length ≤ 4611686018427387904) :
    Fn Try.prog 14 [.agg w.e, slI wi, slI wo] (kI (countM w wi wo)) := by
  refine fng_of0 Try.func14 rfl ?_
  refine awp0_seq (awp0_of (awp_go ?_))
  simp [Try.ntmps14]
  refine awp0_seq (awp0_of (awp_go ?_))
  simp
  refine awp0_seq (awp0_seq (awp0_of (awp_go ?_)))
  simp
  refine cal (All_fn w wi wo hw h1 h2) ?_
  simp
  have hlen : (rowsM w wi wo).length ≤ 1000000 := by have := rowsGo_len (fun it => matchI it wi wo) w.Items 0; have := hw.il; unfold rowsM; omega
  have hin : ∀ x ∈ rowsM w wi wo, x.2 ∈ w.Items := fun x hx => rowsGo_mem _ _ _ x hx
  have hn : countM w wi wo = (rowsM w wi wo).length := rfl
  generalize rowsM w wi wo = rows at hlen hin hn ⊢
  rw [hn]
  refine awp0_block (awp0_ent (s' := ⟨17, [(11, .clo (.func 123) [.eptr [.sl 4 (rows.map rowE)]]), (7, .ptr 0 0)], [some [kI 0]], 0⟩) (entm [1]) ?_)
  refine awp0_range (fun i => [some [kI i]]) (All1_seq rows hlen ?_ ?_) rfl en_123 rfl rfl ?_ (by simp) ?_ ?_
  · exact fun x hx => hw.ic _ (hin x hx)
  · exact fun x hx => hw.iv _ (hin x hx)
  · intro x hx
    obtain ⟨y, _, rfl⟩ := List.mem_map.1 hx
    rfl
  · intro i args σc hi
    rw [List.getElem?_map] at hi
    obtain ⟨x, hx, hi⟩ := Option.map_eq_some_iff.1 hi
    simp only [yRow, Prod.mk.injEq] at hi
    obtain ⟨rfl, rfl⟩ := hi
    have hil := (List.getElem?_eq_some_iff.1 hx).1
    refine awp_go ?_
    simp [roundSt, parT]
    refine awp_go ?_
    simp
    rw [wrap_id (by omega) (by omega)]
    refine ⟨_, Ent.refl _, ?_⟩
    exact entm [0]
  · simp only [List.length_map]
    simp only [inBlockA, thenA]
    refine awp0_of (awp_go ?_)
    simp
    exact finGm []
end Go.Proofs.Ytemlkbcfplkniaa.Am
