/- Package plan: conflicts. -/
import Derived.Test.YtmkgechjbbekmaaSl1
set_option linter.unusedVariables false
set_option linter.unusedSimpArgs false
namespace Go.Proofs.Ytmkgechjbbekmaa.Am
open Go Go.RowKit

def hitsB (x y : List Int) : Bool := x.any fun k => decide (k ∈ y)
def conflB (a b : GSystem) : Bool := hitsB a.Writes b.Writes || (hitsB a.Writes b.Reads || hitsB a.Reads b.Writes)
def SysLen (s : GSystem) : Prop := s.Reads.length ≤ 1000000 ∧ s.Writes.length ≤ 1000000

theorem Conflict11_fn (k : Int) (y : List Int) (hy : y.length ≤ 4611686018427387904) : Fn Try.prog 68 [kI k, .eptr [slI y]] (kB (decide (k ∈ y))) := by
  refine fn_go Try.func68 rfl ?_
  simp [Try.ntmps68]
  refine cal (ContainsI_fn y k hy) ?_
  simp
  exact finm

theorem Conflict1_fn (x y : List Int) (hx : x.length ≤ 4611686018427387904) (hy : y.length ≤ 4611686018427387904) : Fn Try.prog 66 [slI x, slI y] (kB (hitsB x y)) := by
  refine fn_go Try.func66 rfl ?_
  simp [Try.ntmps66]
  refine ops_fz 0 [slI y] ?_
  simp
  refine cal (ContainsFuncI_fn x 68 [.eptr [slI y]] (fun k => decide (k ∈ y)) hx (by simp) (by simp) (fun k _ => Conflict11_fn k y hy)) ?_
  simp
  exact finm (by simp [hitsB])

set_option maxRecDepth 20000 in
theorem Conflict_fn (a b : GSystem) (ha : SysLen a) (hb : SysLen b) : Fn Try.prog 36 [.agg a.e, .agg b.e] (kB (conflB a b)) := by
  obtain ⟨h1, h2⟩ := ha
  obtain ⟨h3, h4⟩ := hb
  refine fn_go Try.func36 rfl ?_
  simp [Try.ntmps36]
  refine cal (Conflict1_fn a.Writes b.Writes (by omega) (by omega)) ?_
  by_cases e1 : hitsB a.Writes b.Writes = true
  · simp [e1]
    exact finm (by simp [conflB, e1])
  · simp only [Bool.not_eq_true] at e1
    simp [e1]
    refine cal (Conflict1_fn a.Writes b.Reads (by omega) (by omega)) ?_
    by_cases e2 : hitsB a.Writes b.Reads = true
    · simp [e2]
      exact finm (by simp [conflB, e1, e2])
    · simp only [Bool.not_eq_true] at e2
      simp [e2]
      refine cal (Conflict1_fn a.Reads b.Writes (by omega) (by omega)) ?_
      simp
      exact finm (by simp [conflB, e1, e2])
end Go.Proofs.Ytmkgechjbbekmaa.Am
