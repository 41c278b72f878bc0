/- Package tourmake: the arguments of operations. -/
import Derived.Test.YtfojnhceiabbhaaGreatSl2
import Derived.Test.YtfojnhceiabbhaaGreatMake5
set_option linter.unusedVariables false
set_option linter.unusedSimpArgs false
namespace Go.Proofs.YtfojnhceiabbhaaGreat.Am
open Go Go.RowKit

def dKind : GKind := ⟨ByteArray.empty, []⟩
def flds (ks : List GKind) (i : Int) : Int := ((ks.getD i.toNat dKind).Fields.length : Int)
def argM (ks : List GKind) (seen l : List Int) : GArg × List Int :=
  if nextV l 2 = 0 then (⟨false, nextV (nextL l 2) 20 - 6, ⟨0, 0⟩⟩, nextL (nextL l 2) 20)
  else
    let i := seen.getD (nextV (nextL l 2) seen.length).toNat 0
    let l2 := nextL (nextL l 2) seen.length
    (⟨true, 0, ⟨i, nextV l2 (flds ks i)⟩⟩, nextL l2 (flds ks i))

/-- Indices of kinds. -/
def InKs (ks : List GKind) (l : List Int) : Prop := ∀ x ∈ l, 0 ≤ x ∧ x < (ks.length : Int)

theorem pick_in {ks : List GKind} {s l : List Int} (hs : InKs ks s) (h0 : 0 < s.length) : ∃ (j m : Nat) (hj : j < s.length) (hm : m < ks.length), nextV l s.length = j ∧ s[j] = (m : Int) ∧ s.getD (nextV l s.length).toNat 0 = m ∧ flds ks m = (ks[m].Fields.length : Int) := by
  have hv := nextV_lt (l := l) (n := (s.length : Int)) (by omega)
  obtain ⟨j, hj⟩ : ∃ j : Nat, nextV l s.length = j := ⟨(nextV l s.length).toNat, by omega⟩
  have hjl : j < s.length := by omega
  have hx := hs s[j] (List.getElem_mem hjl)
  obtain ⟨m, hm⟩ : ∃ m : Nat, s[j] = (m : Int) := ⟨(s[j]).toNat, by omega⟩
  have hml : m < ks.length := by omega
  refine ⟨j, m, hjl, hml, hj, hm, ?_, ?_⟩
  · rw [hj]; simp [List.getD, hjl, hm]
  · simp [flds, List.getD, hml]

set_option maxRecDepth 20000 in
theorem sysArg_fn (ks : List GKind) (seen l : List Int) (hk : OkKs ks) (h0 : 0 < seen.length) (h1 : seen.length ≤ 1000000) (hin : InKs ks seen) : FnD Tryz.prog 71 [.ptr 1 0, .eptr [slI seen], .eptr [.sl 2 (ks.map GKind.e)]] [[slI l], [.ptr 0 0]]
    (.agg (argM ks seen l).1.e) [some [slI (argM ks seen l).2], some [.ptr 0 0]] := by
  refine fnd_go Tryz.func71 rfl ?_
  simp [Tryz.ntmps71]
  refine calD [0] (Next_fn l 2 (by omega)) ?_
  by_cases h2 : nextV l 2 = 0
  · simp [h2]
    refine calD [0] (Next_fn (nextL l 2) 20 (by omega)) ?_
    have hv := nextV_lt (l := nextL l 2) (n := 20) (by omega)
    simp
    rw [wrap_id (by omega) (by omega)]
    exact finGm [0, 1] (hres := by simp [argM, h2, GArg.e]) (hB := by simp [argM, h2])
  · obtain ⟨j, m, hj, hm, e1, e2, e3, e4⟩ := pick_in (l := nextL l 2) hin h0
    have ha : argM ks seen l = (⟨true, 0, ⟨m, nextV (nextL (nextL l 2) seen.length) (flds ks m)⟩⟩, nextL (nextL (nextL l 2) seen.length) (flds ks m)) := by
      simp only [argM, h2, if_false, e3]
    simp [h2]
    have hkf := (hk.2 ks[m] (List.getElem_mem hm)).1
    have hN1 := Next_fn (nextL l 2) seen.length (by omega)
    have hN2 := Next_fn (nextL (nextL l 2) seen.length) (flds ks m) (by omega)
    rw [e1] at hN1
    generalize nextL (nextL l 2) seen.length = l3 at *
    rw [e4] at hN2
    refine awp_drawS follows_mix [(0, 0), (0, 0), (0, 0), (0, 0), (3, 0), (0, 0), (0, 0), (0, 0)] 3 3 [(0, 4)] (by kernel_rfl) rfl rfl ?_
    simp
    refine gE_callW (kI j) [0] [(0, some [slI l3])] rfl (fun y => ?_) ?_
    · simp
      exact doD [0] hN1
    simp [hj, e2]
    refine awp_drawS follows_mix [(0, 0), (0, 0), (0, 0), (0, 0), (0, 0), (0, 0), (0, 0), (0, 0), (3, 0), (0, 0), (0, 0), (1, 0)] 3 3 [(0, 8)] (by kernel_rfl) rfl rfl ?_
    simp [hm]
    refine gE_callW (kI (nextV l3 ks[m].Fields.length)) [0] [(0, some [slI (nextL l3 ks[m].Fields.length)])] rfl (fun y => ?_) ?_
    · simp
      exact doD [0] hN2
    simp [hm]
    exact finGm [0, 1] (hres := by simp [ha, e4, GArg.e]) (hB := by simp [ha, e4])
end Go.Proofs.YtfojnhceiabbhaaGreat.Am
