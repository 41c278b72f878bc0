/- Package event: queues; slices of events. -/
import Derived.Test.YtmkgechjbbekmaaDat
set_option linter.unusedVariables false
set_option linter.unusedSimpArgs false
namespace Go.Proofs.Ytmkgechjbbekmaa.Am
open Go Go.RowKit

theorem CloneE_fn (l : List GEvent) (hl : l.length ≤ 1000000000) : Fn Try.prog 57 [.sl 4 (l.map GEvent.e)] (.sl 4 (l.map GEvent.e)) := by
  refine fn_go Try.func57 rfl ?_
  simp [Try.ntmps57]
  refine calNil (neq := false) (fun b hb => ?_)
  cases b with
  | true =>
    have : l = [] := by
      cases l with
      | nil => rfl
      | cons x r => exact absurd (hb (by simp)) (by simp)
    subst this
    simp
    exact fin_ent (ent_nilsl (t := 2) (z := 4) rfl) finm
  | false =>
    have h1 : l.length * 32 ≤ 140737488355328 := by omega
    have h2 : l.length ≤ maxLen := by simp only [maxLen]; omega
    simp [h1, h2]
    exact fin_fz 1 (l.map GEvent.e).flatten finm

set_option maxRecDepth 20000 in
theorem EqualE_fn (a b : List GEvent) (ha : a.length ≤ 1000000000) : Fn Try.prog 18 [.sl 4 (a.map GEvent.e), .sl 4 (b.map GEvent.e)] (kB (decide (a = b))) := by
  refine fn_go Try.func18 rfl ?_
  simp [Try.ntmps18]
  by_cases h : a.length = b.length
  · have h' : (a.length : Int) = b.length := by omega
    simp [h']
    refine awp_loop (fun i : Nat => ⟨26, [(0, .sl 4 (a.map GEvent.e)), (1, .sl 4 (b.map GEvent.e)), (12, kI b.length), (13, kI i)], [], 0⟩) (fun i => i ≤ a.length ∧ a.take i = b.take i) (fun i => a.length - i) 0 ?_ ?_ ?_
    · exact entm []
    · simp
    · intro i ⟨hi, hp⟩
      refine awp_go ?_
      by_cases hlt : i < b.length
      · have hla : i < a.length := by omega
        simp [hlt]
        refine awp_draw follows_mix [] [(0, [0]), (0, [0]), (0, [0]), (0, [0]), (0, [0]), (0, [0]), (0, [0]), (0, [0]), (0, [0])] 0 (by kernel_rfl) rfl ?_
        simp [hlt, hla]
        by_cases he : a[i] = b[i]
        · simp [he]
          rw [wrap_id (by omega) (by omega)]
          exact ⟨i + 1, ⟨by omega, take_extG hla hlt hp he⟩, by omega, entm []⟩
        · simp [he]
          have hne : a ≠ b := fun e => by subst e; exact he rfl
          exact finm (by simp [hne])
      · simp [hlt]
        have hab : a = b := by
          have e1 : a.take i = a := List.take_of_length_le (by omega)
          have e2 : b.take i = b := List.take_of_length_le (by omega)
          rw [← e1, ← e2]; exact hp
        exact finm (by simp [hab])
  · have h' : ¬ ((a.length : Int) = b.length) := by omega
    simp [h']
    have hne : a ≠ b := fun e => by subst e; exact h rfl
    exact finm (by simp [hne])

theorem New_fn : FnD Try.prog 13 [] [] (.ptr 0 0) [some [kNil, kNil]] := by
  refine fnd_go Try.func13 rfl ?_
  simp [Try.ntmps13]
  exact finGm [0]

theorem Waits_fn (l : List GEvent) (rd : List GEvent) : FnD Try.prog 15 [.ptr 0 0] [[.osl 1 4 0 l.length, .sl 4 (rd.map GEvent.e)], (l.map GEvent.e).flatten] (kI l.length) [some [.osl 1 4 0 l.length, .sl 4 (rd.map GEvent.e)], some (l.map GEvent.e).flatten] := by
  refine fnd_go Try.func15 rfl ?_
  simp [Try.ntmps15]
  exact finGm [0, 1]

theorem Read_fn (l : List GEvent) (rd : List GEvent) (hr : rd.length ≤ 1000000000) : FnD Try.prog 16 [.ptr 0 0] [[.osl 1 4 0 l.length, .sl 4 (rd.map GEvent.e)], (l.map GEvent.e).flatten] (.sl 4 (rd.map GEvent.e)) [some [.osl 1 4 0 l.length, .sl 4 (rd.map GEvent.e)], some (l.map GEvent.e).flatten] := by
  refine fnd_go Try.func16 rfl ?_
  simp [Try.ntmps16]
  refine cal (CloneE_fn rd hr) ?_
  simp
  exact finGm [0, 1]

theorem Turn_fn (l : List GEvent) (rd : List GEvent) : FnD Try.prog 17 [.ptr 0 0] [[.osl 1 4 0 l.length, .sl 4 (rd.map GEvent.e)], (l.map GEvent.e).flatten] (.tup []) [some [kNil, .osl 1 4 0 l.length], some (l.map GEvent.e).flatten] := by
  refine fnd_go Try.func17 rfl ?_
  simp [Try.ntmps17]
  exact finGm [0, 1]

theorem SendFull_fn (l rd : List GEvent) (e : GEvent) (hl : 256 ≤ l.length) : FnD Try.prog 14 [.ptr 0 0, .agg e.e] [[.osl 1 4 0 l.length, .sl 4 (rd.map GEvent.e)], (l.map GEvent.e).flatten]
    (kI 6) [some [.osl 1 4 0 l.length, .sl 4 (rd.map GEvent.e)], some (l.map GEvent.e).flatten] := by
  refine fnd_go Try.func14 rfl ?_
  simp [Try.ntmps14]
  have h' : (256 : Int) ≤ l.length := by omega
  simp [h']
  exact finGm [0, 1]

theorem Send_fn (l rd : List GEvent) (e : GEvent) (hl : l.length < 256) : FnD Try.prog 14 [.ptr 0 0, .agg e.e] [[.osl 1 4 0 l.length, .sl 4 (rd.map GEvent.e)], (l.map GEvent.e).flatten]
    (kI 0) [some [.osl 2 4 0 (l.length + 1), .sl 4 (rd.map GEvent.e)], none, some ((l.map GEvent.e).flatten ++ e.e)] := by
  refine fnd_go Try.func14 rfl ?_
  simp [Try.ntmps14]
  have h' : ¬ (256 : Int) ≤ l.length := by omega
  have h1 : (l.length + 1) * 32 ≤ 140737488355328 := by omega
  have h2 : l.length + 1 ≤ maxLen := by simp only [maxLen]; omega
  simp [h']
  refine awp_drawS follows_mix [(0, 0), (0, 0), (0, 0), (0, 0), (0, 0), (0, 0), (4, 3), (4, 4), (0, 0), (0, 0), (1, 0)] 3 5 [(0, 6), (0, 7), (1, 6), (2, 6), (3, 6), (4, 6)] (by kernel_rfl) rfl rfl ?_
  simp [h1, h2]
  exact finGm [0, 1, 4]
end Go.Proofs.Ytmkgechjbbekmaa.Am
