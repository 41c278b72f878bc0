/- EventLate: what is sent is read after the next turn, once. -/
import Derived.Test.YtmkgechjbbekmaaEv1
import Derived.Test.YtmkgechjbbekmaaRowE
set_option linter.unusedVariables false
set_option linter.unusedSimpArgs false
namespace Go.Proofs.Ytmkgechjbbekmaa.Am
open Go Go.RowKit

def ev5 : GEvent := ⟨0, ⟨0, 0⟩, 5⟩
def wantL (m : List GEvent) (i : Nat) : List GEvent := (ev5 :: m.take i).take 256

theorem wantL_len (m : List GEvent) (i : Nat) (hi : i ≤ m.length) : (wantL m i).length = min 256 (i + 1) := by
  simp [wantL]; omega
theorem wantL_full (m : List GEvent) (i : Nat) (hi : i < m.length) (h : 255 ≤ i) : wantL m (i + 1) = wantL m i := by
  unfold wantL
  have e : m.take (i + 1) = m.take i ++ [m[i]] := (List.take_append_getElem hi).symm
  rw [e, ← List.cons_append, List.take_append_of_le_length (by simp; omega)]
theorem wantL_more (m : List GEvent) (i : Nat) (hi : i < m.length) (h : i < 255) : wantL m (i + 1) = wantL m i ++ [m[i]] := by
  unfold wantL
  have e : m.take (i + 1) = m.take i ++ [m[i]] := (List.take_append_getElem hi).symm
  rw [e, List.take_of_length_le (i := 256) (by simp; omega), List.take_of_length_le (i := 256) (by simp; omega)]
  simp

set_option maxRecDepth 20000 in
theorem EventLate_law (m : List GEvent) (hw : ∀ e ∈ m, e.wf) (hm : m.length * 32 ≤ 140737488351232) : Fn Try.prog 3 [.sl 4 (m.map GEvent.e)] (kB true) := by
  refine fn_go Try.func3 rfl ?_
  simp [Try.ntmps3]
  refine calD [] New_fn ?_
  simp
  refine ops_ent (ent_cell 0 1 (tell_nil 4)) (ops_ent (ent_nilb (b := 0) (j := 0) (z := 4) rfl rfl) (ops_goH ?_))
  simp
  refine calD [0, 1] (Send_fn [] [] ev5 (by simp)) ?_ (hren := by simp [ev5, GEvent.e])
  simp
  refine calD [0, 2] (Waits_fn [ev5] []) ?_
  simp
  refine awp_loop (fun i : Nat => ⟨76, [(0, .sl 4 (m.map GEvent.e)), (3, .ptr 0 0), (4, .osl 2 4 0 (wantL m i).length), (23, .sl 4 (m.map GEvent.e)), (24, kI m.length), (25, kI i)],
    [some [.osl 1 4 0 (wantL m i).length, .sl 4 []], some ((wantL m i).map GEvent.e).flatten, some ((wantL m i).map GEvent.e).flatten], 0⟩) (fun i => i ≤ m.length) (fun i => m.length - i) 0 ?_ ?_ ?_
  · exact entm [0, 2, 3] (hT := by simp [wantL]) (hB := by simp [wantL, ev5, GEvent.e])
  · simp
  · intro i hi
    refine awp_go ?_
    have hW := wantL_len m i hi
    by_cases hlt : i < m.length
    · simp [hlt]
      by_cases hf : 255 ≤ i
      · refine calD [0, 1] (SendFull_fn (wantL m i) [] m[i] (by omega)) ?_
        simp
        rw [wrap_id (by omega) (by omega)]
        exact ⟨i + 1, by omega, by omega, entm [0, 1, 2] (hT := by simp [wantL_full m i hlt hf]) (hB := by simp [wantL_full m i hlt hf])⟩
      · have h1 : ((wantL m i).length + 1) * 32 ≤ 140737488355328 := by omega
        have h2 : (wantL m i).length + 1 ≤ maxLen := by simp only [maxLen]; omega
        refine calD [0, 1] (Send_fn (wantL m i) [] m[i] (by omega)) ?_
        simp [h1, h2]
        rw [wrap_id (by omega) (by omega)]
        exact ⟨i + 1, by omega, by omega, entm [0, 4, 6] (hT := by simp [wantL_more m i hlt (by omega)]) (hB := by simp [wantL_more m i hlt (by omega)])⟩
    · simp [hlt]
      have him : i = m.length := by omega
      subst him
      generalize wantL m m.length = W at *
      refine calD [0, 1] (Read_fn W [] (by simp)) ?_
      simp
      rw [wrap_id (by omega) (by omega)]
      have hWi : (W.length : Int) = if (256 : Int) < (m.length : Int) + 1 then 256 else (m.length : Int) + 1 := by split <;> omega
      simp [← hWi]
      refine calD [0, 1] (Turn_fn W []) ?_
      simp
      refine ops_ent (ent_fz 1 (W.map GEvent.e).flatten) (ops_goH ?_)
      simp
      refine ops_ent (ent_nilb (b := 0) (j := 0) (z := 4) rfl rfl) (ops_goH ?_)
      simp
      refine calD [0, 3] (Read_fn [] W (by omega)) ?_
      simp
      refine calS (EqualE_fn W W (by omega)) ?_
      simp
      refine calD [0, 3] (Read_fn [] W (by omega)) ?_
      simp
      refine calS (EqualE_fn W W (by omega)) ?_
      simp
      refine calD [0, 3] (Waits_fn [] W) ?_
      simp
      refine calD [0, 3] (Turn_fn [] W) ?_
      simp
      refine ops_ent (ent_fz 3 []) (ops_goH ?_)
      simp
      refine ops_ent (ent_nilb (b := 0) (j := 0) (z := 4) rfl rfl) (ops_goH ?_)
      simp
      refine calD [0, 4] (Read_fn [] [] (by simp)) ?_
      simp
      exact finm
end Go.Proofs.Ytmkgechjbbekmaa.Am
