/- Events: Of, Last, Split. -/
import Derived.Test.YtmkgechjbbekmaaPart2
set_option linter.unusedVariables false
set_option linter.unusedSimpArgs false
namespace Go.Proofs.Ytmkgechjbbekmaa.Am
open Go Go.RowKit

def ofP (s lo hi : Int) (e : GEvent) : Bool := (decide (s = -1) || decide (e.System = s)) && decide (lo ≤ e.Value) && decide (e.Value ≤ hi)
theorem filter_take {α : Type} (p : α → Bool) (l : List α) (i : Nat) (h : i < l.length) : (l.take (i + 1)).filter p = (l.take i).filter p ++ if p l[i] then [l[i]] else [] := by
  rw [← List.take_append_getElem h, List.filter_append]
  cases hp : p l[i] <;> simp [hp]
theorem filter_take_le {α : Type} (p : α → Bool) (l : List α) (i : Nat) : ((l.take i).filter p).length ≤ i :=
  Nat.le_trans (List.length_filter_le _ _) (by simp; omega)

set_option maxRecDepth 20000 in
theorem Of_fn (l : List GEvent) (s lo hi : Int) (hl : l.length * 32 ≤ 140737488351232) : Fn Try.prog 41 [.sl 4 (l.map GEvent.e), kI s, .agg [kI lo, kI hi]] (.sl 4 ((l.filter (ofP s lo hi)).map GEvent.e)) := by
  refine fn_go Try.func41 rfl ?_
  simp [Try.ntmps41]
  refine awp_loop (fun i : Nat => ⟨44, [(1, kI s), (5, .ptr 0 0), (7, .osl 1 4 0 ((l.take i).filter (ofP s lo hi)).length), (10, .sl 4 (l.map GEvent.e)), (11, kI l.length), (12, kI i)], [some [kI lo, kI hi], some (((l.take i).filter (ofP s lo hi)).map GEvent.e).flatten], 0⟩) (fun i => i ≤ l.length) (fun i => l.length - i) 0 ?_ ?_ ?_
  · exact (ent_nil (t := 7) (z := 4) rfl).trans (entm [0, 1])
  · simp
  · intro i hi'
    refine awp_go ?_
    by_cases hlt : i < l.length
    · have hlen := filter_take_le (ofP s lo hi) l i
      have hsucc := filter_take (ofP s lo hi) l i hlt
      generalize (l.take i).filter (ofP s lo hi) = out at hlen hsucc ⊢
      have hb1 : (out.length + 1) * 32 ≤ 140737488355328 := by omega
      have hb2 : out.length + 1 ≤ maxLen := by simp only [maxLen]; omega
      simp [hlt]
      by_cases c0 : s = -1
      · subst c0
        by_cases c2 : lo ≤ l[i].Value
        · by_cases c3 : l[i].Value ≤ hi
          · have hp : ofP (-1) lo hi l[i] = true := by simp [ofP, c2, c3]
            simp [hp] at hsucc
            simp [c2, c3, hb1, hb2]
            rw [wrap_id (by omega) (by omega)]
            exact ⟨i + 1, by omega, by omega, entm [0, 4] (hT := by simp [hsucc]) (hB := by simp [hsucc])⟩
          · have hp : ofP (-1) lo hi l[i] = false := by simp [ofP, c2, c3]
            simp [hp] at hsucc
            simp [c2, c3]
            rw [wrap_id (by omega) (by omega)]
            exact ⟨i + 1, by omega, by omega, entm [0, 1] (hT := by simp [hsucc]) (hB := by simp [hsucc])⟩
        · have hp : ofP (-1) lo hi l[i] = false := by simp [ofP, c2]
          simp [hp] at hsucc
          simp [c2]
          rw [wrap_id (by omega) (by omega)]
          exact ⟨i + 1, by omega, by omega, entm [0, 1] (hT := by simp [hsucc]) (hB := by simp [hsucc])⟩
      · by_cases c1 : l[i].System = s
        · by_cases c2 : lo ≤ l[i].Value
          · by_cases c3 : l[i].Value ≤ hi
            · have hp : ofP s lo hi l[i] = true := by simp [ofP, c0, c1, c2, c3]
              simp [hp] at hsucc
              simp [c0, c1, c2, c3, hb1, hb2]
              rw [wrap_id (by omega) (by omega)]
              exact ⟨i + 1, by omega, by omega, entm [0, 4] (hT := by simp [hsucc]) (hB := by simp [hsucc])⟩
            · have hp : ofP s lo hi l[i] = false := by simp [ofP, c0, c1, c2, c3]
              simp [hp] at hsucc
              simp [c0, c1, c2, c3]
              rw [wrap_id (by omega) (by omega)]
              exact ⟨i + 1, by omega, by omega, entm [0, 1] (hT := by simp [hsucc]) (hB := by simp [hsucc])⟩
          · have hp : ofP s lo hi l[i] = false := by simp [ofP, c0, c1, c2]
            simp [hp] at hsucc
            simp [c0, c1, c2]
            rw [wrap_id (by omega) (by omega)]
            exact ⟨i + 1, by omega, by omega, entm [0, 1] (hT := by simp [hsucc]) (hB := by simp [hsucc])⟩
        · have hp : ofP s lo hi l[i] = false := by simp [ofP, c0, c1]
          simp [hp] at hsucc
          simp [c0, c1]
          rw [wrap_id (by omega) (by omega)]
          exact ⟨i + 1, by omega, by omega, entm [0, 1] (hT := by simp [hsucc]) (hB := by simp [hsucc])⟩
    · simp [hlt]
      have : i = l.length := by omega
      subst this
      refine fin_fz 1 _ ?_
      simp
      exact finm (by simp)

def splP (its : List GItem) (e : GEvent) : Bool := its.any fun it => decide (it.Ent = e.Ent)
theorem Split1_fn (it : GItem) (e : GEvent) : Fn Try.prog 76 [.agg it.e, .eptr e.e] (kB (decide (it.Ent = e.Ent))) := by
  refine fn_go Try.func76 rfl ?_
  simp [Try.ntmps76]
  exact finm (by simp [GEnt.ext_iff'])

def lastIns (out : List GEvent) (e : GEvent) : List GEvent :=
  if bsOk (fun x => ordE x e) out then out.set (bs (fun x => ordE x e) out) e else out.take (bs (fun x => ordE x e) out) ++ e :: out.drop (bs (fun x => ordE x e) out)
theorem lastIns_len (out : List GEvent) (e : GEvent) : (lastIns out e).length ≤ out.length + 1 := by
  unfold lastIns
  have := bs_le (fun x => ordE x e) out
  split
  · simp
  · simp; omega
def lastL (l : List GEvent) : List GEvent := l.foldl lastIns []
@[simp] theorem lastL_nil : lastL [] = [] := rfl
theorem lastL_succ (l : List GEvent) (i : Nat) (h : i < l.length) : lastL (l.take (i + 1)) = lastIns (lastL (l.take i)) l[i] := by
  unfold lastL
  rw [← List.take_append_getElem h, List.foldl_append]; rfl
theorem lastL_len (l : List GEvent) : ∀ i, i ≤ l.length → (lastL (l.take i)).length ≤ i
  | 0, _ => by simp
  | i + 1, h => by
    rw [lastL_succ l i h]
    have := lastL_len l i (by omega)
    have := lastIns_len (lastL (l.take i)) l[i]
    omega

set_option maxRecDepth 20000 in
theorem Last_fn (l : List GEvent) (hl : l.length * 32 ≤ 140737488351232) : Fn Try.prog 43 [.sl 4 (l.map GEvent.e)] (.sl 4 ((lastL l).map GEvent.e)) := by
  refine fn_go Try.func43 rfl ?_
  simp [Try.ntmps43]
  refine awp_loop (fun i : Nat => ⟨32, [(3, .osl 0 4 0 (lastL (l.take i)).length), (8, .sl 4 (l.map GEvent.e)), (9, kI l.length), (10, kI i)], [some ((lastL (l.take i)).map GEvent.e).flatten], 0⟩) (fun i => i ≤ l.length) (fun i => l.length - i) 0 ?_ ?_ ?_
  · exact (ent_nil (t := 3) (z := 4) rfl).trans (entm [0])
  · simp
  · intro i hi
    refine awp_go ?_
    by_cases hlt : i < l.length
    · have hlen := lastL_len l i hi
      have hsucc := lastL_succ l i hlt
      generalize hout : lastL (l.take i) = out at hlen hsucc ⊢
      simp [hlt]
      refine calS (BinarySearchE_fn out l[i] 78 [] (fun x => ordE x l[i]) (by omega) (by simp) (by simp) fun x _ => order_fn x l[i]) ?_ (hren := by simp [GEvent.e])
      simp
      have hle := bs_le (fun x => ordE x l[i]) out
      cases hb : bsOk (fun x => ordE x l[i]) out with
      | true =>
        obtain ⟨hi2, _⟩ := bsOk_lt hb
        simp only [lastIns, hb, if_pos] at hsucc
        simp [hi2]
        have hl3 : (lastL (l.take (i + 1))).length = out.length := by rw [hsucc]; simp
        rw [row_set GEvent.e_len out _ l[i] hi2, ← hsucc, wrap_id (by omega) (by omega)]
        exact ⟨i + 1, by omega, by omega, entm [0] (hT := by simp [hl3])⟩
      | false =>
        simp [lastIns, hb] at hsucc
        simp
        refine calD [0, 2] (InsertE_fn out (bs (fun x => ordE x l[i]) out) l[i] hle (by omega)) ?_
        have hl3 : (lastL (l.take (i + 1))).length = out.length + 1 := by rw [hsucc]; simp; omega
        rw [← hsucc]
        simp
        rw [wrap_id (by omega) (by omega)]
        exact ⟨i + 1, by omega, by omega, entm [3] (hT := by simp [hl3])⟩
    · simp [hlt]
      have : i = l.length := by omega
      subst this
      refine fin_fz 0 _ ?_
      simp
      exact finm (by simp)
end Go.Proofs.Ytmkgechjbbekmaa.Am
