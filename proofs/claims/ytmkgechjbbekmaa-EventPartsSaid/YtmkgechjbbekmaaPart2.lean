/- Events: how many each system has. -/
import Derived.Test.YtmkgechjbbekmaaPart1
set_option linter.unusedVariables false
set_option linter.unusedSimpArgs false
namespace Go.Proofs.Ytmkgechjbbekmaa.Am
open Go Go.RowKit

def cntC (s : Int) : GCount → Int := fun x => cmpI x.System s
def cntIns (out : List GCount) (s : Int) : List GCount :=
  match bsOk (cntC s) out, out[bs (cntC s) out]? with
  | true, some x => out.set (bs (cntC s) out) ⟨x.System, x.N + 1⟩
  | _, _ => out.take (bs (cntC s) out) ++ ⟨s, 1⟩ :: out.drop (bs (cntC s) out)
theorem cntIns_ok {out : List GCount} {s : Int} (h : bsOk (cntC s) out = true) (hi : bs (cntC s) out < out.length) : cntIns out s = out.set (bs (cntC s) out) ⟨out[bs (cntC s) out].System, out[bs (cntC s) out].N + 1⟩ := by
  simp [cntIns, h, hi]
theorem cntIns_no {out : List GCount} {s : Int} (h : bsOk (cntC s) out = false) : cntIns out s = out.take (bs (cntC s) out) ++ ⟨s, 1⟩ :: out.drop (bs (cntC s) out) := by
  simp [cntIns, h]
theorem cntIns_len (out : List GCount) (s : Int) : (cntIns out s).length ≤ out.length + 1 := by
  cases h : bsOk (cntC s) out with
  | true => rw [cntIns_ok h (bsOk_lt h).1]; simp
  | false =>
    rw [cntIns_no h]
    have := bs_le (cntC s) out
    simp; omega
theorem cntIns_bd {out : List GCount} {k : Int} (s : Int) (hk : 0 ≤ k) (h : ∀ x ∈ out, 0 ≤ x.N ∧ x.N ≤ k) : ∀ x ∈ cntIns out s, 0 ≤ x.N ∧ x.N ≤ k + 1 := by
  cases hb : bsOk (cntC s) out with
  | true =>
    rw [cntIns_ok hb (bsOk_lt hb).1]
    intro x hx
    rcases List.mem_or_eq_of_mem_set hx with h1 | h1
    · have := h x h1; omega
    · have := h _ (List.getElem_mem (bsOk_lt hb).1)
      subst h1; simp only; omega
  | false =>
    rw [cntIns_no hb]
    intro x hx
    rcases List.mem_append.1 hx with h1 | h1
    · have := h x (List.mem_of_mem_take h1); omega
    · rcases List.mem_cons.1 h1 with h2 | h2
      · subst h2; simp only; omega
      · have := h x (List.mem_of_mem_drop h2); omega
def countsL (l : List GEvent) : List GCount := l.foldl (fun o e => cntIns o e.System) []
@[simp] theorem countsL_nil : countsL [] = [] := rfl
theorem countsL_succ (l : List GEvent) (i : Nat) (h : i < l.length) : countsL (l.take (i + 1)) = cntIns (countsL (l.take i)) l[i].System := by
  unfold countsL
  rw [← List.take_append_getElem h, List.foldl_append]; rfl
theorem countsL_len (l : List GEvent) : ∀ i, i ≤ l.length → (countsL (l.take i)).length ≤ i
  | 0, _ => by simp [countsL]
  | i + 1, h => by
    rw [countsL_succ l i h]
    have := countsL_len l i (by omega)
    have := cntIns_len (countsL (l.take i)) l[i].System
    omega
theorem countsL_bd (l : List GEvent) : ∀ (i : Nat), i ≤ l.length → ∀ x ∈ countsL (l.take i), 0 ≤ x.N ∧ x.N ≤ (i : Int)
  | 0, _ => by simp [countsL]
  | i + 1, h => by
    rw [countsL_succ l i h]
    have := cntIns_bd l[i].System (by omega) (countsL_bd l i (by omega))
    simpa using this

set_option maxRecDepth 20000 in
theorem Counts_fn (l : List GEvent) (hl : l.length * 32 ≤ 140737488351232) : Fn Try.prog 40 [.sl 4 (l.map GEvent.e)] (.sl 2 ((countsL l).map GCount.e)) := by
  refine fn_go Try.func40 rfl ?_
  simp [Try.ntmps40]
  refine awp_loop (fun i : Nat => ⟨40, [(3, .osl 0 2 0 (countsL (l.take i)).length), (8, .sl 4 (l.map GEvent.e)), (9, kI l.length), (10, kI i)], [some ((countsL (l.take i)).map GCount.e).flatten], 0⟩) (fun i => i ≤ l.length) (fun i => l.length - i) 0 ?_ ?_ ?_
  · exact (ent_nil (t := 3) (z := 2) rfl).trans (entm [0])
  · simp
  · intro i hi
    refine awp_go ?_
    by_cases hlt : i < l.length
    · have hlen := countsL_len l i hi
      have hbd := countsL_bd l i hi
      have hsucc := countsL_succ l i hlt
      generalize hout : countsL (l.take i) = out at hlen hbd hsucc ⊢
      generalize hs : l[i].System = s at hsucc
      simp [hlt]
      rw [hs]
      refine calS (BinarySearchN_fn out s 72 [] (cntC s) (by omega) (by simp) (by simp) fun x _ => Counts1_fn x s) ?_
      simp
      have hle := bs_le (cntC s) out
      cases hb : bsOk (cntC s) out with
      | true =>
        obtain ⟨hi2, _⟩ := bsOk_lt hb
        rw [cntIns_ok hb hi2] at hsucc
        have hN := hbd _ (List.getElem_mem hi2)
        have hq : bs (cntC s) out * 2 + 1 + 1 ≤ out.length * 2 := by omega
        have hrow := row_put GCount.e_len out (bs (cntC s) out) 1 (kI (out[bs (cntC s) out].N + 1)) ⟨out[bs (cntC s) out].System, out[bs (cntC s) out].N + 1⟩ hi2 (by omega) rfl
        simp [hi2, hq]
        rw [wrap_id (x := out[bs (cntC s) out].N + 1) (by omega) (by omega), hrow, ← hsucc, wrap_id (by omega) (by omega)]
        have hl3 : (countsL (l.take (i + 1))).length = out.length := by rw [hsucc]; simp
        exact ⟨i + 1, by omega, by omega, entm [0] (hT := by simp [hl3])⟩
      | false =>
        rw [cntIns_no hb] at hsucc
        simp [hs]
        refine calD [0, 2] (InsertN_fn out (bs (cntC s) out) ⟨s, 0⟩ hle (by omega)) ?_ (hbox := by simp [GCount.e])
        obtain ⟨o2, ho2⟩ : ∃ o2, out.take (bs (cntC s) out) ++ (⟨s, 0⟩ : GCount) :: out.drop (bs (cntC s) out) = o2 := ⟨_, rfl⟩
        have hl2 : o2.length = out.length + 1 := by rw [← ho2]; simp; omega
        have hi2 : bs (cntC s) out < o2.length := by omega
        have htl : (out.take (bs (cntC s) out)).length = bs (cntC s) out := by simp; omega
        have hg2 : o2[bs (cntC s) out] = ⟨s, 0⟩ := by
          have : o2[bs (cntC s) out]? = some ⟨s, 0⟩ := by rw [← ho2, List.getElem?_append_right (by omega), htl]; simp
          rw [List.getElem?_eq_getElem hi2] at this; simpa using this
        have hs2 : o2.set (bs (cntC s) out) ⟨s, 1⟩ = countsL (l.take (i + 1)) := by
          rw [hsucc, ← ho2, List.set_append_right _ _ (by omega), htl]; simp
        have hq : bs (cntC s) out * 2 + 1 + 1 ≤ o2.length * 2 := by omega
        have hrow := row_put GCount.e_len o2 (bs (cntC s) out) 1 (kI 1) ⟨s, 1⟩ hi2 (by omega) (by rw [hg2]; rfl)
        have hl3 : (countsL (l.take (i + 1))).length = out.length + 1 := by rw [← hs2]; simp [hl2]
        rw [ho2]
        rw [hl2] at hi2 hq
        have hi3 : ((bs (cntC s) out : Nat) : Int) < (out.length : Int) + 1 := by omega
        simp [hi3, hi2, hq, hl2, hg2]
        rw [hrow, hs2, wrap_id (by omega) (by omega)]
        exact ⟨i + 1, by omega, by omega, entm [3] (hT := by simp [hl3])⟩
    · simp [hlt]
      have : i = l.length := by omega
      subst this
      refine fin_fz 0 _ ?_
      simp
      exact finm (by simp)
end Go.Proofs.Ytmkgechjbbekmaa.Am
