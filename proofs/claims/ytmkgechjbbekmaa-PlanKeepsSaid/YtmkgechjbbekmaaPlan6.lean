/- Package plan: a longest chain. -/
import Derived.Test.YtmkgechjbbekmaaPlan2
set_option linter.unusedVariables false
set_option linter.unusedSimpArgs false
namespace Go.Proofs.Ytmkgechjbbekmaa.Am
open Go Go.RowKit

/-- The longest chain from system i on, as told by the t systems behind it. -/
def resAt (l : List GSystem) (i : Nat) (r : List Int) : Nat → Int
  | 0 => 1
  | t + 1 => if confAt l i (i + 1 + t) = true then max (resAt l i r t) (r.getD t 0 + 1) else resAt l i r t
def resL (l : List GSystem) (n : Nat) : Nat → List Int
  | 0 => []
  | k + 1 => resAt l (n - (k + 1)) (resL l n k) k :: resL l n k
def bestL : List Int → Int
  | [] => 0
  | x :: r => max (bestL r) x
theorem resL_len (l : List GSystem) (n : Nat) : ∀ k, (resL l n k).length = k
  | 0 => rfl
  | k + 1 => by simp [resL, resL_len l n k]
theorem resAt_le (l : List GSystem) (i : Nat) (r : List Int) (B : Int) (hB : 1 ≤ B) (h : ∀ x ∈ r, 1 ≤ x ∧ x + 1 ≤ B) : ∀ t, t ≤ r.length → 1 ≤ resAt l i r t ∧ resAt l i r t ≤ B
  | 0, _ => ⟨Int.le_refl _, hB⟩
  | t + 1, ht => by
    have ih := resAt_le l i r B hB h t (by omega)
    have hx := h r[t] (List.getElem_mem (by omega))
    have e : r.getD t 0 = r[t] := by simp [List.getD, List.getElem?_eq_getElem (show t < r.length by omega)]
    unfold resAt
    rw [e]
    split <;> omega
theorem resL_le (l : List GSystem) (n : Nat) : ∀ k, ∀ x ∈ resL l n k, 1 ≤ x ∧ x ≤ (k : Int)
  | 0, x, hx => by simp [resL] at hx
  | k + 1, x, hx => by
    simp only [resL, List.mem_cons] at hx
    rcases hx with rfl | hx
    · exact resAt_le l _ _ _ (by omega) (fun y hy => by have := resL_le l n k y hy; omega) k (by rw [resL_len]; exact Nat.le_refl _)
    · have := resL_le l n k x hx; omega
theorem bestL_le {B : Int} (hB : 0 ≤ B) : ∀ r : List Int, (∀ x ∈ r, x ≤ B) → 0 ≤ bestL r ∧ bestL r ≤ B
  | [], _ => ⟨Int.le_refl _, hB⟩
  | x :: r, h => by
    have ih := bestL_le hB r (fun y hy => h y (by simp [hy]))
    have := h x (by simp)
    simp only [bestL]; omega

def chC (l : List GSystem) (rest : List Int) (best : Int) (out : List Int) (i : Nat) : Bool :=
  decide ((out.length : Int) < best) && (decide (rest.getD i 0 = best - out.length) && (decide (out = []) || confAt l (out.getD (out.length - 1) 0).toNat i))
def chGo (l : List GSystem) (rest : List Int) (best : Int) : Nat → Nat → List Int → List Int
  | 0, _, out => out
  | n + 1, i, out => chGo l rest best n (i + 1) (if chC l rest best out i = true then out ++ [(i : Int)] else out)
def chainL (l : List GSystem) : List Int := chGo l (resL l l.length l.length) (bestL (resL l l.length l.length)) l.length 0 []

theorem calSkip {P : Program} {ops : Array Oper} {o : Oper} {N k : Nat} {T : List (Nat × PV)} (hw : ∀ σ, wantedA ⟨N, T, σ, k⟩ ops o = some false := by exact fun _ => rfl) : CallOk P ops o N k T (.tup []) := fun σ => .inr ⟨hw σ, rfl, rfl⟩

set_option maxRecDepth 20000 in
set_option maxHeartbeats 1000000 in
theorem Chain_fn (l : List GSystem) (hl : l.length ≤ 24) (hs : ∀ s ∈ l, SysLen s) : Fn Try.prog 38 [.sl 7 (l.map GSystem.e)] (.tup [slI (chainL l), kI 0]) := by
  refine fn_go Try.func38 rfl ?_
  have h0 : ¬ (24 : Int) < l.length := by omega
  have h1 : 8 * (l.length : Int) ≤ 281474976710656 := by omega
  have h2 : (l.length : Int) ≤ 9223372036854775807 := by omega
  simp [Try.ntmps38, h0, h1, h2]
  rw [wrap_id (by omega) (by omega)]
  refine awp_loop (fun k : Nat => ⟨109, [(0, .sl 7 (l.map GSystem.e)), (4, .osl 0 1 0 l.length), (5, kI (bestL (resL l l.length k))), (6, kI ((l.length : Int) - 1 - k))], [some ((List.replicate (l.length - k) 0 ++ resL l l.length k).map kI)], 0⟩) (fun k => k ≤ l.length) (fun k => l.length - k) 0 ?_ ?_ ?_
  · exact entm [0] (hT := by simp [resL, bestL]) (hB := by simp [resL])
  · simp
  · intro k hk
    refine awp_go ?_
    by_cases hlt : k < l.length
    · obtain ⟨i, hi⟩ : ∃ i, l.length - k = i + 1 := ⟨l.length - k - 1, by omega⟩
      have hil : i < l.length := by omega
      have ei : (l.length : Int) - 1 - k = (i : Int) := by omega
      have ein : l.length - (k + 1) = i := by omega
      have hrl := resL_len l l.length k
      have hr := resL_le l l.length k
      have hbs := bestL_le (B := (k : Int)) (by omega) _ (fun x hx => (hr x hx).2)
      have hi1 : i + 1 ≤ i + 1 + k := by omega
      rw [ei]
      simp [hi, hil, hrl]
      rw [wrap_id (by omega) (by omega)]
      obtain ⟨r, hre⟩ : ∃ r, resL l l.length k = r := ⟨_, rfl⟩
      rw [hre] at hrl hr hbs ⊢
      refine awp_loop (fun t : Nat => ⟨109, [(0, .sl 7 (l.map GSystem.e)), (4, .osl 0 1 0 l.length), (5, kI (bestL r)), (6, kI i), (7, kI ((i : Int) + 1 + t))], [some ((List.replicate i 0 ++ resAt l i r t :: r).map kI)], 0⟩) (fun t => t ≤ k) (fun t => k - t) 0 ?_ ?_ ?_
      · exact entm [0] (hB := by simp [resAt, List.replicate_succ', List.drop_append])
      · simp
      · intro t ht
        refine awp_go ?_
        by_cases htk : t < k
        · have hj : i + 1 + t < l.length := by omega
          obtain ⟨j, hje⟩ : ∃ j, i + 1 + t = j := ⟨_, rfl⟩
          have ej : (i : Int) + 1 + t = (j : Int) := by omega
          rw [hje] at hj
          rw [ej]
          simp [hj]
          refine awp_draw follows_mix [] [(0, [0]), (0, [0]), (0, [0]), (0, [0]), (0, [0]), (0, [0]), (0, [0]), (0, [0]), (2, [0])] 0 (by kernel_rfl) rfl ?_
          simp [hil, hj]
          refine gD_call (kB (confAt l i j)) ?_
          have ecf : confAt l i j = conflB l[i] l[j] := by simp [confAt, List.getD, hil, hj]
          simp [hil, hj]
          refine ⟨by rw [ecf]; exact calO (Conflict_fn l[i] l[j] (hs _ (List.getElem_mem hil)) (hs _ (List.getElem_mem hj))), ?_⟩
          obtain ⟨rv, hrv⟩ : ∃ rv, r.getD t 0 = rv := ⟨_, rfl⟩
          have hrt : r[t]? = some rv := by rw [← hrv]; simp [List.getD, List.getElem?_eq_getElem (show t < r.length by omega)]
          have hrb := hr rv (List.mem_of_getElem? hrt)
          have hrb2 := resAt_le l i r (k + 1) (by omega) (fun y hy => by have := hr y hy; omega) t (by omega)
          obtain ⟨av, hav⟩ : ∃ av, resAt l i r t = av := ⟨_, rfl⟩
          rw [hav] at hrb2
          have hjn : IntKind.i64.wrap ((j : Int) + 1) = (i : Int) + 1 + ((t + 1 : Nat) : Int) := by rw [wrap_id (by omega) (by omega)]; omega
          have hstep : resAt l i r (t + 1) = if confAt l i j = true then max av (rv + 1) else av := by rw [resAt, hje, hav, hrv]
          by_cases hc : confAt l i j = true
          · have hbi : (List.replicate i (kI 0) ++ kI av :: r.map kI)[i]? = some (kI av) := by rw [List.getElem?_append_right (by simp)]; simp
            have hbj : (List.replicate i (kI 0) ++ kI av :: r.map kI)[j]? = some (kI rv) := by
              rw [List.getElem?_append_right (by simp; omega), List.length_replicate, show j - i = t + 1 by omega, List.getElem?_cons_succ, List.getElem?_map, hrt]; rfl
            have hw : IntKind.i64.wrap (rv + 1) = rv + 1 := wrap_id (by omega) (by omega)
            have hlb : i + 1 ≤ i + (k + 1) := by omega
            simp [hc, hav]
            refine awp_drawS follows_mix [(0, 0), (0, 0), (0, 0), (0, 0), (0, 0), (0, 0), (0, 0), (0, 0), (0, 0), (0, 0), (0, 0), (0, 0), (0, 0), (1, 0)] 1 1 [] (by kernel_rfl) rfl rfl ?_
            simp [hil, hj, hbi, hbj, hw, hrl, hlb]
            refine ⟨t + 1, by omega, by omega, entm [0] (hT := by simp [hjn]) (hB := by simp [hstep, hc, List.drop_append, max_if])⟩
          · simp [hc]
            exact ⟨t + 1, by omega, by omega, entm [0] (hT := by simp [hjn]) (hB := by simp [hstep, hc, hav])⟩
        · have htk' : t = k := by omega
          subst htk'
          have ej : (i : Int) + 1 + t = (l.length : Int) := by omega
          rw [ej]
          have hbi : (List.replicate i (kI 0) ++ kI (resAt l i r t) :: r.map kI)[i]? = some (kI (resAt l i r t)) := by rw [List.getElem?_append_right (by simp)]; simp
          have hrb2 := resAt_le l i r (t + 1) (by omega) (fun y hy => by have := hr y hy; omega) t (by omega)
          simp [hil, hbi]
          rw [wrap_id (by omega) (by omega)]
          refine ⟨t + 1, by omega, by omega, entm [0] (hT := ?_) (hB := ?_)⟩
          · have : (i : Int) - 1 = (l.length : Int) - 1 - ((t + 1 : Nat) : Int) := by omega
            simp [this, resL, bestL, hre, ein, max_if]
          · simp [resL, hre, ein]
    · have hkn : k = l.length := by omega
      subst hkn
      have e1 : (l.length : Int) - 1 - (l.length : Int) = -1 := by omega
      rw [e1]
      have hr := resL_le l l.length l.length
      have hrl := resL_len l l.length l.length
      have hbs := bestL_le (B := (l.length : Int)) (by omega) _ (fun x hx => (hr x hx).2)
      have hch : chainL l = chGo l (resL l l.length l.length) (bestL (resL l l.length l.length)) l.length 0 [] := rfl
      obtain ⟨r, hre⟩ : ∃ r, resL l l.length l.length = r := ⟨_, rfl⟩
      obtain ⟨best, hbe⟩ : ∃ b, bestL r = b := ⟨_, rfl⟩
      rw [hre] at hr hrl hbs hch ⊢
      rw [hbe] at hbs hch ⊢
      simp
      refine awp_loop (fun x : Nat × List Int => ⟨109, [(0, .sl 7 (l.map GSystem.e)), (4, .osl 0 1 0 l.length), (5, kI best), (8, .osl 1 1 0 x.2.length), (63, kI l.length), (64, kI x.1)], [some (r.map kI), some (x.2.map kI)], 0⟩)
        (fun x => x.1 ≤ l.length ∧ x.2.length ≤ x.1 ∧ (∀ y ∈ x.2, 0 ≤ y ∧ y < (l.length : Int)) ∧ chGo l r best (l.length - x.1) x.1 x.2 = chainL l) (fun x => l.length - x.1) (0, []) ?_ ?_ ?_
      · exact (ent_nil (t := 8) (z := 1) rfl).trans (entm [0, 1])
      · exact ⟨by simp, by simp, by simp, by simpa using hch.symm⟩
      · rintro ⟨i, out⟩ ⟨hi, hol, hin, hrun⟩
        simp only at hi hol hin hrun
        refine awp_go ?_
        by_cases hlt : i < l.length
        · rw [show l.length - i = (l.length - (i + 1)) + 1 by omega, chGo] at hrun
          have c1 : (out.length + 1) * 8 ≤ 140737488355328 := by omega
          have c2 : out.length + 1 ≤ maxLen := by simp only [maxLen]; omega
          simp [hlt]
          obtain ⟨rv, hrv⟩ : ∃ rv, r.getD i 0 = rv := ⟨_, rfl⟩
          have hri : r[i]? = some rv := by rw [← hrv]; simp [List.getD, List.getElem?_eq_getElem (show i < r.length by omega)]
          have hw1 : IntKind.i64.wrap (best - (out.length : Int)) = best - out.length := wrap_id (by omega) (by omega)
          have hnew : ∀ y ∈ out ++ [(i : Int)], 0 ≤ y ∧ y < (l.length : Int) := fun y hy => by
            rcases List.mem_append.1 hy with hy | hy
            · exact hin y hy
            · simp at hy; omega
          by_cases g1 : (out.length : Int) < best
          · by_cases g2 : rv = best - out.length
            · by_cases g3 : out = []
              · have hC : chC l r best out i = true := by simp only [chC, g3]; rw [g3] at g1 g2; simp only [hrv]; simp [g2]; simpa using g1
                subst g3
                simp at g1 g2 hw1
                refine awp_draw follows_mix [] [(0, [0]), (0, [0]), (0, [0]), (0, [0]), (0, [0]), (0, [0]), (0, [0]), (0, [0]), (0, [0]), (0, [0]), (0, [0]), (0, [0]), (0, [0]), (0, [0]), (0, [0]), (0, [0]), (0, [0]), (0, [0]), (0, [0]), (0, [0]), (0, [0]), (0, [0]), (0, [0]), (0, [0]), (0, [0]), (0, [0]), (0, [0]), (0, [0]), (0, [0]), (0, [0]), (0, [0]), (0, [0]), (0, [0]), (2, [0]), (0, [0]), (0, [0])] 0 (by kernel_rfl) rfl ?_
                have hm1 : 1 ≤ maxLen := by simp only [maxLen]; omega
                simp [g1, hri, g2, hw1, hlt, hm1]
                refine ⟨calSkip, ?_⟩
                rw [wrap_id (by omega) (by omega)]
                exact ⟨i + 1, [(i : Int)], ⟨by omega, by simp, by simpa using hnew, by rw [if_pos hC] at hrun; exact hrun⟩, by omega, entm [0, 3]⟩
              · have hol0 := List.length_pos_iff.2 g3
                obtain ⟨m, hm⟩ : ∃ m, out.length = m + 1 := ⟨out.length - 1, by omega⟩
                have hml : m < out.length := by omega
                have hlast := hin out[m] (List.getElem_mem hml)
                obtain ⟨q, hq⟩ : ∃ q : Nat, out[m] = q := ⟨(out[m]).toNat, by omega⟩
                have hql : q < l.length := by omega
                have hoq : out[m]? = some (q : Int) := by rw [List.getElem?_eq_getElem hml, hq]
                have ecf : confAt l q i = conflB l[q] l[i] := by simp [confAt, List.getD, hql, hlt]
                have hC : chC l r best out i = confAt l q i := by
                  have e : (out.getD (out.length - 1) 0).toNat = q := by rw [hm]; simp [List.getD, hoq]
                  simp only [chC, hrv, e]
                  simp [g1, g2, g3]
                have hwm : IntKind.i64.wrap ((m : Int)) = m := wrap_id (by omega) (by omega)
                have g1' : ((m : Int) + 1) < best := by omega
                have g2' : rv = best - ((m : Int) + 1) := by omega
                have hw1' : IntKind.i64.wrap (best - ((m : Int) + 1)) = best - ((m : Int) + 1) := wrap_id (by omega) (by omega)
                have hm0 : ¬ ((m : Int) + 1 = 0) := by omega
                have hmm : (m : Int) < m + 1 := by omega
                refine awp_draw follows_mix [] [(0, [0]), (0, [0]), (0, [0]), (0, [0]), (0, [0]), (0, [0]), (0, [0]), (0, [0]), (0, [0]), (0, [0]), (0, [0]), (0, [0]), (0, [0]), (0, [0]), (0, [0]), (0, [0]), (0, [0]), (0, [0]), (0, [0]), (0, [0]), (0, [0]), (0, [0]), (0, [0]), (0, [0]), (0, [0]), (0, [0]), (0, [0]), (0, [0]), (0, [0]), (0, [0]), (0, [0]), (0, [0]), (0, [0]), (2, [0]), (0, [0]), (0, [0])] 0 (by kernel_rfl) rfl ?_
                simp [hm, g1', hri, g2', hw1', hm0, hwm, hoq, hq, hql, hlt, hmm]
                refine gD_call (kB (confAt l q i)) ?_
                simp [hm, g1', hri, g2', hw1', hm0, hwm, hoq, hq, hql, hlt, hmm]
                refine ⟨by rw [ecf]; exact calO (Conflict_fn l[q] l[i] (hs _ (List.getElem_mem hql)) (hs _ (List.getElem_mem hlt))), ?_⟩
                by_cases hc : confAt l q i = true
                · have c1' : (m + 1 + 1) * 8 ≤ 140737488355328 := by omega
                  have c2' : m + 1 + 1 ≤ maxLen := by omega
                  simp [hc, c1', c2', hm]
                  rw [wrap_id (by omega) (by omega)]
                  exact ⟨i + 1, out ++ [(i : Int)], ⟨by omega, by simp; omega, hnew, by rw [if_pos (by rw [hC]; exact hc)] at hrun; exact hrun⟩, by omega, entm [0, 3] (hT := by simp [hm]) (hB := by simp [hm])⟩
                · simp [hc]
                  rw [wrap_id (by omega) (by omega)]
                  exact ⟨i + 1, out, ⟨by omega, by omega, hin, by rw [if_neg (by rw [hC]; exact hc)] at hrun; exact hrun⟩, by omega, entm [0, 1] (hT := by simp [hm]) (hB := by simp [hm])⟩
            · have hC : chC l r best out i = false := by simp only [chC, hrv]; simp [g2]
              refine awp_draw follows_mix [] [(0, [0]), (0, [0]), (0, [0]), (0, [0]), (0, [0]), (0, [0]), (0, [0]), (0, [0]), (0, [0]), (0, [0]), (0, [0]), (0, [0]), (0, [0]), (0, [0]), (0, [0]), (0, [0]), (0, [0]), (0, [0]), (0, [0]), (0, [0]), (0, [0]), (0, [0]), (0, [0]), (0, [0]), (0, [0]), (0, [0]), (0, [0]), (0, [0]), (0, [0]), (0, [0]), (0, [0]), (0, [0]), (0, [0]), (2, [0]), (0, [0]), (0, [0])] 0 (by kernel_rfl) rfl ?_
              simp [g1, hri, g2, hw1, hlt]
              refine ⟨calSkip, ?_⟩
              rw [wrap_id (by omega) (by omega)]
              exact ⟨i + 1, out, ⟨by omega, by omega, hin, by rw [if_neg (by simp [hC])] at hrun; exact hrun⟩, by omega, entm [0, 1]⟩
          · have hC : chC l r best out i = false := by simp only [chC]; simp [g1]
            refine awp_draw follows_mix [] [(0, [0]), (0, [0]), (0, [0]), (0, [0]), (0, [0]), (0, [0]), (0, [0]), (0, [0]), (0, [0]), (0, [0]), (0, [0]), (0, [0]), (0, [0]), (0, [0]), (0, [0]), (0, [0]), (0, [0]), (0, [0]), (0, [0]), (0, [0]), (0, [0]), (0, [0]), (0, [0]), (0, [0]), (0, [0]), (0, [0]), (0, [0]), (0, [0]), (0, [0]), (0, [0]), (0, [0]), (0, [0]), (0, [0]), (2, [0]), (0, [0]), (0, [0])] 0 (by kernel_rfl) rfl ?_
            simp [g1]
            refine ⟨calSkip, ?_⟩
            rw [wrap_id (by omega) (by omega)]
            exact ⟨i + 1, out, ⟨by omega, by omega, hin, by rw [if_neg (by simp [hC])] at hrun; exact hrun⟩, by omega, entm [0, 1]⟩
        · have hil : i = l.length := by omega
          subst hil
          rw [Nat.sub_self, chGo] at hrun
          simp
          refine fin_fz 1 (out.map kI) ?_
          simp
          exact finm (by simp [hrun])
end Go.Proofs.Ytmkgechjbbekmaa.Am
