/- Package world: Fit. -/
import Derived.Test.YtccebflmbnpheaaSort1
import Derived.Test.YtccebflmbnpheaaSl11
set_option linter.unusedVariables false
set_option linter.unusedSimpArgs false
namespace Go.Proofs.Ytccebflmbnpheaa.Am
open Go Go.RowKit

set_option maxRecDepth 20000 in
theorem Fit1_fn (x c : GComp) : Fn Try.prog 44 [.agg x.e, .eptr c.e] (kB (decide (x.Kind = c.Kind))) := by
  refine fn_go Try.func44 rfl ?_
  simp [Try.ntmps44]
  exact finm (by simp)
def cK (x y : GComp) : Int := cmpI x.Kind y.Kind
set_option maxRecDepth 20000 in
theorem Fit2_fn (x y : GComp) : Fn Try.prog 47 [.agg x.e, .agg y.e] (kI (cK x y)) := by
  refine fn_go Try.func47 rfl ?_
  simp [Try.ntmps47]
  refine cal (Compare_fn x.Kind y.Kind) ?_
  simp
  exact finm (by simp [cK])
theorem insOut_len {α : Type} (c : α → α → Int) : ∀ (f i : Nat) (L : List α), (insOut c f i L).length = L.length
  | 0, _, _ => rfl
  | f + 1, i, L => by rw [insOut, insOut_len c f, insIn_len]
theorem insSort_len {α : Type} (c : α → α → Int) (L : List α) : (insSort c L).length = L.length := insOut_len c _ _ _

def fitGo (ks : List GKind) : List GComp → List GComp → List GComp → List GComp × Int
  | _, [], out => (insSort cK out, 0)
  | pre, c :: r, out =>
    if c.Kind < 0 ∨ (ks.length : Int) ≤ c.Kind then ([], 1)
    else if pre.any (fun x => decide (x.Kind = c.Kind)) = true then ([], 5)
    else if fitE (ks.getD c.Kind.toNat k0) c.Vals ≠ 0 then ([], fitE (ks.getD c.Kind.toNat k0) c.Vals)
    else fitGo ks (pre ++ [c]) r (out ++ [⟨c.Kind, fitV (ks.getD c.Kind.toNat k0) c.Vals⟩])
def fitC (ks : List GKind) (l : List GComp) : List GComp × Int := if checkE ks ≠ 0 then ([], checkE ks) else fitGo ks [] l []

set_option maxHeartbeats 1000000 in
set_option maxRecDepth 20000 in
theorem WFit_fn (ks : List GKind) (l : List GComp) (hk : ks.length ≤ 1000000) (hf : ∀ k ∈ ks, k.Fields.length ≤ 1000000) (hl : l.length ≤ 12) (hv : ∀ c ∈ l, c.Vals.length ≤ 1000) :
    Fn Try.prog 28 [.sl 2 (ks.map GKind.e), .sl 2 (l.map GComp.e)] (.tup [.sl 2 ((fitC ks l).1.map GComp.e), kI (fitC ks l).2]) := by
  refine fn_go Try.func28 rfl ?_
  simp [Try.ntmps28]
  refine cal (Check_fn ks (fun k hk => by have := hf k hk; omega) (by omega)) ?_
  by_cases h1 : checkE ks = 0
  · have hF : fitC ks l = fitGo ks [] l [] := by unfold fitC; rw [if_neg (by simp [h1])]
    obtain ⟨hk16, hk8⟩ := checkE_le h1
    simp [h1]
    refine awp_loop (fun x : Nat × List GComp => ⟨64, [(0, .sl 2 (ks.map GKind.e)), (1, .sl 2 (l.map GComp.e)), (7, .osl 0 2 0 x.2.length), (17, .sl 2 (l.map GComp.e)), (18, kI l.length), (19, kI x.1)], [some (x.2.map GComp.e).flatten], 0⟩)
      (fun x => x.1 ≤ l.length ∧ x.2.length = x.1 ∧ fitGo ks (l.take x.1) (l.drop x.1) x.2 = fitGo ks [] l []) (fun x => l.length - x.1) (0, []) ?_ ?_ ?_
    · exact (ent_nil (t := 7) (z := 2) rfl).trans (entm [0])
    · simp
    · rintro ⟨i, out⟩ ⟨hi, ho, hrun⟩
      simp only at hi ho hrun
      refine awp_go ?_
      by_cases hlt : i < l.length
      · rw [List.drop_eq_getElem_cons hlt, fitGo] at hrun
        have hvl := hv _ (List.getElem_mem hlt)
        have htk : l.take i ++ [l[i]] = l.take (i + 1) := List.take_append_getElem hlt
        obtain ⟨c, hc⟩ : ∃ c, l[i] = c := ⟨_, rfl⟩
        rw [hc] at hrun hvl htk
        by_cases p1 : c.Kind < 0
        · rw [if_pos (.inl p1)] at hrun
          simp [hlt, hc, p1]
          refine fin_ent (ent_nilsl (t := 4) (z := 2) rfl) ?_
          exact finm (by simp [hF, ← hrun])
        by_cases p2 : (ks.length : Int) ≤ c.Kind
        · rw [if_pos (.inr p2)] at hrun
          simp [hlt, hc, p1, p2]
          refine fin_ent (ent_nilsl (t := 4) (z := 2) rfl) ?_
          exact finm (by simp [hF, ← hrun])
        rw [if_neg (by omega)] at hrun
        obtain ⟨n, hn⟩ : ∃ n : Nat, c.Kind = n := ⟨c.Kind.toNat, by omega⟩
        have hnk : n < ks.length := by omega
        have hgd : ks.getD c.Kind.toNat k0 = ks[n] := by rw [hn]; simp [List.getD, hnk]
        rw [hgd] at hrun
        have hi2 : i ≤ l.length := hi
        simp [hlt, hc, p1, p2, hi2]
        refine ops_fz 1 c.e ?_
        simp
        refine cal (ContainsFuncC_fn (l.take i) 44 [.eptr c.e] (fun x => decide (x.Kind = c.Kind)) (by simp; omega) (by simp) (by simp) fun x _ => Fit1_fn x c) ?_
        by_cases p3 : (l.take i).any (fun x => decide (x.Kind = c.Kind)) = true
        · rw [if_pos p3] at hrun
          rw [p3]
          simp
          refine fin_ent (ent_nilsl (t := 4) (z := 2) rfl) ?_
          exact finm (by simp [hF, ← hrun])
        rw [if_neg p3] at hrun
        have p3' : (l.take i).any (fun x => decide (x.Kind = c.Kind)) = false := by simpa using p3
        rw [p3']
        simp
        refine awp_draw follows_mix [] [(0, [0]), (0, [0]), (0, [0]), (0, [0]), (0, [0]), (0, [0]), (0, [0]), (2, [0]), (0, [0]), (0, [0]), (0, [0]), (0, [0]), (0, [0])] 0 (by kernel_rfl) rfl ?_
        have hfk := hk8 _ (List.getElem_mem hnk)
        have hfit := Fit_fn ks[n] c.Vals (by omega) hvl
        obtain ⟨ck, cv⟩ := c
        simp only at hn
        subst hn
        simp [hnk]
        refine gD_call (.tup [slI (fitV ks[n] cv), kI (fitE ks[n] cv)]) ?_
        simp [hnk]
        refine ⟨calO hfit, ?_⟩
        by_cases p4 : fitE ks[n] cv = 0
        · rw [if_neg (by simp [p4])] at hrun
          have b1 : (out.length + 1) * 32 ≤ 140737488355328 := by omega
          have b2 : out.length + 1 ≤ maxLen := by simp only [maxLen]; omega
          simp [p4, b1, b2]
          rw [wrap_id (by omega) (by omega)]
          obtain ⟨y, hy⟩ : ∃ y : GComp, y = ⟨n, fitV ks[n] cv⟩ := ⟨_, rfl⟩
          rw [← hy, htk] at hrun
          refine ⟨i + 1, out ++ [y], ⟨by omega, by simp [ho], hrun⟩, by omega, entm [3] (hB := by simp [hy, GComp.e])⟩
        · rw [if_pos p4] at hrun
          simp [p4]
          refine fin_ent (ent_nilsl (t := 4) (z := 2) rfl) ?_
          exact finm (by simp [hF, ← hrun])
      · have : i = l.length := by omega
        subst this
        simp [fitGo] at hrun
        simp
        refine calD [0] (SortC_fn out 47 cK (by omega) en_47 Fit2_fn) ?_
        obtain ⟨R, hR⟩ : ∃ R, insSort cK out = R := ⟨_, rfl⟩
        have hRl : R.length = out.length := by rw [← hR, insSort_len]
        rw [hR] at hrun ⊢
        rw [← hRl]
        simp
        refine fin_fz 0 _ ?_
        simp
        exact finm (by simp [hF, ← hrun])
  · simp [h1]
    refine fin_ent (ent_nilsl (t := 4) (z := 2) rfl) ?_
    exact finm (by simp [fitC, h1])
end Go.Proofs.Ytccebflmbnpheaa.Am
