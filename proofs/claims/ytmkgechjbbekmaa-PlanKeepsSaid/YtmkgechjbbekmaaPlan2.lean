/- Package plan: depths. -/
import Derived.Test.YtmkgechjbbekmaaPlan1
import Derived.Test.YtmkgechjbbekmaaKind6
set_option linter.unusedVariables false
set_option linter.unusedSimpArgs false
namespace Go.Proofs.Ytmkgechjbbekmaa.Am
open Go Go.RowKit

def dSys : GSystem := ⟨ByteArray.empty, [], [], [], [], [], []⟩
def confAt (l : List GSystem) (j i : Nat) : Bool := conflB (l.getD j dSys) (l.getD i dSys)
/-- The depth of system i, as told by the systems before j. -/
def depAt (l : List GSystem) (out : List Int) (i : Nat) : Nat → Int
  | 0 => 1
  | j + 1 => if confAt l j i = true then max (depAt l out i j) (out.getD j 0 + 1) else depAt l out i j
def depsL (l : List GSystem) : Nat → List Int
  | 0 => []
  | i + 1 => depsL l i ++ [depAt l (depsL l i) i i]
theorem depsL_len (l : List GSystem) : ∀ n, (depsL l n).length = n
  | 0 => rfl
  | n + 1 => by simp [depsL, depsL_len l n]
theorem max_if (x y : Int) : (if x < y then y else x) = max x y := by omega
theorem depAt_le (l : List GSystem) (out : List Int) (B : Int) (hB : 1 ≤ B) (h : ∀ x ∈ out, 1 ≤ x ∧ x + 1 ≤ B) (i : Nat) : ∀ j, j ≤ out.length → 1 ≤ depAt l out i j ∧ depAt l out i j ≤ B
  | 0, _ => ⟨Int.le_refl _, hB⟩
  | j + 1, hj => by
    have ih := depAt_le l out B hB h i j (by omega)
    have hx := h out[j] (List.getElem_mem (by omega))
    have e : out.getD j 0 = out[j] := by simp [List.getD, List.getElem?_eq_getElem (show j < out.length by omega)]
    unfold depAt
    rw [e]
    split <;> omega
theorem depsL_le (l : List GSystem) : ∀ n, ∀ x ∈ depsL l n, 1 ≤ x ∧ x ≤ (n : Int)
  | 0, x, hx => by simp [depsL] at hx
  | n + 1, x, hx => by
    simp only [depsL, List.mem_append, List.mem_singleton] at hx
    rcases hx with hx | rfl
    · have := depsL_le l n x hx; omega
    · have := depAt_le l (depsL l n) (n + 1) (by omega) (fun y hy => by have := depsL_le l n y hy; omega) n n (by rw [depsL_len]; exact Nat.le_refl _)
      omega

set_option maxRecDepth 20000 in
theorem depths_fn (l : List GSystem) (hl : l.length ≤ 1000000) (hs : ∀ s ∈ l, SysLen s) : Fn Try.prog 70 [.sl 7 (l.map GSystem.e)] (slI (depsL l l.length)) := by
  refine fn_go Try.func70 rfl ?_
  have h1 : 8 * (l.length : Int) ≤ 281474976710656 := by omega
  have h2 : (l.length : Int) ≤ 9223372036854775807 := by omega
  simp [Try.ntmps70, h1, h2]
  refine awp_loop (fun i : Nat => ⟨46, [(0, .sl 7 (l.map GSystem.e)), (3, .osl 0 1 0 l.length), (10, kI l.length), (11, kI i)], [some ((depsL l i ++ List.replicate (l.length - i) 0).map kI)], 0⟩) (fun i => i ≤ l.length) (fun i => l.length - i) 0 ?_ ?_ ?_
  · exact entm [0] (hB := by simp [depsL])
  · simp
  · intro i hi
    refine awp_go ?_
    by_cases hlt : i < l.length
    · obtain ⟨m, hm⟩ : ∃ m, l.length - i = m + 1 := ⟨l.length - i - 1, by omega⟩
      have hd := depsL_len l i
      have hk : i + 1 ≤ i + (l.length - i) := by omega
      simp [hlt, hd, hk]
      refine awp_loop (fun j : Nat => ⟨46, [(0, .sl 7 (l.map GSystem.e)), (3, .osl 0 1 0 l.length), (4, kI i), (10, kI l.length), (11, kI i), (17, kI i), (18, kI j)], [some ((depsL l i ++ depAt l (depsL l i) i j :: List.replicate m 0).map kI)], 0⟩) (fun j => j ≤ i) (fun j => i - j) 0 ?_ ?_ ?_
      · have hD : ((depsL l i).map kI).drop (i + 1) = [] := List.drop_of_length_le (by simp [hd])
        exact entm [0] (hB := by simp [hm, depAt, hd, List.replicate_succ, List.drop_append, hD])
      · simp
      · intro j hj
        refine awp_go ?_
        by_cases hji : j < i
        · have hjl : j < l.length := by omega
          simp [hji]
          refine awp_draw follows_mix [] [(0, [0]), (0, [0]), (0, [0]), (0, [0]), (0, [0]), (0, [0]), (0, [0]), (0, [0]), (2, [0])] 0 (by kernel_rfl) rfl ?_
          simp [hlt, hjl]
          refine gD_call (kB (confAt l j i)) ?_
          have ecf : confAt l j i = conflB l[j] l[i] := by simp [confAt, List.getD, hjl, hlt]
          simp [hlt, hjl]
          refine ⟨by rw [ecf]; exact calO (Conflict_fn l[j] l[i] (hs _ (List.getElem_mem hjl)) (hs _ (List.getElem_mem hlt))), ?_⟩
          have hdj : (depsL l i)[j]? = some ((depsL l i).getD j 0) := by simp [List.getD, List.getElem?_eq_getElem (show j < (depsL l i).length by omega)]
          have hb := depAt_le l (depsL l i) (i + 1) (by omega) (fun y hy => by have := depsL_le l i y hy; omega) i j (by omega)
          have hdl := depsL_le l i ((depsL l i).getD j 0) (by simp [List.getD, List.getElem?_eq_getElem (show j < (depsL l i).length by omega)])
          by_cases hc : confAt l j i = true
          · obtain ⟨dv, hdv⟩ : ∃ dv, (depsL l i).getD j 0 = dv := ⟨_, rfl⟩
            obtain ⟨av, hav⟩ : ∃ av, depAt l (depsL l i) i j = av := ⟨_, rfl⟩
            have hbi : (List.map kI (depsL l i) ++ kI av :: List.replicate m (kI 0))[i]? = some (kI av) := by rw [List.getElem?_append_right (by simp [hd])]; simp [hd]
            have hbj : (List.map kI (depsL l i) ++ kI av :: List.replicate m (kI 0))[j]? = some (kI dv) := by rw [List.getElem?_append_left (by simp [hd]; omega), List.getElem?_map, hdj, hdv]; rfl
            have hlb : i + 1 ≤ i + (m + 1) := by omega
            rw [hav] at hb
            rw [hdv] at hdl
            have hw : IntKind.i64.wrap (dv + 1) = dv + 1 := wrap_id (by omega) (by omega)
            simp [hc, hav]
            refine awp_drawS follows_mix [(0, 0), (0, 0), (0, 0), (0, 0), (0, 0), (0, 0), (0, 0), (0, 0), (0, 0), (0, 0), (0, 0), (0, 0), (0, 0), (1, 0)] 1 1 [] (by kernel_rfl) rfl rfl ?_
            simp [hlt, hjl, hbi, hbj, hd, hlb, hw]
            rw [wrap_id (by omega) (by omega)]
            refine ⟨j + 1, by omega, by omega, entm [0] (hB := ?_)⟩
            have hD : ((depsL l i).map kI).drop (i + 1) = [] := List.drop_of_length_le (by simp [hd])
            have hdv2 : (depsL l i)[j]?.getD 0 = dv := by rw [← hdv]; rfl
            simp [depAt, hc, hdv2, hav, hd, List.drop_append, hD, max_if]
          · simp [hc]
            rw [wrap_id (by omega) (by omega)]
            exact ⟨j + 1, by omega, by omega, entm [0] (hB := by simp [depAt, hc])⟩
        · have hjj : j = i := by omega
          subst hjj
          simp
          rw [wrap_id (by omega) (by omega)]
          exact ⟨j + 1, by omega, by omega, entm [0] (hB := by simp [depsL, show l.length - (j + 1) = m by omega])⟩
    · simp [hlt]
      have hin : i = l.length := by omega
      subst hin
      refine fin_fz 0 ((depsL l l.length).map kI) ?_ (hb := by simp)
      simp
      exact finm (by simp [slI_def, chunks_ints', depsL_len])
end Go.Proofs.Ytmkgechjbbekmaa.Am
