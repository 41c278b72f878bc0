/- Several texts in one. -/
import Derived.Test.YtbddlekpoelmkaaSl9
import Derived.Test.YtbddlekpoelmkaaWChk1
import Derived.Test.YtbddlekpoelmkaaWCopy
import Derived.Test.YtbddlekpoelmkaaCopy2
import Derived.Test.YtbddlekpoelmkaaGet1
import Derived.Test.YtbddlekpoelmkaaMig6
import Derived.Test.YtbddlekpoelmkaaCmp
import Derived.Test.YtbddlekpoelmkaaOvl
import Derived.Test.YtbddlekpoelmkaaWLaw1
import Derived.Test.YtbddlekpoelmkaaBegun
import Derived.Test.YtbddlekpoelmkaaSame1
import Derived.Test.YtbddlekpoelmkaaNames1
import Derived.Test.YtbddlekpoelmkaaInts2
set_option linter.unusedVariables false
set_option linter.unusedSimpArgs false
/- The library's slice functions, at the program's types. -/
namespace Go.Proofs.Ytbddlekpoelmkaa.Am
open Go Go.RowKit

set_option maxRecDepth 20000 in
theorem IndexFuncC_fn (l : List GComp) (fn : FuncId) (caps : List PV) (p : GComp → Bool) (hl : l.length ≤ 4611686018427387904) (he : enterable Try.prog fn = true) (hc : ltL 0 caps = true)
    (hf : ∀ x ∈ l, Fn Try.prog fn (.agg x.e :: caps) (kB (p x))) : Fn Try.prog 103 [.sl 2 (l.map GComp.e), .clo (.func fn) caps] (kI (idxB p l)) := by
  refine fn_go Try.func103 rfl ?_
  simp [Try.ntmps103]
  refine awp_loop (fun i : Nat => ⟨19, [(0, .sl 2 (l.map GComp.e)), (1, .clo (.func fn) caps), (7, kI l.length), (8, kI i)], [], 0⟩) (fun i => i ≤ l.length ∧ ∀ j, j < i → ∀ x, l[j]? = some x → p x = false) (fun i => l.length - i) 0 ?_ ?_ ?_
  · exact entm [] (hT := by simp [renL_lt0 _ _ hc, hc])
  · simp
  · intro i ⟨hi, hno⟩
    refine awp_go ?_
    by_cases hlt : i < l.length
    · simp [hlt]
      refine cal (hf l[i] (List.getElem_mem hlt)) ?_ (he := he) (hlt := by simp [hc])
      by_cases hp : p l[i] = true
      · simp [hp]
        exact finm (by simp [idxB_some hlt hno hp])
      · have hp' : p l[i] = false := by simpa using hp
        simp [hp']
        rw [wrap_id (by omega) (by omega)]
        exact ⟨i + 1, ⟨by omega, no_succ hlt hno hp'⟩, by omega, entm [] (hT := by simp [renL_lt0 _ _ hc, hc])⟩
    · simp [hlt]
      have : i = l.length := by omega
      subst this
      exact finm (by simp [idxB_none hno])

theorem ContainsFuncC_fn (l : List GComp) (fn : FuncId) (caps : List PV) (p : GComp → Bool) (hl : l.length ≤ 4611686018427387904) (he : enterable Try.prog fn = true) (hc : ltL 0 caps = true)
    (hf : ∀ x ∈ l, Fn Try.prog fn (.agg x.e :: caps) (kB (p x))) : Fn Try.prog 87 [.sl 2 (l.map GComp.e), .clo (.func fn) caps] (kB (l.any p)) := by
  refine fn_go Try.func87 rfl ?_
  simp [Try.ntmps87]
  refine cal (IndexFuncC_fn l fn caps p hl he hc hf) ?_ (hlt := by simp [hc])
  have h := idxB_any p l
  simp
  exact finm (by simp [h])

end Go.Proofs.Ytbddlekpoelmkaa.Am
/- The library's sort of components by a comparison, up to twelve of them. -/
namespace Go.Proofs.Ytbddlekpoelmkaa.Am
open Go Go.RowKit

def insIn {α : Type} (c : α → α → Int) : Nat → List α → List α
  | 0, L => L
  | j + 1, L => match L[j]?, L[j + 1]? with
    | some x, some y => if c y x < 0 then insIn c j ((L.set (j + 1) x).set j y) else L
    | _, _ => L
theorem insIn_len {α : Type} (c : α → α → Int) : ∀ (j : Nat) (L : List α), (insIn c j L).length = L.length
  | 0, L => rfl
  | j + 1, L => by
    unfold insIn
    split
    · split
      · rw [insIn_len c j]; simp
      · rfl
    · rfl
/-- From the i-th on, one after the other is put in its place. -/
def insOut {α : Type} (c : α → α → Int) : Nat → Nat → List α → List α
  | 0, _, L => L
  | f + 1, i, L => insOut c f (i + 1) (insIn c i L)
def insSort {α : Type} (c : α → α → Int) (L : List α) : List α := insOut c (L.length - 1) 1 L

set_option maxHeartbeats 1000000 in
set_option maxRecDepth 20000 in
theorem insC_fn (l : List GComp) (fn : FuncId) (c : GComp → GComp → Int) (hl : l.length ≤ 12) (he : enterable Try.prog fn = true) (hf : ∀ x y, Fn Try.prog fn [.agg (GComp.e x), .agg (GComp.e y)] (kI (c x y))) :
    FnD Try.prog 109 [.osl 0 2 0 l.length, kI 0, kI l.length, .clo (.func fn) []] [(l.map GComp.e).flatten] (.tup []) [some ((insSort c l).map GComp.e).flatten] := by
  obtain ⟨n, hn⟩ : ∃ n, l.length = n := ⟨_, rfl⟩
  obtain ⟨R, hR⟩ : ∃ R, insSort c l = R := ⟨_, rfl⟩
  rw [hn] at hl ⊢
  rw [hR]
  refine fnd_go Try.func109 rfl ?_
  simp [Try.ntmps109]
  refine awp_loop (fun x : Nat × List GComp => ⟨53, [(0, .osl 0 2 0 n), (1, kI 0), (2, kI n), (3, .clo (.func fn) []), (8, kI x.1)], [some (x.2.map GComp.e).flatten], 1⟩)
    (fun x => 1 ≤ x.1 ∧ x.1 ≤ n + 1 ∧ x.2.length = n ∧ insOut c (n - x.1) x.1 x.2 = R) (fun x => n + 1 - x.1) (1, l) ?_ ?_ ?_
  · exact entm [0]
  · exact ⟨Nat.le_refl _, by omega, hn, by rw [← hR, insSort, hn]⟩
  · rintro ⟨i, L⟩ ⟨hi1, hi, hL, hrun⟩
    simp only at hi1 hi hL hrun
    refine awp_go ?_
    by_cases hlt : i < n
    · rw [show n - i = (n - (i + 1)) + 1 by omega, insOut] at hrun
      simp [hlt]
      refine awp_loop (fun x : Nat × List GComp => ⟨53, [(0, .osl 0 2 0 n), (1, kI 0), (2, kI n), (3, .clo (.func fn) []), (8, kI i), (9, kI x.1)], [some (x.2.map GComp.e).flatten], 1⟩)
        (fun x => x.1 ≤ i ∧ x.2.length = n ∧ insIn c x.1 x.2 = insIn c i L) (fun x => x.1) (i, L) ?_ ?_ ?_
      · exact entm [0]
      · exact ⟨Nat.le_refl _, hL, rfl⟩
      · rintro ⟨j, M⟩ ⟨hj, hM, hin⟩
        simp only at hj hM hin
        refine awp_go ?_
        cases j with
        | zero =>
          simp
          refine awp_draw follows_mix [] [(0, [0]), (0, [0]), (0, [0]), (0, [0]), (0, [0]), (0, [0]), (0, [0]), (0, [0]), (0, [0]), (0, [0]), (0, [0]), (0, [0]), (0, [0]), (0, [0]), (2, [0]), (0, [0]), (0, [0])] 0 (by kernel_rfl) rfl ?_
          simp
          refine ⟨calSkp, ?_⟩
          rw [wrap_id (by omega) (by omega)]
          have hM2 : M = insIn c i L := hin
          subst hM2
          exact ⟨i + 1, insIn c i L, ⟨by omega, by omega, hM, hrun⟩, by omega, entm [0]⟩
        | succ j =>
          have h1 : j < M.length := by omega
          have h2 : j + 1 < M.length := by omega
          have h3 : j + 1 < n := by omega
          have h4 : j < n := by omega
          rw [insIn, List.getElem?_eq_getElem h1, List.getElem?_eq_getElem h2] at hin
          simp only at hin
          have g1 : (j + 1) * 2 + 2 ≤ M.length * 2 := by omega
          have g2 : j * 2 + 2 ≤ M.length * 2 := by omega
          have w1 : (((j + 1 : Nat) : Int) - 1) = (j : Int) := by omega
          have w2 : ((j : Int) + 1 - 1) = (j : Int) := by omega
          have w3 : (0 : Int) < (j : Int) + 1 := by omega
          have w4 : ((j : Int) + 1).toNat = j + 1 := by omega
          have w5 : (0 : Int) ≤ (j : Int) + 1 := by omega
          simp
          refine awp_draw follows_mix [] [(0, [0]), (0, [0]), (0, [0]), (0, [0]), (0, [0]), (0, [0]), (0, [0]), (0, [0]), (0, [0]), (0, [0]), (0, [0]), (0, [0]), (0, [0]), (0, [0]), (2, [0]), (0, [0]), (0, [0])] 0 (by kernel_rfl) rfl ?_
          have w6 : (j : Int) + 1 < (n : Int) := by omega
          have e1 : (M[j + 1]? : Option GComp) = some M[j + 1] := List.getElem?_eq_getElem h2
          simp [w1, w2, w3, w4, w5, w6, h1, h2, h3, h4, g1, g2]
          rw [wrap_id (by omega) (by omega)]
          simp [w1, w2, w3, w4, w5, w6, h1, h2, h3, h4, g1, g2]
          refine gD_call (kI (c M[j + 1] M[j])) ?_
          simp [w1, w2, w3, w4, w5, w6, h1, h2, h3, h4, g1, g2]
          refine ⟨⟨wrap_id (by omega) (by omega), calO (hf M[j + 1] M[j]) (he := he)⟩, ?_⟩
          by_cases hlt2 : c M[j + 1] M[j] < 0
          · rw [if_pos hlt2] at hin
            have r1 := row_set (e := GComp.e) (z := 2) (fun _ => rfl) M (j + 1) M[j] h2
            obtain ⟨M1, hM1⟩ : ∃ M1, M.set (j + 1) M[j] = M1 := ⟨_, rfl⟩
            have hM1l : M1.length = M.length := by rw [← hM1]; simp
            have r2 := row_set (e := GComp.e) (z := 2) (fun _ => rfl) M1 j M[j + 1] (by omega)
            obtain ⟨M2, hM2⟩ : ∃ M2, M1.set j M[j + 1] = M2 := ⟨_, rfl⟩
            rw [hM1] at r1 hin
            rw [hM2] at r2 hin
            have g3 : j * 2 + 2 ≤ M1.length * 2 := by omega
            simp [hlt2]
            refine awp_draw follows_mix [] [(0, [0]), (0, [0]), (0, [0, 1]), (0, [0, 1]), (0, [0, 1]), (0, [0]), (0, [0]), (0, [0]), (0, [0]), (0, [0]), (0, [0]), (0, [0]), (0, [0]), (0, [0]), (0, [0]), (1, [0]), (0, [1]), (1, [1])] 2 (by kernel_rfl) rfl ?_
            simp [w1, w2, w3, w4, w5, w6, h1, h2, h3, h4, g1, g2]
            rw [wrap_id (by omega) (by omega)]
            simp [w1, w2, w3, w4, w5, w6, h1, h2, h3, h4, g1, g2, g3, r1, r2]
            have hM2l : M2.length = n := by rw [← hM2]; simp [hM1l, hM]
            rw [wrap_id (by omega) (by omega)]
            exact ⟨rfl, j, M2, ⟨by omega, hM2l, hin⟩, by omega, entm [0]⟩
          · rw [if_neg hlt2] at hin
            simp [hlt2]
            rw [wrap_id (by omega) (by omega)]
            rw [← hin] at hrun
            exact ⟨i + 1, M, ⟨by omega, by omega, hM, hrun⟩, by omega, entm [0]⟩
    · simp [hlt]
      have hR2 : L = R := by
        rw [← hrun, show n - i = 0 by omega]; rfl
      subst hR2
      exact finGm [0]

theorem ba_get (d : Array UInt8) (k : Nat) : (ByteArray.mk d)[k]? = d[k]? := rfl
def len8 : Nat → Int
  | 0 => 0 | 1 => 1 | 2 => 2 | 3 => 2 | 4 => 3 | 5 => 3 | 6 => 3 | 7 => 3 | _ => 4
set_option maxRecDepth 20000 in
theorem Len64_fn (x : Nat) (hx : x ≤ 12) : Fn Try.prog 118 [.k (.int .u64 x)] (kI (len8 x)) := by
  refine fn_go Try.func118 rfl ?_
  simp [Try.ntmps118]
  have h1 : ¬ (4294967296 : Int) ≤ (x : Int) := by omega
  have h2 : ¬ (65536 : Int) ≤ (x : Int) := by omega
  have h3 : ¬ (256 : Int) ≤ (x : Int) := by omega
  simp [h1, h2, h3]
  have hw : IntKind.u8.wrap (x : Int) = x := by rw [IntKind.wrap_u8]; omega
  rw [hw]
  have hcs : x = 0 ∨ x = 1 ∨ x = 2 ∨ x = 3 ∨ x = 4 ∨ x = 5 ∨ x = 6 ∨ x = 7 ∨ x = 8 ∨ x = 9 ∨ x = 10 ∨ x = 11 ∨ x = 12 := by omega
  rcases hcs with rfl | rfl | rfl | rfl | rfl | rfl | rfl | rfl | rfl | rfl | rfl | rfl | rfl
  all_goals
    simp [ba_get]
    exact finm (by simp [len8, IntKind.wrap_i64])
theorem Len_fn (x : Nat) (hx : x ≤ 12) : Fn Try.prog 105 [.k (.int .u64 x)] (kI (len8 x)) := by
  refine fn_go Try.func105 rfl ?_
  simp [Try.ntmps105]
  refine cal (Len64_fn x hx) ?_
  simp
  exact finm (by simp)

set_option maxHeartbeats 1000000 in
set_option maxRecDepth 20000 in
theorem pdqC_fn (l : List GComp) (r : Int) (fn : FuncId) (c : GComp → GComp → Int) (hl : l.length ≤ 12) (he : enterable Try.prog fn = true) (hf : ∀ x y, Fn Try.prog fn [.agg (GComp.e x), .agg (GComp.e y)] (kI (c x y))) :
    FnD Try.prog 104 [.osl 0 2 0 l.length, kI 0, kI l.length, kI r, .clo (.func fn) []] [(l.map GComp.e).flatten] (.tup []) [some ((insSort c l).map GComp.e).flatten] := by
  refine fnd_go Try.func104 rfl ?_
  simp [Try.ntmps104]
  refine awp_loop (fun _ : Unit => ⟨148, [(0, .osl 0 2 0 l.length), (1, kI 0), (2, kI l.length), (3, kI r), (4, .clo (.func fn) [])], [some (l.map GComp.e).flatten], 1⟩) (fun _ => True) (fun _ => 0) () ?_ trivial ?_
  · exact entm [0]
  · rintro ⟨⟩ _
    refine awp_go ?_
    have h12 : (l.length : Int) ≤ 12 := by omega
    simp
    rw [wrap_id (by omega) (by omega)]
    simp [h12]
    refine calD [0] (insC_fn l fn c hl he hf) ?_
    simp
    obtain ⟨R, hR⟩ : ∃ R, insSort c l = R := ⟨_, rfl⟩
    rw [hR]
    exact finGm [0]
theorem SortC_fn (l : List GComp) (fn : FuncId) (c : GComp → GComp → Int) (hl : l.length ≤ 12) (he : enterable Try.prog fn = true) (hf : ∀ x y, Fn Try.prog fn [.agg (GComp.e x), .agg (GComp.e y)] (kI (c x y))) :
    FnD Try.prog 89 [.osl 0 2 0 l.length, .clo (.func fn) []] [(l.map GComp.e).flatten] (.tup []) [some ((insSort c l).map GComp.e).flatten] := by
  refine fnd_go Try.func89 rfl ?_
  simp [Try.ntmps89]
  have hw : IntKind.u64.wrap (l.length : Int) = l.length := by
    simp [IntKind.wrap, IntKind.bits, IntKind.signed]; omega
  simp [hw]
  refine cal (Len_fn l.length hl) ?_
  simp
  refine calD [0] (pdqC_fn l (len8 l.length) fn c hl he hf) ?_
  simp
  exact finGm [0] (hB := by simp)
end Go.Proofs.Ytbddlekpoelmkaa.Am
/- Package world: Fit. -/
namespace Go.Proofs.Ytbddlekpoelmkaa.Am
open Go Go.RowKit

set_option maxRecDepth 20000 in
theorem Fit1_fn (x c : GComp) : Fn Try.prog 88 [.agg x.e, .eptr c.e] (kB (decide (x.Kind = c.Kind))) := by
  refine fn_go Try.func88 rfl ?_
  simp [Try.ntmps88]
  exact finm (by simp)
def cK (x y : GComp) : Int := cmpI x.Kind y.Kind
set_option maxRecDepth 20000 in
theorem Fit2_fn (x y : GComp) : Fn Try.prog 90 [.agg x.e, .agg y.e] (kI (cK x y)) := by
  refine fn_go Try.func90 rfl ?_
  simp [Try.ntmps90]
  refine cal (Compare_fn x.Kind y.Kind) ?_
  simp
  exact finm (by simp [cK])
theorem insOut_len {α : Type} (c : α → α → Int) : ∀ (f i : Nat) (L : List α), (insOut c f i L).length = L.length
  | 0, _, _ => rfl
  | f + 1, i, L => by rw [insOut, insOut_len c f, insIn_len]
theorem insSort_len {α : Type} (c : α → α → Int) (L : List α) : (insSort c L).length = L.length := insOut_len c _ _ _

def fitGo (ks : List GKind) : List GComp → List GComp → List GComp → List GComp × Int
  | _, [], out => (insSort cK out, 0)
  | pre, c :: r, out =>
    if c.Kind < 0 ∨ (ks.length : Int) ≤ c.Kind then ([], 1)
    else if pre.any (fun x => decide (x.Kind = c.Kind)) = true then ([], 5)
    else if fitE (ks.getD c.Kind.toNat k0) c.Vals ≠ 0 then ([], fitE (ks.getD c.Kind.toNat k0) c.Vals)
    else fitGo ks (pre ++ [c]) r (out ++ [⟨c.Kind, fitV (ks.getD c.Kind.toNat k0) c.Vals⟩])
def fitC (ks : List GKind) (l : List GComp) : List GComp × Int := if checkE ks ≠ 0 then ([], checkE ks) else fitGo ks [] l []

set_option maxHeartbeats 1000000 in
set_option maxRecDepth 20000 in
theorem WFit_fn (ks : List GKind) (l : List GComp) (hk : ks.length ≤ 1000000) (hf : ∀ k ∈ ks, k.Fields.length ≤ 1000000) (hl : l.length ≤ 12) (hv : ∀ c ∈ l, c.Vals.length ≤ 1000) :
    Fn Try.prog 52 [.sl 2 (ks.map GKind.e), .sl 2 (l.map GComp.e)] (.tup [.sl 2 ((fitC ks l).1.map GComp.e), kI (fitC ks l).2]) := by
  refine fn_go Try.func52 rfl ?_
  simp [Try.ntmps52]
  refine cal (Check_fn ks (fun k hk => by have := hf k hk; omega) (by omega)) ?_
  by_cases h1 : checkE ks = 0
  · have hF : fitC ks l = fitGo ks [] l [] := by unfold fitC; rw [if_neg (by simp [h1])]
    obtain ⟨hk16, hk8⟩ := checkE_le h1
    simp [h1]
    refine awp_loop (fun x : Nat × List GComp => ⟨64, [(0, .sl 2 (ks.map GKind.e)), (1, .sl 2 (l.map GComp.e)), (7, .osl 0 2 0 x.2.length), (17, .sl 2 (l.map GComp.e)), (18, kI l.length), (19, kI x.1)], [some (x.2.map GComp.e).flatten], 0⟩)
      (fun x => x.1 ≤ l.length ∧ x.2.length = x.1 ∧ fitGo ks (l.take x.1) (l.drop x.1) x.2 = fitGo ks [] l []) (fun x => l.length - x.1) (0, []) ?_ ?_ ?_
    · exact (ent_nil (t := 7) (z := 2) rfl).trans (entm [0])
    · simp
    · rintro ⟨i, out⟩ ⟨hi, ho, hrun⟩
      simp only at hi ho hrun
      refine awp_go ?_
      by_cases hlt : i < l.length
      · rw [List.drop_eq_getElem_cons hlt, fitGo] at hrun
        have hvl := hv _ (List.getElem_mem hlt)
        have htk : l.take i ++ [l[i]] = l.take (i + 1) := List.take_append_getElem hlt
        obtain ⟨c, hc⟩ : ∃ c, l[i] = c := ⟨_, rfl⟩
        rw [hc] at hrun hvl htk
        by_cases p1 : c.Kind < 0
        · rw [if_pos (.inl p1)] at hrun
          simp [hlt, hc, p1]
          refine fin_ent (ent_nilsl (t := 4) (z := 2) rfl) ?_
          exact finm (by simp [hF, ← hrun])
        by_cases p2 : (ks.length : Int) ≤ c.Kind
        · rw [if_pos (.inr p2)] at hrun
          simp [hlt, hc, p1, p2]
          refine fin_ent (ent_nilsl (t := 4) (z := 2) rfl) ?_
          exact finm (by simp [hF, ← hrun])
        rw [if_neg (by omega)] at hrun
        obtain ⟨n, hn⟩ : ∃ n : Nat, c.Kind = n := ⟨c.Kind.toNat, by omega⟩
        have hnk : n < ks.length := by omega
        have hgd : ks.getD c.Kind.toNat k0 = ks[n] := by rw [hn]; simp [List.getD, hnk]
        rw [hgd] at hrun
        have hi2 : i ≤ l.length := hi
        simp [hlt, hc, p1, p2, hi2]
        refine ops_fz 1 c.e ?_
        simp
        refine cal (ContainsFuncC_fn (l.take i) 88 [.eptr c.e] (fun x => decide (x.Kind = c.Kind)) (by simp; omega) (by simp) (by simp) fun x _ => Fit1_fn x c) ?_
        by_cases p3 : (l.take i).any (fun x => decide (x.Kind = c.Kind)) = true
        · rw [if_pos p3] at hrun
          rw [p3]
          simp
          refine fin_ent (ent_nilsl (t := 4) (z := 2) rfl) ?_
          exact finm (by simp [hF, ← hrun])
        rw [if_neg p3] at hrun
        have p3' : (l.take i).any (fun x => decide (x.Kind = c.Kind)) = false := by simpa using p3
        rw [p3']
        simp
        refine awp_draw follows_mix [] [(0, [0]), (0, [0]), (0, [0]), (0, [0]), (0, [0]), (0, [0]), (0, [0]), (2, [0]), (0, [0]), (0, [0]), (0, [0]), (0, [0]), (0, [0])] 0 (by kernel_rfl) rfl ?_
        have hfk := hk8 _ (List.getElem_mem hnk)
        have hfit := Fit_fn ks[n] c.Vals (by omega) hvl
        obtain ⟨ck, cv⟩ := c
        simp only at hn
        subst hn
        simp [hnk]
        refine gD_call (.tup [slI (fitV ks[n] cv), kI (fitE ks[n] cv)]) ?_
        simp [hnk]
        refine ⟨calO hfit, ?_⟩
        by_cases p4 : fitE ks[n] cv = 0
        · rw [if_neg (by simp [p4])] at hrun
          have b1 : (out.length + 1) * 32 ≤ 140737488355328 := by omega
          have b2 : out.length + 1 ≤ maxLen := by simp only [maxLen]; omega
          simp [p4, b1, b2]
          rw [wrap_id (by omega) (by omega)]
          obtain ⟨y, hy⟩ : ∃ y : GComp, y = ⟨n, fitV ks[n] cv⟩ := ⟨_, rfl⟩
          rw [← hy, htk] at hrun
          refine ⟨i + 1, out ++ [y], ⟨by omega, by simp [ho], hrun⟩, by omega, entm [3] (hB := by simp [hy, GComp.e])⟩
        · rw [if_pos p4] at hrun
          simp [p4]
          refine fin_ent (ent_nilsl (t := 4) (z := 2) rfl) ?_
          exact finm (by simp [hF, ← hrun])
      · have : i = l.length := by omega
        subst this
        simp [fitGo] at hrun
        simp
        refine calD [0] (SortC_fn out 90 cK (by omega) en_90 Fit2_fn) ?_
        obtain ⟨R, hR⟩ : ∃ R, insSort cK out = R := ⟨_, rfl⟩
        have hRl : R.length = out.length := by rw [← hR, insSort_len]
        rw [hR] at hrun ⊢
        rw [← hRl]
        simp
        refine fin_fz 0 _ ?_
        simp
        exact finm (by simp [hF, ← hrun])
  · simp [h1]
    refine fin_ent (ent_nilsl (t := 4) (z := 2) rfl) ?_
    exact finm (by simp [fitC, h1])
end Go.Proofs.Ytbddlekpoelmkaa.Am
/- Package world: copies of which parts are to be written. -/
namespace Go.Proofs.Ytbddlekpoelmkaa.Am
open Go Go.RowKit

set_option maxRecDepth 20000 in
theorem CopyComps_own (l : List GComp) (hl : l.length ≤ 1000000000) (hv : ∀ c ∈ l, c.Vals.length ≤ 1000000000) : FnD Try.prog 73 [.sl 2 (l.map GComp.e)] [] (.osl 0 2 0 l.length) [some (l.map GComp.e).flatten] := by
  refine fnd_go Try.func73 rfl ?_
  simp [Try.ntmps73]
  have h1 : 32 * (l.length : Int) ≤ 281474976710656 := by omega
  have h2 : (l.length : Int) ≤ 9223372036854775807 := by omega
  simp [h1, h2]
  refine awp_loop (fun i : Nat => ⟨27, [(3, .osl 0 2 0 l.length), (9, .sl 2 (l.map GComp.e)), (10, kI l.length), (11, kI i)], [some (fillB GComp.e [kI 0, kNil] l i)], 0⟩) (fun i => i ≤ l.length) (fun i => l.length - i) 0 ?_ ?_ ?_
  · rw [← fillB_0 GComp.e]
    exact entm [0] (hB := by simp [imms_ren (fillB_imm GComp.e_imm (zr := [kI 0, kNil]) rfl l 0), imms_lt (fillB_imm GComp.e_imm (zr := [kI 0, kNil]) rfl l 0)])
  · simp
  · intro i hi
    refine awp_go ?_
    by_cases hlt : i < l.length
    · have hbl := fillB_len GComp.e_len (zr := [kI 0, kNil]) rfl l i hi
      have hrow := fillB_row GComp.e_len (zr := [kI 0, kNil]) rfl l i hlt
      generalize fillB GComp.e [kI 0, kNil] l i = B at hbl hrow ⊢
      simp [hlt]
      refine awp_draw follows_mix [] [(0, [0]), (0, [0]), (0, [0]), (0, [0]), (0, [0]), (0, [0]), (2, [0]), (0, [0]), (0, [0]), (1, [0])] 1 (by kernel_rfl) rfl ?_
      simp [hlt]
      refine gD_call (slI l[i].Vals) ?_
      have hq : i * 2 + 2 ≤ l.length * 2 := by omega
      simp [hlt, hbl, hq]
      refine ⟨calO (CloneI_fn l[i].Vals (hv _ (List.getElem_mem hlt))), ?_⟩
      rw [wrap_id (by omega) (by omega), show kI l[i].Kind :: slI l[i].Vals :: List.drop (i * 2 + 2) B = l[i].e ++ List.drop (i * 2 + 2) B from rfl, hrow]
      exact ⟨i + 1, by omega, by omega, entm [0] (hB := by simp [imms_ren (fillB_imm GComp.e_imm (zr := [kI 0, kNil]) rfl l (i + 1)), imms_lt (fillB_imm GComp.e_imm (zr := [kI 0, kNil]) rfl l (i + 1))])⟩
    · simp [hlt]
      have : i = l.length := by omega
      subst this
      rw [fillB_end]
      exact finGm [0]

set_option maxRecDepth 20000 in
theorem WCopy_at (w : GWorld) (hw : Fine w) (i0 : Nat) (hi0 : i0 < w.Items.length) : FnD Try.prog 42 [.agg w.e] [] (.agg [.sl 2 (w.Kinds.map GKind.e), slI w.Gens, .osl 0 3 0 w.Items.length]) [some ((w.Items.map GItem.e).flatten.set (i0 * 3 + 2) (.osl 1 2 0 (w.Items[i0]).Comps.length)), some ((w.Items[i0]).Comps.map GComp.e).flatten] := by
  obtain ⟨hkl, hkf, hgl, hil, hic, hiv⟩ := hw
  obtain ⟨ks, gs, its⟩ := w
  simp only at hkl hkf hgl hil hic hiv hi0 ⊢
  refine fnd_go Try.func42 rfl ?_
  simp [Try.ntmps42]
  have h1 : 40 * (its.length : Int) ≤ 281474976710656 := by omega
  have h2 : (its.length : Int) ≤ 9223372036854775807 := by omega
  refine awp_drawS follows_mix [(0, 0), (0, 0), (2, 0), (0, 0), (0, 0), (2, 0), (0, 0), (0, 0), (0, 0), (4, 2), (0, 0), (4, 3), (1, 0)] 2 4 [(0, 9), (0, 11), (1, 9), (1, 11), (2, 9), (2, 11), (3, 9), (3, 11), (4, 9), (4, 11), (5, 9), (5, 11), (6, 11), (7, 11), (8, 11), (9, 11), (10, 11)] (by kernel_rfl) rfl rfl ?_
  simp
  refine gE_call (.sl 2 (ks.map GKind.e)) ?_ ?_
  · simp
    exact calO (KCopy_fn ks (by omega) (fun k hk => by have := hkf k hk; omega))
  simp
  refine gE_call (slI gs) ?_ ?_
  · simp
    exact calO (CloneI_fn gs (by omega))
  simp [h1, h2]
  have h0 := fillB_imm GItem.e_imm (zr := zIt) rfl its 0
  rw [show (List.replicate its.length [kI 0, kI 0, kNil]).flatten = fillB GItem.e zIt its 0 from (fillB_0 GItem.e zIt its).symm]
  refine ⟨imms_lt h0 4, ?_⟩
  refine awp_loop (fun i : Nat => ⟨37, [(2, .ptr 0 0), (3, .ptr 2 0), (18, .sl 3 (its.map GItem.e)), (19, kI its.length), (20, kI i)],
      if i ≤ i0 then [some [kNil, kNil, kNil], some (fillB GItem.e zIt its i), some [.sl 2 (ks.map GKind.e), slI gs, .osl 1 3 0 its.length]]
      else [some [kNil, kNil, kNil], some ((fillB GItem.e zIt its i).set (i0 * 3 + 2) (.osl 3 2 0 (its[i0]).Comps.length)), some [.sl 2 (ks.map GKind.e), slI gs, .osl 1 3 0 its.length], some ((its[i0]).Comps.map GComp.e).flatten], 0⟩) (fun i => i ≤ its.length) (fun i => its.length - i) 0 ?_ ?_ ?_
  · exact entm [1, 2, 3] (hB := by simp [imms_ren h0, imms_lt h0])
  · simp
  · intro i hi
    refine awp_go ?_
    by_cases hlt : i < its.length
    · have hbl := fillB_len GItem.e_len (zr := zIt) rfl its i hi
      have hrow := fillB_row GItem.e_len (zr := zIt) rfl its i hlt
      have him := fillB_imm GItem.e_imm (zr := zIt) rfl its i
      have gi := fillB_imm GItem.e_imm (zr := zIt) rfl its (i + 1)
      generalize fillB GItem.e zIt its i = B at hbl hrow him ⊢
      obtain ⟨x, hx⟩ : ∃ x, its[i] = x := ⟨_, rfl⟩
      have hm : x ∈ its := hx ▸ List.getElem_mem hlt
      rw [hx] at hrow
      have hq : i * 3 + 3 ≤ its.length * 3 := by omega
      have hr2 : List.take (i * 3) B ++ (List.take 2 (x.Ent.e ++ [kNil]) ++ .sl 2 (x.Comps.map GComp.e) :: (List.drop 3 (x.Ent.e ++ [kNil]) ++ List.drop (i * 3 + 3) B)) = fillB GItem.e zIt its (i + 1) := by rw [← hrow]; rfl
      have htl : (B.take (i * 3)).length = i * 3 := by rw [List.length_take]; omega
      have hs : ∀ y : PV, List.take (i * 3) B ++ (List.take 2 (x.Ent.e ++ [kNil]) ++ y :: (List.drop 3 (x.Ent.e ++ [kNil]) ++ List.drop (i * 3 + 3) B)) = (fillB GItem.e zIt its (i + 1)).set (i * 3 + 2) y := fun y => by
        rw [← hr2, List.set_append_right _ _ (by omega), htl, show i * 3 + 2 - i * 3 = 2 by omega]; rfl
      by_cases hc : i ≤ i0
      · by_cases hc2 : i = i0
        · subst hc2
          simp [hlt, hx]
          refine awp_drawS follows_mix [(0, 0), (0, 0), (0, 0), (0, 0), (0, 0), (0, 0), (0, 0), (5, 4), (0, 0), (0, 0), (1, 0)] 4 5 [(0, 7), (1, 7), (2, 7), (3, 7), (4, 7)] (by kernel_rfl) rfl rfl ?_
          simp [hlt, hx]
          refine gE_call5 (.osl 4 2 0 x.Comps.length) [] (x.Comps.map GComp.e).flatten rfl (fun y => ?_) (by simp) (by simp) (by simp) (by simp) ?_
          · simp
            exact does_fnd [] (CopyComps_own x.Comps (by have := hic x hm; omega) (fun c hc => by have := hiv x hm c hc; omega)) rfl rfl rfl en_73 rfl (by simp) (by simp) (by simp) (by simp) (by simp) (by simp)
          simp [hlt, hx, hbl, hq]
          rw [wrap_id (by omega) (by omega)]
          refine ⟨i + 1, by omega, by omega, ?_⟩
          rw [if_neg (by omega), hs]
          exact entm [0, 1, 2, 4] (hB := by simp [renL_set, imms_ren gi, ltL_set (imms_lt gi 4)])
        · simp [hlt, hx, hc]
          refine awp_draw follows_mix [] [(0, [0]), (0, [0]), (0, [0]), (0, [0]), (0, [0]), (0, [0]), (0, [0]), (2, [0]), (0, [0]), (0, [0]), (1, [0])] 1 (by kernel_rfl) rfl ?_
          simp [hlt, hx]
          refine gD_call (.sl 2 (x.Comps.map GComp.e)) ?_
          simp [hlt, hx, hbl, hq]
          refine ⟨calO (CopyComps_fn x.Comps (by have := hic x hm; omega) (fun c hc => by have := hiv x hm c hc; omega)), ?_⟩
          rw [wrap_id (by omega) (by omega), hr2]
          refine ⟨i + 1, by omega, by omega, ?_⟩
          rw [if_pos (by omega)]
          exact entm [0, 1, 2] (hB := by simp [imms_ren gi, imms_lt gi])
      · have hkl : (B.set (i0 * 3 + 2) (.osl 3 2 0 (its[i0]).Comps.length)).length = its.length * 3 := by simp [hbl]
        have hk : ∀ y : PV, List.take (i * 3) (B.set (i0 * 3 + 2) (.osl 3 2 0 (its[i0]).Comps.length)) ++ (List.take 2 (x.Ent.e ++ [kNil]) ++ y :: (List.drop 3 (x.Ent.e ++ [kNil]) ++ List.drop (i * 3 + 3) (B.set (i0 * 3 + 2) (.osl 3 2 0 (its[i0]).Comps.length)))) =
            ((fillB GItem.e zIt its (i + 1)).set (i * 3 + 2) y).set (i0 * 3 + 2) (.osl 3 2 0 (its[i0]).Comps.length) := fun y => by
          rw [← hs]
          have := row_after (B := B) (p := i0 * 3 + 2) (k := i * 3) (n := 3) (r := List.take 2 (x.Ent.e ++ [kNil]) ++ [y]) (x := .osl 3 2 0 (its[i0]).Comps.length) (by omega) (by omega)
          have hd3 : List.drop 3 (x.Ent.e ++ [kNil]) = [] := rfl
          simpa [hd3] using this
        have hfx : (fillB GItem.e zIt its (i + 1)).set (i * 3 + 2) (.sl 2 (x.Comps.map GComp.e)) = fillB GItem.e zIt its (i + 1) := by rw [← hs, hr2]
        simp [hlt, hx, hc]
        refine awp_draw follows_mix [] [(0, [0]), (0, [0]), (0, [0]), (0, [0]), (0, [0]), (0, [0]), (0, [0]), (2, [0]), (0, [0]), (0, [0]), (1, [0])] 1 (by kernel_rfl) rfl ?_
        simp [hlt, hx]
        refine gD_call (.sl 2 (x.Comps.map GComp.e)) ?_
        simp [hlt, hx, hkl, hbl, hq]
        refine ⟨calO (CopyComps_fn x.Comps (by have := hic x hm; omega) (fun c hc => by have := hiv x hm c hc; omega)), ?_⟩
        rw [wrap_id (by omega) (by omega), hk, hfx]
        refine ⟨i + 1, by omega, by omega, ?_⟩
        rw [if_neg (by omega)]
        exact entm [0, 1, 2, 3] (hB := by simp [renL_set, imms_ren gi, ltL_set (imms_lt gi 4)])
    · have : i = its.length := by omega
      subst this
      have hni : ¬ its.length ≤ i0 := by omega
      simp [hni]
      rw [fillB_end]
      exact finGm [1, 3] (hB := by simp [renL_set, ltL_set])

end Go.Proofs.Ytbddlekpoelmkaa.Am
/- Package world: found. -/
namespace Go.Proofs.Ytbddlekpoelmkaa.Am
open Go Go.RowKit

def findI (w : GWorld) (e : GEnt) : Option Nat := w.Items.findIdx? (fun it => decide (it.Ent = e))
theorem findI_lt {w : GWorld} {e : GEnt} {i : Nat} (h : findI w e = some i) : ∃ hi : i < w.Items.length, (w.Items[i]).Ent = e := by
  obtain ⟨hi, hn, _⟩ := List.findIdx?_eq_some_iff_getElem.1 h
  exact ⟨hi, by simpa using hn⟩
theorem findW_some {w : GWorld} {e : GEnt} {i : Nat} (h : findI w e = some i) : findW w e = i := by
  unfold findI at h; simp [findW, idxB, h]
theorem findW_none {w : GWorld} {e : GEnt} (h : findI w e = none) : findW w e = -1 := by
  unfold findI at h; simp [findW, idxB, h]

set_option maxRecDepth 20000 in
theorem found_none (w : GWorld) (e : GEnt) (hw : checkW w = 0) (hf : findI w e = none) : Fn Try.prog 51 [.agg w.e, .agg e.e] (.tup [.agg w0.e, kI 0, kI 4]) := by
  obtain ⟨hfi, hfc⟩ := checkW_fine hw
  refine fn_go Try.func51 rfl ?_
  simp [Try.ntmps51]
  refine cal (WCheck_fn w hfi (fun it hi c hc => by have := ((hfc it hi).2 c hc).2.2.2; omega)) ?_
  simp [hw]
  refine cal (WFind_fn w e (by have := hfi.il; omega)) ?_
  simp [findW_none hf]
  refine fin_ent (ent_cell 2 0 (tell_nil 2)) (fin_ent (ent_cell 2 1 (tell_nil 1)) (fin_ent (ent_cell 2 2 (tell_nil 3)) ?_))
  simp
  exact finm (by simp [w0, GWorld.e])
set_option maxRecDepth 20000 in
theorem found_at (w : GWorld) (e : GEnt) (i : Nat) (hw : checkW w = 0) (hf : findI w e = some i) (hi : i < w.Items.length) : FnD Try.prog 51 [.agg w.e, .agg e.e] []
    (.tup [.agg [.sl 2 (w.Kinds.map GKind.e), slI w.Gens, .osl 0 3 0 w.Items.length], kI i, kI 0]) [some ((w.Items.map GItem.e).flatten.set (i * 3 + 2) (.osl 1 2 0 (w.Items[i]).Comps.length)), some ((w.Items[i]).Comps.map GComp.e).flatten] := by
  obtain ⟨hfi, hfc⟩ := checkW_fine hw
  refine fnd_go Try.func51 rfl ?_
  simp [Try.ntmps51]
  refine cal (WCheck_fn w hfi (fun it hi c hc => by have := ((hfc it hi).2 c hc).2.2.2; omega)) ?_
  simp [hw]
  refine cal (WFind_fn w e (by have := hfi.il; omega)) ?_
  have h0 : ¬ ((i : Int) < 0) := by omega
  simp [findW_some hf, h0]
  refine calD [] (WCopy_at w hfi i hi) ?_ (hren := by simp)
  simp
  exact finGm [3, 4] (hB := by simp [renL_set, ltL_set])

theorem iset (its : List GItem) (i : Nat) (hi : i < its.length) (C : List GComp) : ((its.map GItem.e).flatten).set (i * 3 + 2) (.sl 2 (C.map GComp.e)) = ((its.set i ⟨(its[i]).Ent, C⟩).map GItem.e).flatten := by
  rw [← row_put GItem.e_len its i 2 (.sl 2 (C.map GComp.e)) ⟨(its[i]).Ent, C⟩ hi (by omega) rfl, List.set_eq_take_append_cons_drop, if_pos (by rw [flat_lenE GItem.e_len]; omega)]
end Go.Proofs.Ytbddlekpoelmkaa.Am
/- The library's slice functions, at the program's types. -/
namespace Go.Proofs.Ytbddlekpoelmkaa.Am
open Go Go.RowKit

set_option maxRecDepth 20000 in
theorem DeleteC_fn (l : List GComp) (i : Nat) (hi : i < l.length) (hl : l.length * 32 ≤ 140737488355328) :
    FnD Try.prog 57 [.osl 0 2 0 l.length, kI i, kI ((i : Int) + 1)] [(l.map GComp.e).flatten] (.osl 0 2 0 (l.length - 1)) [some (((l.take i ++ l.drop (i + 1)).map GComp.e).flatten ++ [kI 0, kNil])] := by
  refine fng_of Try.func57 rfl (gC_cap 0 fun cap hc1 hc2 => ?_)
  have elen : ∀ x : GComp, (GComp.e x).length = 2 := fun x => rfl
  have eimm : ∀ x : GComp, (GComp.e x).all PV.immB = true := fun x => rfl
  have h1 : (i : Int) + 1 ≤ l.length := by omega
  have h2 : (0 : Int) ≤ (i : Int) + 1 := by omega
  have h3 : ((i : Int) + 1).toNat = i + 1 := by omega
  have h4 : (i : Int) ≤ (i : Int) + 1 := by omega
  have h5 : i ≤ l.length := by omega
  have h6 : i ≤ cap := by omega
  have h7 : ¬ ((i : Int) = (i : Int) + 1) := by omega
  obtain ⟨k, hk⟩ : ∃ k, l.length = i + (k + 1) := ⟨l.length - i - 1, by omega⟩
  obtain ⟨A, hA⟩ : ∃ A, ((l.take i).map GComp.e).flatten = A := ⟨_, rfl⟩
  obtain ⟨X, hX⟩ : ∃ X, GComp.e l[i] = X := ⟨_, rfl⟩
  obtain ⟨C, hC⟩ : ∃ C, ((l.drop (i + 1)).map GComp.e).flatten = C := ⟨_, rfl⟩
  have hAC : (l.map GComp.e).flatten = A ++ (X ++ C) := by
    have : l = l.take i ++ (l[i] :: l.drop (i + 1)) := by rw [← List.drop_eq_getElem_cons hi, List.take_append_drop]
    rw [← hA, ← hX, ← hC]
    conv => lhs; rw [this]
    rw [List.map_append, List.flatten_append, List.map_cons, List.flatten_cons]
  have hAl : A.length = i * 2 := by rw [← hA, flat_lenE elen]; simp; omega
  have hXl : X.length = 2 := by rw [← hX]; exact elen _
  have hCl : C.length = k * 2 := by rw [← hC, flat_lenE elen]; simp; omega
  have hR : ((l.take i ++ l.drop (i + 1)).map GComp.e).flatten = A ++ C := by rw [List.map_append, List.flatten_append, hA, hC]
  rw [hR, hAC]
  have h8 : l.length ≤ cap := hc1
  simp [Try.ntmps57, h1, h2, h3, h4, h5, h6, h7, h8]
  have g1 : l.length - (i + 1) = k := by omega
  have g2 : (i + k) * 32 ≤ 140737488355328 := by omega
  have g3 : i + k ≤ maxLen := by omega
  have g4 : i + k ≤ cap := by omega
  have g5 : (i + 1) * 2 + k * 2 ≤ i * 2 + (2 + k * 2) := by omega
  have tA : ∀ Y, (A ++ Y).take (i * 2) = A := fun Y => List.take_left' hAl
  have dAX : (A ++ (X ++ C)).drop ((i + 1) * 2) = C := by rw [← List.append_assoc]; exact List.drop_left' (by rw [List.length_append, hAl, hXl]; omega)
  have tC : C.take (k * 2) = C := List.take_of_length_le (by omega)
  have dE : (A ++ (X ++ C)).drop (i * 2 + k * 2) = (X ++ C).drop (k * 2) := by rw [← List.drop_drop, List.drop_left' hAl]
  try simp only [Nat.mul_one] at hAl hXl hCl tA tC dAX dE g5 g2
  refine awp_drawS follows_mix [(0, 0), (0, 0), (0, 0), (0, 0), (0, 0), (0, 0), (1, 0), (0, 0)] 1 1 [] (by kernel_rfl) rfl rfl ?_
  simp [h1, h2, h3, h4, h5, h6, h8, g1, g2, g3, g4, g5, hAl, hXl, hCl, tA, dAX, tC, dE]
  obtain ⟨D, hD⟩ : ∃ D, List.drop (k * 2) (X ++ C) = D := ⟨_, rfl⟩
  have hDl : D.length = 2 := by rw [← hD]; simp [hXl, hCl]
  have g6 : (0 : Int) ≤ (i : Int) + k := by omega
  have g7 : (i : Int) + k ≤ l.length := by omega
  have g8 : ((i : Int) + k).toNat = i + k := by omega
  have g9 : l.length - (i + k) = 1 := by omega
  have g10 : (i + k) * 2 ≤ i * 2 + (k * 2 + 2) := by omega
  have tAC : (A ++ (C ++ D)).take ((i + k) * 2) = A ++ C := by rw [← List.append_assoc]; exact List.take_left' (by rw [List.length_append, hAl, hCl]; omega)
  have dAC : (A ++ (C ++ D)).drop ((i + k) * 2 + 2) = [] := List.drop_eq_nil_of_le (by simp [hAl, hCl, hDl]; omega)
  try simp only [Nat.mul_one] at hD hDl g10 tAC dAC
  rw [hD]
  simp [g6, g7, g8, g9, g10, hAl, hCl, hDl, tAC, dAC]
  have rA : ∀ θ, renL θ A = A := fun θ => by rw [← hA]; exact imms_ren (flat_imm eimm _) θ
  have rC : ∀ θ, renL θ C = C := fun θ => by rw [← hC]; exact imms_ren (flat_imm eimm _) θ
  have lA : ∀ n, ltL n A = true := fun n => by rw [← hA]; exact imms_lt (flat_imm eimm _) n
  have lC : ∀ n, ltL n C = true := fun n => by rw [← hC]; exact imms_lt (flat_imm eimm _) n
  refine finG_ent (ent_tmp 6 tell_cap) ?_
  exact finGm [0] (hres := by simp; omega) (hB := by simp [rA, rC, lA, lC])

set_option maxRecDepth 20000 in
theorem InsertC_fn (l : List GComp) (i : Nat) (v : GComp) (hi : i ≤ l.length) (hl : (l.length + 1) * 32 ≤ 140737488355328) :
    FnD Try.prog 54 [.osl 0 2 0 l.length, kI i, .osl 1 2 0 1] [(l.map GComp.e).flatten, v.e] (.osl 2 2 0 (l.length + 1)) [none, none, some ((l.take i ++ v :: l.drop i).map GComp.e).flatten] := by
  refine fng_of Try.func54 rfl (gC_cap 0 fun cap hc1 hc2 => ?_)
  have h1 : ¬ ((l.length : Int) < i) := by omega
  simp [Try.ntmps54, hi, hc1]
  by_cases he : i = l.length
  · subst he
    have hb1 : (l.length + 1) * 32 ≤ 140737488355328 := by omega
    have hb2 : l.length + 1 ≤ maxLen := by simp only [maxLen]; omega
    by_cases hr : l.length + 1 ≤ cap
    · simp [hc1, hb1, hb2, hr]
      rw [List.drop_eq_nil_of_le (by simp), flat_take GComp.e_len]
      refine finG_ent ((ent_tmp 6 tell_cap).trans (ent_mb 0 _)) ?_
      exact finGm [0, 1, 2]
    · simp [hc1, hb1, hb2, hr]
      rw [flat_take GComp.e_len]
      exact finGm [0, 1, 2]
  · have he' : ¬ ((i : Int) = l.length) := by omega
    obtain ⟨k, hk⟩ : ∃ k, l.length = i + (k + 1) := ⟨l.length - i - 1, by omega⟩
    obtain ⟨A, hA⟩ : ∃ A, ((l.take i).map GComp.e).flatten = A := ⟨_, rfl⟩
    obtain ⟨B, hB⟩ : ∃ B, ((l.drop i).map GComp.e).flatten = B := ⟨_, rfl⟩
    have hAB : (l.map GComp.e).flatten = A ++ B := by rw [← hA, ← hB, ← List.flatten_append, ← List.map_append, List.take_append_drop]
    have hAl : A.length = i * 2 := by rw [← hA, flat_lenE GComp.e_len]; simp; omega
    have hBl : B.length = (k + 1) * 2 := by rw [← hB, flat_lenE GComp.e_len]; simp; omega
    have hR : ((l.take i ++ v :: l.drop i).map GComp.e).flatten = A ++ (v.e ++ B) := by rw [List.map_append, List.flatten_append, hA, List.map_cons, List.flatten_cons, hB]
    have tA : ∀ Y, (A ++ Y).take (i * 2) = A := fun Y => List.take_left' hAl
    have dA : ∀ Y, (A ++ Y).drop (i * 2) = Y := fun Y => List.drop_left' hAl
    have dA2 : ∀ Y, (A ++ Y).drop (i * 2 + 2) = Y.drop 2 := fun Y => by rw [← List.drop_drop, dA]
    have tA2 : ∀ Y, (A ++ Y).take ((i + 1) * 2) = A ++ Y.take 2 := fun Y => by
      rw [show (i + 1) * 2 = A.length + 2 by rw [hAl, Nat.add_mul], List.take_length_add_append]
    have tB : B.take ((k + 1) * 2) = B := List.take_of_length_le (by omega)
    have rA : ∀ θ, renL θ A = A := fun θ => by rw [← hA]; exact GComp.ren _ θ
    have rB : ∀ θ, renL θ B = B := fun θ => by rw [← hB]; exact GComp.ren _ θ
    have lA : ∀ n, ltL n A = true := fun n => by rw [← hA]; exact GComp.ltl _ n
    have lB : ∀ n, ltL n B = true := fun n => by rw [← hB]; exact GComp.ltl _ n
    have hz : 2 ≤ B.length := by omega
    rw [hR, hAB]
    simp [he, he']
    rw [wrap_id (by omega) (by omega)]
    by_cases hroom : (cap : Int) < l.length + 1
    · have hic : i ≤ cap := by omega
      have e1 : IntKind.i64.wrap ((l.length : Int) + 1 - i) = ((k + 2 : Nat) : Int) := by rw [wrap_id (by omega) (by omega)]; omega
      have hb1 : (k + 2) * 32 ≤ 140737488355328 := by omega
      have hb2 : (i + (k + 2)) * 32 ≤ 140737488355328 := by omega
      have hb3 : i + (k + 2) ≤ maxLen := by simp only [maxLen]; omega
      have hb4 : ¬ (i + (k + 2) ≤ cap) := by omega
      have hb6 : ((k : Int) + 2 ≤ 9223372036854775807) := by omega
      have hb7 : 0 ≤ (k : Int) + 2 := by omega
      have hb8 : ((k : Int) + 2).toNat = k + 2 := by omega
      simp [hroom, hic]
      rw [wrap_id (x := (l.length : Int) + 1) (by omega) (by omega), e1]
      simp [hb1, hb2, hb3, hb4, hb6, hb7, hb8, hAl, hBl, tA]
      obtain ⟨Z, hZ⟩ : ∃ Z, (List.replicate (k + 2) [kI 0, kNil]).flatten = Z := ⟨_, rfl⟩
      have hZl : Z.length = (k + 2) * 2 := by rw [← hZ]; simp
      have hb10 : (i : Int) ≤ (i : Int) + ((k : Int) + 2) := by omega
      have hb11 : ((i : Int) + ((k : Int) + 2)).toNat = i + (k + 2) := by omega
      have hb12 : i + (k + 2) - i = k + 2 := by omega
      rw [hZ]
      simp [hb10, hb11, hb12, hAl, hZl, tA, dA2]
      refine awp_draw follows_mix [] [(0, [0]), (0, [0]), (0, [0]), (0, [0]), (0, [0]), (0, [0]), (0, [0]), (0, [0]), (1, [0])] 1 (by kernel_rfl) rfl ?_
      have e3 : IntKind.i64.wrap ((i : Int) + 1) = (i : Int) + 1 := wrap_id (by omega) (by omega)
      have hd1 : 0 ≤ (i : Int) + 1 := by omega
      have hd2 : (i : Int) + 1 ≤ (i : Int) + ((k : Int) + 2) := by omega
      have hd3 : ((i : Int) + 1).toNat = i + 1 := by omega
      have hd4 : i + (k + 2) - (i + 1) = k + 1 := by omega
      have hk1 : l.length - i = k + 1 := by omega
      have hk5 : (i + 1) * 2 ≤ i * 2 + (k + 2) * 2 := by omega
      have hk6 : (i + 1) * 2 ≤ i * 2 + (2 + ((k + 2) * 2 - 2)) := by omega
      have e4 : (v.e ++ List.drop 2 Z).take 2 = v.e := List.take_left' (by simp)
      have dE : (A ++ (v.e ++ List.drop 2 Z)).drop ((i + 1) * 2 + (k + 1) * 2) = [] := List.drop_eq_nil_of_le (by simp; omega)
      simp [e3, hd1, hd2, hd3, hd4, hb11, hi, hc1, hk1, hk5, hk6, hAl, hBl, hZl, tA, dA, tA2, tB, e4, dE]
      exact finGm [0, 1, 2] (hres := by simp; omega) (hB := by simp [rA, rB, lA, lB])
    · have hb1 : (l.length : Int) + 1 ≤ cap := by omega
      have hb2 : 0 ≤ (l.length : Int) + 1 := by omega
      simp [hroom]
      rw [wrap_id (x := (l.length : Int) + 1) (by omega) (by omega)]
      have e1 : IntKind.i64.wrap ((i : Int) + 1) = ((i + 1 : Nat) : Int) := by rw [wrap_id (by omega) (by omega)]; omega
      have hb3 : (i : Int) + 1 ≤ (l.length : Int) + 1 := by omega
      have hb4 : 0 ≤ (i : Int) + 1 := by omega
      have hb5 : ((i : Int) + 1).toNat = i + 1 := by omega
      simp [hb1, hb2]
      rw [e1]
      simp [hb3, hb4, hb5]
      refine calOvl (fn := Try.prog.funcs[93]) rfl ?_
      simp
      refine awp_draw follows_mix [] [(0, [0]), (0, [0]), (0, [0]), (0, [0]), (0, [0]), (0, [0]), (0, [0]), (0, [0]), (1, [0])] 1 (by kernel_rfl) rfl ?_
      simp
      rw [e1]
      have hk1 : l.length - i = k + 1 := by omega
      have hk2 : l.length + 1 - i = k + 2 := by omega
      have hk3 : min (k + 2) (k + 1) = k + 1 := by omega
      have hk4 : (i : Int) ≤ (l.length : Int) + 1 := by omega
      simp [hb1, hb3, hb4, hb5, hk1, hk2, hk3, hk4, hAl, hBl, tA, dA, dA2, tA2, tB]
      have hk5 : (i + 1) * 2 ≤ i * 2 + (k + 1) * 2 := by omega
      have dE : (A ++ B).drop ((i + 1) * 2 + (k + 1) * 2) = [] := List.drop_eq_nil_of_le (by simp; omega)
      have hk6 : (i : Int) ≤ (l.length : Int) + 1 := by omega
      simp [hk5, dE]
      have e2 : A ++ (v.e ++ List.drop 2 (List.take 2 B ++ B)) = A ++ (v.e ++ B) := by
        rw [List.drop_left' (by simp; omega)]
      have e3 : IntKind.i64.wrap ((i : Int) + 1) = (i : Int) + 1 := wrap_id (by omega) (by omega)
      simp [hk4, hk2, hk1, hk5, hb1, hb3, hb4, hb5, hi, hAl, hBl, tA, tA2, tB, dA2, dE, e2, e3]
      refine finG_ent ((ent_tmp 6 tell_cap).trans (ent_mb 0 _)) ?_
      exact finGm [0, 1, 2] (hB := by simp [rA, rB, lA, lB])

end Go.Proofs.Ytbddlekpoelmkaa.Am
/- Package world: Drop, Put. -/
namespace Go.Proofs.Ytbddlekpoelmkaa.Am
open Go Go.RowKit

theorem it_ren (its : List GItem) (p m : Nat) : renL (thF [] 3) ((its.map GItem.e).flatten.set p (.osl 1 2 0 m)) = (its.map GItem.e).flatten.set p (.osl 4 2 0 m) := by
  rw [renL_set, GItem.ren]; simp [thF]
theorem wdrop3 (w : GWorld) : List.drop 3 w.e = [] := rfl

def setC (w : GWorld) (i : Nat) (C : List GComp) : GWorld := ⟨w.Kinds, w.Gens, w.Items.set i ⟨(w.Items.getD i ⟨⟨0, 0⟩, []⟩).Ent, C⟩⟩
theorem setC_e (w : GWorld) {i : Nat} (hi : i < w.Items.length) (C : List GComp) : (setC w i C).e = [.sl 2 (w.Kinds.map GKind.e), slI w.Gens, .sl 3 ((w.Items.set i ⟨(w.Items[i]).Ent, C⟩).map GItem.e)] := by
  simp [setC, GWorld.e, List.getD, hi]

set_option maxHeartbeats 1000000 in
set_option maxRecDepth 20000 in
theorem Drop_none (w : GWorld) (e : GEnt) (k : Int) (hw : checkW w = 0) (i : Nat) (hf : findI w e = some i) (hi : i < w.Items.length) (ha : atB (w.Items[i]).Comps k = false) :
    Fn Try.prog 22 [.agg w.e, .agg e.e, kI k] (.tup [.agg w0.e, kI 4]) := by
  obtain ⟨hfi, hfc⟩ := checkW_fine hw
  have hcl := (hfc _ (List.getElem_mem hi)).1
  refine fn_go Try.func22 rfl ?_
  simp [Try.ntmps22]
  refine calD [] (found_at w e i hw hf hi) ?_ (hren := by simp)
  have hp : i * 3 + 2 < w.Items.length * 3 := by omega
  simp [hi, hp, it_ren, wdrop3]
  refine calS (at_fn (w.Items[i]).Comps k (by omega)) ?_
  simp [ha]
  refine fin_ent (ent_cell 2 0 (tell_nil 2)) (fin_ent (ent_cell 2 1 (tell_nil 1)) (fin_ent (ent_cell 2 2 (tell_nil 3)) ?_))
  simp
  exact finm (by simp [w0, GWorld.e])
set_option maxHeartbeats 1000000 in
set_option maxRecDepth 20000 in
theorem Drop_ok (w : GWorld) (e : GEnt) (k : Int) (hw : checkW w = 0) (i : Nat) (hf : findI w e = some i) (hi : i < w.Items.length) (ha : atB (w.Items[i]).Comps k = true) :
    Fn Try.prog 22 [.agg w.e, .agg e.e, kI k]
      (.tup [.agg (setC w i ((w.Items[i]).Comps.take (atI (w.Items[i]).Comps k) ++ (w.Items[i]).Comps.drop (atI (w.Items[i]).Comps k + 1))).e, kI 0]) := by
  obtain ⟨hfi, hfc⟩ := checkW_fine hw
  have hcl := (hfc _ (List.getElem_mem hi)).1
  obtain ⟨hj, _⟩ := bsOk_lt ha
  have hj' : atI (w.Items[i]).Comps k < (w.Items[i]).Comps.length := hj
  rw [setC_e w hi]
  obtain ⟨j, hje⟩ : ∃ j, atI (w.Items[i]).Comps k = j := ⟨_, rfl⟩
  rw [hje] at hj' ⊢
  obtain ⟨C, hC⟩ : ∃ C, (w.Items[i]).Comps.take j ++ (w.Items[i]).Comps.drop (j + 1) = C := ⟨_, rfl⟩
  have hCl : C.length = (w.Items[i]).Comps.length - 1 := by rw [← hC]; simp; omega
  have hD := DeleteC_fn (w.Items[i]).Comps j hj' (by omega)
  rw [hC, ← hCl] at hD
  rw [hC]
  have hI := iset w.Items i hi C
  obtain ⟨I2, hI2⟩ : ∃ I2, w.Items.set i ⟨(w.Items[i]).Ent, C⟩ = I2 := ⟨_, rfl⟩
  have hI2l : I2.length = w.Items.length := by rw [← hI2]; simp
  rw [hI2] at hI ⊢
  refine fn_go Try.func22 rfl ?_
  simp [Try.ntmps22]
  refine calD [] (found_at w e i hw hf hi) ?_ (hren := by simp)
  have hp : i * 3 + 2 < w.Items.length * 3 := by omega
  have hp1 : i * 3 + 2 + 1 ≤ w.Items.length * 3 := by omega
  simp [hi, hp, it_ren, wdrop3]
  refine calS (at_fn (w.Items[i]).Comps k (by omega)) ?_
  simp [ha, hje, hp]
  rw [wrap_id (by omega) (by omega)]
  refine calD [4] hD ?_
  have hset := fun x y => set_put (B := (w.Items.map GItem.e).flatten) (p := i * 3 + 2) (x := x) (y := y) (by rw [flat_lenE GItem.e_len]; omega)
  simp [hp1, hset]
  refine fin_ent ((ent_T [(6, .ptr 2 0), (7, kI 0)]).trans (ent_trunc 4 (C.length * 2))) ?_
  have htk : ∀ Y, ((C.map GComp.e).flatten ++ Y).take (C.length * 2) = (C.map GComp.e).flatten := fun Y => List.take_left' (flat_lenE GComp.e_len C)
  simp only [List.set_cons_succ, List.set_cons_zero, htk]
  refine fin_fz 4 _ ?_
  simp [fzL_set]
  rw [hI, ← hI2l]
  refine fin_fz 3 _ ?_
  simp
  exact finm (by simp)
end Go.Proofs.Ytbddlekpoelmkaa.Am
/- Worlds of which one entity's components change: the plain law. -/
namespace Go.Proofs.Ytbddlekpoelmkaa.Am
open Go Go.RowKit

theorem held_iff {ks : List GKind} : ∀ {l : List GComp} {last : Int}, heldGo ks last l = true ↔ l.Pairwise (fun a b => a.Kind < b.Kind) ∧ ∀ c ∈ l, last < c.Kind ∧ c.Kind < ks.length ∧ holdsB (ks.getD c.Kind.toNat k0) c.Vals = true
  | [], last => by simp [heldGo]
  | c :: r, last => by
    rw [held_cons, held_iff (l := r) (last := c.Kind), List.pairwise_cons]
    constructor
    · rintro ⟨h1, h2, h3, h4, h5⟩
      exact ⟨⟨fun x hx => (h5 x hx).1, h4⟩, fun x hx => by
        rcases List.mem_cons.1 hx with e | hx
        · subst e; exact ⟨h1, h2, h3⟩
        · have := h5 x hx; exact ⟨by omega, this.2⟩⟩
    · rintro ⟨⟨h1, h2⟩, h3⟩
      have hc := h3 c (List.mem_cons_self ..)
      exact ⟨hc.1, hc.2.1, hc.2.2, h2, fun x hx => ⟨h1 x hx, (h3 x (List.mem_cons_of_mem _ hx)).2⟩⟩

theorem items_set {ks : List GKind} {gs : List Int} (C : List GComp) (hC : heldGo ks (-1) C = true) : ∀ {its : List GItem} {last : Int} (i : Nat) (hi : i < its.length), itemsB ks gs last its = true → itemsB ks gs last (its.set i ⟨(its[i]).Ent, C⟩) = true
  | x :: r, last, 0, hi, h => by
    obtain ⟨h1, h2, h3, h4, h5, h6⟩ := items_cons.1 h
    exact items_cons.2 ⟨h1, h2, h3, h4, hC, h6⟩
  | x :: r, last, i + 1, hi, h => by
    obtain ⟨h1, h2, h3, h4, h5, h6⟩ := items_cons.1 h
    exact items_cons.2 ⟨h1, h2, h3, h4, h5, items_set C hC i (by simpa using hi) h6⟩
theorem setC_items (w : GWorld) {i : Nat} (hi : i < w.Items.length) (C : List GComp) : (setC w i C).Items = w.Items.set i ⟨(w.Items[i]).Ent, C⟩ := by simp [setC, List.getD, hi]
theorem setC_valid {w : GWorld} (hw : checkW w = 0) {i : Nat} (hi : i < w.Items.length) {C : List GComp} (hC : heldGo w.Kinds (-1) C = true) : checkW (setC w i C) = 0 := by
  obtain ⟨a, b, c, d, e⟩ := checkW_iff.1 hw
  refine checkW_iff.2 ⟨a, b, by rw [setC_items w hi]; simpa [setC] using c, d, ?_⟩
  rw [setC_items w hi]
  exact items_set C hC i hi e
theorem setC_len (w : GWorld) (i : Nat) (C : List GComp) : (setC w i C).Items.length = w.Items.length := by simp [setC]
theorem setC_get (w : GWorld) {i : Nat} (hi : i < w.Items.length) (C : List GComp) : (setC w i C).Items[i]'(by rw [setC_len]; exact hi) = ⟨(w.Items[i]).Ent, C⟩ := by
  simp [setC, List.getD, hi]
theorem setC_setC (w : GWorld) {i : Nat} (hi : i < w.Items.length) (C D : List GComp) : setC (setC w i C) i D = setC w i D := by
  simp [setC, List.getD, hi]
theorem setC_self (w : GWorld) {i : Nat} (hi : i < w.Items.length) : setC w i (w.Items[i]).Comps = w := by
  obtain ⟨k, g, its⟩ := w
  simp only at hi
  simp only [setC, List.getD, List.getElem?_eq_getElem hi, Option.getD_some]
  congr 1
  exact List.set_getElem_self hi
theorem findI_map (w : GWorld) (e : GEnt) : findI w e = (w.Items.map GItem.Ent).findIdx? (fun x => decide (x = e)) := by
  unfold findI
  rw [List.findIdx?_map]
  rfl
theorem setC_ents (w : GWorld) {i : Nat} (hi : i < w.Items.length) (C : List GComp) : (setC w i C).Items.map GItem.Ent = w.Items.map GItem.Ent := by
  rw [setC_items w hi, List.map_set]
  refine List.ext_getElem (by simp) fun n h1 h2 => ?_
  rw [List.getElem_set]
  split
  · rename_i e; subst e; simp
  · simp
theorem findI_setC (w : GWorld) {i : Nat} (hi : i < w.Items.length) (C : List GComp) (e : GEnt) : findI (setC w i C) e = findI w e := by
  rw [findI_map, findI_map, setC_ents w hi]

/-! ### Where a component is -/
theorem atB_get {l : List GComp} {k : Int} (h : atB l k = true) : ∃ hj : atI l k < l.length, (l[atI l k]).Kind = k := by
  obtain ⟨hj, hc⟩ := bsOk_lt h
  exact ⟨hj, (cmpI_eq _ _).1 hc⟩
theorem atI_eq {l : List GComp} {k : Int} (p : Nat) (hp : p ≤ l.length) (h : ∀ j (hj : j < l.length), (l[j]).Kind < k ↔ j < p) : atI l k = p :=
  bs_eq p hp fun j hj => by rw [cmpI_lt]; exact h j hj
theorem atB_false {l : List GComp} {k : Int} (h : ∀ c ∈ l, c.Kind ≠ k) : atB l k = false := by
  cases e : atB l k
  · rfl
  · obtain ⟨hj, hk⟩ := atB_get e
    exact absurd hk (h _ (List.getElem_mem hj))
theorem erase_sub (l : List GComp) (j : Nat) : (l.take j ++ l.drop (j + 1)).Sublist l := by
  rw [← List.eraseIdx_eq_take_drop_succ]; exact List.eraseIdx_sublist _ _
theorem held_erase {ks : List GKind} {l : List GComp} (h : heldGo ks (-1) l = true) (j : Nat) : heldGo ks (-1) (l.take j ++ l.drop (j + 1)) = true := by
  obtain ⟨h1, h2⟩ := held_iff.1 h
  exact held_iff.2 ⟨h1.sublist (erase_sub l j), fun c hc => h2 c ((erase_sub l j).subset hc)⟩
/-- A component is taken out: there is none of its kind, and its place is where it was. -/
theorem erase_at {ks : List GKind} {l : List GComp} (h : heldGo ks (-1) l = true) {j : Nat} (hj : j < l.length) : atB (l.take j ++ l.drop (j + 1)) (l[j]).Kind = false ∧ atI (l.take j ++ l.drop (j + 1)) (l[j]).Kind = j := by
  obtain ⟨h1, h2⟩ := held_iff.1 h
  have hp := List.pairwise_iff_getElem.1 h1
  have hlen : (l.take j ++ l.drop (j + 1)).length = l.length - 1 := by simp; omega
  have hget : ∀ t (ht : t < (l.take j ++ l.drop (j + 1)).length), ((l.take j ++ l.drop (j + 1))[t]).Kind = if h : t < j then (l[t]'(by omega)).Kind else (l[t + 1]'(by omega)).Kind := fun t ht => by
    by_cases htj : t < j
    · rw [dif_pos htj, List.getElem_append_left (by simp; omega)]
      simp
    · rw [dif_neg htj, List.getElem_append_right (by simp; omega)]
      simp
      congr 2
      omega
  refine ⟨atB_false fun c hc e => ?_, atI_eq j (by omega) fun t ht => ?_⟩
  · obtain ⟨t, ht, rfl⟩ := List.getElem_of_mem hc
    rw [hget t ht] at e
    split at e
    · rename_i htj
      have := hp t j (by omega) hj htj
      omega
    · rename_i htj
      have := hp j (t + 1) hj (by omega) (by omega)
      omega
  · rw [hget t ht]
    split
    · rename_i htj
      have := hp t j (by omega) hj htj
      exact ⟨fun _ => htj, fun _ => this⟩
    · rename_i htj
      have := hp j (t + 1) hj (by omega) (by omega)
      exact ⟨fun h => by omega, fun h => absurd h htj⟩
theorem insSort_one {α : Type} (c : α → α → Int) (x : α) : insSort c [x] = [x] := rfl
theorem fit_one {ks : List GKind} (hc : checkE ks = 0) {c : GComp} (h1 : 0 ≤ c.Kind) (h2 : c.Kind < ks.length) (hl : c.Vals.length = (ks.getD c.Kind.toNat k0).Fields.length) : fitC ks [c] = ([⟨c.Kind, List.zipWith nearM (ks.getD c.Kind.toNat k0).Fields c.Vals⟩], 0) := by
  have hone : oneE (ks.getD c.Kind.toNat k0) = 0 := by
    have hn : c.Kind.toNat < ks.length := by omega
    have : ks.getD c.Kind.toNat k0 = ks[c.Kind.toNat] := by simp [List.getD, hn]
    rw [this]; exact checkE_one hc _ (List.getElem_mem hn)
  have hE : fitE (ks.getD c.Kind.toNat k0) c.Vals = 0 := by unfold fitE; rw [if_neg (fun h => h hone), if_neg (fun h => h hl)]
  have hV : fitV (ks.getD c.Kind.toNat k0) c.Vals = List.zipWith nearM (ks.getD c.Kind.toNat k0).Fields c.Vals := by unfold fitV; rw [if_neg (fun h => h hone), if_neg (fun h => h hl)]; rfl
  unfold fitC
  rw [if_neg (by simp [hc]), fitGo, if_neg (by omega), if_neg (by simp), if_neg (fun h => h hE), fitGo, hV]
  rfl
end Go.Proofs.Ytbddlekpoelmkaa.Am
/- Package world: Put. -/
namespace Go.Proofs.Ytbddlekpoelmkaa.Am
open Go Go.RowKit

/-- A component in its place among others. -/
def putC (l : List GComp) (c : GComp) : List GComp := if atB l c.Kind = true then l.set (atI l c.Kind) c else l.take (atI l c.Kind) ++ c :: l.drop (atI l c.Kind)

theorem it_ren4 (its : List GItem) (p m : Nat) : renL (thF [] 4) ((its.map GItem.e).flatten.set p (.osl 1 2 0 m)) = (its.map GItem.e).flatten.set p (.osl 5 2 0 m) := by
  rw [renL_set, GItem.ren]; simp [thF]

set_option maxHeartbeats 2000000 in
set_option maxRecDepth 20000 in
theorem Put_ok (w : GWorld) (e : GEnt) (c c2 : GComp) (hw : checkW w = 0) (i : Nat) (hf : findI w e = some i) (hi : i < w.Items.length) (hv : c.Vals.length ≤ 1000) (hfit : fitC w.Kinds [c] = ([c2], 0)) (hck : c2.Kind = c.Kind) :
    Fn Try.prog 17 [.agg w.e, .agg e.e, .agg c.e] (.tup [.agg (setC w i (putC (w.Items[i]).Comps c2)).e, kI 0]) := by
  obtain ⟨hfi, hfc⟩ := checkW_fine hw
  have hcl := (hfc _ (List.getElem_mem hi)).1
  have hF := WFit_fn w.Kinds [c] hfi.kl hfi.kf (by simp) (by simpa using hv)
  rw [hfit] at hF
  rw [setC_e w hi]
  obtain ⟨C, hC⟩ : ∃ C, putC (w.Items[i]).Comps c2 = C := ⟨_, rfl⟩
  rw [hC]
  have hI := iset w.Items i hi C
  obtain ⟨I2, hI2⟩ : ∃ I2, w.Items.set i ⟨(w.Items[i]).Ent, C⟩ = I2 := ⟨_, rfl⟩
  have hI2l : I2.length = w.Items.length := by rw [← hI2]; simp
  rw [hI2] at hI ⊢
  refine fn_go Try.func17 rfl ?_
  simp [Try.ntmps17]
  refine calD [] (found_at w e i hw hf hi) ?_ (hren := by simp)
  have hp : i * 3 + 2 < w.Items.length * 3 := by omega
  have hp1 : i * 3 + 2 + 1 ≤ w.Items.length * 3 := by omega
  have hset := fun x y => set_put (B := (w.Items.map GItem.e).flatten) (p := i * 3 + 2) (x := x) (y := y) (by rw [flat_lenE GItem.e_len]; omega)
  simp [hi, hp, it_ren4, wdrop3]
  refine ops_fz 6 c.e ?_
  simp [fzL_set]
  refine cal hF ?_ (hren := by simp [chunks, List.range, List.range.loop])
  simp [hi, hp]
  refine awp_drawS follows_mix [(0, 0), (0, 0), (0, 0), (0, 0), (0, 0), (0, 0), (3, 0), (0, 0), (0, 0), (0, 0), (0, 0), (0, 0)] 7 7 [] (by kernel_rfl) rfl rfl ?_
  simp [hi, hp]
  obtain ⟨L, hL⟩ : ∃ L, (w.Items[i]).Comps = L := ⟨_, rfl⟩
  rw [hL] at hcl hC ⊢
  obtain ⟨j, hj⟩ : ∃ j, atI L c.Kind = j := ⟨_, rfl⟩
  obtain ⟨b, hb⟩ : ∃ b, atB L c.Kind = b := ⟨_, rfl⟩
  have hat := at_fn L c.Kind (by omega)
  rw [hj, hb] at hat
  have hjl : j ≤ L.length := by rw [← hj]; exact bs_le _ _
  refine gE_callW (.tup [kI j, kB b]) [5] [] rfl (fun y => ?_) ?_
  · simp
    exact does_snap hat rfl rfl rfl en_53 (by simp) (by simp) (by simp)
  simp
  have hputC : putC L c2 = if b = true then L.set j c2 else L.take j ++ c2 :: L.drop j := by unfold putC; rw [hck, hj, hb]
  rw [hputC] at hC
  cases b with
  | true =>
    have hjL : j < L.length := by obtain ⟨h, _⟩ := bsOk_lt hb; rw [← hj]; exact h
    rw [if_pos rfl] at hC
    have hrow := row_set (e := GComp.e) (z := 2) (fun _ => rfl) L j c2 hjL
    rw [hC] at hrow
    have hCl : C.length = L.length := by rw [← hC]; simp
    have hq : j * 2 + 2 ≤ L.length * 2 := by omega
    simp
    refine awp_drawS follows_mix [(0, 0), (0, 0), (0, 0), (0, 0), (0, 0), (0, 0), (0, 0), (0, 0), (0, 0), (1, 0)] 7 7 [] (by kernel_rfl) rfl rfl ?_
    simp [hi, hp, hjL, hq, hrow]
    rw [← hCl]
    refine fin_ent (ent_T [(6, .ptr 3 0), (7, kI 0)]) ?_
    refine fin_fz 5 _ ?_
    simp [fzL_set]
    rw [hI, ← hI2l]
    refine fin_fz 4 _ ?_
    simp
    exact finm (by simp)
  | false =>
    rw [if_neg (by simp)] at hC
    have hCl : C.length = L.length + 1 := by rw [← hC]; simp; omega
    have hIns := InsertC_fn L j c2 hjl (by omega)
    rw [hC] at hIns
    simp
    refine awp_drawS follows_mix [(0, 0), (0, 0), (0, 0), (0, 0), (0, 0), (0, 0), (0, 0), (0, 0), (0, 0), (4, 7), (5, 8), (0, 0), (0, 0), (1, 0)] 7 9 [(0, 9), (0, 10), (1, 9), (2, 9), (3, 9), (4, 9), (5, 9)] (by kernel_rfl) rfl rfl ?_
    simp [hi, hp]
    refine gE_call6 (.osl 8 2 0 (L.length + 1)) [5, 7] [5, 7] (C.map GComp.e).flatten rfl (fun y => ?_) (by simp) (by simp) (by simp) (by simp) ?_
    · simp
      exact does_fnd [5, 7] hIns rfl rfl rfl en_54 rfl (by simp) (by simp) (by simp) (by simp) (by simp) (by simp)
    simp [hi, hp, hp1, hset]
    rw [← hCl]
    refine fin_ent (ent_T [(6, .ptr 3 0), (7, kI 0)]) ?_
    refine fin_fz 8 _ ?_
    simp [fzL_set]
    rw [hI, ← hI2l]
    refine fin_fz 4 _ ?_
    simp
    exact finm (by simp)
end Go.Proofs.Ytbddlekpoelmkaa.Am
/- A component put in its place among others: the plain law. -/
namespace Go.Proofs.Ytbddlekpoelmkaa.Am
open Go Go.RowKit

abbrev SortedC (l : List GComp) : Prop := l.Pairwise (fun a b => a.Kind < b.Kind)

theorem atI_spec {l : List GComp} (h : SortedC l) (k : Int) : atI l k ≤ l.length ∧ ∀ j (hj : j < l.length), (l[j]).Kind < k ↔ j < atI l k := by
  have hp := List.pairwise_iff_getElem.1 h
  have key : ∀ j (hj : j < l.length), (l[j]).Kind < k ↔ j < l.findIdx (fun c => decide (k ≤ c.Kind)) := fun j hj => by
    constructor
    · intro hk
      rcases Nat.lt_or_ge j (l.findIdx (fun c => decide (k ≤ c.Kind))) with g | g
      · exact g
      · have hq : l.findIdx (fun c => decide (k ≤ c.Kind)) < l.length := by omega
        have hx := List.findIdx_getElem (w := hq)
        simp only [decide_eq_true_eq] at hx
        rcases Nat.lt_or_ge (l.findIdx (fun c => decide (k ≤ c.Kind))) j with g2 | g2
        · have := hp _ j hq hj g2; omega
        · have e : l.findIdx (fun c => decide (k ≤ c.Kind)) = j := by omega
          simp only [e] at hx
          omega
    · intro hk
      have h2 := List.not_of_lt_findIdx hk
      have h3 : ¬ k ≤ (l[j]).Kind := by simpa using h2
      omega
  have e := atI_eq (l := l) (k := k) _ List.findIdx_le_length key
  rw [e]
  exact ⟨List.findIdx_le_length, key⟩
theorem atB_spec {l : List GComp} (h : SortedC l) {j : Nat} (hj : j < l.length) : atI l (l[j]).Kind = j ∧ atB l (l[j]).Kind = true := by
  obtain ⟨h1, h2⟩ := atI_spec h (l[j]).Kind
  have hp := List.pairwise_iff_getElem.1 h
  have e : atI l (l[j]).Kind = j := by
    refine atI_eq j (by omega) fun t ht => ?_
    rcases Nat.lt_trichotomy t j with g | g | g
    · exact ⟨fun _ => g, fun _ => hp t j ht hj g⟩
    · subst g; exact ⟨fun x => absurd x (by omega), fun x => absurd x (by omega)⟩
    · have := hp j t hj ht g; exact ⟨fun x => absurd x (by omega), fun x => absurd x (by omega)⟩
  refine ⟨e, ?_⟩
  unfold atB bsOk
  have e2 : bs (fun c : GComp => cmpI c.Kind (l[j]).Kind) l = j := e
  rw [e2, List.getElem?_eq_getElem hj]
  simp [cmpI]
theorem atB_not {l : List GComp} (h : SortedC l) {k : Int} (hb : atB l k = false) {j : Nat} (hj : j < l.length) (hge : atI l k ≤ j) : k < (l[j]).Kind := by
  obtain ⟨h1, h2⟩ := atI_spec h k
  have := mt (h2 j hj).1 (by omega)
  rcases Int.lt_or_eq_of_le (Int.not_lt.1 this) with g | g
  · exact g
  · have := (atB_spec h hj).2
    rw [← g, hb] at this
    cases this

/-- The values of the component of a kind. -/
def getC (l : List GComp) (k : Int) : List Int × Int := if atB l k = true then (match l[atI l k]? with | some c => c.Vals | none => [], 0) else ([], 4)
theorem getC_mem {l : List GComp} (h : SortedC l) {c : GComp} (hc : c ∈ l) : getC l c.Kind = (c.Vals, 0) := by
  obtain ⟨j, hj, rfl⟩ := List.getElem_of_mem hc
  obtain ⟨e1, e2⟩ := atB_spec h hj
  unfold getC
  rw [if_pos e2, e1, List.getElem?_eq_getElem hj]
theorem getC_none {l : List GComp} {k : Int} (hn : ∀ c ∈ l, c.Kind ≠ k) : getC l k = ([], 4) := by
  unfold getC
  rw [atB_false hn]; simp

theorem putC_len (l : List GComp) (c : GComp) : (putC l c).length ≤ l.length + 1 := by
  unfold putC; split <;> simp <;> omega
theorem putC_mem {l : List GComp} (h : SortedC l) (c x : GComp) : x ∈ putC l c ↔ x = c ∨ (x ∈ l ∧ x.Kind ≠ c.Kind) := by
  have hp := List.pairwise_iff_getElem.1 h
  unfold putC
  cases hb : atB l c.Kind with
  | true =>
    obtain ⟨hj, hk⟩ := atB_get hb
    simp only [if_true]
    constructor
    · intro hx
      obtain ⟨t, ht, rfl⟩ := List.getElem_of_mem hx
      rw [List.length_set] at ht
      rw [List.getElem_set]
      split
      · exact .inl rfl
      · rename_i hne
        refine .inr ⟨List.getElem_mem ht, fun e => hne ?_⟩
        have := (atB_spec h ht).1
        rw [e] at this
        exact this
    · rintro (rfl | ⟨hx, hne⟩)
      · exact List.mem_set hj _
      · obtain ⟨t, ht, rfl⟩ := List.getElem_of_mem hx
        have htn : atI l c.Kind ≠ t := fun e => by subst e; exact hne hk
        have : (l.set (atI l c.Kind) c)[t]'(by simpa using ht) = l[t] := by rw [List.getElem_set, if_neg htn]
        rw [← this]
        exact List.getElem_mem _
  | false =>
    simp only [Bool.false_eq_true, if_false, List.mem_append, List.mem_cons]
    constructor
    · rintro (hx | rfl | hx)
      · refine .inr ⟨List.mem_of_mem_take hx, fun e => ?_⟩
        have hm := List.mem_of_mem_take hx
        obtain ⟨t, ht, rfl⟩ := List.getElem_of_mem hm
        have := (atB_spec h ht).2
        rw [e, hb] at this; cases this
      · exact .inl rfl
      · refine .inr ⟨List.mem_of_mem_drop hx, fun e => ?_⟩
        have hm := List.mem_of_mem_drop hx
        obtain ⟨t, ht, rfl⟩ := List.getElem_of_mem hm
        have := (atB_spec h ht).2
        rw [e, hb] at this; cases this
    · rintro (rfl | ⟨hx, _⟩)
      · exact .inr (.inl rfl)
      · rw [← List.take_append_drop (atI l c.Kind) l] at hx
        rcases List.mem_append.1 hx with g | g
        · exact .inl g
        · exact .inr (.inr g)
theorem putC_sorted {l : List GComp} (h : SortedC l) (c : GComp) : SortedC (putC l c) := by
  have hp := List.pairwise_iff_getElem.1 h
  unfold putC
  cases hb : atB l c.Kind with
  | true =>
    obtain ⟨hj, hk⟩ := atB_get hb
    simp only [if_true]
    have hK : ∀ t (ht : t < (l.set (atI l c.Kind) c).length), ((l.set (atI l c.Kind) c)[t]).Kind = (l[t]'(by simpa using ht)).Kind := fun t ht => by
      rw [List.getElem_set]
      split
      · rename_i e; subst e; exact hk.symm
      · rfl
    refine List.pairwise_iff_getElem.2 fun a b ha hb2 hab => ?_
    rw [hK a ha, hK b hb2]
    exact hp a b _ _ hab
  | false =>
    obtain ⟨h1, h2⟩ := atI_spec h c.Kind
    simp only [Bool.false_eq_true, if_false]
    have hb1 : ∀ x ∈ l.take (atI l c.Kind), x.Kind < c.Kind := fun x hx => by
      obtain ⟨t, ht, rfl⟩ := List.getElem_of_mem hx
      rw [List.length_take] at ht
      rw [List.getElem_take]
      exact (h2 t (by omega)).2 (by omega)
    have hb2 : ∀ x ∈ l.drop (atI l c.Kind), c.Kind < x.Kind := fun x hx => by
      obtain ⟨t, ht, rfl⟩ := List.getElem_of_mem hx
      rw [List.length_drop] at ht
      rw [List.getElem_drop]
      exact atB_not h hb (by omega) (by omega)
    refine List.pairwise_append.2 ⟨h.sublist (List.take_sublist _ _), List.pairwise_cons.2 ⟨hb2, h.sublist (List.drop_sublist _ _)⟩, fun a ha b hbm => ?_⟩
    rcases List.mem_cons.1 hbm with e | hbm
    · subst e; exact hb1 a ha
    · have := hb1 a ha
      have := hb2 b hbm
      omega
theorem putC_held {ks : List GKind} {l : List GComp} (h : heldGo ks (-1) l = true) {c : GComp} (hc : 0 ≤ c.Kind) (hc2 : c.Kind < ks.length) (hc3 : holdsB (ks.getD c.Kind.toNat k0) c.Vals = true) : heldGo ks (-1) (putC l c) = true := by
  obtain ⟨h1, h2⟩ := held_iff.1 h
  refine held_iff.2 ⟨putC_sorted h1 c, fun x hx => ?_⟩
  rcases (putC_mem h1 c x).1 hx with e | ⟨hx, _⟩
  · subst e; exact ⟨by omega, hc2, hc3⟩
  · exact h2 x hx
theorem getC_put {l : List GComp} (h : SortedC l) (c : GComp) {k : Int} (hk : k ≠ c.Kind) : getC (putC l c) k = getC l k := by
  by_cases hx : ∃ x ∈ l, x.Kind = k
  · obtain ⟨x, hx, rfl⟩ := hx
    rw [getC_mem h hx, getC_mem (putC_sorted h c) ((putC_mem h c x).2 (.inr ⟨hx, hk⟩))]
  · have hn : ∀ x ∈ l, x.Kind ≠ k := fun x hm e => hx ⟨x, hm, e⟩
    rw [getC_none hn, getC_none fun x hm => ?_]
    rcases (putC_mem h c x).1 hm with e | ⟨hm, _⟩
    · subst e; exact fun e => hk e.symm
    · exact hn x hm
theorem getC_same {l : List GComp} (h : SortedC l) (c : GComp) : getC (putC l c) c.Kind = (c.Vals, 0) := getC_mem (putC_sorted h c) ((putC_mem h c c).2 (.inl rfl))
/-- Two sorted lists with the same members are equal. -/
theorem sorted_ext : ∀ {a b : List GComp}, SortedC a → SortedC b → (∀ x, x ∈ a ↔ x ∈ b) → a = b
  | [], [], _, _, _ => rfl
  | [], y :: b, _, _, h => by have := (h y).2 (List.mem_cons_self ..); simp at this
  | x :: a, [], _, _, h => by have := (h x).1 (List.mem_cons_self ..); simp at this
  | x :: a, y :: b, ha, hb, h => by
    obtain ⟨ha1, ha2⟩ := List.pairwise_cons.1 ha
    obtain ⟨hb1, hb2⟩ := List.pairwise_cons.1 hb
    have hxy : x = y := by
      rcases List.mem_cons.1 ((h x).1 (List.mem_cons_self ..)) with e | g1
      · exact e
      · rcases List.mem_cons.1 ((h y).2 (List.mem_cons_self ..)) with e | g2
        · exact e.symm
        · have := hb1 x g1; have := ha1 y g2; omega
    subst hxy
    rw [sorted_ext ha2 hb2 fun z => ?_]
    constructor
    · intro hz
      rcases List.mem_cons.1 ((h z).1 (List.mem_cons_of_mem _ hz)) with e | g
      · subst e; have := ha1 z hz; omega
      · exact g
    · intro hz
      rcases List.mem_cons.1 ((h z).2 (List.mem_cons_of_mem _ hz)) with e | g
      · subst e; have := hb1 z hz; omega
      · exact g
theorem putC_put {l : List GComp} (h : SortedC l) {c d : GComp} (hk : d.Kind = c.Kind) : putC (putC l c) d = putC l d := by
  refine sorted_ext (putC_sorted (putC_sorted h c) d) (putC_sorted h d) fun x => ?_
  rw [putC_mem (putC_sorted h c), putC_mem h, putC_mem h]
  constructor
  · rintro (e | ⟨e | ⟨h1, h2⟩, h3⟩)
    · exact .inl e
    · subst e; exact absurd hk.symm h3
    · exact .inr ⟨h1, h3⟩
  · rintro (e | ⟨h1, h2⟩)
    · exact .inl e
    · exact .inr ⟨.inr ⟨h1, by rw [← hk]; exact h2⟩, h2⟩
end Go.Proofs.Ytbddlekpoelmkaa.Am
/- WorldDrops: the law. -/
namespace Go.Proofs.Ytbddlekpoelmkaa.Am
open Go Go.RowKit

def pickE (w : GWorld) (n : Int) : GEnt := if w.Items = [] then ⟨0, 0⟩ else (w.Items.getD (n % (w.Items.length : Int)).toNat ⟨⟨0, 0⟩, []⟩).Ent
set_option maxRecDepth 20000 in
theorem pick_fn (w : GWorld) (n : Int) (hl : w.Items.length ≤ 1000000) : Fn Try.prog 15 [.agg w.e, kI n] (.tup [.agg (pickE w n).e, kB (decide (w.Items ≠ []))]) := by
  refine fn_go Try.func15 rfl ?_
  simp [Try.ntmps15]
  by_cases h0 : w.Items = []
  · simp [h0]
    exact finm (by simp [pickE, h0, GEnt.e])
  · have hp : 0 < w.Items.length := List.length_pos_iff.2 h0
    have hv1 := Int.emod_nonneg n (b := (w.Items.length : Int)) (by omega)
    have hv2 := Int.emod_lt_of_pos n (b := (w.Items.length : Int)) (by omega)
    obtain ⟨y, hy⟩ : ∃ y : Nat, n % (w.Items.length : Int) = y := ⟨(n % (w.Items.length : Int)).toNat, by omega⟩
    have hyl : y < w.Items.length := by omega
    have h00 : ¬ w.Items.length = 0 := by omega
    have hE : pickE w n = (w.Items[y]).Ent := by simp [pickE, h0, hy, List.getD, hyl]
    simp [h00, h0]
    refine awp_draw follows_mix [] [(0, [0]), (0, [0]), (0, [0]), (0, [0]), (0, [0]), (0, [0]), (2, [0]), (0, [0]), (0, [0]), (0, [0]), (1, [0]), (0, [1])] 1 (by kernel_rfl) rfl ?_
    simp
    refine gD_call (kI y) ?_
    simp [hyl]
    refine ⟨hy ▸ calO (Below_fn n w.Items.length (by omega) (by omega)), ?_⟩
    exact finm (by simp [hE, h0, GEnt.e])
theorem pick_find {w : GWorld} (h0 : w.Items ≠ []) (n : Int) : ∃ i, findI w (pickE w n) = some i := by
  have hp : 0 < w.Items.length := List.length_pos_iff.2 h0
  have hv1 := Int.emod_nonneg n (b := (w.Items.length : Int)) (by omega)
  have hv2 := Int.emod_lt_of_pos n (b := (w.Items.length : Int)) (by omega)
  obtain ⟨y, hy⟩ : ∃ y : Nat, n % (w.Items.length : Int) = y := ⟨(n % (w.Items.length : Int)).toNat, by omega⟩
  have hyl : y < w.Items.length := by omega
  have hE : pickE w n = (w.Items[y]).Ent := by simp [pickE, h0, hy, List.getD, hyl]
  cases hf : findI w (pickE w n) with
  | some i => exact ⟨i, rfl⟩
  | none =>
    have := List.findIdx?_eq_none_iff.1 hf (w.Items[y]) (List.getElem_mem hyl)
    simp [hE] at this
theorem get_at {w : GWorld} {e : GEnt} {k : Int} (hw : checkW w = 0) {i : Nat} (hf : findI w e = some i) (hi : i < w.Items.length) : getM w e k = if atB (w.Items[i]).Comps k = true then (match (w.Items[i]).Comps[atI (w.Items[i]).Comps k]? with | some c => c.Vals | none => [], 0) else ([], 4) := by
  unfold getM
  rw [if_neg (by simp [hw])]
  unfold findI at hf
  rw [hf]
  simp only [List.getElem?_eq_getElem hi]
  rfl

set_option maxHeartbeats 1000000 in
set_option maxRecDepth 20000 in
theorem WorldDrops_law (l : List Int) (n k : Int) (hl : l.length * 8 ≤ 140737488351232) (hw : ∀ x ∈ l, (Lit.int .i64 x).wf = true) (hn : (Lit.int .i64 n).wf = true) (hk : (Lit.int .i64 k).wf = true) :
    Fn Try.prog 5 [slI l, kI n, kI k] (kB true) := by
  refine fn_go Try.func5 rfl ?_
  simp [Try.ntmps5]
  refine cal (World_fn l) ?_
  have hv := worldM_valid l
  have hk0 : 0 < (worldM l).Kinds.length := (kindsM_good l).2
  generalize worldM l = w at hv hk0 ⊢
  obtain ⟨hfi, hfc⟩ := checkW_fine hv
  have hvals : ∀ {w : GWorld}, checkW w = 0 → ∀ it ∈ w.Items, ∀ c ∈ it.Comps, c.Vals.length ≤ 1000 := fun h it hi c hc => by have := (((checkW_fine h).2 it hi).2 c hc).2.2.2; omega
  simp
  refine cal begun_fn ?_
  simp
  refine cal (pick_fn w n hfi.il) ?_
  by_cases h0 : w.Items = []
  · simp [h0]
    exact finm (by simp)
  · obtain ⟨i, hf⟩ := pick_find h0 n
    generalize pickE w n = e at hf ⊢
    obtain ⟨hi, hent⟩ := findI_lt hf
    obtain ⟨ce, cg, ci, cn, cit⟩ := checkW_iff.1 hv
    have hkl := hfi.kl
    simp [h0]
    refine cal (Below_fn k w.Kinds.length (by omega) (by omega)) ?_
    have hv1 := Int.emod_nonneg k (b := (w.Kinds.length : Int)) (by omega)
    have hv2 := Int.emod_lt_of_pos k (b := (w.Kinds.length : Int)) (by omega)
    generalize k % (w.Kinds.length : Int) = k at hv1 hv2 ⊢
    simp
    have hg := get_at (k := k) hv hf hi
    have hG := Get_fn w e k hfi (hvals hv)
    have hmem := List.getElem_mem hi
    have hheld := items_held cit _ hmem
    cases ha : atB (w.Items[i]).Comps k with
    | false =>
      rw [ha, if_neg (by simp)] at hg
      rw [hg] at hG
      refine cal hG ?_
      simp
      refine cal (Drop_none w e k hv i hf hi ha) ?_
      simp
      exact finm (by simp)
    | true =>
      obtain ⟨hj, hjk⟩ := atB_get ha
      obtain ⟨j, hje⟩ : ∃ j, atI (w.Items[i]).Comps k = j := ⟨_, rfl⟩
      have hD := Drop_ok w e k hv i hf hi ha
      simp only [hje] at hj hjk hD
      obtain ⟨c, hc⟩ : ∃ c, (w.Items[i]).Comps[j] = c := ⟨_, rfl⟩
      have hcm : c ∈ (w.Items[i]).Comps := hc ▸ List.getElem_mem hj
      rw [ha, if_pos rfl, hje, List.getElem?_eq_getElem hj, hc] at hg
      simp only at hg
      rw [hg] at hG
      obtain ⟨ea, eb⟩ := erase_at hheld hj
      rw [hjk] at ea eb
      obtain ⟨C, hC⟩ : ∃ C, (w.Items[i]).Comps.take j ++ (w.Items[i]).Comps.drop (j + 1) = C := ⟨_, rfl⟩
      have hCh : heldGo w.Kinds (-1) C = true := hC ▸ held_erase hheld j
      rw [hC] at ea eb hD
      have hv2' := setC_valid hv hi hCh
      have hf2 : findI (setC w i C) e = some i := by rw [findI_setC w hi, hf]
      have hi2 : i < (setC w i C).Items.length := by rw [setC_len]; exact hi
      have hget2 := setC_get w hi C
      have hD2 := Drop_none (setC w i C) e k hv2' i hf2 hi2 (by rw [hget2]; exact ea)
      have hck : c.Kind = k := by rw [← hc]; exact hjk
      obtain ⟨b1, b2, b3, b4⟩ := (hfc _ hmem).2 c hcm
      obtain ⟨_, f2, f3⟩ := holds_iff.1 b3
      have hfit : fitC (setC w i C).Kinds [⟨k, c.Vals⟩] = ([c], 0) := by
        have := fit_one (ks := w.Kinds) ce (c := ⟨k, c.Vals⟩) (by simp only; omega) (by simp only; omega) (by simp only; rw [← hck]; exact f2)
        rw [show (setC w i C).Kinds = w.Kinds from rfl, this]
        simp only
        rw [← hck, f3]
      have hP := Put_ok (setC w i C) e ⟨k, c.Vals⟩ c hv2' i hf2 hi2 (by simp only; omega) hfit hck
      rw [hget2] at hP
      simp only at hP
      have hput : putC C c = (w.Items[i]).Comps := by
        unfold putC
        rw [hck, ea, eb, ← hC]
        simp only [Bool.false_eq_true, if_false]
        rw [List.take_append_of_le_length (by simp; omega), List.take_of_length_le (by simp; omega), List.drop_append_of_le_length (by simp; omega), List.drop_of_length_le (by simp; omega), List.nil_append, ← hc, ← List.drop_eq_getElem_cons hj, List.take_append_drop]
      rw [hput, setC_setC w hi, setC_self w hi] at hP
      refine cal hG ?_
      simp
      refine cal hD ?_
      simp
      refine cal hD2 ?_
      simp
      refine cal hP ?_ (hren := by simp [GComp.e])
      simp
      refine cal (same_fn w w hfi) ?_
      simp
      exact finm (by simp)
end Go.Proofs.Ytbddlekpoelmkaa.Am
/- WorldGets: the law. -/
namespace Go.Proofs.Ytbddlekpoelmkaa.Am
open Go Go.RowKit

theorem getM_C {w : GWorld} {e : GEnt} {k : Int} (hw : checkW w = 0) {i : Nat} (hf : findI w e = some i) (hi : i < w.Items.length) : getM w e k = getC (w.Items[i]).Comps k := by
  rw [get_at hw hf hi]; rfl
theorem getM_len {w : GWorld} (hw : checkW w = 0) (e : GEnt) (k : Int) : (getM w e k).1.length ≤ 8 := by
  cases hf : findI w e with
  | none =>
    unfold getM
    rw [if_neg (by simp [hw])]
    unfold findI at hf
    rw [hf]
    simp
  | some i =>
    obtain ⟨hi, _⟩ := findI_lt hf
    rw [getM_C hw hf hi]
    unfold getC
    split
    · rename_i hb
      obtain ⟨hj, _⟩ := atB_get hb
      rw [List.getElem?_eq_getElem hj]
      exact (((checkW_fine hw).2 _ (List.getElem_mem hi)).2 _ (List.getElem_mem hj)).2.2.2
    · simp
theorem findI_self {w : GWorld} (hw : checkW w = 0) {i : Nat} (hi : i < w.Items.length) : findI w (w.Items[i]).Ent = some i := by
  obtain ⟨_, _, _, _, e⟩ := checkW_iff.1 hw
  unfold findI
  rw [List.findIdx?_eq_some_iff_getElem]
  refine ⟨hi, by simp, fun j hj => ?_⟩
  have hs : w.Items.Pairwise (fun a b => a.Ent.N < b.Ent.N) := by
    have : ∀ {its : List GItem} {last : Int}, itemsB w.Kinds w.Gens last its = true → its.Pairwise (fun a b => a.Ent.N < b.Ent.N) ∧ ∀ x ∈ its, last < x.Ent.N := by
      intro its
      induction its with
      | nil => intro last _; exact ⟨.nil, by simp⟩
      | cons x r ih =>
        intro last h
        obtain ⟨h1, h2, h3, h4, h5, h6⟩ := items_cons.1 h
        obtain ⟨g1, g2⟩ := ih h6
        refine ⟨List.pairwise_cons.2 ⟨g2, g1⟩, fun y hy => ?_⟩
        rcases List.mem_cons.1 hy with rfl | hy
        · exact h1
        · have := g2 y hy; omega
    exact (this e).1
  have := List.pairwise_iff_getElem.1 hs j i (by omega) hi hj
  intro h
  have h2 := of_decide_eq_true h
  rw [h2] at this; omega

set_option maxHeartbeats 2000000 in
set_option maxRecDepth 20000 in
theorem WorldGets_law (l : List Int) (n : Int) (m o : List Int) (hl : l.length * 8 ≤ 140737488351232) (hw : ∀ x ∈ l, (Lit.int .i64 x).wf = true) (hn : (Lit.int .i64 n).wf = true)
    (hml : m.length * 8 ≤ 140737488351232) (hwm : ∀ x ∈ m, (Lit.int .i64 x).wf = true) (hol : o.length * 8 ≤ 140737488351232) (hwo : ∀ x ∈ o, (Lit.int .i64 x).wf = true) :
    Fn Try.prog 4 [slI l, kI n, slI m, slI o] (kB true) := by
  refine fn_go Try.func4 rfl ?_
  simp [Try.ntmps4]
  refine cal (World_fn l) ?_
  have hv := worldM_valid l
  have hk0 : 0 < (worldM l).Kinds.length := (kindsM_good l).2
  generalize worldM l = w at hv hk0 ⊢
  obtain ⟨hfi, hfc⟩ := checkW_fine hv
  have hvals : ∀ {w : GWorld}, checkW w = 0 → ∀ it ∈ w.Items, ∀ c ∈ it.Comps, c.Vals.length ≤ 1000 := fun h it hi c hc => by have := (((checkW_fine h).2 it hi).2 c hc).2.2.2; omega
  simp
  refine cal begun_fn ?_
  simp
  refine cal (pick_fn w n hfi.il) ?_
  by_cases h0 : w.Items = []
  · simp [h0]
    exact finm (by simp)
  · obtain ⟨i, hf⟩ := pick_find h0 n
    generalize pickE w n = e at hf ⊢
    obtain ⟨hi, hent⟩ := findI_lt hf
    obtain ⟨ce, cg, ci, cn, cit⟩ := checkW_iff.1 hv
    obtain ⟨ce1, ce2⟩ := checkE_le ce
    have hkl := hfi.kl
    have hv1 := Int.emod_nonneg n (b := (w.Kinds.length : Int)) (by omega)
    have hv2 := Int.emod_lt_of_pos n (b := (w.Kinds.length : Int)) (by omega)
    obtain ⟨q, hq⟩ : ∃ q : Nat, n % (w.Kinds.length : Int) = q := ⟨(n % (w.Kinds.length : Int)).toNat, by omega⟩
    have hqk : q < w.Kinds.length := by omega
    obtain ⟨K, hK⟩ : ∃ K, w.Kinds[q] = K := ⟨_, rfl⟩
    have hKm : K ∈ w.Kinds := hK ▸ List.getElem_mem hqk
    have hKf := ce2 K hKm
    have hcm := comp_fn w.Kinds n m q hk0 (by omega) hq hqk (by rw [hK]; omega)
    have hcd := comp_fn w.Kinds n o q hk0 (by omega) hq hqk (by rw [hK]; omega)
    rw [hK] at hcm hcd
    obtain ⟨mv, hmv⟩ : ∃ mv, compV n m K.Fields.length = mv := ⟨_, rfl⟩
    obtain ⟨ov, hov⟩ : ∃ ov, compV n o K.Fields.length = ov := ⟨_, rfl⟩
    have hmvl : mv.length = K.Fields.length := by rw [← hmv]; simp [compV]
    have hovl : ov.length = K.Fields.length := by rw [← hov]; simp [compV]
    rw [hmv] at hcm
    rw [hov] at hcd
    have hgK0 : w.Kinds.getD ((q : Int)).toNat k0 = K := by simp [List.getD, hqk, hK]
    have hfitc := fit_one (ks := w.Kinds) ce (c := ⟨q, mv⟩) (by simp only; omega) (by simp only; omega) (by simp only [hgK0]; exact hmvl)
    have hfitd := fit_one (ks := w.Kinds) ce (c := ⟨q, ov⟩) (by simp only; omega) (by simp only; omega) (by simp only [hgK0]; exact hovl)
    simp only [hgK0] at hfitc hfitd
    obtain ⟨c2, hc2⟩ : ∃ c2 : GComp, c2 = ⟨q, List.zipWith nearM K.Fields mv⟩ := ⟨_, rfl⟩
    obtain ⟨d2, hd2⟩ : ∃ d2 : GComp, d2 = ⟨q, List.zipWith nearM K.Fields ov⟩ := ⟨_, rfl⟩
    rw [← hc2] at hfitc
    rw [← hd2] at hfitd
    have hc2k : c2.Kind = q := by rw [hc2]
    have hd2k : d2.Kind = q := by rw [hd2]
    have hone := checkE_one ce K hKm
    have hfl := oneE_fields hone
    have hzz : ∀ x : List Int, x.length = K.Fields.length → holdsB K (List.zipWith nearM K.Fields x) = true := fun x hx => by
      have hzl : (List.zipWith nearM K.Fields x).length = K.Fields.length := by simp [hx]
      refine holds_iff.2 ⟨hone, hzl, (zip_iff hzl).2 fun t t1 t2 => ?_⟩
      rw [List.getElem_zipWith]
      exact nearIdem (hfl _ (List.getElem_mem t1)) _
    have hmem := List.getElem_mem hi
    have hheld := items_held cit _ hmem
    have hsort := (held_iff.1 hheld).1
    have hPc := Put_ok w e ⟨q, mv⟩ c2 hv i hf hi (by simp only; omega) hfitc hc2k
    have hPd := Put_ok w e ⟨q, ov⟩ d2 hv i hf hi (by simp only; omega) hfitd hd2k
    obtain ⟨L, hL⟩ : ∃ L, (w.Items[i]).Comps = L := ⟨_, rfl⟩
    rw [hL] at hheld hsort hPc hPd
    have hputh : heldGo w.Kinds (-1) (putC L c2) = true := putC_held hheld (by omega) (by omega) (by rw [hc2k, hgK0, hc2]; exact hzz mv hmvl)
    have hvv := setC_valid hv hi hputh
    have hfv : ∀ e2, findI (setC w i (putC L c2)) e2 = findI w e2 := fun e2 => findI_setC w hi _ e2
    have hiv : i < (setC w i (putC L c2)).Items.length := by rw [setC_len]; exact hi
    have hgv := setC_get w hi (putC L c2)
    have hPvd := Put_ok (setC w i (putC L c2)) e ⟨q, ov⟩ d2 hvv i (by rw [hfv]; exact hf) hiv (by simp only; omega) hfitd hd2k
    rw [hgv] at hPvd
    simp only at hPvd
    rw [setC_setC w hi, putC_put hsort (by rw [hc2k, hd2k])] at hPvd
    obtain ⟨v, hve⟩ : ∃ v, setC w i (putC L c2) = v := ⟨_, rfl⟩
    have hgv2 : ∀ h : i < v.Items.length, v.Items[i] = ⟨(w.Items[i]).Ent, putC L c2⟩ := by subst hve; intro h; exact hgv
    have hgetv : ∀ (t : Nat) (ht : t < w.Items.length) (ht2 : t < v.Items.length) (k : Int), ¬ ((w.Items[t]).Ent = e ∧ k = q) → getM v (w.Items[t]).Ent k = getM w (w.Items[t]).Ent k := fun t ht ht2 k hne => by
      have f1 := findI_self hv ht
      have f2 : findI v (w.Items[t]).Ent = some t := by rw [← hve, hfv]; exact f1
      rw [hve] at hvv
      rw [getM_C hv f1 ht, getM_C hvv f2 ht2]
      by_cases hti : t = i
      · subst hti
        have hkq : k ≠ c2.Kind := fun h => hne ⟨hent, by rw [h, hc2k]⟩
        have e1 : (v.Items[t]).Comps = putC L c2 := by
          subst hve; rw [hgv]
        rw [e1, hL]
        exact getC_put hsort c2 hkq
      · have e1 : v.Items[t] = w.Items[t] := by
          subst hve
          have : ∀ (its : List GItem) (h : its = w.Items.set i ⟨(w.Items[i]).Ent, putC L c2⟩) (h2 : t < its.length), its[t] = w.Items[t] := fun its h h2 => by
            subst h
            rw [List.getElem_set, if_neg (fun h => hti h.symm)]
          exact this _ (setC_items w hi _) ht2
        rw [e1]
    have hgete : getM v e q = (c2.Vals, 0) := by
      rw [hve] at hvv hiv
      rw [getM_C hvv (by rw [← hve, hfv]; exact hf) hiv]
      have e1 : (v.Items[i]).Comps = putC L c2 := by rw [hgv2]
      rw [e1, ← hc2k]
      exact getC_same hsort c2
    simp [h0]
    refine awp_drawS follows_mix [(0, 0), (0, 0), (0, 0), (0, 0), (2, 0), (0, 0), (0, 0), (0, 0), (0, 0), (2, 0), (4, 2), (4, 3), (1, 0), (1, 0)] 2 4 [(0, 10), (0, 11), (1, 10), (1, 11), (2, 10), (2, 11), (3, 10), (3, 11), (4, 10), (4, 11), (5, 10), (5, 11), (6, 10), (6, 11), (7, 10), (7, 11), (8, 10), (8, 11), (9, 10), (9, 11), (10, 11)] (by kernel_rfl) rfl rfl ?_
    simp
    refine gE_call (.agg (GComp.e ⟨q, mv⟩)) (calO hcm) ?_
    simp
    refine gE_call (.agg (GComp.e ⟨q, ov⟩)) (calO hcd) ?_
    simp
    rw [hve] at hPc hPvd hvv hiv
    obtain ⟨hfiv, _⟩ := checkW_fine hvv
    refine cal hPc ?_
    simp
    refine awp_draw follows_mix [] [(0, [0]), (0, [0]), (0, [0]), (0, [0]), (0, [0]), (0, [0]), (0, [0]), (0, [0]), (2, [0]), (0, [0]), (0, [0]), (0, [0]), (0, [0]), (0, [0])] 0 (by kernel_rfl) rfl ?_
    have hFt := Fit_fn K mv (by omega) (by omega)
    have hfE : fitE K mv = 0 := by unfold fitE; rw [if_neg (fun h => h hone), if_neg (fun h => h hmvl)]
    have hfV : fitV K mv = c2.Vals := by rw [hc2]; unfold fitV; rw [if_neg (fun h => h hone), if_neg (fun h => h hmvl)]; rfl
    rw [hfE, hfV] at hFt
    simp [hqk, hK]
    refine gD_call (.tup [slI c2.Vals, kI 0]) ?_
    simp [hqk, hK]
    refine ⟨calO hFt, ?_⟩
    have hGv := Get_fn v e q hfiv (hvals hvv)
    rw [hgete] at hGv
    refine cal hGv ?_
    simp
    have hc2l : c2.Vals.length ≤ 1000 := by rw [hc2]; simp; omega
    refine cal (EqualI_fn c2.Vals c2.Vals (by omega)) ?_
    simp
    have hvl : v.Items.length = w.Items.length := by rw [← hve, setC_len]
    refine awp_loop (fun t : Nat => ⟨167, [(9, .ptr 0 0), (10, .ptr 1 0), (12, .ptr 2 0), (13, .ptr 3 0), (14, .ptr 4 0), (93, .sl 3 (w.Items.map GItem.e)), (94, kI w.Items.length), (95, kI t)], [some w.e, some e.e, some (GComp.e ⟨q, mv⟩), some (GComp.e ⟨q, ov⟩), some v.e], 0⟩) (fun t => t ≤ w.Items.length) (fun t => w.Items.length - t) 0 ?_ ?_ ?_
    · exact entm [0, 1, 2, 3, 4]
    · simp
    · intro t ht
      refine awp_go ?_
      by_cases htl : t < w.Items.length
      · obtain ⟨it, hit⟩ : ∃ it, w.Items[t] = it := ⟨_, rfl⟩
        have hgt := hgetv t htl (by omega)
        rw [hit] at hgt
        simp [htl, hit]
        refine awp_loop (fun k : Nat => ⟨167, [(9, .ptr 0 0), (10, .ptr 1 0), (12, .ptr 2 0), (13, .ptr 3 0), (14, .ptr 4 0), (21, .ptr 5 0), (93, .sl 3 (w.Items.map GItem.e)), (94, kI w.Items.length), (95, kI t), (101, kI w.Kinds.length), (102, kI k)], [some w.e, some e.e, some (GComp.e ⟨q, mv⟩), some (GComp.e ⟨q, ov⟩), some v.e, some it.e], 0⟩) (fun k => k ≤ w.Kinds.length) (fun k => w.Kinds.length - k) 0 ?_ ?_ ?_
        · exact entm [0, 1, 2, 3, 4, 5]
        · simp
        · intro k hkk
          refine awp_go ?_
          by_cases hkl2 : k < w.Kinds.length
          · by_cases hsk : it.Ent = e ∧ (k : Int) = q
            · have hkq : k = q := by omega
              simp [hkl2, hsk.1, hkq, hqk]
              rw [wrap_id (by omega) (by omega)]
              exact ⟨k + 1, by omega, by omega, entm [0, 1, 2, 3, 4, 5] (hT := by simp; omega)⟩
            · have hgk := hgt k hsk
              have hA := getM_len hv it.Ent k
              have hGw := Get_fn w it.Ent k hfi (hvals hv)
              have hGv2 := Get_fn v it.Ent k hfiv (hvals hvv)
              rw [hgk] at hGv2
              obtain ⟨A, hAe⟩ : ∃ A, getM w it.Ent k = A := ⟨_, rfl⟩
              rw [hAe] at hGw hGv2 hA
              by_cases hie : it.Ent = e
              · have hkq : ¬ (k : Int) = (q : Int) := fun h => hsk ⟨hie, h⟩
                have hkq2 : ¬ k = q := by omega
                simp [hkl2, hie, hkq, hkq2]
                rw [hie] at hGw hGv2
                refine cal hGw ?_
                simp
                refine cal hGv2 ?_ (hren := by simp [hie])
                simp
                refine cal (EqualI_fn A.1 A.1 (by omega)) ?_
                simp
                rw [wrap_id (by omega) (by omega)]
                exact ⟨k + 1, by omega, by omega, entm [0, 1, 2, 3, 4, 5] (hT := by simp)⟩
              · simp [hkl2, hie]
                refine cal hGw ?_
                simp
                refine cal hGv2 ?_
                simp
                refine cal (EqualI_fn A.1 A.1 (by omega)) ?_
                simp
                rw [wrap_id (by omega) (by omega)]
                exact ⟨k + 1, by omega, by omega, entm [0, 1, 2, 3, 4, 5]⟩
          · have : k = w.Kinds.length := by omega
            subst this
            simp
            rw [wrap_id (by omega) (by have := hfi.il; omega)]
            exact ⟨t + 1, by omega, by omega, entm [0, 1, 2, 3, 4]⟩
      · have : t = w.Items.length := by omega
        subst this
        simp
        refine cal hPvd ?_
        simp
        refine cal hPd ?_
        simp
        have hsd := checkW_fine (setC_valid hv hi (C := putC L d2) (putC_held hheld (by omega) (by omega) (by rw [hd2k, hgK0, hd2]; exact hzz ov hovl)))
        refine cal (same_fn (setC w i (putC L d2)) (setC w i (putC L d2)) hsd.1) ?_
        simp
        exact finm (by simp)
end Go.Proofs.Ytbddlekpoelmkaa.Am
/- Fitting components that are valid: the plain law. -/
namespace Go.Proofs.Ytbddlekpoelmkaa.Am
open Go Go.RowKit

theorem fitGo_valid {ks : List GKind} (hc : checkE ks = 0) : ∀ (r pre : List GComp), (pre ++ r).Pairwise (fun a b => a.Kind ≠ b.Kind) →
    (∀ c ∈ pre ++ r, 0 ≤ c.Kind ∧ c.Kind < ks.length ∧ holdsB (ks.getD c.Kind.toNat k0) c.Vals = true) → fitGo ks pre r pre = (insSort cK (pre ++ r), 0)
  | [], pre, _, _ => by rw [fitGo, List.append_nil]
  | c :: r, pre, hd, hv => by
    obtain ⟨h1, h2, h3⟩ := hv c (by simp)
    obtain ⟨g1, g2, g3⟩ := holds_iff.1 h3
    have hE : fitE (ks.getD c.Kind.toNat k0) c.Vals = 0 := by unfold fitE; rw [if_neg (fun h => h g1), if_neg (fun h => h g2)]
    have hV : fitV (ks.getD c.Kind.toNat k0) c.Vals = c.Vals := by unfold fitV; rw [if_neg (fun h => h g1), if_neg (fun h => h g2)]; exact g3
    have hn : ¬ pre.any (fun x => decide (x.Kind = c.Kind)) = true := by
      intro h
      obtain ⟨x, hx, he⟩ := List.any_eq_true.1 h
      have := (List.pairwise_append.1 hd).2.2 x hx c (List.mem_cons_self ..)
      exact this (by simpa using he)
    rw [fitGo, if_neg (by omega), if_neg hn, if_neg (fun h => h hE), hV]
    have e : pre ++ c :: r = (pre ++ [c]) ++ r := by simp
    rw [e] at hd hv ⊢
    exact fitGo_valid hc r (pre ++ [c]) hd hv
theorem fit_valid {ks : List GKind} (hc : checkE ks = 0) {L : List GComp} (hd : L.Pairwise (fun a b => a.Kind ≠ b.Kind)) (hv : ∀ c ∈ L, 0 ≤ c.Kind ∧ c.Kind < ks.length ∧ holdsB (ks.getD c.Kind.toNat k0) c.Vals = true) : fitC ks L = (insSort cK L, 0) := by
  unfold fitC
  rw [if_neg (by simp [hc])]
  exact fitGo_valid hc L [] hd hv

theorem insIn_sorted {L : List GComp} (h : SortedC L) : ∀ j, insIn cK j L = L
  | 0 => rfl
  | j + 1 => by
    unfold insIn
    split
    · rename_i x y hx hy
      obtain ⟨h1, e1⟩ := List.getElem?_eq_some_iff.1 hx
      obtain ⟨h2, e2⟩ := List.getElem?_eq_some_iff.1 hy
      have := List.pairwise_iff_getElem.1 h j (j + 1) h1 h2 (by omega)
      rw [e1, e2] at this
      rw [if_neg]
      unfold cK
      have := cmpI_gt y.Kind x.Kind
      omega
    · rfl
theorem insOut_sorted {L : List GComp} (h : SortedC L) : ∀ f i, insOut cK f i L = L
  | 0, _ => rfl
  | f + 1, i => by rw [insOut, insIn_sorted h, insOut_sorted h f]
theorem insSort_sorted {L : List GComp} (h : SortedC L) : insSort cK L = L := insOut_sorted h _ _
theorem cK_neg {x y : GComp} (h : x.Kind < y.Kind) : cK x y < 0 := (cmpI_lt _ _).2 h
theorem cK_pos {x y : GComp} (h : x.Kind < y.Kind) : ¬ cK y x < 0 := by
  have := cmpI_gt y.Kind x.Kind
  unfold cK; omega
theorem insSort_rev : ∀ {L : List GComp}, SortedC L → L.length ≤ 4 → insSort cK L.reverse = L
  | [], _, _ => rfl
  | [a], _, _ => rfl
  | [a, b], h, _ => by
    have hp := List.pairwise_iff_getElem.1 h
    have h1 : a.Kind < b.Kind := hp 0 1 (by simp) (by simp) (by omega)
    simp [insSort, insOut, insIn, cK_neg h1]
  | [a, b, c], h, _ => by
    have hp := List.pairwise_iff_getElem.1 h
    have h1 : a.Kind < b.Kind := hp 0 1 (by simp) (by simp) (by omega)
    have h2 : a.Kind < c.Kind := hp 0 2 (by simp) (by simp) (by omega)
    have h3 : b.Kind < c.Kind := hp 1 2 (by simp) (by simp) (by omega)
    simp [insSort, insOut, insIn, cK_neg h1, cK_neg h2, cK_neg h3, cK_pos h1, cK_pos h2, cK_pos h3]
  | [a, b, c, d], h, _ => by
    have hp := List.pairwise_iff_getElem.1 h
    have h1 : a.Kind < b.Kind := hp 0 1 (by simp) (by simp) (by omega)
    have h2 : a.Kind < c.Kind := hp 0 2 (by simp) (by simp) (by omega)
    have h3 : a.Kind < d.Kind := hp 0 3 (by simp) (by simp) (by omega)
    have h4 : b.Kind < c.Kind := hp 1 2 (by simp) (by simp) (by omega)
    have h5 : b.Kind < d.Kind := hp 1 3 (by simp) (by simp) (by omega)
    have h6 : c.Kind < d.Kind := hp 2 3 (by simp) (by simp) (by omega)
    simp [insSort, insOut, insIn, cK_neg h1, cK_neg h2, cK_neg h3, cK_neg h4, cK_neg h5, cK_neg h6, cK_pos h1, cK_pos h2, cK_pos h3, cK_pos h4, cK_pos h5, cK_pos h6]
  | a :: b :: c :: d :: e :: r, _, h => by simp at h
theorem fit_sorted {ks : List GKind} (hc : checkE ks = 0) {L : List GComp} (h : heldGo ks (-1) L = true) : fitC ks L = (L, 0) := by
  obtain ⟨h1, h2⟩ := held_iff.1 h
  rw [fit_valid hc (h1.imp fun hab => by omega) (fun c hcm => by have := h2 c hcm; exact ⟨by omega, this.2⟩), insSort_sorted h1]
theorem fit_rev {ks : List GKind} (hc : checkE ks = 0) {L : List GComp} (h : heldGo ks (-1) L = true) (hl : L.length ≤ 4) : fitC ks L.reverse = (L, 0) := by
  obtain ⟨h1, h2⟩ := held_iff.1 h
  rw [fit_valid hc (List.pairwise_reverse.2 (h1.imp fun hab => by omega)) (fun c hcm => by have := h2 c (List.mem_reverse.1 hcm); exact ⟨by omega, this.2⟩), insSort_rev h1 hl]

/-! ### A new entity -/
def insI (its : List GItem) (x : GItem) : List GItem := its.take (bs (fun it : GItem => cmpI it.Ent.N x.Ent.N) its) ++ x :: its.drop (bs (fun it : GItem => cmpI it.Ent.N x.Ent.N) its)
def spawnG (gs : List Int) (n : Nat) : List Int := if n = gs.length then gs ++ [0] else gs
def spawnW (w : GWorld) (n : Nat) (C : List GComp) : GWorld := ⟨w.Kinds, spawnG w.Gens n, insI w.Items ⟨⟨n, (spawnG w.Gens n).getD n 0⟩, C⟩⟩
end Go.Proofs.Ytbddlekpoelmkaa.Am
/- The library's slice functions, at the program's types. -/
namespace Go.Proofs.Ytbddlekpoelmkaa.Am
open Go Go.RowKit

set_option maxRecDepth 20000 in
theorem BinarySearchIt_fn (l : List GItem) (t : Int) (fn : FuncId) (caps : List PV) (c : GItem → Int) (hl : l.length ≤ 4611686018427387904) (he : enterable Try.prog fn = true) (hc : ltL 0 caps = true)
    (hf : ∀ x ∈ l, Fn Try.prog fn (.agg x.e :: kI t :: caps) (kI (c x))) : Fn Try.prog 59 [.sl 3 (l.map GItem.e), kI t, .clo (.func fn) caps] (.tup [kI (bs c l), kB (bsOk c l)]) := by
  refine fn_go Try.func59 rfl ?_
  simp [Try.ntmps59]
  refine awp_loop (fun x : Nat × Nat × Nat => ⟨49, [(0, .sl 3 (l.map GItem.e)), (1, kI t), (2, .clo (.func fn) caps), (8, kI l.length), (9, kI x.1), (10, kI x.2.1)], [], 0⟩)
    (fun x => x.1 ≤ x.2.1 ∧ x.2.1 ≤ l.length ∧ x.2.1 ≤ x.1 + x.2.2 ∧ bsG (bsC c l) x.2.2 x.1 x.2.1 = bs c l) (fun x => x.2.1 - x.1) (0, l.length, l.length) ?_ ?_ ?_
  · exact entm [] (hT := by simp [renL_lt0 _ _ hc, hc])
  · exact ⟨by simp, by simp, by simp, rfl⟩
  · rintro ⟨i, j, f⟩ ⟨hij, hj, hf0, hR⟩
    simp only at hij hj hf0 hR
    refine awp_go ?_
    by_cases hlt : i < j
    · obtain ⟨f, rfl⟩ : ∃ f', f = f' + 1 := ⟨f - 1, by omega⟩
      obtain ⟨h, hd⟩ : ∃ h, (i + j) / 2 = h := ⟨_, rfl⟩
      have hh : h < l.length := by omega
      have e1 := half_ops i j (by omega)
      have h1 : i ≤ h := by omega
      have h2 : h < j := by omega
      have h3 : j ≤ h + 1 + f := by omega
      have h4 : h ≤ i + f := by omega
      rw [bsG_step _ _ _ _ hlt, hd, bsC_get c l h hh] at hR
      rw [hd] at e1
      simp [hlt]
      rw [e1]
      simp [hh]
      refine cal (hf l[h] (List.getElem_mem hh)) ?_ (he := he) (hlt := by simp [hc])
      by_cases hn : c l[h] < 0
      · simp [hn] at hR
        simp [hn]
        rw [wrap_id (by omega) (by omega)]
        exact ⟨h + 1, j, ⟨by omega, hj, f, by omega, hR⟩, by omega, entm [] (hT := by simp [renL_lt0 _ _ hc, hc])⟩
      · simp [hn] at hR
        simp [hn]
        exact ⟨i, h, ⟨by omega, by omega, f, by omega, hR⟩, by omega, entm [] (hT := by simp [renL_lt0 _ _ hc, hc])⟩
    · rw [bsG_stop _ _ _ _ hlt] at hR
      subst hR
      simp [hlt]
      by_cases hin : bs c l < l.length
      · simp [hin]
        refine cal (hf l[bs c l] (List.getElem_mem hin)) ?_ (he := he) (hlt := by simp [hc])
        simp
        exact finm (by simp [bsOk, hin])
      · simp [hin]
        exact finm (by simp [bsOk, hin])

set_option maxRecDepth 20000 in
theorem DeleteIt_fn (l : List GItem) (i : Nat) (hi : i < l.length) (hl : l.length * 40 ≤ 140737488355328) :
    FnD Try.prog 32 [.osl 0 3 0 l.length, kI i, kI ((i : Int) + 1)] [(l.map GItem.e).flatten] (.osl 0 3 0 (l.length - 1)) [some (((l.take i ++ l.drop (i + 1)).map GItem.e).flatten ++ [kI 0, kI 0, kNil])] := by
  refine fng_of Try.func32 rfl (gC_cap 0 fun cap hc1 hc2 => ?_)
  have elen : ∀ x : GItem, (GItem.e x).length = 3 := fun x => rfl
  have eimm : ∀ x : GItem, (GItem.e x).all PV.immB = true := fun x => rfl
  have h1 : (i : Int) + 1 ≤ l.length := by omega
  have h2 : (0 : Int) ≤ (i : Int) + 1 := by omega
  have h3 : ((i : Int) + 1).toNat = i + 1 := by omega
  have h4 : (i : Int) ≤ (i : Int) + 1 := by omega
  have h5 : i ≤ l.length := by omega
  have h6 : i ≤ cap := by omega
  have h7 : ¬ ((i : Int) = (i : Int) + 1) := by omega
  obtain ⟨k, hk⟩ : ∃ k, l.length = i + (k + 1) := ⟨l.length - i - 1, by omega⟩
  obtain ⟨A, hA⟩ : ∃ A, ((l.take i).map GItem.e).flatten = A := ⟨_, rfl⟩
  obtain ⟨X, hX⟩ : ∃ X, GItem.e l[i] = X := ⟨_, rfl⟩
  obtain ⟨C, hC⟩ : ∃ C, ((l.drop (i + 1)).map GItem.e).flatten = C := ⟨_, rfl⟩
  have hAC : (l.map GItem.e).flatten = A ++ (X ++ C) := by
    have : l = l.take i ++ (l[i] :: l.drop (i + 1)) := by rw [← List.drop_eq_getElem_cons hi, List.take_append_drop]
    rw [← hA, ← hX, ← hC]
    conv => lhs; rw [this]
    rw [List.map_append, List.flatten_append, List.map_cons, List.flatten_cons]
  have hAl : A.length = i * 3 := by rw [← hA, flat_lenE elen]; simp; omega
  have hXl : X.length = 3 := by rw [← hX]; exact elen _
  have hCl : C.length = k * 3 := by rw [← hC, flat_lenE elen]; simp; omega
  have hR : ((l.take i ++ l.drop (i + 1)).map GItem.e).flatten = A ++ C := by rw [List.map_append, List.flatten_append, hA, hC]
  rw [hR, hAC]
  have h8 : l.length ≤ cap := hc1
  simp [Try.ntmps32, h1, h2, h3, h4, h5, h6, h7, h8]
  have g1 : l.length - (i + 1) = k := by omega
  have g2 : (i + k) * 40 ≤ 140737488355328 := by omega
  have g3 : i + k ≤ maxLen := by omega
  have g4 : i + k ≤ cap := by omega
  have g5 : (i + 1) * 3 + k * 3 ≤ i * 3 + (3 + k * 3) := by omega
  have tA : ∀ Y, (A ++ Y).take (i * 3) = A := fun Y => List.take_left' hAl
  have dAX : (A ++ (X ++ C)).drop ((i + 1) * 3) = C := by rw [← List.append_assoc]; exact List.drop_left' (by rw [List.length_append, hAl, hXl]; omega)
  have tC : C.take (k * 3) = C := List.take_of_length_le (by omega)
  have dE : (A ++ (X ++ C)).drop (i * 3 + k * 3) = (X ++ C).drop (k * 3) := by rw [← List.drop_drop, List.drop_left' hAl]
  try simp only [Nat.mul_one] at hAl hXl hCl tA tC dAX dE g5 g2
  refine awp_drawS follows_mix [(0, 0), (0, 0), (0, 0), (0, 0), (0, 0), (0, 0), (1, 0), (0, 0)] 1 1 [] (by kernel_rfl) rfl rfl ?_
  simp [h1, h2, h3, h4, h5, h6, h8, g1, g2, g3, g4, g5, hAl, hXl, hCl, tA, dAX, tC, dE]
  obtain ⟨D, hD⟩ : ∃ D, List.drop (k * 3) (X ++ C) = D := ⟨_, rfl⟩
  have hDl : D.length = 3 := by rw [← hD]; simp [hXl, hCl]
  have g6 : (0 : Int) ≤ (i : Int) + k := by omega
  have g7 : (i : Int) + k ≤ l.length := by omega
  have g8 : ((i : Int) + k).toNat = i + k := by omega
  have g9 : l.length - (i + k) = 1 := by omega
  have g10 : (i + k) * 3 ≤ i * 3 + (k * 3 + 3) := by omega
  have tAC : (A ++ (C ++ D)).take ((i + k) * 3) = A ++ C := by rw [← List.append_assoc]; exact List.take_left' (by rw [List.length_append, hAl, hCl]; omega)
  have dAC : (A ++ (C ++ D)).drop ((i + k) * 3 + 3) = [] := List.drop_eq_nil_of_le (by simp [hAl, hCl, hDl]; omega)
  try simp only [Nat.mul_one] at hD hDl g10 tAC dAC
  rw [hD]
  simp [g6, g7, g8, g9, g10, hAl, hCl, hDl, tAC, dAC]
  have rA : ∀ θ, renL θ A = A := fun θ => by rw [← hA]; exact imms_ren (flat_imm eimm _) θ
  have rC : ∀ θ, renL θ C = C := fun θ => by rw [← hC]; exact imms_ren (flat_imm eimm _) θ
  have lA : ∀ n, ltL n A = true := fun n => by rw [← hA]; exact imms_lt (flat_imm eimm _) n
  have lC : ∀ n, ltL n C = true := fun n => by rw [← hC]; exact imms_lt (flat_imm eimm _) n
  refine finG_ent (ent_tmp 6 tell_cap) ?_
  exact finGm [0] (hres := by simp; omega) (hB := by simp [rA, rC, lA, lC])

set_option maxRecDepth 20000 in
theorem InsertIt_fn (l : List GItem) (i : Nat) (v : GItem) (hi : i ≤ l.length) (hl : (l.length + 1) * 40 ≤ 140737488355328) :
    FnD Try.prog 62 [.osl 0 3 0 l.length, kI i, .osl 1 3 0 1] [(l.map GItem.e).flatten, v.e] (.osl 2 3 0 (l.length + 1)) [none, none, some ((l.take i ++ v :: l.drop i).map GItem.e).flatten] := by
  refine fng_of Try.func62 rfl (gC_cap 0 fun cap hc1 hc2 => ?_)
  have h1 : ¬ ((l.length : Int) < i) := by omega
  simp [Try.ntmps62, hi, hc1]
  by_cases he : i = l.length
  · subst he
    have hb1 : (l.length + 1) * 40 ≤ 140737488355328 := by omega
    have hb2 : l.length + 1 ≤ maxLen := by simp only [maxLen]; omega
    by_cases hr : l.length + 1 ≤ cap
    · simp [hc1, hb1, hb2, hr]
      rw [List.drop_eq_nil_of_le (by simp), flat_take GItem.e_len]
      refine finG_ent ((ent_tmp 6 tell_cap).trans (ent_mb 0 _)) ?_
      exact finGm [0, 1, 2]
    · simp [hc1, hb1, hb2, hr]
      rw [flat_take GItem.e_len]
      exact finGm [0, 1, 2]
  · have he' : ¬ ((i : Int) = l.length) := by omega
    obtain ⟨k, hk⟩ : ∃ k, l.length = i + (k + 1) := ⟨l.length - i - 1, by omega⟩
    obtain ⟨A, hA⟩ : ∃ A, ((l.take i).map GItem.e).flatten = A := ⟨_, rfl⟩
    obtain ⟨B, hB⟩ : ∃ B, ((l.drop i).map GItem.e).flatten = B := ⟨_, rfl⟩
    have hAB : (l.map GItem.e).flatten = A ++ B := by rw [← hA, ← hB, ← List.flatten_append, ← List.map_append, List.take_append_drop]
    have hAl : A.length = i * 3 := by rw [← hA, flat_lenE GItem.e_len]; simp; omega
    have hBl : B.length = (k + 1) * 3 := by rw [← hB, flat_lenE GItem.e_len]; simp; omega
    have hR : ((l.take i ++ v :: l.drop i).map GItem.e).flatten = A ++ (v.e ++ B) := by rw [List.map_append, List.flatten_append, hA, List.map_cons, List.flatten_cons, hB]
    have tA : ∀ Y, (A ++ Y).take (i * 3) = A := fun Y => List.take_left' hAl
    have dA : ∀ Y, (A ++ Y).drop (i * 3) = Y := fun Y => List.drop_left' hAl
    have dA2 : ∀ Y, (A ++ Y).drop (i * 3 + 3) = Y.drop 3 := fun Y => by rw [← List.drop_drop, dA]
    have tA2 : ∀ Y, (A ++ Y).take ((i + 1) * 3) = A ++ Y.take 3 := fun Y => by
      rw [show (i + 1) * 3 = A.length + 3 by rw [hAl, Nat.add_mul], List.take_length_add_append]
    have tB : B.take ((k + 1) * 3) = B := List.take_of_length_le (by omega)
    have rA : ∀ θ, renL θ A = A := fun θ => by rw [← hA]; exact GItem.ren _ θ
    have rB : ∀ θ, renL θ B = B := fun θ => by rw [← hB]; exact GItem.ren _ θ
    have lA : ∀ n, ltL n A = true := fun n => by rw [← hA]; exact GItem.ltl _ n
    have lB : ∀ n, ltL n B = true := fun n => by rw [← hB]; exact GItem.ltl _ n
    have hz : 3 ≤ B.length := by omega
    rw [hR, hAB]
    simp [he, he']
    rw [wrap_id (by omega) (by omega)]
    by_cases hroom : (cap : Int) < l.length + 1
    · have hic : i ≤ cap := by omega
      have e1 : IntKind.i64.wrap ((l.length : Int) + 1 - i) = ((k + 2 : Nat) : Int) := by rw [wrap_id (by omega) (by omega)]; omega
      have hb1 : (k + 2) * 40 ≤ 140737488355328 := by omega
      have hb2 : (i + (k + 2)) * 40 ≤ 140737488355328 := by omega
      have hb3 : i + (k + 2) ≤ maxLen := by simp only [maxLen]; omega
      have hb4 : ¬ (i + (k + 2) ≤ cap) := by omega
      have hb6 : ((k : Int) + 2 ≤ 9223372036854775807) := by omega
      have hb7 : 0 ≤ (k : Int) + 2 := by omega
      have hb8 : ((k : Int) + 2).toNat = k + 2 := by omega
      simp [hroom, hic]
      rw [wrap_id (x := (l.length : Int) + 1) (by omega) (by omega), e1]
      simp [hb1, hb2, hb3, hb4, hb6, hb7, hb8, hAl, hBl, tA]
      obtain ⟨Z, hZ⟩ : ∃ Z, (List.replicate (k + 2) [kI 0, kI 0, kNil]).flatten = Z := ⟨_, rfl⟩
      have hZl : Z.length = (k + 2) * 3 := by rw [← hZ]; simp
      have hb10 : (i : Int) ≤ (i : Int) + ((k : Int) + 2) := by omega
      have hb11 : ((i : Int) + ((k : Int) + 2)).toNat = i + (k + 2) := by omega
      have hb12 : i + (k + 2) - i = k + 2 := by omega
      rw [hZ]
      simp [hb10, hb11, hb12, hAl, hZl, tA, dA2]
      refine awp_draw follows_mix [] [(0, [0]), (0, [0]), (0, [0]), (0, [0]), (0, [0]), (0, [0]), (0, [0]), (0, [0]), (1, [0])] 1 (by kernel_rfl) rfl ?_
      have e3 : IntKind.i64.wrap ((i : Int) + 1) = (i : Int) + 1 := wrap_id (by omega) (by omega)
      have hd1 : 0 ≤ (i : Int) + 1 := by omega
      have hd2 : (i : Int) + 1 ≤ (i : Int) + ((k : Int) + 2) := by omega
      have hd3 : ((i : Int) + 1).toNat = i + 1 := by omega
      have hd4 : i + (k + 2) - (i + 1) = k + 1 := by omega
      have hk1 : l.length - i = k + 1 := by omega
      have hk5 : (i + 1) * 3 ≤ i * 3 + (k + 2) * 3 := by omega
      have hk6 : (i + 1) * 3 ≤ i * 3 + (3 + ((k + 2) * 3 - 3)) := by omega
      have e4 : (v.e ++ List.drop 3 Z).take 3 = v.e := List.take_left' (by simp)
      have dE : (A ++ (v.e ++ List.drop 3 Z)).drop ((i + 1) * 3 + (k + 1) * 3) = [] := List.drop_eq_nil_of_le (by simp; omega)
      simp [e3, hd1, hd2, hd3, hd4, hb11, hi, hc1, hk1, hk5, hk6, hAl, hBl, hZl, tA, dA, tA2, tB, e4, dE]
      exact finGm [0, 1, 2] (hres := by simp; omega) (hB := by simp [rA, rB, lA, lB])
    · have hb1 : (l.length : Int) + 1 ≤ cap := by omega
      have hb2 : 0 ≤ (l.length : Int) + 1 := by omega
      simp [hroom]
      rw [wrap_id (x := (l.length : Int) + 1) (by omega) (by omega)]
      have e1 : IntKind.i64.wrap ((i : Int) + 1) = ((i + 1 : Nat) : Int) := by rw [wrap_id (by omega) (by omega)]; omega
      have hb3 : (i : Int) + 1 ≤ (l.length : Int) + 1 := by omega
      have hb4 : 0 ≤ (i : Int) + 1 := by omega
      have hb5 : ((i : Int) + 1).toNat = i + 1 := by omega
      simp [hb1, hb2]
      rw [e1]
      simp [hb3, hb4, hb5]
      refine calOvl (fn := Try.prog.funcs[98]) rfl ?_
      simp
      refine awp_draw follows_mix [] [(0, [0]), (0, [0]), (0, [0]), (0, [0]), (0, [0]), (0, [0]), (0, [0]), (0, [0]), (1, [0])] 1 (by kernel_rfl) rfl ?_
      simp
      rw [e1]
      have hk1 : l.length - i = k + 1 := by omega
      have hk2 : l.length + 1 - i = k + 2 := by omega
      have hk3 : min (k + 2) (k + 1) = k + 1 := by omega
      have hk4 : (i : Int) ≤ (l.length : Int) + 1 := by omega
      simp [hb1, hb3, hb4, hb5, hk1, hk2, hk3, hk4, hAl, hBl, tA, dA, dA2, tA2, tB]
      have hk5 : (i + 1) * 3 ≤ i * 3 + (k + 1) * 3 := by omega
      have dE : (A ++ B).drop ((i + 1) * 3 + (k + 1) * 3) = [] := List.drop_eq_nil_of_le (by simp; omega)
      have hk6 : (i : Int) ≤ (l.length : Int) + 1 := by omega
      simp [hk5, dE]
      have e2 : A ++ (v.e ++ List.drop 3 (List.take 3 B ++ B)) = A ++ (v.e ++ B) := by
        rw [List.drop_left' (by simp; omega)]
      have e3 : IntKind.i64.wrap ((i : Int) + 1) = (i : Int) + 1 := wrap_id (by omega) (by omega)
      simp [hk4, hk2, hk1, hk5, hb1, hb3, hb4, hb5, hi, hAl, hBl, tA, tA2, tB, dA2, dE, e2, e3]
      refine finG_ent ((ent_tmp 6 tell_cap).trans (ent_mb 0 _)) ?_
      exact finGm [0, 1, 2] (hB := by simp [rA, rB, lA, lB])

end Go.Proofs.Ytbddlekpoelmkaa.Am
/- Package world: Free; copies with the Gens to be written. -/
namespace Go.Proofs.Ytbddlekpoelmkaa.Am
open Go Go.RowKit

set_option maxRecDepth 20000 in
theorem WCopy_og (w : GWorld) (hw : Fine w) : FnD Try.prog 42 [.agg w.e] [] (.agg [.sl 2 (w.Kinds.map GKind.e), .osl 1 1 0 w.Gens.length, .osl 0 3 0 w.Items.length]) [some (w.Items.map GItem.e).flatten, some (w.Gens.map kI)] := by
  obtain ⟨hkl, hkf, hgl, hil, hic, hiv⟩ := hw
  obtain ⟨ks, gs, its⟩ := w
  simp only at hkl hkf hgl hil hic hiv ⊢
  refine fnd_go Try.func42 rfl ?_
  simp [Try.ntmps42]
  have h1 : 40 * (its.length : Int) ≤ 281474976710656 := by omega
  have h2 : (its.length : Int) ≤ 9223372036854775807 := by omega
  refine awp_drawS follows_mix [(0, 0), (0, 0), (2, 0), (0, 0), (0, 0), (5, 2), (0, 0), (0, 0), (0, 0), (4, 3), (0, 0), (4, 4), (1, 0)] 2 5 [(0, 9), (0, 11), (1, 9), (1, 11), (2, 9), (2, 11), (3, 9), (3, 11), (4, 9), (4, 11), (5, 6), (5, 7), (5, 8), (5, 9), (5, 11), (6, 11), (7, 11), (8, 11), (9, 11), (10, 11)] (by kernel_rfl) rfl rfl ?_
  simp
  refine gE_call (.sl 2 (ks.map GKind.e)) ?_ ?_
  · simp
    exact calO (KCopy_fn ks (by omega) (fun k hk => by have := hkf k hk; omega))
  simp
  refine gE_call5 (.osl 2 1 0 gs.length) [] (gs.map kI) rfl (fun y => ?_) (by simp) (by simp) (by simp) (by simp) ?_
  · simp
    exact does_fnd [] (CloneI_own gs (by omega)) rfl rfl rfl en_35 rfl (by simp) (by simp) (by simp) (by simp) (by simp) (by simp)
  simp [h1, h2]
  have h0 := fillB_imm GItem.e_imm (zr := zIt) rfl its 0
  rw [show (List.replicate its.length [kI 0, kI 0, kNil]).flatten = fillB GItem.e zIt its 0 from (fillB_0 GItem.e zIt its).symm]
  refine ⟨imms_lt h0 5, ?_⟩
  refine awp_loop (fun i : Nat => ⟨37, [(2, .ptr 0 0), (3, .ptr 2 0), (18, .sl 3 (its.map GItem.e)), (19, kI its.length), (20, kI i)], [some [kNil, kNil, kNil], some (fillB GItem.e zIt its i), some [.sl 2 (ks.map GKind.e), .osl 3 1 0 gs.length, .osl 1 3 0 its.length], some (gs.map kI)], 0⟩) (fun i => i ≤ its.length) (fun i => its.length - i) 0 ?_ ?_ ?_
  · exact entm [1, 3, 4, 2] (hB := by simp [imms_ren h0, imms_lt h0])
  · simp
  · intro i hi
    refine awp_go ?_
    by_cases hlt : i < its.length
    · have hbl := fillB_len GItem.e_len (zr := zIt) rfl its i hi
      have hrow := fillB_row GItem.e_len (zr := zIt) rfl its i hlt
      have him := fillB_imm GItem.e_imm (zr := zIt) rfl its (i + 1)
      generalize fillB GItem.e zIt its i = B at hbl hrow ⊢
      obtain ⟨x, hx⟩ : ∃ x, its[i] = x := ⟨_, rfl⟩
      have hm : x ∈ its := hx ▸ List.getElem_mem hlt
      rw [hx] at hrow
      have hq : i * 3 + 3 ≤ its.length * 3 := by omega
      simp [hlt, hx]
      refine awp_draw follows_mix [] [(0, [0]), (0, [0]), (0, [0]), (0, [0]), (0, [0]), (0, [0]), (0, [0]), (2, [0]), (0, [0]), (0, [0]), (1, [0])] 1 (by kernel_rfl) rfl ?_
      simp [hlt, hx]
      refine gD_call (.sl 2 (x.Comps.map GComp.e)) ?_
      simp [hlt, hx, hbl, hq]
      refine ⟨calO (CopyComps_fn x.Comps (by have := hic x hm; omega) (fun c hc => by have := hiv x hm c hc; omega)), ?_⟩
      rw [wrap_id (by omega) (by omega)]
      have hr2 : List.take (i * 3) B ++ (List.take 2 (x.Ent.e ++ [kNil]) ++ .sl 2 (x.Comps.map GComp.e) :: (List.drop 3 (x.Ent.e ++ [kNil]) ++ List.drop (i * 3 + 3) B)) = fillB GItem.e zIt its (i + 1) := by rw [← hrow]; rfl
      rw [hr2]
      exact ⟨i + 1, by omega, by omega, entm [0, 1, 2, 3] (hB := by simp [imms_ren him, imms_lt him])⟩
    · simp [hlt]
      have : i = its.length := by omega
      subst this
      rw [fillB_end]
      exact finGm [1, 3]

/-! ### Free -/
def usedB (its : List GItem) (t : Nat) : Bool := its.any fun it => decide (it.Ent.N = (t : Int))
def freeM (w : GWorld) : Int × Bool := match (List.range w.Gens.length).findIdx? (fun t => !usedB w.Items t && decide (w.Gens.getD t 0 < 1073741824)) with
  | some t => (t, true)
  | none => (w.Gens.length, decide ((w.Gens.length : Int) < 256))
theorem used_set (its : List GItem) (i n : Nat) (hi : i < its.length) {N : Nat} (hN : (its[i]).Ent.N = N) :
    ((List.range n).map fun t => kB (usedB (its.take i) t)).set N (kB true) = (List.range n).map fun t => kB (usedB (its.take (i + 1)) t) := by
  refine List.ext_getElem (by simp) fun t h1 h2 => ?_
  rw [List.getElem_set]
  have hs : ∀ t : Nat, usedB (its.take (i + 1)) t = (usedB (its.take i) t || decide (N = t)) := fun t => by
    unfold usedB
    rw [← List.take_append_getElem hi, List.any_append]
    have : decide ((N : Int) = (t : Int)) = decide (N = t) := by
      by_cases e : N = t
      · simp [e]
      · have e2 : ¬ (N : Int) = (t : Int) := by omega
        simp [e, e2]
    simp [hN, this]
  simp only [List.getElem_map, List.getElem_range, hs]
  by_cases e : N = t
  · simp [e]
  · simp [e]
theorem used_skip (its : List GItem) (i n : Nat) (hi : i < its.length) (hN : (its[i]).Ent.N < 0 ∨ (n : Int) ≤ (its[i]).Ent.N) :
    ((List.range n).map fun t => kB (usedB (its.take i) t)) = (List.range n).map fun t => kB (usedB (its.take (i + 1)) t) := by
  refine List.map_congr_left fun t ht => ?_
  have htn : t < n := by simpa using ht
  unfold usedB
  rw [← List.take_append_getElem hi, List.any_append]
  have : ¬ (its[i]).Ent.N = (t : Int) := by omega
  simp [this]

set_option maxHeartbeats 1000000 in
set_option maxRecDepth 20000 in
theorem Free_fn (w : GWorld) (hw : Fine w) : Fn Try.prog 58 [.agg w.e] (.tup [kI (freeM w).1, kB (freeM w).2]) := by
  obtain ⟨hkl, hkf, hgl, hil, hic, hiv⟩ := hw
  obtain ⟨ks, gs, its⟩ := w
  simp only at hkl hkf hgl hil hic hiv ⊢
  refine fn_go Try.func58 rfl ?_
  have h1 : (gs.length : Int) ≤ 281474976710656 := by omega
  have h2 : (gs.length : Int) ≤ 9223372036854775807 := by omega
  simp [Try.ntmps58, h1, h2]
  have hz : List.replicate gs.length (.k (.bool false)) = (List.range gs.length).map fun t => kB (usedB (its.take 0) t) := by
    refine List.ext_getElem (by simp) fun t h1 h2 => ?_
    simp [usedB]
  rw [hz]
  obtain ⟨U, hU⟩ : ∃ U : Nat → List PV, ∀ i, (List.range gs.length).map (fun t => kB (usedB (its.take i) t)) = U i := ⟨_, fun _ => rfl⟩
  have hUi : ∀ i, (U i).all PV.immB = true := fun i => by rw [← hU]; simp
  have hUl : ∀ i, (U i).length = gs.length := fun i => by rw [← hU]; simp
  rw [hU]
  refine awp_loop (fun i : Nat => ⟨64, [(1, .ptr 0 0), (4, .osl 1 1 0 gs.length), (14, .sl 3 (its.map GItem.e)), (15, kI its.length), (16, kI i)], [some (GWorld.e ⟨ks, gs, its⟩), some (U i)], 0⟩) (fun i => i ≤ its.length) (fun i => its.length - i) 0 ?_ ?_ ?_
  · exact entm [0, 1] (hB := by simp [imms_ren (hUi 0), imms_lt (hUi 0)])
  · simp
  · intro i hi
    refine awp_go ?_
    by_cases hlt : i < its.length
    · have hset := fun n N hN => used_set its i n hlt (N := N) hN
      have hskip := fun n hN => used_skip its i n hlt hN
      obtain ⟨it, hit⟩ : ∃ it, its[i] = it := ⟨_, rfl⟩
      rw [hit] at hset hskip
      by_cases p1 : 0 ≤ it.Ent.N
      · by_cases p2 : it.Ent.N < (gs.length : Int)
        · obtain ⟨N, hN⟩ : ∃ N : Nat, it.Ent.N = N := ⟨it.Ent.N.toNat, by omega⟩
          have hNg : N < gs.length := by omega
          have hs := hset gs.length N hN
          rw [hU, hU] at hs
          have hs2 : (U i).take N ++ kB true :: (U i).drop (N + 1) = U (i + 1) := by rw [← hs, List.set_eq_take_append_cons_drop, if_pos (by rw [hUl]; exact hNg)]
          have hN1 : N + 1 ≤ gs.length := by omega
          simp [hlt, hit, p1, p2, hN, hNg, hUl, hN1]
          rw [wrap_id (by omega) (by omega), hs2]
          exact ⟨i + 1, by omega, by omega, entm [0, 1] (hB := by simp [imms_ren (hUi (i + 1)), imms_lt (hUi (i + 1))])⟩
        · have hs := hskip gs.length (.inr (by omega))
          rw [hU, hU] at hs
          simp [hlt, hit, p1, p2]
          rw [wrap_id (by omega) (by omega), hs]
          exact ⟨i + 1, by omega, by omega, entm [0, 1] (hB := by simp [imms_ren (hUi (i + 1)), imms_lt (hUi (i + 1))])⟩
      · have hs := hskip gs.length (.inl (by omega))
        rw [hU, hU] at hs
        simp [hlt, hit, p1]
        rw [wrap_id (by omega) (by omega), hs]
        exact ⟨i + 1, by omega, by omega, entm [0, 1] (hB := by simp [imms_ren (hUi (i + 1)), imms_lt (hUi (i + 1))])⟩
    · have : i = its.length := by omega
      subst this
      have hUe : U its.length = (List.range gs.length).map fun t => kB (usedB its t) := by rw [← hU, List.take_of_length_le (Nat.le_refl _)]
      generalize hUn : U its.length = V at hUe ⊢
      have hVi : V.all PV.immB = true := hUn ▸ hUi _
      have hVl : V.length = gs.length := hUn ▸ hUl _
      have hVg : ∀ t : Nat, t < gs.length → V[t]? = some (kB (usedB its t)) := fun t ht => by rw [hUe]; simp [ht]
      simp
      refine awp_loop (fun t : Nat => ⟨64, [(1, .ptr 0 0), (4, .osl 1 1 0 gs.length), (39, slI gs), (40, kI gs.length), (41, kI t)], [some (GWorld.e ⟨ks, gs, its⟩), some V], 0⟩)
        (fun t => t ≤ gs.length ∧ ∀ j, j < t → ¬ (!usedB its j && decide (gs.getD j 0 < 1073741824)) = true) (fun t => gs.length - t) 0 ?_ ?_ ?_
      · exact entm [0, 1] (hB := by simp [imms_ren hVi, imms_lt hVi])
      · simp
      · intro t ⟨ht, hno⟩
        refine awp_go ?_
        by_cases htl : t < gs.length
        · have hg := hVg t htl
          have hVt : t < V.length := by omega
          rw [List.getElem?_eq_getElem hVt] at hg
          have hg := Option.some.inj hg
          have hgd : gs.getD t 0 = gs[t] := by simp [List.getD, htl]
          have hfree : (!usedB its t && decide (gs.getD t 0 < 1073741824)) = true → freeM ⟨ks, gs, its⟩ = ((t : Int), true) := fun h => by
            have : (List.range gs.length).findIdx? (fun t => !usedB its t && decide (gs.getD t 0 < 1073741824)) = some t := by
              rw [List.findIdx?_eq_some_iff_getElem]
              exact ⟨by simpa using htl, by simpa using h, fun j hj => by simpa using hno j hj⟩
            unfold freeM
            simp only [this]
          have hnext : ¬ (!usedB its t && decide (gs.getD t 0 < 1073741824)) = true → ∀ j, j < t + 1 → ¬ (!usedB its j && decide (gs.getD j 0 < 1073741824)) = true := fun h j hj => by
            rcases Nat.lt_or_ge j t with g | g
            · exact hno j g
            · have : j = t := by omega
              subst this; exact h
          rw [hgd] at hfree hnext
          cases hu : usedB its t with
          | true =>
            rw [hu] at hg hnext
            simp [htl, hg, hVl]
            rw [wrap_id (by omega) (by omega)]
            exact ⟨t + 1, ⟨by omega, by simpa using hnext (by simp)⟩, by omega, entm [0, 1] (hB := by simp [imms_ren hVi, imms_lt hVi])⟩
          | false =>
            rw [hu] at hg hnext hfree
            by_cases hlt2 : gs[t] < 1073741824
            · have hF := hfree (by simp [hlt2])
              simp [htl, hg, hVl, hlt2]
              exact finm (by simp [hF])
            · simp [htl, hg, hVl, hlt2]
              rw [wrap_id (by omega) (by omega)]
              exact ⟨t + 1, ⟨by omega, by simpa using hnext (by simp [hlt2])⟩, by omega, entm [0, 1] (hB := by simp [imms_ren hVi, imms_lt hVi])⟩
        · have : t = gs.length := by omega
          subst this
          have hF : freeM ⟨ks, gs, its⟩ = ((gs.length : Int), decide ((gs.length : Int) < 256)) := by
            have : (List.range gs.length).findIdx? (fun t => !usedB its t && decide (gs.getD t 0 < 1073741824)) = none := by
              rw [List.findIdx?_eq_none_iff]
              intro j hj
              simpa using hno j (by simpa using hj)
            unfold freeM
            simp only [this]
          simp
          refine awp_draw follows_mix [] [(0, [0]), (0, [0]), (0, [0]), (0, [0]), (0, [0]), (0, [0]), (0, [0]), (0, [0]), (0, [0])] 0 (by kernel_rfl) rfl ?_
          simp
          exact finm (by simp [hF])
end Go.Proofs.Ytbddlekpoelmkaa.Am
/- Package world: Kill, Spawn. -/
namespace Go.Proofs.Ytbddlekpoelmkaa.Am
open Go Go.RowKit

set_option maxRecDepth 20000 in
theorem found_og (w : GWorld) (e : GEnt) (i : Nat) (hw : checkW w = 0) (hf : findI w e = some i) : FnD Try.prog 51 [.agg w.e, .agg e.e] []
    (.tup [.agg [.sl 2 (w.Kinds.map GKind.e), .osl 1 1 0 w.Gens.length, .osl 0 3 0 w.Items.length], kI i, kI 0]) [some (w.Items.map GItem.e).flatten, some (w.Gens.map kI)] := by
  obtain ⟨hfi, hfc⟩ := checkW_fine hw
  refine fnd_go Try.func51 rfl ?_
  simp [Try.ntmps51]
  refine cal (WCheck_fn w hfi (fun it hi c hc => by have := ((hfc it hi).2 c hc).2.2.2; omega)) ?_
  simp [hw]
  refine cal (WFind_fn w e (by have := hfi.il; omega)) ?_
  have h0 : ¬ ((i : Int) < 0) := by omega
  simp [findW_some hf, h0]
  refine calD [] (WCopy_og w hfi) ?_ (hren := by simp)
  simp
  exact finGm [3, 4]

def killW (w : GWorld) (i N : Nat) : GWorld := ⟨w.Kinds, w.Gens.set N (w.Gens.getD N 0 + 1), w.Items.take i ++ w.Items.drop (i + 1)⟩
set_option maxHeartbeats 1000000 in
set_option maxRecDepth 20000 in
theorem Kill_ok (w : GWorld) (N : Nat) (g : Int) (hw : checkW w = 0) (i : Nat) (hf : findI w ⟨N, g⟩ = some i) (hi : i < w.Items.length) (hN : N < w.Gens.length) (hg : ∀ x ∈ w.Gens, x ≤ 1073741824 ∧ 0 ≤ x) :
    Fn Try.prog 34 [.agg w.e, .agg (GEnt.e ⟨N, g⟩)] (.tup [.agg (killW w i N).e, kI 0]) := by
  obtain ⟨hfi, hfc⟩ := checkW_fine hw
  have hil := hfi.il
  have hgN := hg _ (List.getElem_mem hN)
  have hgd : w.Gens.getD N 0 = w.Gens[N] := by simp [List.getD, hN]
  obtain ⟨I2, hI2⟩ : ∃ I2, w.Items.take i ++ w.Items.drop (i + 1) = I2 := ⟨_, rfl⟩
  have hI2l : I2.length = w.Items.length - 1 := by rw [← hI2]; simp; omega
  obtain ⟨G2, hG2⟩ : ∃ G2, w.Gens.set N (w.Gens[N] + 1) = G2 := ⟨_, rfl⟩
  have hG2l : G2.length = w.Gens.length := by rw [← hG2]; simp
  have hD := DeleteIt_fn w.Items i hi (by omega)
  rw [hI2, ← hI2l] at hD
  have hk : killW w i N = ⟨w.Kinds, G2, I2⟩ := by unfold killW; rw [hgd, hI2, hG2]
  rw [hk]
  have hset := set_ints (A := w.Gens) hN (w.Gens[N] + 1)
  rw [hG2] at hset
  refine fn_go Try.func34 rfl ?_
  simp [Try.ntmps34]
  refine calD [] (found_og w ⟨N, g⟩ i hw hf) ?_ (hren := by simp)
  have hN1 : N + 1 ≤ w.Gens.length := by omega
  simp [hN, hN1, wdrop3]
  rw [wrap_id (x := w.Gens[N] + 1) (by omega) (by omega), wrap_id (x := (i : Int) + 1) (by omega) (by omega), hset]
  refine calD [3] hD ?_
  simp
  refine fin_ent ((ent_T [(4, .ptr 2 0), (5, kI 0)]).trans (ent_trunc 3 (I2.length * 3))) ?_
  have htk : ∀ Y, ((I2.map GItem.e).flatten ++ Y).take (I2.length * 3) = (I2.map GItem.e).flatten := fun Y => List.take_left' (flat_lenE GItem.e_len I2)
  simp only [List.set_cons_succ, List.set_cons_zero, htk]
  rw [← hG2l]
  refine fin_fz 3 _ ?_
  simp
  refine fin_fz 4 _ ?_
  simp
  exact finm (by simp [GWorld.e, slI_def, chunks_ints])

theorem Spawn1_fn (x : GItem) (n : Int) : Fn Try.prog 60 [.agg x.e, kI n] (kI (cmpI x.Ent.N n)) := by
  refine fn_go Try.func60 rfl ?_
  simp [Try.ntmps60]
  refine cal (Compare_fn x.Ent.N n) ?_
  simp
  exact finm (by simp)
set_option maxHeartbeats 2000000 in
set_option maxRecDepth 20000 in
theorem Spawn_ok (w : GWorld) (C0 C : List GComp) (n : Nat) (hw : checkW w = 0) (hfit : fitC w.Kinds C0 = (C, 0)) (hfree : freeM w = ((n : Int), true)) (hn : n ≤ w.Gens.length) (hCl : C0.length ≤ 12) (hCv : ∀ c ∈ C0, c.Vals.length ≤ 1000) :
    Fn Try.prog 26 [.agg w.e, .sl 2 (C0.map GComp.e)] (.tup [.agg (spawnW w n C).e, .agg (GEnt.e ⟨n, (spawnG w.Gens n).getD n 0⟩), kI 0]) := by
  obtain ⟨hfi, hfc⟩ := checkW_fine hw
  have hil := hfi.il
  have hgl := hfi.gl
  have hF := WFit_fn w.Kinds C0 hfi.kl hfi.kf hCl hCv
  rw [hfit] at hF
  have hFr := Free_fn w hfi
  rw [hfree] at hFr
  obtain ⟨p, hp⟩ : ∃ p, bs (fun it : GItem => cmpI it.Ent.N n) w.Items = p := ⟨_, rfl⟩
  have hpl : p ≤ w.Items.length := by rw [← hp]; exact bs_le _ _
  have hbs := BinarySearchIt_fn w.Items n 60 [] (fun it => cmpI it.Ent.N n) (by omega) en_60 rfl fun x _ => Spawn1_fn x n
  rw [hp] at hbs
  refine fn_go Try.func26 rfl ?_
  simp [Try.ntmps26]
  refine cal (WCheck_fn w hfi (fun it hi c hc => by have := ((hfc it hi).2 c hc).2.2.2; omega)) ?_
  simp [hw]
  refine cal hF ?_
  simp
  refine cal hFr ?_
  simp
  refine calD [] (WCopy_og w hfi) ?_ (hren := by simp)
  by_cases hnl : n = w.Gens.length
  · have b1 : (w.Gens.length + 1) * 8 ≤ 140737488355328 := by omega
    have b2 : w.Gens.length + 1 ≤ maxLen := by simp only [maxLen]; omega
    have hnl' : (n : Int) = w.Gens.length := by omega
    have hlt1 : (w.Gens.length : Int) < (w.Gens.length : Int) + 1 := by omega
    have hsg : spawnG w.Gens n = w.Gens ++ [0] := by unfold spawnG; rw [if_pos hnl]
    have hgd : (w.Gens ++ [0]).getD n 0 = 0 := by rw [hnl]; simp [List.getD]
    obtain ⟨x, hx⟩ : ∃ x : GItem, x = ⟨⟨n, 0⟩, C⟩ := ⟨_, rfl⟩
    obtain ⟨G2, hG2⟩ : ∃ G2, w.Gens ++ [0] = G2 := ⟨_, rfl⟩
    have hG2l : G2.length = w.Gens.length + 1 := by rw [← hG2]; simp
    have hG2m : w.Gens.map kI ++ [kI 0] = G2.map kI := by rw [← hG2]; simp
    have hIns := InsertIt_fn w.Items p x hpl (by omega)
    obtain ⟨I2, hI2⟩ : ∃ I2, w.Items.take p ++ x :: w.Items.drop p = I2 := ⟨_, rfl⟩
    have hI2l : I2.length = w.Items.length + 1 := by rw [← hI2]; simp; omega
    rw [hI2, ← hI2l] at hIns
    have hW : spawnW w n C = ⟨w.Kinds, G2, I2⟩ := by
      unfold spawnW insI
      rw [hsg, hgd, ← hx]
      have : x.Ent.N = n := by rw [hx]
      rw [this, hp, hI2, hG2]
    rw [hW, hsg, hgd]
    rw [hnl] at hbs hx
    simp [hnl, b1, b2, wdrop3, hlt1]
    rw [hG2m, ← hG2l]
    refine calS hbs ?_
    simp
    refine calD [3, 8] hIns ?_ (hbox := by simp [hx, GItem.e])
    simp
    refine awp_draw follows_mix [] [(0, [0]), (0, [0, 1]), (1, [0]), (1, [1]), (0, [2])] 2 (by kernel_rfl) rfl ?_
    simp
    refine fin_ent (ent_T [(4, .ptr 1 0), (5, .ptr 2 0), (6, kI 0)]) ?_
    refine fin_fz 9 _ ?_
    simp
    refine fin_fz 6 _ ?_
    simp
    exact finm (by simp [GWorld.e, GEnt.e, slI_def, chunks_ints, hnl'])
  · have hnl' : ¬ (n : Int) = w.Gens.length := by omega
    have hng : n < w.Gens.length := by omega
    have hsg : spawnG w.Gens n = w.Gens := by unfold spawnG; rw [if_neg hnl]
    have hgd : w.Gens.getD n 0 = w.Gens[n] := by simp [List.getD, hng]
    obtain ⟨x, hx⟩ : ∃ x : GItem, x = ⟨⟨n, w.Gens[n]⟩, C⟩ := ⟨_, rfl⟩
    have hIns := InsertIt_fn w.Items p x hpl (by omega)
    obtain ⟨I2, hI2⟩ : ∃ I2, w.Items.take p ++ x :: w.Items.drop p = I2 := ⟨_, rfl⟩
    have hI2l : I2.length = w.Items.length + 1 := by rw [← hI2]; simp; omega
    rw [hI2, ← hI2l] at hIns
    have hW : spawnW w n C = ⟨w.Kinds, w.Gens, I2⟩ := by
      unfold spawnW insI
      rw [hsg, hgd, ← hx]
      have : x.Ent.N = n := by rw [hx]
      rw [this, hp, hI2]
    rw [hW, hsg, hgd]
    simp [hnl', hng, wdrop3]
    refine calS hbs ?_
    simp
    refine calD [3, 6] hIns ?_ (hbox := by simp [hx, GItem.e])
    simp
    refine awp_draw follows_mix [] [(0, [0]), (0, [0, 1]), (1, [0]), (1, [1]), (0, [2])] 2 (by kernel_rfl) rfl ?_
    simp
    refine fin_ent (ent_T [(4, .ptr 1 0), (5, .ptr 2 0), (6, kI 0)]) ?_
    refine fin_fz 7 _ ?_
    simp
    refine fin_fz 4 _ ?_
    simp
    exact finm (by simp [GWorld.e, GEnt.e, slI_def, chunks_ints])
end Go.Proofs.Ytbddlekpoelmkaa.Am
/- A new entity: the plain law. -/
namespace Go.Proofs.Ytbddlekpoelmkaa.Am
open Go Go.RowKit

theorem bs_spec {α : Type} (f : α → Int) {l : List α} (h : l.Pairwise (fun a b => f a < f b)) (k : Int) : bs (fun x => cmpI (f x) k) l ≤ l.length ∧ ∀ j (hj : j < l.length), f l[j] < k ↔ j < bs (fun x => cmpI (f x) k) l := by
  have hp := List.pairwise_iff_getElem.1 h
  have key : ∀ j (hj : j < l.length), f l[j] < k ↔ j < l.findIdx (fun c => decide (k ≤ f c)) := fun j hj => by
    constructor
    · intro hk
      rcases Nat.lt_or_ge j (l.findIdx (fun c => decide (k ≤ f c))) with g | g
      · exact g
      · have hq : l.findIdx (fun c => decide (k ≤ f c)) < l.length := by omega
        have hx := List.findIdx_getElem (w := hq)
        simp only [decide_eq_true_eq] at hx
        rcases Nat.lt_or_ge (l.findIdx (fun c => decide (k ≤ f c))) j with g2 | g2
        · have := hp _ j hq hj g2; omega
        · have e : l.findIdx (fun c => decide (k ≤ f c)) = j := by omega
          simp only [e] at hx
          omega
    · intro hk
      have h2 := List.not_of_lt_findIdx hk
      have h3 : ¬ k ≤ f l[j] := by simpa using h2
      omega
  have e : bs (fun x => cmpI (f x) k) l = l.findIdx (fun c => decide (k ≤ f c)) := bs_eq _ List.findIdx_le_length fun j hj => by rw [cmpI_lt]; exact key j hj
  rw [e]
  exact ⟨List.findIdx_le_length, key⟩

def ItemOk (ks : List GKind) (gs : List Int) (it : GItem) : Prop := it.Ent.N < gs.length ∧ it.Ent.Gen = gs.getD it.Ent.N.toNat 0 ∧ it.Ent.Gen ≠ 1073741824 ∧ heldGo ks (-1) it.Comps = true
theorem items_iff {ks : List GKind} {gs : List Int} : ∀ {its : List GItem} {last : Int}, itemsB ks gs last its = true ↔ its.Pairwise (fun a b => a.Ent.N < b.Ent.N) ∧ ∀ it ∈ its, last < it.Ent.N ∧ ItemOk ks gs it
  | [], last => by simp [itemsB]
  | c :: r, last => by
    rw [items_cons, items_iff (its := r) (last := c.Ent.N), List.pairwise_cons]
    constructor
    · rintro ⟨h1, h2, h3, h4, h5, h6, h7⟩
      exact ⟨⟨fun x hx => (h7 x hx).1, h6⟩, fun x hx => by
        rcases List.mem_cons.1 hx with e | hx
        · subst e; exact ⟨h1, h2, h3, h4, h5⟩
        · have := h7 x hx; exact ⟨by omega, this.2⟩⟩
    · rintro ⟨⟨h1, h2⟩, h3⟩
      obtain ⟨hc, g1, g2, g3, g4⟩ := h3 c (List.mem_cons_self ..)
      exact ⟨hc, g1, g2, g3, g4, h2, fun x hx => ⟨h1 x hx, (h3 x (List.mem_cons_of_mem _ hx)).2⟩⟩
theorem items_len {ks : List GKind} {gs : List Int} : ∀ {its : List GItem} {last : Int}, last < gs.length → itemsB ks gs last its = true → (its.length : Int) ≤ gs.length - 1 - last
  | [], _, hl, _ => by simp; omega
  | x :: r, last, hl, h => by
    obtain ⟨h1, h2, _, _, _, h6⟩ := items_cons.1 h
    have := items_len h2 h6
    simp only [List.length_cons]; omega

theorem free_spec {w : GWorld} (hw : checkW w = 0) (hg : w.Gens.length < 256) : ∃ n : Nat, freeM w = ((n : Int), true) ∧ n ≤ w.Gens.length ∧ (∀ it ∈ w.Items, it.Ent.N ≠ n) ∧ (n < w.Gens.length → w.Gens.getD n 0 < 1073741824) := by
  obtain ⟨_, _, _, _, he⟩ := checkW_iff.1 hw
  unfold freeM
  cases hf : (List.range w.Gens.length).findIdx? (fun t => !usedB w.Items t && decide (w.Gens.getD t 0 < 1073741824)) with
  | some t =>
    obtain ⟨h1, h2, _⟩ := List.findIdx?_eq_some_iff_getElem.1 hf
    have h1' : t < w.Gens.length := by simpa using h1
    have h2' : (!usedB w.Items t && decide (w.Gens.getD t 0 < 1073741824)) = true := by simpa using h2
    rw [Bool.and_eq_true] at h2'
    refine ⟨t, rfl, by omega, fun it hit e => ?_, fun _ => of_decide_eq_true h2'.2⟩
    have : usedB w.Items t = true := List.any_eq_true.2 ⟨it, hit, by simpa using e⟩
    rw [this] at h2'
    simp at h2'
  | none =>
    refine ⟨w.Gens.length, ?_, Nat.le_refl _, fun it hit e => ?_, fun h => absurd h (Nat.lt_irrefl _)⟩
    · have : ((w.Gens.length : Nat) : Int) < 256 := by omega
      simp [this]
    · have := ((items_iff.1 he).2 it hit).2.1
      omega

structure Born (w : GWorld) (n : Nat) (C : List GComp) (v : GWorld) (p : Nat) : Prop where
  valid : checkW v = 0
  pos : p < v.Items.length
  item : ∀ h : p < v.Items.length, v.Items[p] = ⟨⟨n, v.Gens.getD n 0⟩, C⟩
  rest : v.Items.take p ++ v.Items.drop (p + 1) = w.Items
  gens : v.Gens = spawnG w.Gens n
  kinds : v.Kinds = w.Kinds
theorem spawn_born {w : GWorld} (hw : checkW w = 0) (hg : w.Gens.length < 256) {n : Nat} (hn : n ≤ w.Gens.length) (hno : ∀ it ∈ w.Items, it.Ent.N ≠ n) (hlt : n < w.Gens.length → w.Gens.getD n 0 < 1073741824) {C : List GComp} (hC : heldGo w.Kinds (-1) C = true) :
    ∃ p, Born w n C (spawnW w n C) p := by
  obtain ⟨a, b, c, d, e⟩ := checkW_iff.1 hw
  obtain ⟨e1, e2⟩ := items_iff.1 e
  have hsl : (spawnG w.Gens n).length ≤ 256 ∧ n < (spawnG w.Gens n).length := by
    unfold spawnG; split
    · simp; omega
    · omega
  have hsg : ∀ t : Nat, t < w.Gens.length → (spawnG w.Gens n).getD t 0 = w.Gens.getD t 0 := fun t ht => by
    unfold spawnG; split
    · simp [List.getD, List.getElem?_append_left ht]
    · rfl
  have hsn : (spawnG w.Gens n).getD n 0 < 1073741824 := by
    by_cases h : n = w.Gens.length
    · unfold spawnG; rw [if_pos h, h]; simp [List.getD]
    · rw [hsg n (by omega)]; exact hlt (by omega)
  have hwl : w.Gens.length ≤ (spawnG w.Gens n).length := by unfold spawnG; split <;> simp
  obtain ⟨x, hx⟩ : ∃ x : GItem, x = ⟨⟨n, (spawnG w.Gens n).getD n 0⟩, C⟩ := ⟨_, rfl⟩
  obtain ⟨b1, b2⟩ := bs_spec (fun it : GItem => it.Ent.N) e1 (n : Int)
  obtain ⟨p, hp⟩ : ∃ p, bs (fun it : GItem => cmpI it.Ent.N n) w.Items = p := ⟨_, rfl⟩
  have hxN : x.Ent.N = n := by rw [hx]
  have hI : (spawnW w n C).Items = w.Items.take p ++ x :: w.Items.drop p := by
    show insI w.Items ⟨⟨n, (spawnG w.Gens n).getD n 0⟩, C⟩ = _
    rw [← hx]; unfold insI; rw [hxN, hp]
  rw [hp] at b1 b2
  have hpl : (w.Items.take p).length = p := by simp; omega
  have hlo : ∀ y ∈ w.Items.take p, y.Ent.N < n := fun y hy => by
    obtain ⟨t, ht, rfl⟩ := List.getElem_of_mem hy
    rw [hpl] at ht
    rw [List.getElem_take]
    exact (b2 t (by omega)).2 ht
  have hhi : ∀ y ∈ w.Items.drop p, (n : Int) < y.Ent.N := fun y hy => by
    have hym := List.mem_of_mem_drop hy
    obtain ⟨t, ht, rfl⟩ := List.getElem_of_mem hy
    rw [List.length_drop] at ht
    rw [List.getElem_drop] at hym ⊢
    have h1 := mt (b2 (p + t) (by omega)).1 (by omega)
    have h2 := hno _ hym
    omega
  have hpair : (w.Items.take p ++ x :: w.Items.drop p).Pairwise (fun a b => a.Ent.N < b.Ent.N) := by
    refine List.pairwise_append.2 ⟨e1.sublist (List.take_sublist _ _), List.pairwise_cons.2 ⟨fun y hy => by rw [hxN]; exact hhi y hy, e1.sublist (List.drop_sublist _ _)⟩, fun y hy z hz => ?_⟩
    have := hlo y hy
    rcases List.mem_cons.1 hz with r | hz
    · subst r; rw [hxN]; exact this
    · have := hhi z hz; omega
  have hok : ∀ y ∈ w.Items.take p ++ x :: w.Items.drop p, -1 < y.Ent.N ∧ ItemOk w.Kinds (spawnG w.Gens n) y := fun y hy => by
    have hold : ∀ y ∈ w.Items, -1 < y.Ent.N ∧ ItemOk w.Kinds (spawnG w.Gens n) y := fun y hy => by
      obtain ⟨g0, g1, g2, g3, g4⟩ := e2 y hy
      exact ⟨g0, by omega, by rw [hsg _ (by omega)]; exact g2, g3, g4⟩
    rcases List.mem_append.1 hy with hy | hy
    · exact hold y (List.mem_of_mem_take hy)
    · rcases List.mem_cons.1 hy with r | hy
      · subst r
        rw [hx]
        refine ⟨by simp only; omega, by simp only; omega, by simp, by simp only; omega, hC⟩
      · exact hold y (List.mem_of_mem_drop hy)
  have hit : itemsB w.Kinds (spawnG w.Gens n) (-1) (w.Items.take p ++ x :: w.Items.drop p) = true := items_iff.2 ⟨hpair, hok⟩
  have hil := items_len (by omega) hit
  have hgens : (spawnG w.Gens n).any (fun g => decide (g < 0) || decide (1073741824 < g)) = false := by
    unfold spawnG; split
    · rw [List.any_append, d]; rfl
    · exact d
  refine ⟨p, checkW_iff.2 ⟨a, hsl.1, by rw [hI]; show _ ≤ (spawnG w.Gens n).length; omega, hgens, by rw [hI]; exact hit⟩, by rw [hI]; simp; omega, fun h => ?_, ?_, rfl, rfl⟩
  · have : ∀ (L : List GItem) (hL : L = w.Items.take p ++ x :: w.Items.drop p) (h : p < L.length), L[p] = x := fun L hL h => by
      subst hL
      rw [List.getElem_append_right (by omega)]
      simp [hpl]
    rw [this _ hI h, hx]; rfl
  · rw [hI, List.take_append_of_le_length (by omega), List.take_of_length_le (by omega), List.drop_append, List.drop_of_length_le (by omega), hpl, List.nil_append, show p + 1 - p = 1 by omega, List.drop_one, List.tail_cons, List.take_append_drop]
end Go.Proofs.Ytbddlekpoelmkaa.Am
/- The library's slice functions, at the program's types. -/
namespace Go.Proofs.Ytbddlekpoelmkaa.Am
open Go Go.RowKit

theorem CloneIt_fn (l : List GItem) (hl : l.length ≤ 1000000000) : Fn Try.prog 33 [.sl 3 (l.map GItem.e)] (.sl 3 (l.map GItem.e)) := by
  refine fn_go Try.func33 rfl ?_
  simp [Try.ntmps33]
  refine calNil (neq := false) (fun b hb => ?_)
  cases b with
  | true =>
    have : l = [] := by
      cases l with
      | nil => rfl
      | cons x r => exact absurd (hb (by simp)) (by simp)
    subst this
    simp
    exact fin_ent (ent_nilsl (t := 2) (z := 3) rfl) (finm (by simp []))
  | false =>
    have h1 : l.length * 40 ≤ 140737488355328 := by omega
    have h2 : l.length ≤ maxLen := by simp only [maxLen]; omega
    simp [h1, h2]
    refine fin_fz 1 (l.map GItem.e).flatten ?_
    simp
    exact finm (by simp [])
theorem CloneIt_own (l : List GItem) (hl : l.length ≤ 1000000000) : FnD Try.prog 33 [.sl 3 (l.map GItem.e)] [] (.osl 0 3 0 l.length) [some (l.map GItem.e).flatten] := by
  refine fnd_go Try.func33 rfl ?_
  simp [Try.ntmps33]
  refine calNil (neq := false) (fun b hb => ?_)
  cases b with
  | true =>
    have : l = [] := by
      cases l with
      | nil => rfl
      | cons x r => exact absurd (hb (by simp)) (by simp)
    subst this
    simp
    exact finG_ent (ent_nil (t := 2) (z := 3) rfl) (finGm [0])
  | false =>
    have h1 : l.length * 40 ≤ 140737488355328 := by omega
    have h2 : l.length ≤ maxLen := by simp only [maxLen]; omega
    simp [h1, h2]
    exact finGm [1]

theorem CloneC_fn (l : List GComp) (hl : l.length ≤ 1000000000) : Fn Try.prog 24 [.sl 2 (l.map GComp.e)] (.sl 2 (l.map GComp.e)) := by
  refine fn_go Try.func24 rfl ?_
  simp [Try.ntmps24]
  refine calNil (neq := false) (fun b hb => ?_)
  cases b with
  | true =>
    have : l = [] := by
      cases l with
      | nil => rfl
      | cons x r => exact absurd (hb (by simp)) (by simp)
    subst this
    simp
    exact fin_ent (ent_nilsl (t := 2) (z := 2) rfl) (finm (by simp []))
  | false =>
    have h1 : l.length * 32 ≤ 140737488355328 := by omega
    have h2 : l.length ≤ maxLen := by simp only [maxLen]; omega
    simp [h1, h2]
    refine fin_fz 1 (l.map GComp.e).flatten ?_
    simp
    exact finm (by simp [])
theorem CloneC_own (l : List GComp) (hl : l.length ≤ 1000000000) : FnD Try.prog 24 [.sl 2 (l.map GComp.e)] [] (.osl 0 2 0 l.length) [some (l.map GComp.e).flatten] := by
  refine fnd_go Try.func24 rfl ?_
  simp [Try.ntmps24]
  refine calNil (neq := false) (fun b hb => ?_)
  cases b with
  | true =>
    have : l = [] := by
      cases l with
      | nil => rfl
      | cons x r => exact absurd (hb (by simp)) (by simp)
    subst this
    simp
    exact finG_ent (ent_nil (t := 2) (z := 2) rfl) (finGm [0])
  | false =>
    have h1 : l.length * 32 ≤ 140737488355328 := by omega
    have h2 : l.length ≤ maxLen := by simp only [maxLen]; omega
    simp [h1, h2]
    exact finGm [1]

set_option maxRecDepth 20000 in
theorem ReverseC_fn (l : List GComp) (hl : l.length ≤ 1000000000) :
    FnD Try.prog 25 [.osl 0 2 0 l.length] [(l.map GComp.e).flatten] (.tup []) [some (l.reverse.map GComp.e).flatten] := by
  obtain ⟨R, hRv⟩ : ∃ R, l.reverse = R := ⟨_, rfl⟩
  rw [hRv]
  refine fnd_go Try.func25 rfl ?_
  simp [Try.ntmps25]
  rw [wrap_id (by omega) (by omega)]
  obtain ⟨n, hn⟩ : ∃ n, l.length = n := ⟨_, rfl⟩
  rw [hn] at hl ⊢
  refine awp_loop (fun x : Nat × List GComp => ⟨28, [(0, .osl 0 2 0 n), (2, kI x.1), (3, kI ((n : Int) - 1 - x.1))], [some (x.2.map GComp.e).flatten], 1⟩)
    (fun x => 2 * x.1 ≤ n + 1 ∧ x.2.length = n ∧ ∀ t, t < n → x.2[t]? = if t < x.1 ∨ n - x.1 ≤ t then l[n - 1 - t]? else l[t]?) (fun x => n - x.1) (0, l) ?_ ?_ ?_
  · exact entm [0] (hT := by simp)
  · exact ⟨by simp, hn, fun t ht => by rw [if_neg (by omega)]⟩
  · rintro ⟨i, L⟩ ⟨hi, hL, hp⟩
    simp only at hi hL hp
    refine awp_go ?_
    by_cases hlt : (i : Int) < (n : Int) - 1 - i
    · obtain ⟨j, hj⟩ : ∃ j : Nat, (n : Int) - 1 - i = j := ⟨n - 1 - i, by omega⟩
      have hij : i < j := by omega
      have hiL : i < L.length := by omega
      have hjL : j < L.length := by omega
      have hin : i < n := by omega
      have hjn : j < n := by omega
      have hjS : j < (L.set i L[j]).length := by simpa using hjL
      have g1 : i * 2 + 2 ≤ L.length * 2 := by omega
      have g2 : j * 2 + 2 ≤ L.length * 2 := by omega
      have r1 := row_set (e := GComp.e) (z := 2) (fun _ => rfl) L i L[j] hiL
      have r2 := row_set (e := GComp.e) (z := 2) (fun _ => rfl) (L.set i L[j]) j L[i] hjS
      obtain ⟨L1, hL1⟩ : ∃ L1, L.set i L[j] = L1 := ⟨_, rfl⟩
      obtain ⟨L2, hL2⟩ : ∃ L2, L1.set j L[i] = L2 := ⟨_, rfl⟩
      rw [hL1] at r1 r2
      rw [hL2] at r2
      have hl1 : L1.length = L.length := by rw [← hL1]; simp
      have g3 : j * 2 + 2 ≤ L1.length * 2 := by omega
      have hij' : (i : Int) < (j : Int) := by omega
      simp [hj, hij]
      refine awp_draw follows_mix [] [(0, [0]), (0, [0]), (0, [0, 1]), (0, [0, 1]), (0, [0]), (0, [0]), (0, [0]), (0, [0]), (0, [0]), (0, [0]), (0, [0]), (0, [0]), (0, [0]), (1, [0]), (0, [1]), (1, [1])] 2 (by kernel_rfl) rfl ?_
      simp [hin, hjn, hiL, hjL, g1, g2, g3, r1, r2]
      rw [wrap_id (by omega) (by omega), wrap_id (by omega) (by omega)]
      refine ⟨i + 1, L2, ⟨by omega, by rw [← hL2, ← hL1]; simpa using hL, fun t ht => ?_⟩, by omega, entm [0] (hT := by simp; omega)⟩
      rw [← hL2, ← hL1]
      have pi := hp i (by omega)
      have pj := hp j (by omega)
      rw [List.getElem?_eq_getElem hiL, if_neg (by omega)] at pi
      rw [List.getElem?_eq_getElem hjL, if_neg (by omega)] at pj
      have pt := hp t ht
      rw [List.getElem?_set, List.getElem?_set]
      by_cases tj : j = t
      · subst tj
        rw [if_pos rfl, if_pos (by simpa using hjL), if_pos (by omega), pi]
        congr 1; omega
      · rw [if_neg tj]
        by_cases ti : i = t
        · subst ti
          rw [if_pos rfl, if_pos hiL, if_pos (by omega), pj]
          congr 1; omega
        · rw [if_neg ti, pt]
          by_cases h1 : t < i ∨ n - i ≤ t
          · rw [if_pos h1, if_pos (by omega)]
          · rw [if_neg h1, if_neg (by omega)]
    · simp [hlt]
      have hR : L = R := by
        rw [← hRv]
        refine List.ext_getElem? fun t => ?_
        by_cases ht : t < n
        · rw [hp t ht, List.getElem?_reverse (by omega), hn]
          split
          · rfl
          · congr 1; omega
        · rw [List.getElem?_eq_none (by omega), List.getElem?_eq_none (by simp; omega)]
      subst hR
      exact finGm [0]

end Go.Proofs.Ytbddlekpoelmkaa.Am
/- WorldBorn: the law. -/
namespace Go.Proofs.Ytbddlekpoelmkaa.Am
open Go Go.RowKit

theorem chunks_app {α : Type} {e : α → List PV} {z : Nat} (h : ∀ x, (e x).length = z) (l : List α) (Z : List PV) : chunks z ((l.map e).flatten ++ Z) l.length = l.map e := by
  have := chunks_flatten (l.map e) (fun r hr => by obtain ⟨x, _, rfl⟩ := List.mem_map.1 hr; exact h x) Z
  simpa using this

set_option maxRecDepth 20000 in
theorem Comps_fn (ks : List GKind) (l : List Int) (hks : OkKs ks) : Fn Try.prog 23 [.sl 2 (ks.map GKind.e), slI l] (.sl 2 ((compsM ks l).1.map GComp.e)) := by
  refine fn_go Try.func23 rfl ?_
  simp [Try.ntmps23]
  refine calD [0] (comps_fn ks l hks) ?_
  simp
  exact finm (by simp)

set_option maxHeartbeats 2000000 in
set_option maxRecDepth 20000 in
theorem WorldBorn_law (l m : List Int) (hl : l.length * 8 ≤ 140737488351232) (hw : ∀ x ∈ l, (Lit.int .i64 x).wf = true) (hml : m.length * 8 ≤ 140737488351232) (hwm : ∀ x ∈ m, (Lit.int .i64 x).wf = true) :
    Fn Try.prog 7 [slI l, slI m] (kB true) := by
  refine fn_go Try.func7 rfl ?_
  simp [Try.ntmps7]
  refine cal (World_fn l) ?_
  have hv := worldM_valid l
  have hok : OkKs (worldM l).Kinds := good_ok (kindsM_good l).1
  have hk4 : (worldM l).Kinds.length ≤ 4 := (kindsM_good l).1.1
  have hg256 : (worldM l).Gens.length < 256 := by
    have hc : checkE (kindsM l).1 = 0 := checkE_good (kindsM_good l).1
    have hv := nextV_lt (l := (kindsM l).2) (n := 12) (by omega)
    obtain ⟨h1, _⟩ := mkWorld_valid hc (nextV (kindsM l).2 12).toNat 0 [] [] (nextL (kindsM l).2 12) rfl (by simp) (by simp) (by simp) rfl
    show (mkWorld _ _ _ _ _ _).1.length < 256
    rw [h1]; omega
  generalize worldM l = w at hv hok hk4 hg256 ⊢
  obtain ⟨hfi, hfc⟩ := checkW_fine hv
  obtain ⟨ce, cg, ci, cn, cit⟩ := checkW_iff.1 hv
  obtain ⟨ce1, ce2⟩ := checkE_le ce
  have hvals : ∀ {w : GWorld}, checkW w = 0 → ∀ it ∈ w.Items, ∀ c ∈ it.Comps, c.Vals.length ≤ 1000 := fun h it hi c hc => by have := (((checkW_fine h).2 it hi).2 c hc).2.2.2; omega
  simp
  refine cal (Comps_fn w.Kinds m hok) ?_
  have hheld := compsM_held ce m
  obtain ⟨C, hC⟩ : ∃ C, (compsM w.Kinds m).1 = C := ⟨_, rfl⟩
  rw [hC] at hheld ⊢
  have hCl := held_len (by omega) hheld
  have hCv : ∀ c ∈ C, c.Vals.length ≤ 1000 := fun c hc => by
    obtain ⟨g1, g2, g3⟩ := held_mem hheld c hc
    obtain ⟨_, e2, _⟩ := holds_iff.1 g3
    have hn : c.Kind.toNat < w.Kinds.length := by omega
    have := ce2 _ (List.getElem_mem hn)
    simp only [List.getD, List.getElem?_eq_getElem hn, Option.getD_some] at e2
    omega
  obtain ⟨n, hfree, hn, hno, hlt⟩ := free_spec hv hg256
  obtain ⟨p, hb⟩ := spawn_born hv hg256 hn hno hlt hheld
  have hS := Spawn_ok w C C n hv (fit_sorted ce hheld) hfree hn (by omega) hCv
  obtain ⟨v, hve⟩ : ∃ v, spawnW w n C = v := ⟨_, rfl⟩
  obtain ⟨g, hge⟩ : ∃ g, (spawnG w.Gens n).getD n 0 = g := ⟨_, rfl⟩
  rw [hve] at hb hS
  rw [hge] at hS
  obtain ⟨hvv, hpos, hitem, hrest, hgens, hkinds⟩ := hb
  obtain ⟨hfiv, hfcv⟩ := checkW_fine hvv
  have hitem2 : v.Items[p] = ⟨⟨n, g⟩, C⟩ := by rw [hitem hpos, hgens, hge]
  have hfv : findI v ⟨n, g⟩ = some p := by
    have := findI_self hvv hpos
    rw [hitem2] at this
    exact this
  have hfw : findI w ⟨n, g⟩ = none := List.findIdx?_eq_none_iff.2 fun it hit => by
    have := hno it hit
    simp only [decide_eq_false_iff_not]
    intro h
    rw [h] at this
    exact this rfl
  simp
  refine cal begun_fn ?_
  simp
  refine cal hS ?_
  simp
  refine cal (WFind_fn w ⟨n, g⟩ (by have := hfi.il; omega)) ?_ (hren := by simp [GEnt.e])
  have c1 : ¬ (w.Gens.length : Int) < (n : Int) := by omega
  have c2 : ¬ ((n : Int) < 0) := by omega
  simp [findW_none hfw, c1, c2]
  refine cal (WCheck_fn v hfiv (hvals hvv)) ?_
  simp [hvv]
  refine cal (WFind_fn v ⟨n, g⟩ (by have := hfiv.il; omega)) ?_ (hren := by simp [GEnt.e])
  have c3 : ¬ ((p : Int) < 0) := by omega
  have c4 : ¬ (v.Items.length : Int) ≤ (p : Int) := by omega
  simp [findW_some hfv]
  refine awp_drawS follows_mix [(0, 0), (0, 0), (0, 0), (0, 0), (0, 0), (0, 0), (0, 0), (0, 0), (0, 0), (0, 0), (0, 0), (0, 0), (0, 0), (0, 0), (0, 0), (0, 0), (0, 0), (2, 0), (0, 0), (0, 0), (0, 0), (0, 0), (0, 0), (5, 3), (0, 0), (0, 0), (0, 0), (3, 0), (0, 0), (0, 0), (3, 0), (0, 0), (0, 0)] 3 4 [(23, 24), (23, 25), (23, 26), (23, 28), (23, 29), (27, 28), (27, 29)] (by kernel_rfl) rfl rfl ?_
  simp [c3, c4, hpos, hitem2]
  refine gE_call (kB true) ?_ ?_
  · simp
    have := sameComps_fn C C (by omega) (fun c hc => by have := hCv c hc; omega)
    exact calO (by simpa using this)
  simp
  refine gE_call5 (.osl 3 3 0 v.Items.length) [] (v.Items.map GItem.e).flatten rfl (fun y => ?_) (by simp) (by simp) (by simp) (by simp) ?_
  · simp
    exact does_fnd [] (CloneIt_own v.Items (by have := hfiv.il; omega)) rfl rfl rfl en_33 rfl (by simp) (by simp) (by simp) (by simp) (by simp) (by simp)
  simp
  rw [wrap_id (by omega) (by have := hfiv.il; omega)]
  have hDel := DeleteIt_fn v.Items p hpos (by have := hfiv.il; omega)
  have hwl : v.Items.length - 1 = w.Items.length := by rw [← hrest]; simp; omega
  rw [hrest, hwl] at hDel
  refine gE_callW (.osl 3 3 0 w.Items.length) [3] [(3, some ((w.Items.map GItem.e).flatten ++ [kI 0, kI 0, kNil]))] rfl (fun y => ?_) ?_
  · simp
    exact does_fnd [3] hDel rfl rfl rfl en_32 rfl (by simp) (by simp) (by simp) (by simp) (by simp) rfl
  simp
  refine gE_callW (kB true) [3] [] rfl (fun y => ?_) ?_
  · simp
    have := sameItems_fn w.Items w.Items (by have := hfi.il; omega) (fun it hi => ⟨by have := hfi.ic it hi; omega, fun c hc => by have := hfi.iv it hi c hc; omega⟩)
    rw [decide_eq_true rfl] at this
    exact does_snap this rfl rfl rfl en_31 (by simp [chunks_app GItem.e_len]) (by simp) (by simp)
  simp
  have hnv : n < v.Gens.length := by
    rw [hgens]; unfold spawnG; split
    · simp; omega
    · omega
  have hgv : ∀ x ∈ v.Gens, x ≤ 1073741824 ∧ 0 ≤ x := fun x hx => by
    obtain ⟨_, _, _, hgn, _⟩ := checkW_iff.1 hvv
    have := List.any_eq_false.1 hgn x hx
    simp at this; omega
  have hKl := Kill_ok v n g hvv p hfv hpos hnv hgv
  have hgvn : v.Gens.getD n 0 = g := by rw [hgens, hge]
  obtain ⟨G3, hG3⟩ : ∃ G3, v.Gens.set n (g + 1) = G3 := ⟨_, rfl⟩
  have hkw : killW v p n = ⟨w.Kinds, G3, w.Items⟩ := by unfold killW; rw [hrest, hgvn, hG3, hkinds]
  rw [hkw] at hKl
  have hgb : g ≤ 1073741824 ∧ 0 ≤ g := by
    have : v.Gens.getD n 0 = v.Gens[n] := by simp [List.getD, hnv]
    rw [hgvn] at this; rw [this]; exact hgv _ (List.getElem_mem hnv)
  have hG3l : G3.length ≤ 1000000 := by rw [← hG3]; simp; exact hfiv.gl
  have hsI := sameItems_fn w.Items w.Items (by have := hfi.il; omega) (fun it hi => ⟨by have := hfi.ic it hi; omega, fun c hc => by have := hfi.iv it hi c hc; omega⟩)
  refine cal hKl ?_
  simp
  refine calD [] (CloneI_own w.Gens (by have := hfi.gl; omega)) ?_ (hren := by simp)
  by_cases hnl : n = w.Gens.length
  · have hsg : v.Gens = w.Gens ++ [0] := by rw [hgens]; unfold spawnG; rw [if_pos hnl]
    have hg0 : g = 0 := by rw [← hge]; unfold spawnG; rw [if_pos hnl, hnl]; simp [List.getD]
    rw [hsg, hg0] at hG3
    have hst := set_ints (A := w.Gens ++ [0]) (i := n) (by simp; omega) (0 + 1)
    rw [hG3] at hst
    have b1 : (w.Gens.length + 1) * 8 ≤ 140737488355328 := by omega
    have b2 : w.Gens.length + 1 ≤ maxLen := by simp only [maxLen]; omega
    have hlt1 : (w.Gens.length : Int) < (w.Gens.length : Int) + 1 := by omega
    have hlt2 : w.Gens.length < w.Gens.length + 1 := by omega
    have hle1 : w.Gens.length + 1 ≤ w.Gens.length + 1 := Nat.le_refl _
    rw [hnl] at hst
    have hG4 : G3 = w.Gens ++ [1] := by rw [← hG3, hnl, List.set_append_right _ _ (Nat.le_refl _), Nat.sub_self]; rfl
    have hd0 : List.drop (w.Gens.length + 1) (w.Gens.map kI ++ [kI 0]) = [] := List.drop_of_length_le (by simp)
    have hmap : w.Gens.map kI ++ [kI 1] = G3.map kI := by rw [hG4]; simp
    have hlen : w.Gens.length + 1 = G3.length := by rw [hG4]; simp
    simp [hnl, b1, b2, hlt1, hlt2, hle1, hd0]
    rw [hmap, hlen]
    refine cal hsI ?_
    simp
    refine calS (EqualI_fn G3 G3 (by omega)) ?_ (hren := by simp [slI_def, chunks_ints])
    simp
    exact finm (by simp)
  · have hng : n < w.Gens.length := by omega
    have hsg : v.Gens = w.Gens := by rw [hgens]; unfold spawnG; rw [if_neg hnl]
    have hgg : w.Gens[n] = g := by rw [← hge]; unfold spawnG; rw [if_neg hnl]; simp [List.getD, hng]
    rw [hsg] at hG3
    have hst := set_ints (A := w.Gens) hng (g + 1)
    rw [hG3] at hst
    have hnl' : ¬ (n : Int) = w.Gens.length := by omega
    have hn1 : n + 1 ≤ w.Gens.length := by omega
    have hlen : w.Gens.length = G3.length := by rw [← hG3]; simp
    simp [hnl', hng, hn1, hgg]
    rw [wrap_id (x := g + 1) (by omega) (by omega), hst, hlen]
    refine cal hsI ?_
    simp
    refine calS (EqualI_fn G3 G3 (by omega)) ?_ (hren := by simp [slI_def, chunks_ints])
    simp
    exact finm (by simp)
end Go.Proofs.Ytbddlekpoelmkaa.Am
/- Package sum: digests of numbers. -/
namespace Go.Proofs.Ytbddlekpoelmkaa.Am
open Go Go.RowKit

abbrev kU (x : Int) : PV := .k (.int .u64 x)
def mixA (k : Nat) (x : Int) : Int := IntKind.u64.wrap ↑((x % 2 ^ IntKind.u64.bits).toNat ^^^ (x.fdiv (2 ^ min k IntKind.u64.bits) % 2 ^ IntKind.u64.bits).toNat)
def mixM (x : Int) : Int := mixA 30 (IntKind.u64.wrap (mixA 27 (IntKind.u64.wrap (mixA 31 x * 7640891576956012809)) * 13503953896175478587))
def joinM (a b : Int) : Int := mixM (IntKind.u64.wrap (IntKind.u64.wrap (mixM (IntKind.u64.wrap (a + 5840696475078001361)) * 11170449401992604703) + b))
def wordsM (l : List Int) : Int := l.foldl joinM (joinM 5840696475078001361 (IntKind.u64.wrap l.length))
set_option maxRecDepth 20000 in
theorem Mix_fn (x : Int) : Fn Try.prog 120 [kU x] (kU (mixM x)) := by
  refine fn_go Try.func120 rfl ?_
  simp [Try.ntmps120]
  exact finm (by rfl)
set_option maxRecDepth 20000 in
theorem Join_fn (a b : Int) : Fn Try.prog 108 [kU a, kU b] (kU (joinM a b)) := by
  refine fn_go Try.func108 rfl ?_
  simp [Try.ntmps108]
  refine cal (Mix_fn _) ?_ (hren := by rfl)
  simp
  refine cal (Mix_fn _) ?_ (hren := by rfl)
  simp
  exact finm (by simp [joinM])
set_option maxRecDepth 20000 in
theorem Words_fn (l : List Int) (hl : l.length ≤ 1000000000) : Fn Try.prog 100 [.sl 1 (l.map fun x => [kU x])] (kU (wordsM l)) := by
  refine fn_go Try.func100 rfl ?_
  simp [Try.ntmps100]
  refine cal (Join_fn 5840696475078001361 (IntKind.u64.wrap l.length)) ?_
  simp
  refine awp_loop (fun x : Nat × Int => ⟨21, [(3, kU x.2), (10, .sl 1 (l.map fun x => [kU x])), (11, kI l.length), (12, kI x.1)], [], 0⟩)
    (fun x => x.1 ≤ l.length ∧ (l.drop x.1).foldl joinM x.2 = wordsM l) (fun x => l.length - x.1) (0, joinM 5840696475078001361 (IntKind.u64.wrap l.length)) ?_ ?_ ?_
  · exact entm []
  · simp [wordsM]
  · rintro ⟨i, d⟩ ⟨hi, hrun⟩
    simp only at hi hrun
    refine awp_go ?_
    by_cases hlt : i < l.length
    · rw [List.drop_eq_getElem_cons hlt, List.foldl_cons] at hrun
      simp [hlt]
      refine cal (Join_fn d l[i]) ?_
      simp
      rw [wrap_id (by omega) (by omega)]
      exact ⟨i + 1, joinM d l[i], ⟨by omega, hrun⟩, by omega, entm []⟩
    · have : i = l.length := by omega
      subst this
      simp at hrun
      simp
      exact finm (by simp [hrun])

def uI (x : Int) : List PV := [kU (IntKind.u64.wrap x)]
set_option maxRecDepth 20000 in
theorem SumInts_fn (l : List Int) (hl : l.length ≤ 1000000000) : Fn Try.prog 63 [slI l] (kU (wordsM (l.map IntKind.u64.wrap))) := by
  refine fn_go Try.func63 rfl ?_
  have h1 : 8 * (l.length : Int) ≤ 281474976710656 := by omega
  have h2 : (l.length : Int) ≤ 9223372036854775807 := by omega
  simp [Try.ntmps63, h1, h2]
  have hu : ∀ x : Int, (uI x).length = 1 := fun x => rfl
  have hui : ∀ x : Int, (uI x).all PV.immB = true := fun x => rfl
  have h0 : List.replicate l.length (kU 0) = fillB uI [kU 0] l 0 := by
    rw [fillB_0]
    refine List.ext_getElem (by simp) fun t h1 h2 => ?_
    simp
  have hB : ∀ i, (fillB uI [kU 0] l i).all PV.immB = true := fun i => fillB_imm hui (zr := [kU 0]) rfl l i
  rw [show List.replicate l.length (PV.k (.int IntKind.u64 0)) = fillB uI [kU 0] l 0 from h0]
  refine awp_loop (fun i : Nat => ⟨24, [(3, .osl 0 1 0 l.length), (9, slI l), (10, kI l.length), (11, kI i)], [some (fillB uI [kU 0] l i)], 0⟩) (fun i => i ≤ l.length) (fun i => l.length - i) 0 ?_ ?_ ?_
  · exact entm [0] (hB := by simp [imms_ren (hB 0), imms_lt (hB 0)])
  · simp
  · intro i hi
    refine awp_go ?_
    by_cases hlt : i < l.length
    · have hbl := fillB_len hu (zr := [kU 0]) rfl l i hi
      have hrow := fillB_row hu (zr := [kU 0]) rfl l i hlt
      have him := hB (i + 1)
      generalize fillB uI [kU 0] l i = B at hbl hrow ⊢
      have hr2 : List.take i B ++ kU (IntKind.u64.wrap l[i]) :: List.drop (i + 1) B = fillB uI [kU 0] l (i + 1) := by
        rw [← hrow]; simp [uI]
      have hq : i + 1 ≤ l.length := by omega
      have hbl2 : B.length = l.length := by omega
      simp [hlt, hbl2, hq]
      rw [wrap_id (by omega) (by omega)]
      rw [show List.take i B ++ PV.k (.int IntKind.u64 (IntKind.u64.wrap l[i])) :: List.drop (i + 1) B = fillB uI [kU 0] l (i + 1) from hr2]
      exact ⟨i + 1, by omega, by omega, entm [0] (hB := by simp [imms_ren him, imms_lt him])⟩
    · have : i = l.length := by omega
      subst this
      rw [fillB_end]
      simp
      have hW := Words_fn (l.map IntKind.u64.wrap) (by simpa using hl)
      refine calS hW ?_ (hren := by
        have h1 := chunks_map hu l
        have h2 : (List.map (List.length ∘ uI) l).sum = l.length := by have := flat_sum hu l; simpa using this
        have h3 : List.map ((fun x => [kU x]) ∘ IntKind.u64.wrap) l = List.map uI l := rfl
        have h4 : ∀ x : Int, ∀ p ∈ uI x, p.immB = true := fun x => List.all_eq_true.1 (hui x)
        simp [h1, h2, h3]
        exact fun x _ => h4 x)
      simp
      exact finm (by simp)

theorem Digest_fn (w : GWorld) (hw : Fine w) (hT : (intsM w).length ≤ 1000000000) : Fn Try.prog 27 [.agg w.e] (kU (wordsM ((intsM w).map IntKind.u64.wrap))) := by
  refine fn_go Try.func27 rfl ?_
  simp [Try.ntmps27]
  refine cal (Ints_fn w hw hT) ?_
  simp
  refine cal (SumInts_fn (intsM w) hT) ?_
  simp
  exact finm (by simp)

/-! ### How many numbers a valid world has -/
theorem fm_len {α : Type} (f : α → List Int) (B : Nat) : ∀ (l : List α), (∀ x ∈ l, (f x).length ≤ B) → (l.flatMap f).length ≤ l.length * B
  | [], _ => by simp
  | x :: r, h => by
    rw [List.flatMap_cons, List.length_append, List.length_cons, Nat.succ_mul]
    have h1 := h x (List.mem_cons_self ..)
    have h2 := fm_len f B r fun y hy => h y (List.mem_cons_of_mem _ hy)
    omega
theorem nameB_le {s : Str} (h : nameB s = true) : s.size ≤ 16 := by
  unfold nameB at h
  simp only [Bool.and_eq_true, decide_eq_true_eq] at h
  exact h.1.2
end Go.Proofs.Ytbddlekpoelmkaa.Am
/- WorldOrder: the law. -/
namespace Go.Proofs.Ytbddlekpoelmkaa.Am
open Go Go.RowKit

theorem oneE_name2 {k : GKind} (h : oneE k = 0) : nameB k.Name = true := by
  unfold oneE at h
  split at h
  · rename_i h1; exact h1
  · simp at h
theorem ints_bound {w : GWorld} (hw : checkW w = 0) : (intsM w).length ≤ 1000000000 := by
  obtain ⟨hfi, hfc⟩ := checkW_fine hw
  obtain ⟨ce, cg, ci, cn, cit⟩ := checkW_iff.1 hw
  obtain ⟨ce1, ce2⟩ := checkE_le ce
  have hk : (w.Kinds.flatMap kindI).length ≤ w.Kinds.length * 1000 := fm_len kindI 1000 w.Kinds fun k hk => by
    have hone := checkE_one ce k hk
    have h1 := nameB_le (oneE_name2 hone)
    have h2 := ce2 k hk
    have h3 : (k.Fields.flatMap fieldI).length ≤ k.Fields.length * 20 := fm_len fieldI 20 k.Fields fun f hf => by
      have hb := oneE_fields hone f hf
      simp only [fieldB, Bool.and_eq_true] at hb
      have := nameB_le hb.1.1.1.1
      unfold fieldI
      rw [List.length_append, nameI_len]
      simp; omega
    unfold kindI
    rw [List.length_append, nameI_len, List.length_cons]
    omega
  have hi : (w.Items.flatMap itemI).length ≤ w.Items.length * 1000 := fm_len itemI 1000 w.Items fun it hit => by
    obtain ⟨q1, q2⟩ := hfc it hit
    have h3 : (it.Comps.flatMap compI).length ≤ it.Comps.length * 10 := fm_len compI 10 it.Comps fun c hc => by
      have := (q2 c hc).2.2.2
      unfold compI
      rw [List.length_append]
      simp; omega
    unfold itemI
    rw [List.length_append]
    simp only [List.length_cons, List.length_nil]; omega
  have hil := hfi.il
  unfold intsM tailI
  simp only [List.length_cons, List.length_append]
  omega

set_option maxHeartbeats 2000000 in
set_option maxRecDepth 20000 in
theorem WorldOrder_law (l m : List Int) (hl : l.length * 8 ≤ 140737488351232) (hw : ∀ x ∈ l, (Lit.int .i64 x).wf = true) (hml : m.length * 8 ≤ 140737488351232) (hwm : ∀ x ∈ m, (Lit.int .i64 x).wf = true) :
    Fn Try.prog 6 [slI l, slI m] (kB true) := by
  refine fn_go Try.func6 rfl ?_
  simp [Try.ntmps6]
  refine cal (World_fn l) ?_
  have hv := worldM_valid l
  have hok : OkKs (worldM l).Kinds := good_ok (kindsM_good l).1
  have hk4 : (worldM l).Kinds.length ≤ 4 := (kindsM_good l).1.1
  have hg256 : (worldM l).Gens.length < 256 := by
    have hc : checkE (kindsM l).1 = 0 := checkE_good (kindsM_good l).1
    have hv := nextV_lt (l := (kindsM l).2) (n := 12) (by omega)
    obtain ⟨h1, _⟩ := mkWorld_valid hc (nextV (kindsM l).2 12).toNat 0 [] [] (nextL (kindsM l).2 12) rfl (by simp) (by simp) (by simp) rfl
    show (mkWorld _ _ _ _ _ _).1.length < 256
    rw [h1]; omega
  generalize worldM l = w at hv hok hk4 hg256 ⊢
  obtain ⟨hfi, hfc⟩ := checkW_fine hv
  obtain ⟨ce, cg, ci, cn, cit⟩ := checkW_iff.1 hv
  obtain ⟨ce1, ce2⟩ := checkE_le ce
  simp
  refine cal (Comps_fn w.Kinds m hok) ?_
  have hheld := compsM_held ce m
  obtain ⟨C, hC⟩ : ∃ C, (compsM w.Kinds m).1 = C := ⟨_, rfl⟩
  rw [hC] at hheld ⊢
  have hCl := held_len (by omega) hheld
  have hCv : ∀ c ∈ C, c.Vals.length ≤ 1000 := fun c hc => by
    obtain ⟨g1, g2, g3⟩ := held_mem hheld c hc
    obtain ⟨_, e2, _⟩ := holds_iff.1 g3
    have hn : c.Kind.toNat < w.Kinds.length := by omega
    have := ce2 _ (List.getElem_mem hn)
    simp only [List.getD, List.getElem?_eq_getElem hn, Option.getD_some] at e2
    omega
  obtain ⟨n, hfree, hn, hno, hlt⟩ := free_spec hv hg256
  obtain ⟨p, hb⟩ := spawn_born hv hg256 hn hno hlt hheld
  have hS := Spawn_ok w C C n hv (fit_sorted ce hheld) hfree hn (by omega) hCv
  have hS2 := Spawn_ok w C.reverse C n hv (fit_rev ce hheld (by omega)) hfree hn (by simp; omega) (fun c hc => hCv c (List.mem_reverse.1 hc))
  obtain ⟨v, hve⟩ : ∃ v, spawnW w n C = v := ⟨_, rfl⟩
  obtain ⟨g, hge⟩ : ∃ g, (spawnG w.Gens n).getD n 0 = g := ⟨_, rfl⟩
  rw [hve] at hb hS hS2
  rw [hge] at hS hS2
  obtain ⟨hfiv, hfcv⟩ := checkW_fine hb.valid
  have hints := ints_bound hb.valid
  obtain ⟨D, hD⟩ : ∃ D, C.reverse = D := ⟨_, rfl⟩
  have hDl : D.length = C.length := by rw [← hD]; simp
  have hRev := ReverseC_fn C (by omega)
  rw [hD] at hS2 hRev
  simp
  refine calD [] (CloneC_own C (by omega)) ?_ (hren := by simp)
  simp
  refine calD [1] hRev ?_
  simp
  refine cal hS ?_
  simp
  rw [← hDl]
  refine ops_fz 1 _ ?_
  simp
  refine cal hS2 ?_
  simp
  refine awp_draw follows_mix [] [(2, [0]), (0, [0]), (0, [0]), (0, [0]), (0, [0]), (0, [0]), (0, [0]), (0, [0]), (0, [0]), (0, [0]), (0, [0]), (0, [0]), (0, [0]), (0, [0]), (0, [0]), (0, [0]), (0, [0]), (2, [0]), (0, [0]), (0, [0]), (0, [0]), (2, [0]), (0, [0]), (2, [0]), (0, [0]), (0, [0]), (0, [0])] 0 (by kernel_rfl) rfl ?_
  simp
  refine gD_call (kB true) ?_
  simp
  have hsame := same_fn v v hfiv
  rw [decide_eq_true rfl] at hsame
  obtain ⟨d, hd⟩ : ∃ d, wordsM ((intsM v).map IntKind.u64.wrap) = d := ⟨_, rfl⟩
  have hdig := Digest_fn v hfiv hints
  rw [hd] at hdig
  refine gD_call (kB true) ?_
  simp
  refine gD_call (kU d) ?_
  simp
  refine gD_call (kU d) ?_
  simp
  exact ⟨⟨calO begun_fn, calO hsame, calO hdig, calO hdig⟩, finm (by simp)⟩
end Go.Proofs.Ytbddlekpoelmkaa.Am
