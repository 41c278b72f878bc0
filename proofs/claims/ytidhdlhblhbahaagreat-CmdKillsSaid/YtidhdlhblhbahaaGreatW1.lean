/- Several texts in one. -/
import Derived.Test.YtidhdlhblhbahaaGreatDat
import Derived.Test.YtidhdlhblhbahaaGreatFine
import Derived.Test.YtidhdlhblhbahaaGreatCopy1
import Derived.Test.YtidhdlhblhbahaaGreatCmp
import Derived.Test.YtidhdlhblhbahaaGreatWChk1
import Derived.Test.YtidhdlhblhbahaaGreatFindW
import Derived.Test.YtidhdlhblhbahaaGreatCLaw
import Derived.Test.YtidhdlhblhbahaaGreatOvl
import Derived.Test.YtidhdlhblhbahaaGreatSortB
import Derived.Test.YtidhdlhblhbahaaGreatCLaw2
set_option linter.unusedVariables false
set_option linter.unusedSimpArgs false
/- The empty world. -/
namespace Go.Proofs.YtidhdlhblhbahaaGreat.Am
open Go Go.RowKit

def w0 : GWorld := ⟨[], [], []⟩
end Go.Proofs.YtidhdlhblhbahaaGreat.Am
/- Package world: copies. -/
namespace Go.Proofs.YtidhdlhblhbahaaGreat.Am
open Go Go.RowKit

end Go.Proofs.YtidhdlhblhbahaaGreat.Am
/- kind.Copy, with the fields of one kind still to be written. -/
namespace Go.Proofs.YtidhdlhblhbahaaGreat.Am
open Go Go.RowKit

/-- Row i0 has its fields in box 1. -/
def kAt (l : List GKind) (i0 m : Nat) (B : List PV) : List PV := B.set (i0 * 2 + 1) (.osl 1 3 0 m)

end Go.Proofs.YtidhdlhblhbahaaGreat.Am
/- Package world: copies of which parts are to be written. -/
namespace Go.Proofs.YtidhdlhblhbahaaGreat.Am
open Go Go.RowKit

set_option maxRecDepth 20000 in
theorem CopyComps_own (l : List GComp) (hl : l.length ≤ 1000000000) (hv : ∀ c ∈ l, c.Vals.length ≤ 1000000000) : FnD Tryz.prog 66 [.sl 2 (l.map GComp.e)] [] (.osl 0 2 0 l.length) [some (l.map GComp.e).flatten] := by
  refine fnd_go Tryz.func66 rfl ?_
  simp [Tryz.ntmps66]
  have h1 : 32 * (l.length : Int) ≤ 281474976710656 := by omega
  have h2 : (l.length : Int) ≤ 9223372036854775807 := by omega
  simp [h1, h2]
  refine awp_loop (fun i : Nat => ⟨27, [(3, .osl 0 2 0 l.length), (9, .sl 2 (l.map GComp.e)), (10, kI l.length), (11, kI i)], [some (fillB GComp.e [kI 0, kNil] l i)], 0⟩) (fun i => i ≤ l.length) (fun i => l.length - i) 0 ?_ ?_ ?_
  · rw [← fillB_0 GComp.e]
    exact entm [0] (hB := by simp [imms_ren (fillB_imm GComp.e_imm (zr := [kI 0, kNil]) rfl l 0), imms_lt (fillB_imm GComp.e_imm (zr := [kI 0, kNil]) rfl l 0)])
  · simp
  · intro i hi
    refine awp_go ?_
    by_cases hlt : i < l.length
    · have hbl := fillB_len GComp.e_len (zr := [kI 0, kNil]) rfl l i hi
      have hrow := fillB_row GComp.e_len (zr := [kI 0, kNil]) rfl l i hlt
      generalize fillB GComp.e [kI 0, kNil] l i = B at hbl hrow ⊢
      simp [hlt]
      refine awp_draw follows_mix [] [(0, [0]), (0, [0]), (0, [0]), (0, [0]), (0, [0]), (0, [0]), (2, [0]), (0, [0]), (0, [0]), (1, [0])] 1 (by kernel_rfl) rfl ?_
      simp [hlt]
      refine gD_call (slI l[i].Vals) ?_
      have hq : i * 2 + 2 ≤ l.length * 2 := by omega
      simp [hlt, hbl, hq]
      refine ⟨calO (CloneI_fn l[i].Vals (by have := hv _ (List.getElem_mem hlt); omega)), ?_⟩
      rw [wrap_id (by omega) (by omega), show kI l[i].Kind :: slI l[i].Vals :: List.drop (i * 2 + 2) B = l[i].e ++ List.drop (i * 2 + 2) B from rfl, hrow]
      exact ⟨i + 1, by omega, by omega, entm [0] (hB := by simp [imms_ren (fillB_imm GComp.e_imm (zr := [kI 0, kNil]) rfl l (i + 1)), imms_lt (fillB_imm GComp.e_imm (zr := [kI 0, kNil]) rfl l (i + 1))])⟩
    · simp [hlt]
      have : i = l.length := by omega
      subst this
      rw [fillB_end]
      exact finGm [0]

end Go.Proofs.YtidhdlhblhbahaaGreat.Am
/- The library's slice functions, at the program's types. -/
namespace Go.Proofs.YtidhdlhblhbahaaGreat.Am
open Go Go.RowKit

end Go.Proofs.YtidhdlhblhbahaaGreat.Am
/- Package world: Find, at, Get. -/
namespace Go.Proofs.YtidhdlhblhbahaaGreat.Am
open Go Go.RowKit

def atI (l : List GComp) (k : Int) : Nat := bs (fun c : GComp => cmpI c.Kind k) l
def atB (l : List GComp) (k : Int) : Bool := bsOk (fun c : GComp => cmpI c.Kind k) l
/-- The values of a component of an entity. -/
def getM (w : GWorld) (e : GEnt) (k : Int) : List Int × Int :=
  if checkW w ≠ 0 then ([], checkW w)
  else match w.Items.findIdx? (fun it => decide (it.Ent = e)) with
    | none => ([], 4)
    | some i => match w.Items[i]? with
      | none => ([], 4)
      | some it => if atB it.Comps k = true then (match it.Comps[atI it.Comps k]? with | some c => c.Vals | none => [], 0) else ([], 4)

end Go.Proofs.YtidhdlhblhbahaaGreat.Am
/- Package world: found. -/
namespace Go.Proofs.YtidhdlhblhbahaaGreat.Am
open Go Go.RowKit

def findI (w : GWorld) (e : GEnt) : Option Nat := w.Items.findIdx? (fun it => decide (it.Ent = e))
theorem findI_lt {w : GWorld} {e : GEnt} {i : Nat} (h : findI w e = some i) : ∃ hi : i < w.Items.length, (w.Items[i]).Ent = e := by
  obtain ⟨hi, hn, _⟩ := List.findIdx?_eq_some_iff_getElem.1 h
  exact ⟨hi, by simpa using hn⟩
end Go.Proofs.YtidhdlhblhbahaaGreat.Am
/- The library's slice functions, at the program's types. -/
namespace Go.Proofs.YtidhdlhblhbahaaGreat.Am
open Go Go.RowKit

end Go.Proofs.YtidhdlhblhbahaaGreat.Am
/- The library's sort of components by a comparison, up to twelve of them. -/
namespace Go.Proofs.YtidhdlhblhbahaaGreat.Am
open Go Go.RowKit

set_option maxHeartbeats 1000000 in
set_option maxRecDepth 20000 in
theorem insC_fn (l : List GComp) (fn : FuncId) (c : GComp → GComp → Int) (hl : l.length ≤ 12) (he : enterable Tryz.prog fn = true) (hf : ∀ x y, Fn Tryz.prog fn [.agg (GComp.e x), .agg (GComp.e y)] (kI (c x y))) :
    FnD Tryz.prog 241 [.osl 0 2 0 l.length, kI 0, kI l.length, .clo (.func fn) []] [(l.map GComp.e).flatten] (.tup []) [some ((insSort c l).map GComp.e).flatten] := by
  obtain ⟨n, hn⟩ : ∃ n, l.length = n := ⟨_, rfl⟩
  obtain ⟨R, hR⟩ : ∃ R, insSort c l = R := ⟨_, rfl⟩
  rw [hn] at hl ⊢
  rw [hR]
  refine fnd_go Tryz.func241 rfl ?_
  simp [Tryz.ntmps241]
  refine awp_loop (fun x : Nat × List GComp => ⟨53, [(0, .osl 0 2 0 n), (1, kI 0), (2, kI n), (3, .clo (.func fn) []), (8, kI x.1)], [some (x.2.map GComp.e).flatten], 1⟩)
    (fun x => 1 ≤ x.1 ∧ x.1 ≤ n + 1 ∧ x.2.length = n ∧ insOut c (n - x.1) x.1 x.2 = R) (fun x => n + 1 - x.1) (1, l) ?_ ?_ ?_
  · exact entm [0]
  · exact ⟨Nat.le_refl _, by omega, hn, by rw [← hR, insSort, hn]⟩
  · rintro ⟨i, L⟩ ⟨hi1, hi, hL, hrun⟩
    simp only at hi1 hi hL hrun
    refine awp_go ?_
    by_cases hlt : i < n
    · rw [show n - i = (n - (i + 1)) + 1 by omega, insOut] at hrun
      simp [hlt]
      refine awp_loop (fun x : Nat × List GComp => ⟨53, [(0, .osl 0 2 0 n), (1, kI 0), (2, kI n), (3, .clo (.func fn) []), (8, kI i), (9, kI x.1)], [some (x.2.map GComp.e).flatten], 1⟩)
        (fun x => x.1 ≤ i ∧ x.2.length = n ∧ insIn c x.1 x.2 = insIn c i L) (fun x => x.1) (i, L) ?_ ?_ ?_
      · exact entm [0]
      · exact ⟨Nat.le_refl _, hL, rfl⟩
      · rintro ⟨j, M⟩ ⟨hj, hM, hin⟩
        simp only at hj hM hin
        refine awp_go ?_
        cases j with
        | zero =>
          simp
          refine awp_draw follows_mix [] [(0, [0]), (0, [0]), (0, [0]), (0, [0]), (0, [0]), (0, [0]), (0, [0]), (0, [0]), (0, [0]), (0, [0]), (0, [0]), (0, [0]), (0, [0]), (0, [0]), (2, [0]), (0, [0]), (0, [0])] 0 (by kernel_rfl) rfl ?_
          simp
          refine ⟨calSkp, ?_⟩
          rw [wrap_id (by omega) (by omega)]
          have hM2 : M = insIn c i L := hin
          subst hM2
          exact ⟨i + 1, insIn c i L, ⟨by omega, by omega, hM, hrun⟩, by omega, entm [0]⟩
        | succ j =>
          have h1 : j < M.length := by omega
          have h2 : j + 1 < M.length := by omega
          have h3 : j + 1 < n := by omega
          have h4 : j < n := by omega
          rw [insIn, List.getElem?_eq_getElem h1, List.getElem?_eq_getElem h2] at hin
          simp only at hin
          have g1 : (j + 1) * 2 + 2 ≤ M.length * 2 := by omega
          have g2 : j * 2 + 2 ≤ M.length * 2 := by omega
          have w1 : (((j + 1 : Nat) : Int) - 1) = (j : Int) := by omega
          have w2 : ((j : Int) + 1 - 1) = (j : Int) := by omega
          have w3 : (0 : Int) < (j : Int) + 1 := by omega
          have w4 : ((j : Int) + 1).toNat = j + 1 := by omega
          have w5 : (0 : Int) ≤ (j : Int) + 1 := by omega
          simp
          refine awp_draw follows_mix [] [(0, [0]), (0, [0]), (0, [0]), (0, [0]), (0, [0]), (0, [0]), (0, [0]), (0, [0]), (0, [0]), (0, [0]), (0, [0]), (0, [0]), (0, [0]), (0, [0]), (2, [0]), (0, [0]), (0, [0])] 0 (by kernel_rfl) rfl ?_
          have w6 : (j : Int) + 1 < (n : Int) := by omega
          have e1 : (M[j + 1]? : Option GComp) = some M[j + 1] := List.getElem?_eq_getElem h2
          simp [w1, w2, w3, w4, w5, w6, h1, h2, h3, h4, g1, g2]
          rw [wrap_id (by omega) (by omega)]
          simp [w1, w2, w3, w4, w5, w6, h1, h2, h3, h4, g1, g2]
          refine gD_call (kI (c M[j + 1] M[j])) ?_
          simp [w1, w2, w3, w4, w5, w6, h1, h2, h3, h4, g1, g2]
          refine ⟨⟨wrap_id (by omega) (by omega), calO (hf M[j + 1] M[j]) (he := he)⟩, ?_⟩
          by_cases hlt2 : c M[j + 1] M[j] < 0
          · rw [if_pos hlt2] at hin
            have r1 := row_set (e := GComp.e) (z := 2) (fun _ => rfl) M (j + 1) M[j] h2
            obtain ⟨M1, hM1⟩ : ∃ M1, M.set (j + 1) M[j] = M1 := ⟨_, rfl⟩
            have hM1l : M1.length = M.length := by rw [← hM1]; simp
            have r2 := row_set (e := GComp.e) (z := 2) (fun _ => rfl) M1 j M[j + 1] (by omega)
            obtain ⟨M2, hM2⟩ : ∃ M2, M1.set j M[j + 1] = M2 := ⟨_, rfl⟩
            rw [hM1] at r1 hin
            rw [hM2] at r2 hin
            have g3 : j * 2 + 2 ≤ M1.length * 2 := by omega
            simp [hlt2]
            refine awp_draw follows_mix [] [(0, [0]), (0, [0]), (0, [0, 1]), (0, [0, 1]), (0, [0, 1]), (0, [0]), (0, [0]), (0, [0]), (0, [0]), (0, [0]), (0, [0]), (0, [0]), (0, [0]), (0, [0]), (0, [0]), (1, [0]), (0, [1]), (1, [1])] 2 (by kernel_rfl) rfl ?_
            simp [w1, w2, w3, w4, w5, w6, h1, h2, h3, h4, g1, g2]
            rw [wrap_id (by omega) (by omega)]
            simp [w1, w2, w3, w4, w5, w6, h1, h2, h3, h4, g1, g2, g3, r1, r2]
            have hM2l : M2.length = n := by rw [← hM2]; simp [hM1l, hM]
            rw [wrap_id (by omega) (by omega)]
            exact ⟨rfl, j, M2, ⟨by omega, hM2l, hin⟩, by omega, entm [0]⟩
          · rw [if_neg hlt2] at hin
            simp [hlt2]
            rw [wrap_id (by omega) (by omega)]
            rw [← hin] at hrun
            exact ⟨i + 1, M, ⟨by omega, by omega, hM, hrun⟩, by omega, entm [0]⟩
    · simp [hlt]
      have hR2 : L = R := by
        rw [← hrun, show n - i = 0 by omega]; rfl
      subst hR2
      exact finGm [0]

set_option maxHeartbeats 1000000 in
set_option maxRecDepth 20000 in
theorem pdqC_fn (l : List GComp) (r : Int) (fn : FuncId) (c : GComp → GComp → Int) (hl : l.length ≤ 12) (he : enterable Tryz.prog fn = true) (hf : ∀ x y, Fn Tryz.prog fn [.agg (GComp.e x), .agg (GComp.e y)] (kI (c x y))) :
    FnD Tryz.prog 174 [.osl 0 2 0 l.length, kI 0, kI l.length, kI r, .clo (.func fn) []] [(l.map GComp.e).flatten] (.tup []) [some ((insSort c l).map GComp.e).flatten] := by
  refine fnd_go Tryz.func174 rfl ?_
  simp [Tryz.ntmps174]
  refine awp_loop (fun _ : Unit => ⟨148, [(0, .osl 0 2 0 l.length), (1, kI 0), (2, kI l.length), (3, kI r), (4, .clo (.func fn) [])], [some (l.map GComp.e).flatten], 1⟩) (fun _ => True) (fun _ => 0) () ?_ trivial ?_
  · exact entm [0]
  · rintro ⟨⟩ _
    refine awp_go ?_
    have h12 : (l.length : Int) ≤ 12 := by omega
    simp
    rw [wrap_id (by omega) (by omega)]
    simp [h12]
    refine calD [0] (insC_fn l fn c hl he hf) ?_
    simp
    obtain ⟨R, hR⟩ : ∃ R, insSort c l = R := ⟨_, rfl⟩
    rw [hR]
    exact finGm [0]
theorem SortC_fn (l : List GComp) (fn : FuncId) (c : GComp → GComp → Int) (hl : l.length ≤ 12) (he : enterable Tryz.prog fn = true) (hf : ∀ x y, Fn Tryz.prog fn [.agg (GComp.e x), .agg (GComp.e y)] (kI (c x y))) :
    FnD Tryz.prog 123 [.osl 0 2 0 l.length, .clo (.func fn) []] [(l.map GComp.e).flatten] (.tup []) [some ((insSort c l).map GComp.e).flatten] := by
  refine fnd_go Tryz.func123 rfl ?_
  simp [Tryz.ntmps123]
  have hw : IntKind.u64.wrap (l.length : Int) = l.length := by
    simp [IntKind.wrap, IntKind.bits, IntKind.signed]; omega
  simp [hw]
  refine cal (Len_fn l.length hl) ?_
  simp
  refine calD [0] (pdqC_fn l (len8 l.length) fn c hl he hf) ?_
  simp
  exact finGm [0] (hB := by simp)
end Go.Proofs.YtidhdlhblhbahaaGreat.Am
/- The library's slice functions, at the program's types. -/
namespace Go.Proofs.YtidhdlhblhbahaaGreat.Am
open Go Go.RowKit

set_option maxRecDepth 20000 in
theorem IndexFuncC_fn (l : List GComp) (fn : FuncId) (caps : List PV) (p : GComp → Bool) (hl : l.length ≤ 4611686018427387904) (he : enterable Tryz.prog fn = true) (hc : ltL 0 caps = true)
    (hf : ∀ x ∈ l, Fn Tryz.prog fn (.agg x.e :: caps) (kB (p x))) : Fn Tryz.prog 172 [.sl 2 (l.map GComp.e), .clo (.func fn) caps] (kI (idxB p l)) := by
  refine fn_go Tryz.func172 rfl ?_
  simp [Tryz.ntmps172]
  refine awp_loop (fun i : Nat => ⟨19, [(0, .sl 2 (l.map GComp.e)), (1, .clo (.func fn) caps), (7, kI l.length), (8, kI i)], [], 0⟩) (fun i => i ≤ l.length ∧ ∀ j, j < i → ∀ x, l[j]? = some x → p x = false) (fun i => l.length - i) 0 ?_ ?_ ?_
  · exact entm [] (hT := by simp [renL_lt0 _ _ hc, hc])
  · simp
  · intro i ⟨hi, hno⟩
    refine awp_go ?_
    by_cases hlt : i < l.length
    · simp [hlt]
      refine cal (hf l[i] (List.getElem_mem hlt)) ?_ (he := he) (hlt := by simp [hc])
      by_cases hp : p l[i] = true
      · simp [hp]
        exact finm (by simp [idxB_some hlt hno hp])
      · have hp' : p l[i] = false := by simpa using hp
        simp [hp']
        rw [wrap_id (by omega) (by omega)]
        exact ⟨i + 1, ⟨by omega, no_succ hlt hno hp'⟩, by omega, entm [] (hT := by simp [renL_lt0 _ _ hc, hc])⟩
    · simp [hlt]
      have : i = l.length := by omega
      subst this
      exact finm (by simp [idxB_none hno])

theorem ContainsFuncC_fn (l : List GComp) (fn : FuncId) (caps : List PV) (p : GComp → Bool) (hl : l.length ≤ 4611686018427387904) (he : enterable Tryz.prog fn = true) (hc : ltL 0 caps = true)
    (hf : ∀ x ∈ l, Fn Tryz.prog fn (.agg x.e :: caps) (kB (p x))) : Fn Tryz.prog 120 [.sl 2 (l.map GComp.e), .clo (.func fn) caps] (kB (l.any p)) := by
  refine fn_go Tryz.func120 rfl ?_
  simp [Tryz.ntmps120]
  refine cal (IndexFuncC_fn l fn caps p hl he hc hf) ?_ (hlt := by simp [hc])
  have h := idxB_any p l
  simp
  exact finm (by simp [h])

end Go.Proofs.YtidhdlhblhbahaaGreat.Am
/- Package world: Fit. -/
namespace Go.Proofs.YtidhdlhblhbahaaGreat.Am
open Go Go.RowKit

set_option maxRecDepth 20000 in
theorem Fit1_fn (x c : GComp) : Fn Tryz.prog 121 [.agg x.e, .eptr c.e] (kB (decide (x.Kind = c.Kind))) := by
  refine fn_go Tryz.func121 rfl ?_
  simp [Tryz.ntmps121]
  exact finm (by simp)
def cK (x y : GComp) : Int := cmpI x.Kind y.Kind
set_option maxRecDepth 20000 in
theorem Fit2_fn (x y : GComp) : Fn Tryz.prog 124 [.agg x.e, .agg y.e] (kI (cK x y)) := by
  refine fn_go Tryz.func124 rfl ?_
  simp [Tryz.ntmps124]
  refine cal (Compare_fn x.Kind y.Kind) ?_
  simp
  exact finm (by simp [cK])
theorem insOut_len {α : Type} (c : α → α → Int) : ∀ (f i : Nat) (L : List α), (insOut c f i L).length = L.length
  | 0, _, _ => rfl
  | f + 1, i, L => by rw [insOut, insOut_len c f, insIn_len]
theorem insSort_len {α : Type} (c : α → α → Int) (L : List α) : (insSort c L).length = L.length := insOut_len c _ _ _

def fitGo (ks : List GKind) : List GComp → List GComp → List GComp → List GComp × Int
  | _, [], out => (insSort cK out, 0)
  | pre, c :: r, out =>
    if c.Kind < 0 ∨ (ks.length : Int) ≤ c.Kind then ([], 1)
    else if pre.any (fun x => decide (x.Kind = c.Kind)) = true then ([], 5)
    else if fitE (ks.getD c.Kind.toNat k0) c.Vals ≠ 0 then ([], fitE (ks.getD c.Kind.toNat k0) c.Vals)
    else fitGo ks (pre ++ [c]) r (out ++ [⟨c.Kind, fitV (ks.getD c.Kind.toNat k0) c.Vals⟩])
def fitC (ks : List GKind) (l : List GComp) : List GComp × Int := if checkE ks ≠ 0 then ([], checkE ks) else fitGo ks [] l []

set_option maxHeartbeats 1000000 in
set_option maxRecDepth 20000 in
theorem WFit_fn (ks : List GKind) (l : List GComp) (hk : ks.length ≤ 1000000) (hf : ∀ k ∈ ks, k.Fields.length ≤ 1000000) (hl : l.length ≤ 12) (hv : ∀ c ∈ l, c.Vals.length ≤ 1000) :
    Fn Tryz.prog 67 [.sl 2 (ks.map GKind.e), .sl 2 (l.map GComp.e)] (.tup [.sl 2 ((fitC ks l).1.map GComp.e), kI (fitC ks l).2]) := by
  refine fn_go Tryz.func67 rfl ?_
  simp [Tryz.ntmps67]
  refine cal (Check_fn ks (fun k hk => by have := hf k hk; omega) (by omega)) ?_
  by_cases h1 : checkE ks = 0
  · have hF : fitC ks l = fitGo ks [] l [] := by unfold fitC; rw [if_neg (by simp [h1])]
    obtain ⟨hk16, hk8⟩ := checkE_le h1
    simp [h1]
    refine awp_loop (fun x : Nat × List GComp => ⟨64, [(0, .sl 2 (ks.map GKind.e)), (1, .sl 2 (l.map GComp.e)), (7, .osl 0 2 0 x.2.length), (17, .sl 2 (l.map GComp.e)), (18, kI l.length), (19, kI x.1)], [some (x.2.map GComp.e).flatten], 0⟩)
      (fun x => x.1 ≤ l.length ∧ x.2.length = x.1 ∧ fitGo ks (l.take x.1) (l.drop x.1) x.2 = fitGo ks [] l []) (fun x => l.length - x.1) (0, []) ?_ ?_ ?_
    · exact (ent_nil (t := 7) (z := 2) rfl).trans (entm [0])
    · simp
    · rintro ⟨i, out⟩ ⟨hi, ho, hrun⟩
      simp only at hi ho hrun
      refine awp_go ?_
      by_cases hlt : i < l.length
      · rw [List.drop_eq_getElem_cons hlt, fitGo] at hrun
        have hvl := hv _ (List.getElem_mem hlt)
        have htk : l.take i ++ [l[i]] = l.take (i + 1) := List.take_append_getElem hlt
        obtain ⟨c, hc⟩ : ∃ c, l[i] = c := ⟨_, rfl⟩
        rw [hc] at hrun hvl htk
        by_cases p1 : c.Kind < 0
        · rw [if_pos (.inl p1)] at hrun
          simp [hlt, hc, p1]
          refine fin_ent (ent_nilsl (t := 4) (z := 2) rfl) ?_
          exact finm (by simp [hF, ← hrun])
        by_cases p2 : (ks.length : Int) ≤ c.Kind
        · rw [if_pos (.inr p2)] at hrun
          simp [hlt, hc, p1, p2]
          refine fin_ent (ent_nilsl (t := 4) (z := 2) rfl) ?_
          exact finm (by simp [hF, ← hrun])
        rw [if_neg (by omega)] at hrun
        obtain ⟨n, hn⟩ : ∃ n : Nat, c.Kind = n := ⟨c.Kind.toNat, by omega⟩
        have hnk : n < ks.length := by omega
        have hgd : ks.getD c.Kind.toNat k0 = ks[n] := by rw [hn]; simp [List.getD, hnk]
        rw [hgd] at hrun
        have hi2 : i ≤ l.length := hi
        simp [hlt, hc, p1, p2, hi2]
        refine ops_fz 1 c.e ?_
        simp
        refine cal (ContainsFuncC_fn (l.take i) 121 [.eptr c.e] (fun x => decide (x.Kind = c.Kind)) (by simp; omega) (by simp) (by simp) fun x _ => Fit1_fn x c) ?_
        by_cases p3 : (l.take i).any (fun x => decide (x.Kind = c.Kind)) = true
        · rw [if_pos p3] at hrun
          rw [p3]
          simp
          refine fin_ent (ent_nilsl (t := 4) (z := 2) rfl) ?_
          exact finm (by simp [hF, ← hrun])
        rw [if_neg p3] at hrun
        have p3' : (l.take i).any (fun x => decide (x.Kind = c.Kind)) = false := by simpa using p3
        rw [p3']
        simp
        refine awp_draw follows_mix [] [(0, [0]), (0, [0]), (0, [0]), (0, [0]), (0, [0]), (0, [0]), (0, [0]), (2, [0]), (0, [0]), (0, [0]), (0, [0]), (0, [0]), (0, [0])] 0 (by kernel_rfl) rfl ?_
        have hfk := hk8 _ (List.getElem_mem hnk)
        have hfit := Fit_fn ks[n] c.Vals (by omega) hvl
        obtain ⟨ck, cv⟩ := c
        simp only at hn
        subst hn
        simp [hnk]
        refine gD_call (.tup [slI (fitV ks[n] cv), kI (fitE ks[n] cv)]) ?_
        simp [hnk]
        refine ⟨calO hfit, ?_⟩
        by_cases p4 : fitE ks[n] cv = 0
        · rw [if_neg (by simp [p4])] at hrun
          have b1 : (out.length + 1) * 32 ≤ 140737488355328 := by omega
          have b2 : out.length + 1 ≤ maxLen := by simp only [maxLen]; omega
          simp [p4, b1, b2]
          rw [wrap_id (by omega) (by omega)]
          obtain ⟨y, hy⟩ : ∃ y : GComp, y = ⟨n, fitV ks[n] cv⟩ := ⟨_, rfl⟩
          rw [← hy, htk] at hrun
          refine ⟨i + 1, out ++ [y], ⟨by omega, by simp [ho], hrun⟩, by omega, entm [3] (hB := by simp [hy, GComp.e])⟩
        · rw [if_pos p4] at hrun
          simp [p4]
          refine fin_ent (ent_nilsl (t := 4) (z := 2) rfl) ?_
          exact finm (by simp [hF, ← hrun])
      · have : i = l.length := by omega
        subst this
        simp [fitGo] at hrun
        simp
        refine calD [0] (SortC_fn out 124 cK (by omega) en_124 Fit2_fn) ?_
        obtain ⟨R, hR⟩ : ∃ R, insSort cK out = R := ⟨_, rfl⟩
        have hRl : R.length = out.length := by rw [← hR, insSort_len]
        rw [hR] at hrun ⊢
        rw [← hRl]
        simp
        refine fin_fz 0 _ ?_
        simp
        exact finm (by simp [hF, ← hrun])
  · simp [h1]
    refine fin_ent (ent_nilsl (t := 4) (z := 2) rfl) ?_
    exact finm (by simp [fitC, h1])
end Go.Proofs.YtidhdlhblhbahaaGreat.Am
/- Package world: Drop, Put. -/
namespace Go.Proofs.YtidhdlhblhbahaaGreat.Am
open Go Go.RowKit

def setC (w : GWorld) (i : Nat) (C : List GComp) : GWorld := ⟨w.Kinds, w.Gens, w.Items.set i ⟨(w.Items.getD i ⟨⟨0, 0⟩, []⟩).Ent, C⟩⟩
end Go.Proofs.YtidhdlhblhbahaaGreat.Am
/- Worlds of which one entity's components change: the plain law. -/
namespace Go.Proofs.YtidhdlhblhbahaaGreat.Am
open Go Go.RowKit

theorem held_iff {ks : List GKind} : ∀ {l : List GComp} {last : Int}, heldGo ks last l = true ↔ l.Pairwise (fun a b => a.Kind < b.Kind) ∧ ∀ c ∈ l, last < c.Kind ∧ c.Kind < ks.length ∧ holdsB (ks.getD c.Kind.toNat k0) c.Vals = true
  | [], last => by simp [heldGo]
  | c :: r, last => by
    rw [held_cons, held_iff (l := r) (last := c.Kind), List.pairwise_cons]
    constructor
    · rintro ⟨h1, h2, h3, h4, h5⟩
      exact ⟨⟨fun x hx => (h5 x hx).1, h4⟩, fun x hx => by
        rcases List.mem_cons.1 hx with e | hx
        · subst e; exact ⟨h1, h2, h3⟩
        · have := h5 x hx; exact ⟨by omega, this.2⟩⟩
    · rintro ⟨⟨h1, h2⟩, h3⟩
      have hc := h3 c (List.mem_cons_self ..)
      exact ⟨hc.1, hc.2.1, hc.2.2, h2, fun x hx => ⟨h1 x hx, (h3 x (List.mem_cons_of_mem _ hx)).2⟩⟩

theorem items_set {ks : List GKind} {gs : List Int} (C : List GComp) (hC : heldGo ks (-1) C = true) : ∀ {its : List GItem} {last : Int} (i : Nat) (hi : i < its.length), itemsB ks gs last its = true → itemsB ks gs last (its.set i ⟨(its[i]).Ent, C⟩) = true
  | x :: r, last, 0, hi, h => by
    obtain ⟨h1, h2, h3, h4, h5, h6⟩ := items_cons.1 h
    exact items_cons.2 ⟨h1, h2, h3, h4, hC, h6⟩
  | x :: r, last, i + 1, hi, h => by
    obtain ⟨h1, h2, h3, h4, h5, h6⟩ := items_cons.1 h
    exact items_cons.2 ⟨h1, h2, h3, h4, h5, items_set C hC i (by simpa using hi) h6⟩
theorem setC_items (w : GWorld) {i : Nat} (hi : i < w.Items.length) (C : List GComp) : (setC w i C).Items = w.Items.set i ⟨(w.Items[i]).Ent, C⟩ := by simp [setC, List.getD, hi]
theorem setC_valid {w : GWorld} (hw : checkW w = 0) {i : Nat} (hi : i < w.Items.length) {C : List GComp} (hC : heldGo w.Kinds (-1) C = true) : checkW (setC w i C) = 0 := by
  obtain ⟨a, b, c, d, e⟩ := checkW_iff.1 hw
  refine checkW_iff.2 ⟨a, b, by rw [setC_items w hi]; simpa [setC] using c, d, ?_⟩
  rw [setC_items w hi]
  exact items_set C hC i hi e
/-! ### Where a component is -/
theorem atB_get {l : List GComp} {k : Int} (h : atB l k = true) : ∃ hj : atI l k < l.length, (l[atI l k]).Kind = k := by
  obtain ⟨hj, hc⟩ := bsOk_lt h
  exact ⟨hj, (cmpI_eq _ _).1 hc⟩
theorem atI_eq {l : List GComp} {k : Int} (p : Nat) (hp : p ≤ l.length) (h : ∀ j (hj : j < l.length), (l[j]).Kind < k ↔ j < p) : atI l k = p :=
  bs_eq p hp fun j hj => by rw [cmpI_lt]; exact h j hj
theorem erase_sub (l : List GComp) (j : Nat) : (l.take j ++ l.drop (j + 1)).Sublist l := by
  rw [← List.eraseIdx_eq_take_drop_succ]; exact List.eraseIdx_sublist _ _
theorem held_erase {ks : List GKind} {l : List GComp} (h : heldGo ks (-1) l = true) (j : Nat) : heldGo ks (-1) (l.take j ++ l.drop (j + 1)) = true := by
  obtain ⟨h1, h2⟩ := held_iff.1 h
  exact held_iff.2 ⟨h1.sublist (erase_sub l j), fun c hc => h2 c ((erase_sub l j).subset hc)⟩
end Go.Proofs.YtidhdlhblhbahaaGreat.Am
/- Package world: Put. -/
namespace Go.Proofs.YtidhdlhblhbahaaGreat.Am
open Go Go.RowKit

/-- A component in its place among others. -/
def putC (l : List GComp) (c : GComp) : List GComp := if atB l c.Kind = true then l.set (atI l c.Kind) c else l.take (atI l c.Kind) ++ c :: l.drop (atI l c.Kind)

end Go.Proofs.YtidhdlhblhbahaaGreat.Am
/- A component put in its place among others: the plain law. -/
namespace Go.Proofs.YtidhdlhblhbahaaGreat.Am
open Go Go.RowKit

abbrev SortedC (l : List GComp) : Prop := l.Pairwise (fun a b => a.Kind < b.Kind)

theorem atI_spec {l : List GComp} (h : SortedC l) (k : Int) : atI l k ≤ l.length ∧ ∀ j (hj : j < l.length), (l[j]).Kind < k ↔ j < atI l k := by
  have hp := List.pairwise_iff_getElem.1 h
  have key : ∀ j (hj : j < l.length), (l[j]).Kind < k ↔ j < l.findIdx (fun c => decide (k ≤ c.Kind)) := fun j hj => by
    constructor
    · intro hk
      rcases Nat.lt_or_ge j (l.findIdx (fun c => decide (k ≤ c.Kind))) with g | g
      · exact g
      · have hq : l.findIdx (fun c => decide (k ≤ c.Kind)) < l.length := by omega
        have hx := List.findIdx_getElem (w := hq)
        simp only [decide_eq_true_eq] at hx
        rcases Nat.lt_or_ge (l.findIdx (fun c => decide (k ≤ c.Kind))) j with g2 | g2
        · have := hp _ j hq hj g2; omega
        · have e : l.findIdx (fun c => decide (k ≤ c.Kind)) = j := by omega
          simp only [e] at hx
          omega
    · intro hk
      have h2 := List.not_of_lt_findIdx hk
      have h3 : ¬ k ≤ (l[j]).Kind := by simpa using h2
      omega
  have e := atI_eq (l := l) (k := k) _ List.findIdx_le_length key
  rw [e]
  exact ⟨List.findIdx_le_length, key⟩
theorem atB_spec {l : List GComp} (h : SortedC l) {j : Nat} (hj : j < l.length) : atI l (l[j]).Kind = j ∧ atB l (l[j]).Kind = true := by
  obtain ⟨h1, h2⟩ := atI_spec h (l[j]).Kind
  have hp := List.pairwise_iff_getElem.1 h
  have e : atI l (l[j]).Kind = j := by
    refine atI_eq j (by omega) fun t ht => ?_
    rcases Nat.lt_trichotomy t j with g | g | g
    · exact ⟨fun _ => g, fun _ => hp t j ht hj g⟩
    · subst g; exact ⟨fun x => absurd x (by omega), fun x => absurd x (by omega)⟩
    · have := hp j t hj ht g; exact ⟨fun x => absurd x (by omega), fun x => absurd x (by omega)⟩
  refine ⟨e, ?_⟩
  unfold atB bsOk
  have e2 : bs (fun c : GComp => cmpI c.Kind (l[j]).Kind) l = j := e
  rw [e2, List.getElem?_eq_getElem hj]
  simp [cmpI]
theorem atB_not {l : List GComp} (h : SortedC l) {k : Int} (hb : atB l k = false) {j : Nat} (hj : j < l.length) (hge : atI l k ≤ j) : k < (l[j]).Kind := by
  obtain ⟨h1, h2⟩ := atI_spec h k
  have := mt (h2 j hj).1 (by omega)
  rcases Int.lt_or_eq_of_le (Int.not_lt.1 this) with g | g
  · exact g
  · have := (atB_spec h hj).2
    rw [← g, hb] at this
    cases this

/-- The values of the component of a kind. -/
def getC (l : List GComp) (k : Int) : List Int × Int := if atB l k = true then (match l[atI l k]? with | some c => c.Vals | none => [], 0) else ([], 4)
theorem putC_mem {l : List GComp} (h : SortedC l) (c x : GComp) : x ∈ putC l c ↔ x = c ∨ (x ∈ l ∧ x.Kind ≠ c.Kind) := by
  have hp := List.pairwise_iff_getElem.1 h
  unfold putC
  cases hb : atB l c.Kind with
  | true =>
    obtain ⟨hj, hk⟩ := atB_get hb
    simp only [if_true]
    constructor
    · intro hx
      obtain ⟨t, ht, rfl⟩ := List.getElem_of_mem hx
      rw [List.length_set] at ht
      rw [List.getElem_set]
      split
      · exact .inl rfl
      · rename_i hne
        refine .inr ⟨List.getElem_mem ht, fun e => hne ?_⟩
        have := (atB_spec h ht).1
        rw [e] at this
        exact this
    · rintro (rfl | ⟨hx, hne⟩)
      · exact List.mem_set hj _
      · obtain ⟨t, ht, rfl⟩ := List.getElem_of_mem hx
        have htn : atI l c.Kind ≠ t := fun e => by subst e; exact hne hk
        have : (l.set (atI l c.Kind) c)[t]'(by simpa using ht) = l[t] := by rw [List.getElem_set, if_neg htn]
        rw [← this]
        exact List.getElem_mem _
  | false =>
    simp only [Bool.false_eq_true, if_false, List.mem_append, List.mem_cons]
    constructor
    · rintro (hx | rfl | hx)
      · refine .inr ⟨List.mem_of_mem_take hx, fun e => ?_⟩
        have hm := List.mem_of_mem_take hx
        obtain ⟨t, ht, rfl⟩ := List.getElem_of_mem hm
        have := (atB_spec h ht).2
        rw [e, hb] at this; cases this
      · exact .inl rfl
      · refine .inr ⟨List.mem_of_mem_drop hx, fun e => ?_⟩
        have hm := List.mem_of_mem_drop hx
        obtain ⟨t, ht, rfl⟩ := List.getElem_of_mem hm
        have := (atB_spec h ht).2
        rw [e, hb] at this; cases this
    · rintro (rfl | ⟨hx, _⟩)
      · exact .inr (.inl rfl)
      · rw [← List.take_append_drop (atI l c.Kind) l] at hx
        rcases List.mem_append.1 hx with g | g
        · exact .inl g
        · exact .inr (.inr g)
theorem putC_sorted {l : List GComp} (h : SortedC l) (c : GComp) : SortedC (putC l c) := by
  have hp := List.pairwise_iff_getElem.1 h
  unfold putC
  cases hb : atB l c.Kind with
  | true =>
    obtain ⟨hj, hk⟩ := atB_get hb
    simp only [if_true]
    have hK : ∀ t (ht : t < (l.set (atI l c.Kind) c).length), ((l.set (atI l c.Kind) c)[t]).Kind = (l[t]'(by simpa using ht)).Kind := fun t ht => by
      rw [List.getElem_set]
      split
      · rename_i e; subst e; exact hk.symm
      · rfl
    refine List.pairwise_iff_getElem.2 fun a b ha hb2 hab => ?_
    rw [hK a ha, hK b hb2]
    exact hp a b _ _ hab
  | false =>
    obtain ⟨h1, h2⟩ := atI_spec h c.Kind
    simp only [Bool.false_eq_true, if_false]
    have hb1 : ∀ x ∈ l.take (atI l c.Kind), x.Kind < c.Kind := fun x hx => by
      obtain ⟨t, ht, rfl⟩ := List.getElem_of_mem hx
      rw [List.length_take] at ht
      rw [List.getElem_take]
      exact (h2 t (by omega)).2 (by omega)
    have hb2 : ∀ x ∈ l.drop (atI l c.Kind), c.Kind < x.Kind := fun x hx => by
      obtain ⟨t, ht, rfl⟩ := List.getElem_of_mem hx
      rw [List.length_drop] at ht
      rw [List.getElem_drop]
      exact atB_not h hb (by omega) (by omega)
    refine List.pairwise_append.2 ⟨h.sublist (List.take_sublist _ _), List.pairwise_cons.2 ⟨hb2, h.sublist (List.drop_sublist _ _)⟩, fun a ha b hbm => ?_⟩
    rcases List.mem_cons.1 hbm with e | hbm
    · subst e; exact hb1 a ha
    · have := hb1 a ha
      have := hb2 b hbm
      omega
theorem putC_held {ks : List GKind} {l : List GComp} (h : heldGo ks (-1) l = true) {c : GComp} (hc : 0 ≤ c.Kind) (hc2 : c.Kind < ks.length) (hc3 : holdsB (ks.getD c.Kind.toNat k0) c.Vals = true) : heldGo ks (-1) (putC l c) = true := by
  obtain ⟨h1, h2⟩ := held_iff.1 h
  refine held_iff.2 ⟨putC_sorted h1 c, fun x hx => ?_⟩
  rcases (putC_mem h1 c x).1 hx with e | ⟨hx, _⟩
  · subst e; exact ⟨by omega, hc2, hc3⟩
  · exact h2 x hx
end Go.Proofs.YtidhdlhblhbahaaGreat.Am
/- Package world: Free; copies with the Gens to be written. -/
namespace Go.Proofs.YtidhdlhblhbahaaGreat.Am
open Go Go.RowKit

/-! ### Free -/
def usedB (its : List GItem) (t : Nat) : Bool := its.any fun it => decide (it.Ent.N = (t : Int))
def freeM (w : GWorld) : Int × Bool := match (List.range w.Gens.length).findIdx? (fun t => !usedB w.Items t && decide (w.Gens.getD t 0 < 1073741824)) with
  | some t => (t, true)
  | none => (w.Gens.length, decide ((w.Gens.length : Int) < 256))
end Go.Proofs.YtidhdlhblhbahaaGreat.Am
/- Which slot a new entity gets. -/
namespace Go.Proofs.YtidhdlhblhbahaaGreat.Am
open Go Go.RowKit

end Go.Proofs.YtidhdlhblhbahaaGreat.Am
/- The library's slice functions, at the program's types: items. -/
namespace Go.Proofs.YtidhdlhblhbahaaGreat.Am
open Go Go.RowKit

end Go.Proofs.YtidhdlhblhbahaaGreat.Am
/- Package world: Spawn. -/
namespace Go.Proofs.YtidhdlhblhbahaaGreat.Am
open Go Go.RowKit

def insI (its : List GItem) (x : GItem) : List GItem := its.take (bs (fun it : GItem => cmpI it.Ent.N x.Ent.N) its) ++ x :: its.drop (bs (fun it : GItem => cmpI it.Ent.N x.Ent.N) its)
def spawnG (gs : List Int) (n : Nat) : List Int := if n = gs.length then gs ++ [0] else gs
def spawnW (w : GWorld) (n : Nat) (C : List GComp) : GWorld := ⟨w.Kinds, spawnG w.Gens n, insI w.Items ⟨⟨n, (spawnG w.Gens n).getD n 0⟩, C⟩⟩
end Go.Proofs.YtidhdlhblhbahaaGreat.Am
/- A new entity: the plain law, no walks. -/
namespace Go.Proofs.YtidhdlhblhbahaaGreat.Am
open Go Go.RowKit

theorem bs_spec {α : Type} (f : α → Int) {l : List α} (h : l.Pairwise (fun a b => f a < f b)) (k : Int) : bs (fun x => cmpI (f x) k) l ≤ l.length ∧ ∀ j (hj : j < l.length), f l[j] < k ↔ j < bs (fun x => cmpI (f x) k) l := by
  have hp := List.pairwise_iff_getElem.1 h
  have key : ∀ j (hj : j < l.length), f l[j] < k ↔ j < l.findIdx (fun c => decide (k ≤ f c)) := fun j hj => by
    constructor
    · intro hk
      rcases Nat.lt_or_ge j (l.findIdx (fun c => decide (k ≤ f c))) with g | g
      · exact g
      · have hq : l.findIdx (fun c => decide (k ≤ f c)) < l.length := by omega
        have hx := List.findIdx_getElem (w := hq)
        simp only [decide_eq_true_eq] at hx
        rcases Nat.lt_or_ge (l.findIdx (fun c => decide (k ≤ f c))) j with g2 | g2
        · have := hp _ j hq hj g2; omega
        · have e : l.findIdx (fun c => decide (k ≤ f c)) = j := by omega
          simp only [e] at hx
          omega
    · intro hk
      have h2 := List.not_of_lt_findIdx hk
      have h3 : ¬ k ≤ f l[j] := by simpa using h2
      omega
  have e : bs (fun x => cmpI (f x) k) l = l.findIdx (fun c => decide (k ≤ f c)) := bs_eq _ List.findIdx_le_length fun j hj => by rw [cmpI_lt]; exact key j hj
  rw [e]
  exact ⟨List.findIdx_le_length, key⟩

structure Born (w : GWorld) (n : Nat) (C : List GComp) (v : GWorld) (p : Nat) : Prop where
  valid : checkW v = 0
  pos : p < v.Items.length
  item : ∀ h : p < v.Items.length, v.Items[p] = ⟨⟨n, v.Gens.getD n 0⟩, C⟩
  rest : v.Items.take p ++ v.Items.drop (p + 1) = w.Items
  gens : v.Gens = spawnG w.Gens n
  kinds : v.Kinds = w.Kinds
theorem spawn_bornN {w : GWorld} (hw : checkW w = 0) {n : Nat} (hg : n < 256) (hn : n ≤ w.Gens.length) (hno : ∀ it ∈ w.Items, it.Ent.N ≠ n) (hlt : n < w.Gens.length → w.Gens.getD n 0 < 1073741824) {C : List GComp} (hC : heldGo w.Kinds (-1) C = true) :
    ∃ p, Born w n C (spawnW w n C) p := by
  obtain ⟨a, b, c, d, e⟩ := checkW_iff.1 hw
  obtain ⟨e1, e2⟩ := items_iff.1 e
  have hsl : (spawnG w.Gens n).length ≤ 256 ∧ n < (spawnG w.Gens n).length := by
    unfold spawnG; split
    · simp; omega
    · omega
  have hsg : ∀ t : Nat, t < w.Gens.length → (spawnG w.Gens n).getD t 0 = w.Gens.getD t 0 := fun t ht => by
    unfold spawnG; split
    · simp [List.getD, List.getElem?_append_left ht]
    · rfl
  have hsn : (spawnG w.Gens n).getD n 0 < 1073741824 := by
    by_cases h : n = w.Gens.length
    · unfold spawnG; rw [if_pos h, h]; simp [List.getD]
    · rw [hsg n (by omega)]; exact hlt (by omega)
  have hwl : w.Gens.length ≤ (spawnG w.Gens n).length := by unfold spawnG; split <;> simp
  obtain ⟨x, hx⟩ : ∃ x : GItem, x = ⟨⟨n, (spawnG w.Gens n).getD n 0⟩, C⟩ := ⟨_, rfl⟩
  obtain ⟨b1, b2⟩ := bs_spec (fun it : GItem => it.Ent.N) e1 (n : Int)
  obtain ⟨p, hp⟩ : ∃ p, bs (fun it : GItem => cmpI it.Ent.N n) w.Items = p := ⟨_, rfl⟩
  have hxN : x.Ent.N = n := by rw [hx]
  have hI : (spawnW w n C).Items = w.Items.take p ++ x :: w.Items.drop p := by
    show insI w.Items ⟨⟨n, (spawnG w.Gens n).getD n 0⟩, C⟩ = _
    rw [← hx]; unfold insI; rw [hxN, hp]
  rw [hp] at b1 b2
  have hpl : (w.Items.take p).length = p := by simp; omega
  have hlo : ∀ y ∈ w.Items.take p, y.Ent.N < n := fun y hy => by
    obtain ⟨t, ht, rfl⟩ := List.getElem_of_mem hy
    rw [hpl] at ht
    rw [List.getElem_take]
    exact (b2 t (by omega)).2 ht
  have hhi : ∀ y ∈ w.Items.drop p, (n : Int) < y.Ent.N := fun y hy => by
    have hym := List.mem_of_mem_drop hy
    obtain ⟨t, ht, rfl⟩ := List.getElem_of_mem hy
    rw [List.length_drop] at ht
    rw [List.getElem_drop] at hym ⊢
    have h1 := mt (b2 (p + t) (by omega)).1 (by omega)
    have h2 := hno _ hym
    omega
  have hpair : (w.Items.take p ++ x :: w.Items.drop p).Pairwise (fun a b => a.Ent.N < b.Ent.N) := by
    refine List.pairwise_append.2 ⟨e1.sublist (List.take_sublist _ _), List.pairwise_cons.2 ⟨fun y hy => by rw [hxN]; exact hhi y hy, e1.sublist (List.drop_sublist _ _)⟩, fun y hy z hz => ?_⟩
    have := hlo y hy
    rcases List.mem_cons.1 hz with r | hz
    · subst r; rw [hxN]; exact this
    · have := hhi z hz; omega
  have hok : ∀ y ∈ w.Items.take p ++ x :: w.Items.drop p, -1 < y.Ent.N ∧ ItemOk w.Kinds (spawnG w.Gens n) y := fun y hy => by
    have hold : ∀ y ∈ w.Items, -1 < y.Ent.N ∧ ItemOk w.Kinds (spawnG w.Gens n) y := fun y hy => by
      obtain ⟨g0, g1, g2, g3, g4⟩ := e2 y hy
      exact ⟨g0, by omega, by rw [hsg _ (by omega)]; exact g2, g3, g4⟩
    rcases List.mem_append.1 hy with hy | hy
    · exact hold y (List.mem_of_mem_take hy)
    · rcases List.mem_cons.1 hy with r | hy
      · subst r
        rw [hx]
        refine ⟨by simp only; omega, by simp only; omega, by simp, by simp only; omega, hC⟩
      · exact hold y (List.mem_of_mem_drop hy)
  have hit : itemsB w.Kinds (spawnG w.Gens n) (-1) (w.Items.take p ++ x :: w.Items.drop p) = true := items_iff.2 ⟨hpair, hok⟩
  have hil := items_len (by omega) hit
  have hgens : (spawnG w.Gens n).any (fun g => decide (g < 0) || decide (1073741824 < g)) = false := by
    unfold spawnG; split
    · rw [List.any_append, d]; rfl
    · exact d
  refine ⟨p, checkW_iff.2 ⟨a, hsl.1, by rw [hI]; show _ ≤ (spawnG w.Gens n).length; omega, hgens, by rw [hI]; exact hit⟩, by rw [hI]; simp; omega, fun h => ?_, ?_, rfl, rfl⟩
  · have : ∀ (L : List GItem) (hL : L = w.Items.take p ++ x :: w.Items.drop p) (h : p < L.length), L[p] = x := fun L hL h => by
      subst hL
      rw [List.getElem_append_right (by omega)]
      simp [hpl]
    rw [this _ hI h, hx]; rfl
  · rw [hI, List.take_append_of_le_length (by omega), List.take_of_length_le (by omega), List.drop_append, List.drop_of_length_le (by omega), hpl, List.nil_append, show p + 1 - p = 1 by omega, List.drop_one, List.tail_cons, List.take_append_drop]
end Go.Proofs.YtidhdlhblhbahaaGreat.Am
/- The library's slice functions, at the program's types. -/
namespace Go.Proofs.YtidhdlhblhbahaaGreat.Am
open Go Go.RowKit

end Go.Proofs.YtidhdlhblhbahaaGreat.Am
/- Fitting components that are valid: no error. -/
namespace Go.Proofs.YtidhdlhblhbahaaGreat.Am
open Go Go.RowKit

end Go.Proofs.YtidhdlhblhbahaaGreat.Am
/- Fitting components that are valid: the plain law. -/
namespace Go.Proofs.YtidhdlhblhbahaaGreat.Am
open Go Go.RowKit

/-! ### A new entity -/
end Go.Proofs.YtidhdlhblhbahaaGreat.Am
/- Package world: Kill, Spawn. -/
namespace Go.Proofs.YtidhdlhblhbahaaGreat.Am
open Go Go.RowKit

def killW (w : GWorld) (i N : Nat) : GWorld := ⟨w.Kinds, w.Gens.set N (w.Gens.getD N 0 + 1), w.Items.take i ++ w.Items.drop (i + 1)⟩
end Go.Proofs.YtidhdlhblhbahaaGreat.Am
/- Sorting by insertion sorts. -/
namespace Go.Proofs.YtidhdlhblhbahaaGreat.Am
open Go Go.RowKit

section
variable {α : Type} {key : α → Int} {c : α → α → Int}
def ka (key : α → Int) (L : List α) (a : Nat) : Int := match L[a]? with | some x => key x | none => 0
theorem ka_set {L : List α} {i a : Nat} {x : α} (hi : i < L.length) : ka key (L.set i x) a = if a = i then key x else ka key L a := by
  unfold ka
  by_cases h : a = i
  · subst h; rw [List.getElem?_set_self hi, if_pos rfl]
  · rw [List.getElem?_set_ne (Ne.symm h), if_neg h]
theorem ka_get {L : List α} {a : Nat} (h : a < L.length) : ka key L a = key L[a] := by unfold ka; rw [List.getElem?_eq_getElem h]

theorem insIn_spec (hc : ∀ x y, c y x < 0 ↔ key y < key x) : ∀ (j : Nat) (L : List α), j < L.length → (∀ a b, a < b → b < j → ka key L a ≤ ka key L b) →
    (insIn c j L).Perm L ∧ (∀ a b, a < b → b < j + 1 → ka key (insIn c j L) a ≤ ka key (insIn c j L) b) ∧ (∀ k, j < k → (insIn c j L)[k]? = L[k]?) ∧ ∀ B, (∀ k, k ≤ j → ka key L k ≤ B) → ∀ k, k ≤ j → ka key (insIn c j L) k ≤ B
  | 0, L, _, _ => ⟨List.Perm.refl _, fun a b h1 h2 => by omega, fun _ _ => rfl, fun B h => h⟩
  | j + 1, L, hj, hs => by
    have h1 : j < L.length := by omega
    unfold insIn
    rw [List.getElem?_eq_getElem h1, List.getElem?_eq_getElem hj]
    simp only
    split
    · rename_i hlt
      have hk := (hc L[j] L[j + 1]).1 hlt
      obtain ⟨L', hL'⟩ : ∃ L', (L.set (j + 1) L[j]).set j L[j + 1] = L' := ⟨_, rfl⟩
      rw [hL']
      have hl' : L'.length = L.length := by rw [← hL']; simp
      have hp : L'.Perm L := by rw [← hL']; exact List.set_set_perm hj h1
      have e : ∀ a, ka key L' a = if a = j then key L[j + 1] else if a = j + 1 then key L[j] else ka key L a := fun a => by
        rw [← hL', ka_set (by simpa using h1), ka_set hj]
      have eo : ∀ k, j + 1 < k → L'[k]? = L[k]? := fun k hk => by
        rw [← hL', List.getElem?_set_ne (by omega), List.getElem?_set_ne (by omega)]
      have kj := ka_get (key := key) h1
      have kj1 := ka_get (key := key) hj
      obtain ⟨p1, p2, p3, p4⟩ := insIn_spec hc j L' (by omega) fun a b ha hb => by
        rw [e a, e b, if_neg (by omega), if_neg (by omega), if_neg (by omega), if_neg (by omega)]
        exact hs a b ha (by omega)
      have hB := p4 (key L[j]) fun k hk' => by
        rw [e k]
        split
        · omega
        · rw [if_neg (by omega)]
          have := hs k j (by omega) (by omega)
          omega
      have hl : ka key (insIn c j L') (j + 1) = key L[j] := by
        have h := p3 (j + 1) (by omega)
        have h2 := e (j + 1)
        rw [if_neg (by omega), if_pos rfl] at h2
        rw [← h2]; unfold ka; rw [h]
      refine ⟨p1.trans hp, fun a b ha hb => ?_, fun k hk => by rw [p3 k (by omega)]; exact eo k hk, fun B hBB k hk => ?_⟩
      · by_cases hbj : b = j + 1
        · subst hbj
          rw [hl]; exact hB a (by omega)
        · exact p2 a b ha (by omega)
      · by_cases hkj : k = j + 1
        · subst hkj
          rw [hl, ← kj]; exact hBB j (by omega)
        · refine p4 B (fun i hi => ?_) k (by omega)
          rw [e i]
          split
          · rw [← kj1]; exact hBB _ (Nat.le_refl _)
          · rw [if_neg (by omega)]; exact hBB i (by omega)
    · rename_i hlt
      have hk : ¬ key L[j + 1] < key L[j] := fun h => hlt ((hc _ _).2 h)
      have kj := ka_get (key := key) h1
      have kj1 := ka_get (key := key) hj
      refine ⟨List.Perm.refl _, fun a b ha hb => ?_, fun _ _ => rfl, fun B h => h⟩
      by_cases hbj : b = j + 1
      · subst hbj
        by_cases haj : a = j
        · subst haj; omega
        · have := hs a j (by omega) (by omega); omega
      · exact hs a b ha (by omega)
theorem insOut_spec (hc : ∀ x y, c y x < 0 ↔ key y < key x) : ∀ (f i : Nat) (L : List α), i + f = L.length → (∀ a b, a < b → b < i → ka key L a ≤ ka key L b) → (insOut c f i L).Perm L ∧ ∀ a b, a < b → b < L.length → ka key (insOut c f i L) a ≤ ka key (insOut c f i L) b
  | 0, i, L, h, hs => ⟨List.Perm.refl _, fun a b ha hb => hs a b ha (by omega)⟩
  | f + 1, i, L, h, hs => by
    obtain ⟨p1, p2, _, _⟩ := insIn_spec hc i L (by omega) hs
    have hl := insIn_len c i L
    obtain ⟨q1, q2⟩ := insOut_spec hc f (i + 1) (insIn c i L) (by omega) p2
    exact ⟨q1.trans p1, fun a b ha hb => q2 a b ha (by omega)⟩
theorem insSort_spec (hc : ∀ x y, c y x < 0 ↔ key y < key x) (L : List α) : (insSort c L).Perm L ∧ (insSort c L).Pairwise fun a b => key a ≤ key b := by
  cases hL : L with
  | nil => exact ⟨List.Perm.refl _, List.Pairwise.nil⟩
  | cons x r =>
    rw [← hL]
    have hl : 1 + (L.length - 1) = L.length := by rw [hL]; simp; omega
    obtain ⟨p1, p2⟩ := insOut_spec hc (L.length - 1) 1 L hl fun a b h1 h2 => by omega
    refine ⟨p1, List.pairwise_iff_getElem.2 fun a b ha hb hab => ?_⟩
    have := p2 a b hab (by have := p1.length_eq; unfold insSort at hb; omega)
    have e1 : ka key (insSort c L) a = _ := ka_get ha
    have e2 : ka key (insSort c L) b = _ := ka_get hb
    rw [← e1, ← e2]; exact this
theorem sorted_uniq : ∀ {L M : List α}, L.Perm M → L.Pairwise (fun a b => key a < key b) → M.Pairwise (fun a b => key a ≤ key b) → L = M
  | [], M, h, _, _ => (List.nil_perm.1 h).symm
  | x :: r, [], h, _, _ => absurd h.length_eq (by simp)
  | x :: r, y :: s, h, h1, h2 => by
    obtain ⟨a1, a2⟩ := List.pairwise_cons.1 h1
    obtain ⟨b1, b2⟩ := List.pairwise_cons.1 h2
    have hxy : x = y := by
      rcases List.mem_cons.1 (h.symm.subset (List.mem_cons_self (a := y) (l := s))) with e | hy
      · exact e.symm
      · rcases List.mem_cons.1 (h.subset (List.mem_cons_self (a := x) (l := r))) with e | hx
        · exact e
        · have := a1 y hy
          have := b1 x hx
          omega
    subst hxy
    rw [sorted_uniq (List.Perm.cons_inv h) a2 b2]
theorem insSort_eq (hc : ∀ x y, c y x < 0 ↔ key y < key x) {L M : List α} (h : L.Perm M) (hM : M.Pairwise fun a b => key a < key b) : insSort c L = M := by
  obtain ⟨p1, p2⟩ := insSort_spec hc L
  exact (sorted_uniq (h.symm.trans p1.symm) hM p2).symm
end
end Go.Proofs.YtidhdlhblhbahaaGreat.Am
/- What commands do to a world, in plain Lean. -/
namespace Go.Proofs.YtidhdlhblhbahaaGreat.Am
open Go Go.RowKit

theorem cK_lt (x y : GComp) : cK y x < 0 ↔ y.Kind < x.Kind := by unfold cK; exact cmpI_lt _ _
theorem fitV_holds {k : GKind} {v : List Int} (h : fitE k v = 0) : holdsB k (fitV k v) = true := by
  unfold fitE at h
  by_cases h1 : oneE k = 0
  · by_cases h2 : v.length = k.Fields.length
    · have hfl := oneE_fields h1
      have hzl : (List.zipWith nearM k.Fields v).length = k.Fields.length := by simp [h2]
      unfold fitV fitZ
      rw [if_neg (by simp [h1]), if_neg (by simp [h2])]
      refine holds_iff.2 ⟨h1, hzl, (zip_iff hzl).2 fun t t1 t2 => ?_⟩
      rw [List.getElem_zipWith]
      exact nearIdem (hfl _ (List.getElem_mem t1)) _
    · simp [h1, h2] at h
  · simp [h1] at h

/-- What Fit returns is valid. -/
theorem fitGo_held {ks : List GKind} {L : List GComp} : ∀ (r pre out : List GComp), fitGo ks pre r out = (L, 0) → pre.map GComp.Kind = out.map GComp.Kind → out.Pairwise (fun a b => a.Kind ≠ b.Kind) →
    (∀ c ∈ out, 0 ≤ c.Kind ∧ c.Kind < ks.length ∧ holdsB (ks.getD c.Kind.toNat k0) c.Vals = true) → heldGo ks (-1) L = true
  | [], pre, out, h, _, hd, hv => by
    rw [fitGo] at h
    obtain ⟨rfl, _⟩ := Prod.mk.inj h
    obtain ⟨p1, p2⟩ := insSort_spec (key := GComp.Kind) cK_lt out
    refine held_iff.2 ⟨?_, fun c hc => ?_⟩
    · have hd2 : (insSort cK out).Pairwise (fun a b => a.Kind ≠ b.Kind) := (p1.pairwise_iff (fun h e => h e.symm)).2 hd
      exact (p2.and hd2).imp fun hab => by omega
    · obtain ⟨h1, h2, h3⟩ := hv c (p1.subset hc)
      exact ⟨by omega, h2, h3⟩
  | c :: r, pre, out, h, hk, hd, hv => by
    rw [fitGo] at h
    by_cases h1 : c.Kind < 0 ∨ (ks.length : Int) ≤ c.Kind
    · rw [if_pos h1] at h; simp at h
    rw [if_neg h1] at h
    by_cases h2 : pre.any (fun x => decide (x.Kind = c.Kind)) = true
    · rw [if_pos h2] at h; simp at h
    rw [if_neg h2] at h
    by_cases h3 : fitE (ks.getD c.Kind.toNat k0) c.Vals ≠ 0
    · rw [if_pos h3] at h
      obtain ⟨_, h⟩ := Prod.mk.inj h
      exact absurd h h3
    rw [if_neg h3] at h
    have hE : fitE (ks.getD c.Kind.toNat k0) c.Vals = 0 := Classical.not_not.1 h3
    refine fitGo_held r _ _ h (by simp [hk]) ?_ fun x hx => ?_
    · refine List.pairwise_append.2 ⟨hd, by simp, fun a ha b hb e => h2 ?_⟩
      simp only [List.mem_singleton] at hb
      subst hb
      have ha2 : a.Kind ∈ pre.map GComp.Kind := by rw [hk]; exact List.mem_map_of_mem ha
      obtain ⟨y, hy, hye⟩ := List.mem_map.1 ha2
      exact List.any_eq_true.2 ⟨y, hy, by simp only [decide_eq_true_eq]; rw [hye]; exact e⟩
    · rcases List.mem_append.1 hx with hx | hx
      · exact hv x hx
      · simp only [List.mem_singleton] at hx
        subst hx
        exact ⟨by simp only; omega, by simp only; omega, fitV_holds hE⟩
theorem fit_ok {ks : List GKind} {C L : List GComp} (h : fitC ks C = (L, 0)) : checkE ks = 0 ∧ heldGo ks (-1) L = true := by
  unfold fitC at h
  split at h
  · rename_i h1
    obtain ⟨_, h⟩ := Prod.mk.inj h
    exact absurd h h1
  · rename_i h1
    exact ⟨Classical.not_not.1 h1, fitGo_held C [] [] h rfl (by simp) (by simp)⟩
/-- One component is fitted to one of its kind. -/
theorem fit_single {ks : List GKind} {c : GComp} {L : List GComp} (h : fitC ks [c] = (L, 0)) : ∃ c2, L = [c2] ∧ c2.Kind = c.Kind := by
  unfold fitC at h
  split at h
  · rename_i h1
    obtain ⟨_, h⟩ := Prod.mk.inj h
    exact absurd h h1
  · rw [fitGo] at h
    split at h
    · simp at h
    split at h
    · simp at h
    split at h
    · rename_i h3
      obtain ⟨_, h⟩ := Prod.mk.inj h
      exact absurd h h3
    · rw [fitGo] at h
      obtain ⟨rfl, _⟩ := Prod.mk.inj h
      exact ⟨_, rfl, rfl⟩

/-! ### The four acts -/
abbrev it0 : GItem := ⟨⟨0, 0⟩, []⟩
def killA (w : GWorld) (e : GEnt) : GWorld × Int := match findI w e with
  | none => (w, 4)
  | some i => (killW w i e.N.toNat, 0)
def putA (w : GWorld) (e : GEnt) (c : GComp) : GWorld × Int := match findI w e with
  | none => (w, 4)
  | some i => match fitC w.Kinds [c] with
    | (l, f) => if f = 0 then (setC w i (putC (w.Items.getD i it0).Comps (l.headD ⟨0, []⟩)), 0) else (w, f)
def dropA (w : GWorld) (e : GEnt) (k : Int) : GWorld × Int := match findI w e with
  | none => (w, 4)
  | some i => if atB (w.Items.getD i it0).Comps k = true then (setC w i ((w.Items.getD i it0).Comps.take (atI (w.Items.getD i it0).Comps k) ++ (w.Items.getD i it0).Comps.drop (atI (w.Items.getD i it0).Comps k + 1)), 0) else (w, 4)
/-- The slot of a new entity. -/
def slotN (w : GWorld) : Nat := (List.range w.Gens.length).findIdx fun t => !usedB w.Items t && decide (w.Gens.getD t 0 < 1073741824)
def spawnA (w : GWorld) (C : List GComp) : GWorld × GEnt × Int := match fitC w.Kinds C with
  | (l, f) => if f = 0 then (if slotN w = 256 then (w, ⟨0, 0⟩, 6) else (spawnW w (slotN w) l, ⟨slotN w, (spawnG w.Gens (slotN w)).getD (slotN w) 0⟩, 0)) else (w, ⟨0, 0⟩, f)
def actM (w : GWorld) (c : GCmd) : GWorld × GEnt × Bool :=
  if c.Do = 0 then ((putA w c.Ent (c.Comps.headD ⟨0, []⟩)).1, ⟨0, 0⟩, decide ((putA w c.Ent (c.Comps.headD ⟨0, []⟩)).2 = 0))
  else if c.Do = 1 then ((dropA w c.Ent c.Kind).1, ⟨0, 0⟩, decide ((dropA w c.Ent c.Kind).2 = 0))
  else if c.Do = 2 then ((killA w c.Ent).1, ⟨0, 0⟩, decide ((killA w c.Ent).2 = 0))
  else ((spawnA w c.Comps).1, (spawnA w c.Comps).2.1, decide ((spawnA w c.Comps).2.2 = 0))

theorem slotN_spec {w : GWorld} (hw : checkW w = 0) : slotN w ≤ w.Gens.length ∧ (∀ it ∈ w.Items, it.Ent.N ≠ slotN w) ∧ (slotN w < w.Gens.length → w.Gens.getD (slotN w) 0 < 1073741824) := by
  obtain ⟨_, _, _, _, he⟩ := checkW_iff.1 hw
  have hle : slotN w ≤ w.Gens.length := by have := List.findIdx_le_length (xs := List.range w.Gens.length) (p := fun t => !usedB w.Items t && decide (w.Gens.getD t 0 < 1073741824)); simpa [slotN] using this
  have hat : slotN w < w.Gens.length → (!usedB w.Items (slotN w) && decide (w.Gens.getD (slotN w) 0 < 1073741824)) = true := fun h => by
    have := List.findIdx_getElem (xs := List.range w.Gens.length) (p := fun t => !usedB w.Items t && decide (w.Gens.getD t 0 < 1073741824)) (w := by simpa [slotN] using h)
    simpa [slotN] using this
  refine ⟨hle, fun it hit e => ?_, fun h => ?_⟩
  · rcases Nat.lt_or_ge (slotN w) w.Gens.length with h | h
    · have h2 := hat h
      have : usedB w.Items (slotN w) = true := List.any_eq_true.2 ⟨it, hit, by simpa using e⟩
      rw [this] at h2
      simp at h2
    · have := ((items_iff.1 he).2 it hit).2.1
      omega
  · have h2 := hat h
    rw [Bool.and_eq_true] at h2
    exact of_decide_eq_true h2.2

theorem kill_valid {w : GWorld} (hw : checkW w = 0) {i : Nat} (hi : i < w.Items.length) : checkW (killW w i (w.Items[i]).Ent.N.toNat) = 0 ∧ (killW w i (w.Items[i]).Ent.N.toNat).Items = w.Items.take i ++ w.Items.drop (i + 1) := by
  obtain ⟨a, b, c, d, e⟩ := checkW_iff.1 hw
  obtain ⟨e1, e2⟩ := items_iff.1 e
  obtain ⟨it, hit⟩ : ∃ it, w.Items[i] = it := ⟨_, rfl⟩
  have hm : it ∈ w.Items := hit ▸ List.getElem_mem hi
  rw [hit]
  obtain ⟨g0, g1, g2, g3, g4⟩ := e2 it hm
  obtain ⟨n, hn⟩ : ∃ n : Nat, it.Ent.N = n := ⟨it.Ent.N.toNat, by omega⟩
  have hnt : it.Ent.N.toNat = n := by omega
  rw [hnt] at g2 ⊢
  refine ⟨checkW_iff.2 ⟨a, ?_, ?_, ?_, items_iff.2 ⟨?_, fun y hy => ?_⟩⟩, rfl⟩
  · show (w.Gens.set n _).length ≤ 256
    simp; exact b
  · show (w.Items.take i ++ w.Items.drop (i + 1)).length ≤ (w.Gens.set n _).length
    simp; omega
  · show (w.Gens.set n (w.Gens.getD n 0 + 1)).any _ = false
    rw [List.any_eq_false] at d ⊢
    intro x hx
    rcases List.mem_or_eq_of_mem_set hx with h | h
    · exact d x h
    · have hgm : w.Gens.getD n 0 ∈ w.Gens := by
        have : n < w.Gens.length := by omega
        simp [List.getD, this]
      have h1 := d _ hgm
      simp only [Bool.or_eq_true, decide_eq_true_eq, not_or] at h1
      subst h
      simp only [Bool.or_eq_true, decide_eq_true_eq, not_or]
      omega
  · exact e1.sublist (by
      have : (w.Items.take i ++ w.Items.drop (i + 1)).Sublist (w.Items.take i ++ w.Items.drop i) := List.Sublist.append_left (by rw [← List.drop_drop]; exact List.drop_sublist _ _) _
      rwa [List.take_append_drop] at this)
  · have hy2 : y ∈ w.Items ∧ y.Ent.N ≠ n := by
      have hpw := List.pairwise_iff_getElem.1 e1
      have hin : (w.Items[i]).Ent.N = n := by rw [hit]; exact hn
      have hy' : y ∈ w.Items.take i ++ w.Items.drop (i + 1) := hy
      rcases List.mem_append.1 hy' with h | h
      · obtain ⟨j, hj, rfl⟩ := List.getElem_of_mem h
        rw [List.length_take] at hj
        rw [List.getElem_take]
        refine ⟨List.getElem_mem _, ?_⟩
        have := hpw j i (by omega) hi (by omega)
        omega
      · obtain ⟨j, hj, rfl⟩ := List.getElem_of_mem h
        rw [List.length_drop] at hj
        rw [List.getElem_drop]
        refine ⟨List.getElem_mem _, ?_⟩
        have := hpw i (i + 1 + j) hi (by omega) (by omega)
        omega
    obtain ⟨k0, k1, k2, k3, k4⟩ := e2 y hy2.1
    refine ⟨k0, ?_, ?_, k3, k4⟩
    · show y.Ent.N < (w.Gens.set n _).length
      simp; exact k1
    · show y.Ent.Gen = (w.Gens.set n _).getD y.Ent.N.toNat 0
      rw [k2]
      have : n ≠ y.Ent.N.toNat := by have := hy2.2; omega
      simp [List.getD, this]

theorem drop_valid {w : GWorld} (hw : checkW w = 0) {i : Nat} (hi : i < w.Items.length) (j : Nat) : checkW (setC w i ((w.Items[i]).Comps.take j ++ (w.Items[i]).Comps.drop (j + 1))) = 0 := by
  obtain ⟨a, b, c, d, e⟩ := checkW_iff.1 hw
  exact setC_valid hw hi (held_erase (items_held e _ (List.getElem_mem hi)) j)
theorem put_valid {w : GWorld} (hw : checkW w = 0) {i : Nat} (hi : i < w.Items.length) {c c2 : GComp} (h : fitC w.Kinds [c] = ([c2], 0)) : checkW (setC w i (putC (w.Items[i]).Comps c2)) = 0 := by
  obtain ⟨a, b, d, e, f⟩ := checkW_iff.1 hw
  have h2 := held_mem (fit_ok h).2 c2 (by simp)
  exact setC_valid hw hi (putC_held (items_held f _ (List.getElem_mem hi)) (by omega) h2.2.1 h2.2.2)
theorem spawn_valid {w : GWorld} (hw : checkW w = 0) {C L : List GComp} (h : fitC w.Kinds C = (L, 0)) (hn : slotN w ≠ 256) : ∃ p, Born w (slotN w) L (spawnW w (slotN w) L) p := by
  obtain ⟨h1, h2, h3⟩ := slotN_spec hw
  have := (checkW_iff.1 hw).2.1
  exact spawn_bornN hw (by omega) h1 h2 h3 (fit_ok h).2

theorem getD_at {w : GWorld} {i : Nat} (hi : i < w.Items.length) : w.Items.getD i it0 = w.Items[i] := by simp [List.getD, hi]
theorem act_valid {w : GWorld} (hw : checkW w = 0) (c : GCmd) : checkW (actM w c).1 = 0 ∧ (actM w c).1.Kinds = w.Kinds := by
  unfold actM
  split
  · simp only
    unfold putA
    cases hf : findI w c.Ent with
    | none => exact ⟨hw, rfl⟩
    | some i =>
      obtain ⟨hi, he⟩ := findI_lt hf
      simp only
      cases hfc : fitC w.Kinds [c.Comps.headD ⟨0, []⟩] with
      | mk l f =>
        simp only
        split
        · rename_i h0
          subst h0
          obtain ⟨c2, rfl, _⟩ := fit_single hfc
          rw [getD_at hi]
          exact ⟨put_valid hw hi hfc, rfl⟩
        · exact ⟨hw, rfl⟩
  split
  · simp only
    unfold dropA
    cases hf : findI w c.Ent with
    | none => exact ⟨hw, rfl⟩
    | some i =>
      obtain ⟨hi, he⟩ := findI_lt hf
      simp only
      split
      · rw [getD_at hi]
        exact ⟨drop_valid hw hi _, rfl⟩
      · exact ⟨hw, rfl⟩
  split
  · simp only
    unfold killA
    cases hf : findI w c.Ent with
    | none => exact ⟨hw, rfl⟩
    | some i =>
      obtain ⟨hi, he⟩ := findI_lt hf
      simp only
      have := (kill_valid hw hi).1
      rw [he] at this
      exact ⟨this, rfl⟩
  · simp only
    unfold spawnA
    cases hfc : fitC w.Kinds c.Comps with
    | mk l f =>
      simp only
      split
      · rename_i h0
        subst h0
        split
        · exact ⟨hw, rfl⟩
        · rename_i hn
          obtain ⟨p, hB⟩ := spawn_valid hw hfc hn
          exact ⟨hB.valid, rfl⟩
      · exact ⟨hw, rfl⟩
/-- All commands: the world, the new entities, and which were done. -/
def runC (w : GWorld) : List GCmd → GWorld × List GEnt × List Bool
  | [] => (w, [], [])
  | c :: r => ((runC (actM w c).1 r).1, (if (actM w c).2.2 = true ∧ c.Do = 3 then [(actM w c).2.1] else []) ++ (runC (actM w c).1 r).2.1, (actM w c).2.2 :: (runC (actM w c).1 r).2.2)
theorem runC_valid : ∀ (l : List GCmd) {w : GWorld}, checkW w = 0 → checkW (runC w l).1 = 0 ∧ (runC w l).1.Kinds = w.Kinds
  | [], w, h => ⟨h, rfl⟩
  | c :: r, w, h => by
    obtain ⟨h1, h2⟩ := act_valid h c
    obtain ⟨h3, h4⟩ := runC_valid r h1
    exact ⟨h3, h4.trans h2⟩
theorem runC_len : ∀ (l : List GCmd) (w : GWorld), (runC w l).2.2.length = l.length
  | [], _ => rfl
  | c :: r, w => by simp [runC, runC_len r]
theorem runC_app : ∀ (a b : List GCmd) (w : GWorld), runC w (a ++ b) = ((runC (runC w a).1 b).1, (runC w a).2.1 ++ (runC (runC w a).1 b).2.1, (runC w a).2.2 ++ (runC (runC w a).1 b).2.2)
  | [], b, w => by simp [runC]
  | c :: r, b, w => by simp [runC, runC_app r b]
/-- The commands that are done. -/
def trimC (w : GWorld) : List GCmd → List GCmd
  | [] => []
  | c :: r => (if (actM w c).2.2 = true then [c] else []) ++ trimC (actM w c).1 r
end Go.Proofs.YtidhdlhblhbahaaGreat.Am
