/- The library's sort of components by a comparison, up to twelve of them. -/
import Derived.Test.YtccebflmbnpheaaWChk1
set_option linter.unusedVariables false
set_option linter.unusedSimpArgs false
namespace Go.Proofs.Ytccebflmbnpheaa.Am
open Go Go.RowKit

def insIn {α : Type} (c : α → α → Int) : Nat → List α → List α
  | 0, L => L
  | j + 1, L => match L[j]?, L[j + 1]? with
    | some x, some y => if c y x < 0 then insIn c j ((L.set (j + 1) x).set j y) else L
    | _, _ => L
theorem insIn_len {α : Type} (c : α → α → Int) : ∀ (j : Nat) (L : List α), (insIn c j L).length = L.length
  | 0, L => rfl
  | j + 1, L => by
    unfold insIn
    split
    · split
      · rw [insIn_len c j]; simp
      · rfl
    · rfl
/-- From the i-th on, one after the other is put in its place. -/
def insOut {α : Type} (c : α → α → Int) : Nat → Nat → List α → List α
  | 0, _, L => L
  | f + 1, i, L => insOut c f (i + 1) (insIn c i L)
def insSort {α : Type} (c : α → α → Int) (L : List α) : List α := insOut c (L.length - 1) 1 L

set_option maxHeartbeats 1000000 in
set_option maxRecDepth 20000 in
theorem insC_fn (l : List GComp) (fn : FuncId) (c : GComp → GComp → Int) (hl : l.length ≤ 12) (he : enterable Try.prog fn = true) (hf : ∀ x y, Fn Try.prog fn [.agg (GComp.e x), .agg (GComp.e y)] (kI (c x y))) :
    FnD Try.prog 63 [.osl 0 2 0 l.length, kI 0, kI l.length, .clo (.func fn) []] [(l.map GComp.e).flatten] (.tup []) [some ((insSort c l).map GComp.e).flatten] := by
  obtain ⟨n, hn⟩ : ∃ n, l.length = n := ⟨_, rfl⟩
  obtain ⟨R, hR⟩ : ∃ R, insSort c l = R := ⟨_, rfl⟩
  rw [hn] at hl ⊢
  rw [hR]
  refine fnd_go Try.func63 rfl ?_
  simp [Try.ntmps63]
  refine awp_loop (fun x : Nat × List GComp => ⟨53, [(0, .osl 0 2 0 n), (1, kI 0), (2, kI n), (3, .clo (.func fn) []), (8, kI x.1)], [some (x.2.map GComp.e).flatten], 1⟩)
    (fun x => 1 ≤ x.1 ∧ x.1 ≤ n + 1 ∧ x.2.length = n ∧ insOut c (n - x.1) x.1 x.2 = R) (fun x => n + 1 - x.1) (1, l) ?_ ?_ ?_
  · exact entm [0]
  · exact ⟨Nat.le_refl _, by omega, hn, by rw [← hR, insSort, hn]⟩
  · rintro ⟨i, L⟩ ⟨hi1, hi, hL, hrun⟩
    simp only at hi1 hi hL hrun
    refine awp_go ?_
    by_cases hlt : i < n
    · rw [show n - i = (n - (i + 1)) + 1 by omega, insOut] at hrun
      simp [hlt]
      refine awp_loop (fun x : Nat × List GComp => ⟨53, [(0, .osl 0 2 0 n), (1, kI 0), (2, kI n), (3, .clo (.func fn) []), (8, kI i), (9, kI x.1)], [some (x.2.map GComp.e).flatten], 1⟩)
        (fun x => x.1 ≤ i ∧ x.2.length = n ∧ insIn c x.1 x.2 = insIn c i L) (fun x => x.1) (i, L) ?_ ?_ ?_
      · exact entm [0]
      · exact ⟨Nat.le_refl _, hL, rfl⟩
      · rintro ⟨j, M⟩ ⟨hj, hM, hin⟩
        simp only at hj hM hin
        refine awp_go ?_
        cases j with
        | zero =>
          simp
          refine awp_draw follows_mix [] [(0, [0]), (0, [0]), (0, [0]), (0, [0]), (0, [0]), (0, [0]), (0, [0]), (0, [0]), (0, [0]), (0, [0]), (0, [0]), (0, [0]), (0, [0]), (0, [0]), (2, [0]), (0, [0]), (0, [0])] 0 (by kernel_rfl) rfl ?_
          simp
          refine ⟨calSkp, ?_⟩
          rw [wrap_id (by omega) (by omega)]
          have hM2 : M = insIn c i L := hin
          subst hM2
          exact ⟨i + 1, insIn c i L, ⟨by omega, by omega, hM, hrun⟩, by omega, entm [0]⟩
        | succ j =>
          have h1 : j < M.length := by omega
          have h2 : j + 1 < M.length := by omega
          have h3 : j + 1 < n := by omega
          have h4 : j < n := by omega
          rw [insIn, List.getElem?_eq_getElem h1, List.getElem?_eq_getElem h2] at hin
          simp only at hin
          have g1 : (j + 1) * 2 + 2 ≤ M.length * 2 := by omega
          have g2 : j * 2 + 2 ≤ M.length * 2 := by omega
          have w1 : (((j + 1 : Nat) : Int) - 1) = (j : Int) := by omega
          have w2 : ((j : Int) + 1 - 1) = (j : Int) := by omega
          have w3 : (0 : Int) < (j : Int) + 1 := by omega
          have w4 : ((j : Int) + 1).toNat = j + 1 := by omega
          have w5 : (0 : Int) ≤ (j : Int) + 1 := by omega
          simp
          refine awp_draw follows_mix [] [(0, [0]), (0, [0]), (0, [0]), (0, [0]), (0, [0]), (0, [0]), (0, [0]), (0, [0]), (0, [0]), (0, [0]), (0, [0]), (0, [0]), (0, [0]), (0, [0]), (2, [0]), (0, [0]), (0, [0])] 0 (by kernel_rfl) rfl ?_
          have w6 : (j : Int) + 1 < (n : Int) := by omega
          have e1 : (M[j + 1]? : Option GComp) = some M[j + 1] := List.getElem?_eq_getElem h2
          simp [w1, w2, w3, w4, w5, w6, h1, h2, h3, h4, g1, g2]
          rw [wrap_id (by omega) (by omega)]
          simp [w1, w2, w3, w4, w5, w6, h1, h2, h3, h4, g1, g2]
          refine gD_call (kI (c M[j + 1] M[j])) ?_
          simp [w1, w2, w3, w4, w5, w6, h1, h2, h3, h4, g1, g2]
          refine ⟨⟨wrap_id (by omega) (by omega), calO (hf M[j + 1] M[j]) (he := he)⟩, ?_⟩
          by_cases hlt2 : c M[j + 1] M[j] < 0
          · rw [if_pos hlt2] at hin
            have r1 := row_set (e := GComp.e) (z := 2) (fun _ => rfl) M (j + 1) M[j] h2
            obtain ⟨M1, hM1⟩ : ∃ M1, M.set (j + 1) M[j] = M1 := ⟨_, rfl⟩
            have hM1l : M1.length = M.length := by rw [← hM1]; simp
            have r2 := row_set (e := GComp.e) (z := 2) (fun _ => rfl) M1 j M[j + 1] (by omega)
            obtain ⟨M2, hM2⟩ : ∃ M2, M1.set j M[j + 1] = M2 := ⟨_, rfl⟩
            rw [hM1] at r1 hin
            rw [hM2] at r2 hin
            have g3 : j * 2 + 2 ≤ M1.length * 2 := by omega
            simp [hlt2]
            refine awp_draw follows_mix [] [(0, [0]), (0, [0]), (0, [0, 1]), (0, [0, 1]), (0, [0, 1]), (0, [0]), (0, [0]), (0, [0]), (0, [0]), (0, [0]), (0, [0]), (0, [0]), (0, [0]), (0, [0]), (0, [0]), (1, [0]), (0, [1]), (1, [1])] 2 (by kernel_rfl) rfl ?_
            simp [w1, w2, w3, w4, w5, w6, h1, h2, h3, h4, g1, g2]
            rw [wrap_id (by omega) (by omega)]
            simp [w1, w2, w3, w4, w5, w6, h1, h2, h3, h4, g1, g2, g3, r1, r2]
            have hM2l : M2.length = n := by rw [← hM2]; simp [hM1l, hM]
            rw [wrap_id (by omega) (by omega)]
            exact ⟨rfl, j, M2, ⟨by omega, hM2l, hin⟩, by omega, entm [0]⟩
          · rw [if_neg hlt2] at hin
            simp [hlt2]
            rw [wrap_id (by omega) (by omega)]
            rw [← hin] at hrun
            exact ⟨i + 1, M, ⟨by omega, by omega, hM, hrun⟩, by omega, entm [0]⟩
    · simp [hlt]
      have hR2 : L = R := by
        rw [← hrun, show n - i = 0 by omega]; rfl
      subst hR2
      exact finGm [0]

theorem ba_get (d : Array UInt8) (k : Nat) : (ByteArray.mk d)[k]? = d[k]? := rfl
def len8 : Nat → Int
  | 0 => 0 | 1 => 1 | 2 => 2 | 3 => 2 | 4 => 3 | 5 => 3 | 6 => 3 | 7 => 3 | _ => 4
set_option maxRecDepth 20000 in
theorem Len64_fn (x : Nat) (hx : x ≤ 12) : Fn Try.prog 72 [.k (.int .u64 x)] (kI (len8 x)) := by
  refine fn_go Try.func72 rfl ?_
  simp [Try.ntmps72]
  have h1 : ¬ (4294967296 : Int) ≤ (x : Int) := by omega
  have h2 : ¬ (65536 : Int) ≤ (x : Int) := by omega
  have h3 : ¬ (256 : Int) ≤ (x : Int) := by omega
  simp [h1, h2, h3]
  have hw : IntKind.u8.wrap (x : Int) = x := by rw [IntKind.wrap_u8]; omega
  rw [hw]
  have hcs : x = 0 ∨ x = 1 ∨ x = 2 ∨ x = 3 ∨ x = 4 ∨ x = 5 ∨ x = 6 ∨ x = 7 ∨ x = 8 ∨ x = 9 ∨ x = 10 ∨ x = 11 ∨ x = 12 := by omega
  rcases hcs with rfl | rfl | rfl | rfl | rfl | rfl | rfl | rfl | rfl | rfl | rfl | rfl | rfl
  all_goals
    simp [ba_get]
    exact finm (by simp [len8, IntKind.wrap_i64])
theorem Len_fn (x : Nat) (hx : x ≤ 12) : Fn Try.prog 60 [.k (.int .u64 x)] (kI (len8 x)) := by
  refine fn_go Try.func60 rfl ?_
  simp [Try.ntmps60]
  refine cal (Len64_fn x hx) ?_
  simp
  exact finm (by simp)

set_option maxHeartbeats 1000000 in
set_option maxRecDepth 20000 in
theorem pdqC_fn (l : List GComp) (r : Int) (fn : FuncId) (c : GComp → GComp → Int) (hl : l.length ≤ 12) (he : enterable Try.prog fn = true) (hf : ∀ x y, Fn Try.prog fn [.agg (GComp.e x), .agg (GComp.e y)] (kI (c x y))) :
    FnD Try.prog 59 [.osl 0 2 0 l.length, kI 0, kI l.length, kI r, .clo (.func fn) []] [(l.map GComp.e).flatten] (.tup []) [some ((insSort c l).map GComp.e).flatten] := by
  refine fnd_go Try.func59 rfl ?_
  simp [Try.ntmps59]
  refine awp_loop (fun _ : Unit => ⟨148, [(0, .osl 0 2 0 l.length), (1, kI 0), (2, kI l.length), (3, kI r), (4, .clo (.func fn) [])], [some (l.map GComp.e).flatten], 1⟩) (fun _ => True) (fun _ => 0) () ?_ trivial ?_
  · exact entm [0]
  · rintro ⟨⟩ _
    refine awp_go ?_
    have h12 : (l.length : Int) ≤ 12 := by omega
    simp
    rw [wrap_id (by omega) (by omega)]
    simp [h12]
    refine calD [0] (insC_fn l fn c hl he hf) ?_
    simp
    obtain ⟨R, hR⟩ : ∃ R, insSort c l = R := ⟨_, rfl⟩
    rw [hR]
    exact finGm [0]
theorem SortC_fn (l : List GComp) (fn : FuncId) (c : GComp → GComp → Int) (hl : l.length ≤ 12) (he : enterable Try.prog fn = true) (hf : ∀ x y, Fn Try.prog fn [.agg (GComp.e x), .agg (GComp.e y)] (kI (c x y))) :
    FnD Try.prog 46 [.osl 0 2 0 l.length, .clo (.func fn) []] [(l.map GComp.e).flatten] (.tup []) [some ((insSort c l).map GComp.e).flatten] := by
  refine fnd_go Try.func46 rfl ?_
  simp [Try.ntmps46]
  have hw : IntKind.u64.wrap (l.length : Int) = l.length := by
    simp [IntKind.wrap, IntKind.bits, IntKind.signed]; omega
  simp [hw]
  refine cal (Len_fn l.length hl) ?_
  simp
  refine calD [0] (pdqC_fn l (len8 l.length) fn c hl he hf) ?_
  simp
  exact finGm [0] (hB := by simp)
end Go.Proofs.Ytccebflmbnpheaa.Am
