/- The library's slice functions, at the program's types: items. -/
import Derived.Test.YtccebflmbnpheaaCmp
import Derived.Test.YtccebflmbnpheaaOvl
set_option linter.unusedVariables false
set_option linter.unusedSimpArgs false
namespace Go.Proofs.Ytccebflmbnpheaa.Am
open Go Go.RowKit

set_option maxRecDepth 20000 in
theorem BinarySearchIt_fn (l : List GItem) (t : Int) (fn : FuncId) (caps : List PV) (c : GItem → Int) (hl : l.length ≤ 4611686018427387904) (he : enterable Try.prog fn = true) (hc : ltL 0 caps = true)
    (hf : ∀ x ∈ l, Fn Try.prog fn (.agg x.e :: kI t :: caps) (kI (c x))) : Fn Try.prog 31 [.sl 3 (l.map GItem.e), kI t, .clo (.func fn) caps] (.tup [kI (bs c l), kB (bsOk c l)]) := by
  refine fn_go Try.func31 rfl ?_
  simp [Try.ntmps31]
  refine awp_loop (fun x : Nat × Nat × Nat => ⟨49, [(0, .sl 3 (l.map GItem.e)), (1, kI t), (2, .clo (.func fn) caps), (8, kI l.length), (9, kI x.1), (10, kI x.2.1)], [], 0⟩)
    (fun x => x.1 ≤ x.2.1 ∧ x.2.1 ≤ l.length ∧ x.2.1 ≤ x.1 + x.2.2 ∧ bsG (bsC c l) x.2.2 x.1 x.2.1 = bs c l) (fun x => x.2.1 - x.1) (0, l.length, l.length) ?_ ?_ ?_
  · exact entm [] (hT := by simp [renL_lt0 _ _ hc, hc])
  · exact ⟨by simp, by simp, by simp, rfl⟩
  · rintro ⟨i, j, f⟩ ⟨hij, hj, hf0, hR⟩
    simp only at hij hj hf0 hR
    refine awp_go ?_
    by_cases hlt : i < j
    · obtain ⟨f, rfl⟩ : ∃ f', f = f' + 1 := ⟨f - 1, by omega⟩
      obtain ⟨h, hd⟩ : ∃ h, (i + j) / 2 = h := ⟨_, rfl⟩
      have hh : h < l.length := by omega
      have e1 := half_ops i j (by omega)
      have h1 : i ≤ h := by omega
      have h2 : h < j := by omega
      have h3 : j ≤ h + 1 + f := by omega
      have h4 : h ≤ i + f := by omega
      rw [bsG_step _ _ _ _ hlt, hd, bsC_get c l h hh] at hR
      rw [hd] at e1
      simp [hlt]
      rw [e1]
      simp [hh]
      refine cal (hf l[h] (List.getElem_mem hh)) ?_ (he := he) (hlt := by simp [hc])
      by_cases hn : c l[h] < 0
      · simp [hn] at hR
        simp [hn]
        rw [wrap_id (by omega) (by omega)]
        exact ⟨h + 1, j, ⟨by omega, hj, f, by omega, hR⟩, by omega, entm [] (hT := by simp [renL_lt0 _ _ hc, hc])⟩
      · simp [hn] at hR
        simp [hn]
        exact ⟨i, h, ⟨by omega, by omega, f, by omega, hR⟩, by omega, entm [] (hT := by simp [renL_lt0 _ _ hc, hc])⟩
    · rw [bsG_stop _ _ _ _ hlt] at hR
      subst hR
      simp [hlt]
      by_cases hin : bs c l < l.length
      · simp [hin]
        refine cal (hf l[bs c l] (List.getElem_mem hin)) ?_ (he := he) (hlt := by simp [hc])
        simp
        exact finm (by simp [bsOk, hin])
      · simp [hin]
        exact finm (by simp [bsOk, hin])

set_option maxRecDepth 20000 in
theorem InsertIt_fn (l : List GItem) (i : Nat) (v : GItem) (hi : i ≤ l.length) (hl : (l.length + 1) * 40 ≤ 140737488355328) :
    FnD Try.prog 34 [.osl 0 3 0 l.length, kI i, .osl 1 3 0 1] [(l.map GItem.e).flatten, v.e] (.osl 2 3 0 (l.length + 1)) [none, none, some ((l.take i ++ v :: l.drop i).map GItem.e).flatten] := by
  refine fng_of Try.func34 rfl (gC_cap 0 fun cap hc1 hc2 => ?_)
  have h1 : ¬ ((l.length : Int) < i) := by omega
  simp [Try.ntmps34, hi, hc1]
  by_cases he : i = l.length
  · subst he
    have hb1 : (l.length + 1) * 40 ≤ 140737488355328 := by omega
    have hb2 : l.length + 1 ≤ maxLen := by simp only [maxLen]; omega
    by_cases hr : l.length + 1 ≤ cap
    · simp [hc1, hb1, hb2, hr]
      rw [List.drop_eq_nil_of_le (by simp), flat_take GItem.e_len]
      refine finG_ent ((ent_tmp 6 tell_cap).trans (ent_mb 0 _)) ?_
      exact finGm [0, 1, 2]
    · simp [hc1, hb1, hb2, hr]
      rw [flat_take GItem.e_len]
      exact finGm [0, 1, 2]
  · have he' : ¬ ((i : Int) = l.length) := by omega
    obtain ⟨k, hk⟩ : ∃ k, l.length = i + (k + 1) := ⟨l.length - i - 1, by omega⟩
    obtain ⟨A, hA⟩ : ∃ A, ((l.take i).map GItem.e).flatten = A := ⟨_, rfl⟩
    obtain ⟨B, hB⟩ : ∃ B, ((l.drop i).map GItem.e).flatten = B := ⟨_, rfl⟩
    have hAB : (l.map GItem.e).flatten = A ++ B := by rw [← hA, ← hB, ← List.flatten_append, ← List.map_append, List.take_append_drop]
    have hAl : A.length = i * 3 := by rw [← hA, flat_lenE GItem.e_len]; simp; omega
    have hBl : B.length = (k + 1) * 3 := by rw [← hB, flat_lenE GItem.e_len]; simp; omega
    have hR : ((l.take i ++ v :: l.drop i).map GItem.e).flatten = A ++ (v.e ++ B) := by rw [List.map_append, List.flatten_append, hA, List.map_cons, List.flatten_cons, hB]
    have tA : ∀ Y, (A ++ Y).take (i * 3) = A := fun Y => List.take_left' hAl
    have dA : ∀ Y, (A ++ Y).drop (i * 3) = Y := fun Y => List.drop_left' hAl
    have dA2 : ∀ Y, (A ++ Y).drop (i * 3 + 3) = Y.drop 3 := fun Y => by rw [← List.drop_drop, dA]
    have tA2 : ∀ Y, (A ++ Y).take ((i + 1) * 3) = A ++ Y.take 3 := fun Y => by
      rw [show (i + 1) * 3 = A.length + 3 by rw [hAl, Nat.add_mul], List.take_length_add_append]
    have tB : B.take ((k + 1) * 3) = B := List.take_of_length_le (by omega)
    have rA : ∀ θ, renL θ A = A := fun θ => by rw [← hA]; exact GItem.ren _ θ
    have rB : ∀ θ, renL θ B = B := fun θ => by rw [← hB]; exact GItem.ren _ θ
    have lA : ∀ n, ltL n A = true := fun n => by rw [← hA]; exact GItem.ltl _ n
    have lB : ∀ n, ltL n B = true := fun n => by rw [← hB]; exact GItem.ltl _ n
    have hz : 3 ≤ B.length := by omega
    rw [hR, hAB]
    simp [he, he']
    rw [wrap_id (by omega) (by omega)]
    by_cases hroom : (cap : Int) < l.length + 1
    · have hic : i ≤ cap := by omega
      have e1 : IntKind.i64.wrap ((l.length : Int) + 1 - i) = ((k + 2 : Nat) : Int) := by rw [wrap_id (by omega) (by omega)]; omega
      have hb1 : (k + 2) * 40 ≤ 140737488355328 := by omega
      have hb2 : (i + (k + 2)) * 40 ≤ 140737488355328 := by omega
      have hb3 : i + (k + 2) ≤ maxLen := by simp only [maxLen]; omega
      have hb4 : ¬ (i + (k + 2) ≤ cap) := by omega
      have hb6 : ((k : Int) + 2 ≤ 9223372036854775807) := by omega
      have hb7 : 0 ≤ (k : Int) + 2 := by omega
      have hb8 : ((k : Int) + 2).toNat = k + 2 := by omega
      simp [hroom, hic]
      rw [wrap_id (x := (l.length : Int) + 1) (by omega) (by omega), e1]
      simp [hb1, hb2, hb3, hb4, hb6, hb7, hb8, hAl, hBl, tA]
      obtain ⟨Z, hZ⟩ : ∃ Z, (List.replicate (k + 2) [kI 0, kI 0, kNil]).flatten = Z := ⟨_, rfl⟩
      have hZl : Z.length = (k + 2) * 3 := by rw [← hZ]; simp
      have hb10 : (i : Int) ≤ (i : Int) + ((k : Int) + 2) := by omega
      have hb11 : ((i : Int) + ((k : Int) + 2)).toNat = i + (k + 2) := by omega
      have hb12 : i + (k + 2) - i = k + 2 := by omega
      rw [hZ]
      simp [hb10, hb11, hb12, hAl, hZl, tA, dA2]
      refine awp_draw follows_mix [] [(0, [0]), (0, [0]), (0, [0]), (0, [0]), (0, [0]), (0, [0]), (0, [0]), (0, [0]), (1, [0])] 1 (by kernel_rfl) rfl ?_
      have e3 : IntKind.i64.wrap ((i : Int) + 1) = (i : Int) + 1 := wrap_id (by omega) (by omega)
      have hd1 : 0 ≤ (i : Int) + 1 := by omega
      have hd2 : (i : Int) + 1 ≤ (i : Int) + ((k : Int) + 2) := by omega
      have hd3 : ((i : Int) + 1).toNat = i + 1 := by omega
      have hd4 : i + (k + 2) - (i + 1) = k + 1 := by omega
      have hk1 : l.length - i = k + 1 := by omega
      have hk5 : (i + 1) * 3 ≤ i * 3 + (k + 2) * 3 := by omega
      have hk6 : (i + 1) * 3 ≤ i * 3 + (3 + ((k + 2) * 3 - 3)) := by omega
      have e4 : (v.e ++ List.drop 3 Z).take 3 = v.e := List.take_left' (by simp)
      have dE : (A ++ (v.e ++ List.drop 3 Z)).drop ((i + 1) * 3 + (k + 1) * 3) = [] := List.drop_eq_nil_of_le (by simp; omega)
      simp [e3, hd1, hd2, hd3, hd4, hb11, hi, hc1, hk1, hk5, hk6, hAl, hBl, hZl, tA, dA, tA2, tB, e4, dE]
      exact finGm [0, 1, 2] (hres := by simp; omega) (hB := by simp [rA, rB, lA, lB])
    · have hb1 : (l.length : Int) + 1 ≤ cap := by omega
      have hb2 : 0 ≤ (l.length : Int) + 1 := by omega
      simp [hroom]
      rw [wrap_id (x := (l.length : Int) + 1) (by omega) (by omega)]
      have e1 : IntKind.i64.wrap ((i : Int) + 1) = ((i + 1 : Nat) : Int) := by rw [wrap_id (by omega) (by omega)]; omega
      have hb3 : (i : Int) + 1 ≤ (l.length : Int) + 1 := by omega
      have hb4 : 0 ≤ (i : Int) + 1 := by omega
      have hb5 : ((i : Int) + 1).toNat = i + 1 := by omega
      simp [hb1, hb2]
      rw [e1]
      simp [hb3, hb4, hb5]
      refine calOvl (fn := Try.prog.funcs[51]) rfl ?_
      simp
      refine awp_draw follows_mix [] [(0, [0]), (0, [0]), (0, [0]), (0, [0]), (0, [0]), (0, [0]), (0, [0]), (0, [0]), (1, [0])] 1 (by kernel_rfl) rfl ?_
      simp
      rw [e1]
      have hk1 : l.length - i = k + 1 := by omega
      have hk2 : l.length + 1 - i = k + 2 := by omega
      have hk3 : min (k + 2) (k + 1) = k + 1 := by omega
      have hk4 : (i : Int) ≤ (l.length : Int) + 1 := by omega
      simp [hb1, hb3, hb4, hb5, hk1, hk2, hk3, hk4, hAl, hBl, tA, dA, dA2, tA2, tB]
      have hk5 : (i + 1) * 3 ≤ i * 3 + (k + 1) * 3 := by omega
      have dE : (A ++ B).drop ((i + 1) * 3 + (k + 1) * 3) = [] := List.drop_eq_nil_of_le (by simp; omega)
      have hk6 : (i : Int) ≤ (l.length : Int) + 1 := by omega
      simp [hk5, dE]
      have e2 : A ++ (v.e ++ List.drop 3 (List.take 3 B ++ B)) = A ++ (v.e ++ B) := by
        rw [List.drop_left' (by simp; omega)]
      have e3 : IntKind.i64.wrap ((i : Int) + 1) = (i : Int) + 1 := wrap_id (by omega) (by omega)
      simp [hk4, hk2, hk1, hk5, hb1, hb3, hb4, hb5, hi, hAl, hBl, tA, tA2, tB, dA2, dE, e2, e3]
      refine finG_ent ((ent_tmp 6 tell_cap).trans (ent_mb 0 _)) ?_
      exact finGm [0, 1, 2] (hB := by simp [rA, rB, lA, lB])

end Go.Proofs.Ytccebflmbnpheaa.Am
