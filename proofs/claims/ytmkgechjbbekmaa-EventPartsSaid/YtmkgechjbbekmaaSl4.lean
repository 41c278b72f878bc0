/- The library's slice functions, at the program's types. -/
import Derived.Test.YtmkgechjbbekmaaCmp
set_option linter.unusedVariables false
set_option linter.unusedSimpArgs false
namespace Go.Proofs.Ytmkgechjbbekmaa.Am
open Go Go.RowKit

set_option maxRecDepth 20000 in
theorem InsertN_fn (l : List GCount) (i : Nat) (v : GCount) (hi : i ≤ l.length) (hl : (l.length + 1) * 16 ≤ 140737488355328) :
    FnD Try.prog 74 [.osl 0 2 0 l.length, kI i, .osl 1 2 0 1] [(l.map GCount.e).flatten, v.e] (.osl 2 2 0 (l.length + 1)) [none, none, some ((l.take i ++ v :: l.drop i).map GCount.e).flatten] := by
  refine fng_of Try.func74 rfl (gC_cap 0 fun cap hc1 hc2 => ?_)
  have h1 : ¬ ((l.length : Int) < i) := by omega
  simp [Try.ntmps74, hi, hc1]
  by_cases he : i = l.length
  · subst he
    have hb1 : (l.length + 1) * 16 ≤ 140737488355328 := by omega
    have hb2 : l.length + 1 ≤ maxLen := by simp only [maxLen]; omega
    by_cases hr : l.length + 1 ≤ cap
    · simp [hc1, hb1, hb2, hr]
      rw [List.drop_eq_nil_of_le (by simp), flat_take GCount.e_len]
      refine finG_ent ((ent_tmp 6 tell_cap).trans (ent_mb 0 _)) ?_
      exact finGm [0, 1, 2]
    · simp [hc1, hb1, hb2, hr]
      rw [flat_take GCount.e_len]
      exact finGm [0, 1, 2]
  · have he' : ¬ ((i : Int) = l.length) := by omega
    obtain ⟨k, hk⟩ : ∃ k, l.length = i + (k + 1) := ⟨l.length - i - 1, by omega⟩
    obtain ⟨A, hA⟩ : ∃ A, ((l.take i).map GCount.e).flatten = A := ⟨_, rfl⟩
    obtain ⟨B, hB⟩ : ∃ B, ((l.drop i).map GCount.e).flatten = B := ⟨_, rfl⟩
    have hAB : (l.map GCount.e).flatten = A ++ B := by rw [← hA, ← hB, ← List.flatten_append, ← List.map_append, List.take_append_drop]
    have hAl : A.length = i * 2 := by rw [← hA, flat_lenE GCount.e_len]; simp; omega
    have hBl : B.length = (k + 1) * 2 := by rw [← hB, flat_lenE GCount.e_len]; simp; omega
    have hR : ((l.take i ++ v :: l.drop i).map GCount.e).flatten = A ++ (v.e ++ B) := by rw [List.map_append, List.flatten_append, hA, List.map_cons, List.flatten_cons, hB]
    have tA : ∀ Y, (A ++ Y).take (i * 2) = A := fun Y => List.take_left' hAl
    have dA : ∀ Y, (A ++ Y).drop (i * 2) = Y := fun Y => List.drop_left' hAl
    have dA2 : ∀ Y, (A ++ Y).drop (i * 2 + 2) = Y.drop 2 := fun Y => by rw [← List.drop_drop, dA]
    have tA2 : ∀ Y, (A ++ Y).take ((i + 1) * 2) = A ++ Y.take 2 := fun Y => by
      rw [show (i + 1) * 2 = A.length + 2 by rw [hAl, Nat.add_mul], List.take_length_add_append]
    have tB : B.take ((k + 1) * 2) = B := List.take_of_length_le (by omega)
    have rA : ∀ θ, renL θ A = A := fun θ => by rw [← hA]; exact GCount.ren _ θ
    have rB : ∀ θ, renL θ B = B := fun θ => by rw [← hB]; exact GCount.ren _ θ
    have lA : ∀ n, ltL n A = true := fun n => by rw [← hA]; exact GCount.ltl _ n
    have lB : ∀ n, ltL n B = true := fun n => by rw [← hB]; exact GCount.ltl _ n
    have hz : 2 ≤ B.length := by omega
    rw [hR, hAB]
    simp [he, he']
    rw [wrap_id (by omega) (by omega)]
    by_cases hroom : (cap : Int) < l.length + 1
    · have hic : i ≤ cap := by omega
      have e1 : IntKind.i64.wrap ((l.length : Int) + 1 - i) = ((k + 2 : Nat) : Int) := by rw [wrap_id (by omega) (by omega)]; omega
      have hb1 : (k + 2) * 16 ≤ 140737488355328 := by omega
      have hb2 : (i + (k + 2)) * 16 ≤ 140737488355328 := by omega
      have hb3 : i + (k + 2) ≤ maxLen := by simp only [maxLen]; omega
      have hb4 : ¬ (i + (k + 2) ≤ cap) := by omega
      have hb6 : ((k : Int) + 2 ≤ 9223372036854775807) := by omega
      have hb7 : 0 ≤ (k : Int) + 2 := by omega
      have hb8 : ((k : Int) + 2).toNat = k + 2 := by omega
      simp [hroom, hic]
      rw [wrap_id (x := (l.length : Int) + 1) (by omega) (by omega), e1]
      simp [hb1, hb2, hb3, hb4, hb6, hb7, hb8, hAl, hBl, tA]
      obtain ⟨Z, hZ⟩ : ∃ Z, (List.replicate (k + 2) (List.replicate 2 (kI 0))).flatten = Z := ⟨_, rfl⟩
      have hZl : Z.length = (k + 2) * 2 := by rw [← hZ]; simp
      simp only [show List.replicate 2 (kI 0) = [kI 0, kI 0] from rfl] at hZ
      have hb10 : (i : Int) ≤ (i : Int) + ((k : Int) + 2) := by omega
      have hb11 : ((i : Int) + ((k : Int) + 2)).toNat = i + (k + 2) := by omega
      have hb12 : i + (k + 2) - i = k + 2 := by omega
      rw [hZ]
      simp [hb10, hb11, hb12, hAl, hZl, tA, dA2]
      refine awp_draw follows_mix [] [(0, [0]), (0, [0]), (0, [0]), (0, [0]), (0, [0]), (0, [0]), (0, [0]), (0, [0]), (1, [0])] 1 (by kernel_rfl) rfl ?_
      have e3 : IntKind.i64.wrap ((i : Int) + 1) = (i : Int) + 1 := wrap_id (by omega) (by omega)
      have hd1 : 0 ≤ (i : Int) + 1 := by omega
      have hd2 : (i : Int) + 1 ≤ (i : Int) + ((k : Int) + 2) := by omega
      have hd3 : ((i : Int) + 1).toNat = i + 1 := by omega
      have hd4 : i + (k + 2) - (i + 1) = k + 1 := by omega
      have hk1 : l.length - i = k + 1 := by omega
      have hk5 : (i + 1) * 2 ≤ i * 2 + (k + 2) * 2 := by omega
      have hk6 : (i + 1) * 2 ≤ i * 2 + (2 + ((k + 2) * 2 - 2)) := by omega
      have e4 : (v.e ++ List.drop 2 Z).take 2 = v.e := List.take_left' (by simp)
      have dE : (A ++ (v.e ++ List.drop 2 Z)).drop ((i + 1) * 2 + (k + 1) * 2) = [] := List.drop_eq_nil_of_le (by simp; omega)
      simp [e3, hd1, hd2, hd3, hd4, hb11, hi, hc1, hk1, hk5, hk6, hAl, hBl, hZl, tA, dA, tA2, tB, e4, dE]
      exact finGm [0, 1, 2] (hres := by simp; omega) (hB := by simp [rA, rB, lA, lB])
    · have hb1 : (l.length : Int) + 1 ≤ cap := by omega
      have hb2 : 0 ≤ (l.length : Int) + 1 := by omega
      simp [hroom]
      rw [wrap_id (x := (l.length : Int) + 1) (by omega) (by omega)]
      have e1 : IntKind.i64.wrap ((i : Int) + 1) = ((i + 1 : Nat) : Int) := by rw [wrap_id (by omega) (by omega)]; omega
      have hb3 : (i : Int) + 1 ≤ (l.length : Int) + 1 := by omega
      have hb4 : 0 ≤ (i : Int) + 1 := by omega
      have hb5 : ((i : Int) + 1).toNat = i + 1 := by omega
      simp [hb1, hb2]
      rw [e1]
      simp [hb3, hb4, hb5]
      refine calOvl (fn := Try.prog.funcs[109]) rfl ?_
      simp
      refine awp_draw follows_mix [] [(0, [0]), (0, [0]), (0, [0]), (0, [0]), (0, [0]), (0, [0]), (0, [0]), (0, [0]), (1, [0])] 1 (by kernel_rfl) rfl ?_
      simp
      rw [e1]
      have hk1 : l.length - i = k + 1 := by omega
      have hk2 : l.length + 1 - i = k + 2 := by omega
      have hk3 : min (k + 2) (k + 1) = k + 1 := by omega
      have hk4 : (i : Int) ≤ (l.length : Int) + 1 := by omega
      simp [hb1, hb3, hb4, hb5, hk1, hk2, hk3, hk4, hAl, hBl, tA, dA, dA2, tA2, tB]
      have hk5 : (i + 1) * 2 ≤ i * 2 + (k + 1) * 2 := by omega
      have dE : (A ++ B).drop ((i + 1) * 2 + (k + 1) * 2) = [] := List.drop_eq_nil_of_le (by simp; omega)
      have hk6 : (i : Int) ≤ (l.length : Int) + 1 := by omega
      simp [hk5, dE]
      have e2 : A ++ (v.e ++ List.drop 2 (List.take 2 B ++ B)) = A ++ (v.e ++ B) := by
        rw [List.drop_left' (by simp; omega)]
      have e3 : IntKind.i64.wrap ((i : Int) + 1) = (i : Int) + 1 := wrap_id (by omega) (by omega)
      simp [hk4, hk2, hk1, hk5, hb1, hb3, hb4, hb5, hi, hAl, hBl, tA, tA2, tB, dA2, dE, e2, e3]
      refine finG_ent ((ent_tmp 6 tell_cap).trans (ent_mb 0 _)) ?_
      exact finGm [0, 1, 2] (hB := by simp [rA, rB, lA, lB])

set_option maxRecDepth 20000 in
theorem InsertE_fn (l : List GEvent) (i : Nat) (v : GEvent) (hi : i ≤ l.length) (hl : (l.length + 1) * 32 ≤ 140737488355328) :
    FnD Try.prog 79 [.osl 0 4 0 l.length, kI i, .osl 1 4 0 1] [(l.map GEvent.e).flatten, v.e] (.osl 2 4 0 (l.length + 1)) [none, none, some ((l.take i ++ v :: l.drop i).map GEvent.e).flatten] := by
  refine fng_of Try.func79 rfl (gC_cap 0 fun cap hc1 hc2 => ?_)
  have h1 : ¬ ((l.length : Int) < i) := by omega
  simp [Try.ntmps79, hi, hc1]
  by_cases he : i = l.length
  · subst he
    have hb1 : (l.length + 1) * 32 ≤ 140737488355328 := by omega
    have hb2 : l.length + 1 ≤ maxLen := by simp only [maxLen]; omega
    by_cases hr : l.length + 1 ≤ cap
    · simp [hc1, hb1, hb2, hr]
      rw [List.drop_eq_nil_of_le (by simp), flat_take GEvent.e_len]
      refine finG_ent ((ent_tmp 6 tell_cap).trans (ent_mb 0 _)) ?_
      exact finGm [0, 1, 2]
    · simp [hc1, hb1, hb2, hr]
      rw [flat_take GEvent.e_len]
      exact finGm [0, 1, 2]
  · have he' : ¬ ((i : Int) = l.length) := by omega
    obtain ⟨k, hk⟩ : ∃ k, l.length = i + (k + 1) := ⟨l.length - i - 1, by omega⟩
    obtain ⟨A, hA⟩ : ∃ A, ((l.take i).map GEvent.e).flatten = A := ⟨_, rfl⟩
    obtain ⟨B, hB⟩ : ∃ B, ((l.drop i).map GEvent.e).flatten = B := ⟨_, rfl⟩
    have hAB : (l.map GEvent.e).flatten = A ++ B := by rw [← hA, ← hB, ← List.flatten_append, ← List.map_append, List.take_append_drop]
    have hAl : A.length = i * 4 := by rw [← hA, flat_lenE GEvent.e_len]; simp; omega
    have hBl : B.length = (k + 1) * 4 := by rw [← hB, flat_lenE GEvent.e_len]; simp; omega
    have hR : ((l.take i ++ v :: l.drop i).map GEvent.e).flatten = A ++ (v.e ++ B) := by rw [List.map_append, List.flatten_append, hA, List.map_cons, List.flatten_cons, hB]
    have tA : ∀ Y, (A ++ Y).take (i * 4) = A := fun Y => List.take_left' hAl
    have dA : ∀ Y, (A ++ Y).drop (i * 4) = Y := fun Y => List.drop_left' hAl
    have dA2 : ∀ Y, (A ++ Y).drop (i * 4 + 4) = Y.drop 4 := fun Y => by rw [← List.drop_drop, dA]
    have tA2 : ∀ Y, (A ++ Y).take ((i + 1) * 4) = A ++ Y.take 4 := fun Y => by
      rw [show (i + 1) * 4 = A.length + 4 by rw [hAl, Nat.add_mul], List.take_length_add_append]
    have tB : B.take ((k + 1) * 4) = B := List.take_of_length_le (by omega)
    have rA : ∀ θ, renL θ A = A := fun θ => by rw [← hA]; exact GEvent.ren _ θ
    have rB : ∀ θ, renL θ B = B := fun θ => by rw [← hB]; exact GEvent.ren _ θ
    have lA : ∀ n, ltL n A = true := fun n => by rw [← hA]; exact GEvent.ltl _ n
    have lB : ∀ n, ltL n B = true := fun n => by rw [← hB]; exact GEvent.ltl _ n
    have hz : 4 ≤ B.length := by omega
    rw [hR, hAB]
    simp [he, he']
    rw [wrap_id (by omega) (by omega)]
    by_cases hroom : (cap : Int) < l.length + 1
    · have hic : i ≤ cap := by omega
      have e1 : IntKind.i64.wrap ((l.length : Int) + 1 - i) = ((k + 2 : Nat) : Int) := by rw [wrap_id (by omega) (by omega)]; omega
      have hb1 : (k + 2) * 32 ≤ 140737488355328 := by omega
      have hb2 : (i + (k + 2)) * 32 ≤ 140737488355328 := by omega
      have hb3 : i + (k + 2) ≤ maxLen := by simp only [maxLen]; omega
      have hb4 : ¬ (i + (k + 2) ≤ cap) := by omega
      have hb6 : ((k : Int) + 2 ≤ 9223372036854775807) := by omega
      have hb7 : 0 ≤ (k : Int) + 2 := by omega
      have hb8 : ((k : Int) + 2).toNat = k + 2 := by omega
      simp [hroom, hic]
      rw [wrap_id (x := (l.length : Int) + 1) (by omega) (by omega), e1]
      simp [hb1, hb2, hb3, hb4, hb6, hb7, hb8, hAl, hBl, tA]
      obtain ⟨Z, hZ⟩ : ∃ Z, (List.replicate (k + 2) (List.replicate 4 (kI 0))).flatten = Z := ⟨_, rfl⟩
      have hZl : Z.length = (k + 2) * 4 := by rw [← hZ]; simp
      simp only [show List.replicate 4 (kI 0) = [kI 0, kI 0, kI 0, kI 0] from rfl] at hZ
      have hb10 : (i : Int) ≤ (i : Int) + ((k : Int) + 2) := by omega
      have hb11 : ((i : Int) + ((k : Int) + 2)).toNat = i + (k + 2) := by omega
      have hb12 : i + (k + 2) - i = k + 2 := by omega
      rw [hZ]
      simp [hb10, hb11, hb12, hAl, hZl, tA, dA2]
      refine awp_draw follows_mix [] [(0, [0]), (0, [0]), (0, [0]), (0, [0]), (0, [0]), (0, [0]), (0, [0]), (0, [0]), (1, [0])] 1 (by kernel_rfl) rfl ?_
      have e3 : IntKind.i64.wrap ((i : Int) + 1) = (i : Int) + 1 := wrap_id (by omega) (by omega)
      have hd1 : 0 ≤ (i : Int) + 1 := by omega
      have hd2 : (i : Int) + 1 ≤ (i : Int) + ((k : Int) + 2) := by omega
      have hd3 : ((i : Int) + 1).toNat = i + 1 := by omega
      have hd4 : i + (k + 2) - (i + 1) = k + 1 := by omega
      have hk1 : l.length - i = k + 1 := by omega
      have hk5 : (i + 1) * 4 ≤ i * 4 + (k + 2) * 4 := by omega
      have hk6 : (i + 1) * 4 ≤ i * 4 + (4 + ((k + 2) * 4 - 4)) := by omega
      have e4 : (v.e ++ List.drop 4 Z).take 4 = v.e := List.take_left' (by simp)
      have dE : (A ++ (v.e ++ List.drop 4 Z)).drop ((i + 1) * 4 + (k + 1) * 4) = [] := List.drop_eq_nil_of_le (by simp; omega)
      simp [e3, hd1, hd2, hd3, hd4, hb11, hi, hc1, hk1, hk5, hk6, hAl, hBl, hZl, tA, dA, tA2, tB, e4, dE]
      exact finGm [0, 1, 2] (hres := by simp; omega) (hB := by simp [rA, rB, lA, lB])
    · have hb1 : (l.length : Int) + 1 ≤ cap := by omega
      have hb2 : 0 ≤ (l.length : Int) + 1 := by omega
      simp [hroom]
      rw [wrap_id (x := (l.length : Int) + 1) (by omega) (by omega)]
      have e1 : IntKind.i64.wrap ((i : Int) + 1) = ((i + 1 : Nat) : Int) := by rw [wrap_id (by omega) (by omega)]; omega
      have hb3 : (i : Int) + 1 ≤ (l.length : Int) + 1 := by omega
      have hb4 : 0 ≤ (i : Int) + 1 := by omega
      have hb5 : ((i : Int) + 1).toNat = i + 1 := by omega
      simp [hb1, hb2]
      rw [e1]
      simp [hb3, hb4, hb5]
      refine calOvl (fn := Try.prog.funcs[113]) rfl ?_
      simp
      refine awp_draw follows_mix [] [(0, [0]), (0, [0]), (0, [0]), (0, [0]), (0, [0]), (0, [0]), (0, [0]), (0, [0]), (1, [0])] 1 (by kernel_rfl) rfl ?_
      simp
      rw [e1]
      have hk1 : l.length - i = k + 1 := by omega
      have hk2 : l.length + 1 - i = k + 2 := by omega
      have hk3 : min (k + 2) (k + 1) = k + 1 := by omega
      have hk4 : (i : Int) ≤ (l.length : Int) + 1 := by omega
      simp [hb1, hb3, hb4, hb5, hk1, hk2, hk3, hk4, hAl, hBl, tA, dA, dA2, tA2, tB]
      have hk5 : (i + 1) * 4 ≤ i * 4 + (k + 1) * 4 := by omega
      have dE : (A ++ B).drop ((i + 1) * 4 + (k + 1) * 4) = [] := List.drop_eq_nil_of_le (by simp; omega)
      have hk6 : (i : Int) ≤ (l.length : Int) + 1 := by omega
      simp [hk5, dE]
      have e2 : A ++ (v.e ++ List.drop 4 (List.take 4 B ++ B)) = A ++ (v.e ++ B) := by
        rw [List.drop_left' (by simp; omega)]
      have e3 : IntKind.i64.wrap ((i : Int) + 1) = (i : Int) + 1 := wrap_id (by omega) (by omega)
      simp [hk4, hk2, hk1, hk5, hb1, hb3, hb4, hb5, hi, hAl, hBl, tA, tA2, tB, dA2, dE, e2, e3]
      refine finG_ent ((ent_tmp 6 tell_cap).trans (ent_mb 0 _)) ?_
      exact finGm [0, 1, 2] (hB := by simp [rA, rB, lA, lB])

end Go.Proofs.Ytmkgechjbbekmaa.Am
