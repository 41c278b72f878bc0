/- Package kind: fitting values; slices.Equal of numbers. -/
import Derived.Test.YtidhdlhblhbahaaGreatKind5
import Derived.Test.YtidhdlhblhbahaaGreatKind3
set_option linter.unusedVariables false
set_option linter.unusedSimpArgs false
namespace Go.Proofs.YtidhdlhblhbahaaGreat.Am
open Go Go.RowKit

def fitZ (k : GKind) (v : List Int) : List Int := List.zipWith nearM k.Fields v
def fitV (k : GKind) (v : List Int) : List Int := if oneE k ≠ 0 then [] else if v.length ≠ k.Fields.length then [] else fitZ k v
def fitE (k : GKind) (v : List Int) : Int := if oneE k ≠ 0 then oneE k else if v.length ≠ k.Fields.length then 1 else 0

theorem set_ints {A : List Int} {i : Nat} (hi : i < A.length) (v : Int) : (A.map kI).take i ++ kI v :: (A.map kI).drop (i + 1) = (A.set i v).map kI := by
  rw [List.set_eq_take_append_cons_drop, if_pos hi]; simp
theorem fill_set {Z : List Int} {n i : Nat} (hZ : Z.length = n) (hi : i < n) : (Z.take i ++ List.replicate (n - i) 0).set i Z[i] = Z.take (i + 1) ++ List.replicate (n - (i + 1)) 0 := by
  have h1 : (Z.take i).length = i := by simp; omega
  have h2 : Z.take (i + 1) = Z.take i ++ [Z[i]] := by rw [List.take_add_one, List.getElem?_eq_getElem (by omega)]; rfl
  rw [List.set_append_right _ _ (by omega), h1, Nat.sub_self, h2]
  rw [show n - i = (n - (i + 1)) + 1 by omega, List.replicate_succ]
  simp only [List.set_cons_zero, List.append_assoc, List.cons_append, List.nil_append]

theorem flat_ints : ∀ (l : List Int), (l.map fun x => [kI x]).flatten = l.map kI
  | [] => rfl
  | y :: l => by simp [flat_ints l]
theorem chunks_ints (l : List Int) : chunks 1 (l.map kI) l.length = l.map fun x => [kI x] := by
  have := chunks_map (f := fun x : Int => [kI x]) (z := 1) (fun _ => rfl) l
  rw [flat_ints] at this
  exact this

theorem ints_imm (l : List Int) : (l.map kI).all PV.immB = true := by simp
@[simp] theorem zeros_ren (n : Nat) (θ : Nat → Nat) : renL θ (List.replicate n (kI 0)) = List.replicate n (kI 0) := by rw [renL_map]; simp
@[simp] theorem zeros_lt (n m : Nat) : ltL m (List.replicate n (kI 0)) = true := by rw [ltL_all]; simp
@[simp] theorem ints_ren (l : List Int) (θ : Nat → Nat) : renL θ (l.map kI) = l.map kI := imms_ren (ints_imm l) θ
theorem ints_imm_take (l : List Int) (i : Nat) : ((l.map kI).take i).all PV.immB = true := by rw [← List.map_take]; exact ints_imm _
theorem ints_imm_drop (l : List Int) (i : Nat) : ((l.map kI).drop i).all PV.immB = true := by rw [← List.map_drop]; exact ints_imm _
@[simp] theorem ints_ren_take (l : List Int) (i : Nat) (θ : Nat → Nat) : renL θ ((l.map kI).take i) = (l.map kI).take i := imms_ren (ints_imm_take l i) θ
@[simp] theorem ints_ren_drop (l : List Int) (i : Nat) (θ : Nat → Nat) : renL θ ((l.map kI).drop i) = (l.map kI).drop i := imms_ren (ints_imm_drop l i) θ
@[simp] theorem ints_lt_take (l : List Int) (i n : Nat) : ltL n ((l.map kI).take i) = true := imms_lt (ints_imm_take l i) n
@[simp] theorem ints_lt_drop (l : List Int) (i n : Nat) : ltL n ((l.map kI).drop i) = true := imms_lt (ints_imm_drop l i) n
@[simp] theorem ints_lt (l : List Int) (n : Nat) : ltL n (l.map kI) = true := imms_lt (ints_imm l) n
@[simp] theorem ints_frz (l : List Int) (b z len : Nat) (cs : List PV) : frzL b z len cs (l.map kI) = l.map kI := imms_frz (ints_imm l) b z len cs

set_option maxRecDepth 20000 in
theorem Fit_fn (k : GKind) (v : List Int) (hk : k.Fields.length ≤ 1000) (hvl : v.length ≤ 1000) : Fn Tryz.prog 122 [.agg k.e, slI v] (.tup [slI (fitV k v), kI (fitE k v)]) := by
  refine fn_go Tryz.func122 rfl ?_
  simp [Tryz.ntmps122]
  refine ops_fn (One_fn k (by omega)) rfl rfl rfl (by simp) en_164 rfl (by simp) (by simp) (by simp) ?_
  simp
  by_cases h1 : oneE k = 0
  · simp [h1, slI]
    by_cases h2 : v.length = k.Fields.length
    · have hb1 : 8 * (k.Fields.length : Int) ≤ 281474976710656 := by omega
      have hb2 : (k.Fields.length : Int) ≤ 9223372036854775807 := by omega
      simp [h2, hb1, hb2]
      have hZ : (fitZ k v).length = k.Fields.length := by simp [fitZ, h2]
      refine awp_loop (fun x : Nat × List Int => ⟨43, [(1, slI v), (7, .osl 1 1 0 k.Fields.length), (25, .sl 3 (k.Fields.map GField.e)), (26, kI k.Fields.length), (27, kI x.1)], [some k.e, some (x.2.map kI)], 0⟩)
        (fun x => x.1 ≤ k.Fields.length ∧ x.2 = (fitZ k v).take x.1 ++ List.replicate (k.Fields.length - x.1) 0) (fun x => k.Fields.length - x.1) (0, List.replicate k.Fields.length 0) ?_ ?_ ?_
      · exact ent_mk [0, 1] rfl rfl rfl (by simp) (by simp) (by simp) (by simp [slI]) (by simp)
      · simp
      · rintro ⟨i, B⟩ ⟨hi, hB⟩
        simp only at hi hB
        have hBl : B.length = k.Fields.length := by rw [hB]; simp; omega
        refine awp_go ?_
        by_cases hlt : i < k.Fields.length
        · have hiv : i < v.length := by omega
          have hz : (fitZ k v)[i] = nearM k.Fields[i] v[i] := by simp [fitZ]
          have hB2 : B.set i (nearM k.Fields[i] v[i]) = (fitZ k v).take (i + 1) ++ List.replicate (k.Fields.length - (i + 1)) 0 := by
            rw [← hz]; subst hB; exact fill_set hZ hlt
          have hib : i + 1 ≤ B.length := by omega
          simp [hlt]
          refine awp_draw follows_mix [] [(0, [0]), (0, [0]), (0, [0]), (0, [0]), (0, [0]), (0, [0]), (0, [0]), (2, [0]), (0, [0]), (1, [0])] 1 (by kernel_rfl) rfl ?_
          simp [slI, hlt, hiv]
          refine gD_call (kI (nearM k.Fields[i] v[i])) ?_
          simp [slI, hlt, hiv, hib]
          refine ⟨callOk_fn (Near_fn k.Fields[i] v[i]) rfl en_173 (fun _ => rfl) (fun _ => rfl) (fun _ => rfl) (by simp) (by simp) (by simp), ?_⟩
          rw [wrap_id (by omega) (by omega)]
          refine ⟨i + 1, B.set i (nearM k.Fields[i] v[i]), ⟨by omega, hB2⟩, by omega, ent_mk [0, 1] rfl rfl rfl (by simp) (by simp) (by simp) (by simp [slI]) ?_⟩
          rw [← set_ints (by omega)]
          simp
        · have hin : i = k.Fields.length := by omega
          subst hin
          simp
          have hB3 : B = fitZ k v := by rw [hB]; simp [← hZ]
          refine fin_ent (ent_frz 1 1 k.Fields.length (B.map kI) (by simp) rfl (by simp [hBl]) (ints_imm B)) (fin_now ?_ rfl rfl)
          have hch := chunks_ints B
          rw [hBl, hB3] at hch
          simp [St.frz, hch, fitV, fitE, h1, h2, slI, hB3]
    · have h2' : ¬ ((v.length : Int) = (k.Fields.length : Int)) := by omega
      simp [h2, h2']
      exact fin_ent (ent_nilsl (t := 4) (z := 1) rfl) (fin_now (by simp [fitV, fitE, h1, h2, slI]) rfl rfl)
  · simp [h1]
    exact fin_ent (ent_nilsl (t := 4) (z := 1) rfl) (fin_now (by simp [fitV, fitE, h1, slI]) rfl rfl)
end Go.Proofs.YtidhdlhblhbahaaGreat.Am
