/- Package kind: one kind. -/
import Derived.Test.YtidhdlhblhbahaaGreatKind2
set_option linter.unusedVariables false
set_option linter.unusedSimpArgs false
namespace Go.Proofs.YtidhdlhblhbahaaGreat.Am
open Go Go.RowKit

def fieldsE (pre : List GField) : List GField → Int
  | [] => 0
  | f :: r => if fieldE f ≠ 0 then fieldE f else if pre.any (fun g => decide (g.Name = f.Name)) = true then 5 else fieldsE (pre ++ [f]) r
def oneE (k : GKind) : Int := if nameB k.Name = true then if 8 < k.Fields.length then 2 else fieldsE [] k.Fields else 3

theorem One_fn (k : GKind) (hl : k.Fields.length ≤ 9223372036854775807) : Fn Tryz.prog 164 [.agg k.e] (kI (oneE k)) := by
  refine fn_go Tryz.func164 rfl ?_
  simp [Tryz.ntmps164, GKind.e]
  refine ops_fn (Name_fn k.Name) rfl rfl rfl (by simp) en_204 rfl (by simp) (by simp) (by simp) ?_
  simp
  by_cases h1 : nameB k.Name = true
  · simp [h1]
    by_cases h2 : (8 : Int) < (k.Fields.length : Int)
    · simp [h2]
      exact fin_now (by simp [oneE, h1]; omega) rfl rfl
    · simp [h2]
      have e : oneE k = fieldsE [] k.Fields := by simp [oneE, h1]; omega
      refine awp_loop (fun i : Nat => ⟨45, [(1, .ptr 0 0), (17, .sl 3 (k.Fields.map GField.e)), (18, kI k.Fields.length), (19, kI i)], [some [kS k.Name, .sl 3 (k.Fields.map GField.e)]], 0⟩)
        (fun i => i ≤ k.Fields.length ∧ fieldsE (k.Fields.take i) (k.Fields.drop i) = fieldsE [] k.Fields) (fun i => k.Fields.length - i) 0 ?_ ?_ ?_
      · exact ent_mk [0] rfl rfl rfl (by simp) (by simp) (by simp) (by simp) (by simp)
      · simp
      · intro i ⟨hi, hno⟩
        refine awp_go ?_
        by_cases hlt : i < k.Fields.length
        · simp [hlt, GField.e]
          refine ops_fn (field_fn k.Fields[i]) rfl rfl rfl (by simp) en_220 rfl (by simp [GField.e]) (by simp [GField.e]) (by simp) ?_
          simp
          rw [List.drop_eq_getElem_cons hlt, fieldsE] at hno
          by_cases h3 : fieldE k.Fields[i] = 0
          · simp [h3, hi]
            refine awp_loop (fun j : Nat => ⟨45, [(1, .ptr 0 0), (3, kI i), (4, .ptr 1 0), (17, .sl 3 (k.Fields.map GField.e)), (18, kI k.Fields.length), (19, kI i), (32, .sl 3 ((k.Fields.take i).map GField.e)), (33, kI i), (34, kI j)],
              [some [kS k.Name, .sl 3 (k.Fields.map GField.e)], some k.Fields[i].e], 0⟩)
              (fun j => j ≤ i ∧ ((k.Fields.take i).drop j).any (fun g => decide (g.Name = k.Fields[i].Name)) = (k.Fields.take i).any (fun g => decide (g.Name = k.Fields[i].Name))) (fun j => i - j) 0 ?_ ?_ ?_
            · exact ent_mk [0, 1] rfl rfl rfl (by simp) (by simp) (by simp) (by simp) (by simp [GField.e])
            · simp
            · intro j ⟨hj, hnj⟩
              refine awp_go ?_
              by_cases hjt : j < i
              · have hjl : j < k.Fields.length := by omega
                simp [hjt, hjl, GField.e]
                have hd : (k.Fields.take i).drop j = k.Fields[j] :: (k.Fields.take i).drop (j + 1) := by
                  rw [List.drop_eq_getElem_cons (by simp; omega)]; simp
                rw [hd] at hnj
                refine brkB_split (fun h => ?_) (fun h => ?_)
                · simp
                  have h' : k.Fields[j].Name = k.Fields[i].Name := by simpa using h
                  have : (k.Fields.take i).any (fun g => decide (g.Name = k.Fields[i].Name)) = true := by rw [← hnj]; simp [h']
                  exact fin_now (by simp [e, ← hno, h3, this]) rfl rfl
                · simp
                  have h' : k.Fields[j].Name ≠ k.Fields[i].Name := by simpa using h
                  rw [wrap_id (by omega) (by omega)]
                  refine ⟨j + 1, ⟨by omega, ?_⟩, by omega, ent_mk [0, 1] rfl rfl rfl (by simp) (by simp) (by simp) (by simp) (by simp [GField.e])⟩
                  rw [← hnj]; simp [h']
              · simp [hjt, GField.e]
                rw [wrap_id (by omega) (by omega)]
                have hf : (k.Fields.take i).any (fun g => decide (g.Name = k.Fields[i].Name)) = false := by
                  rw [← hnj, List.drop_of_length_le (by simp; omega)]; rfl
                refine ⟨i + 1, ⟨by omega, ?_⟩, by omega, ent_mk [0] rfl rfl rfl (by simp) (by simp) (by simp) (by simp) (by simp [GField.e])⟩
                rw [← hno, if_neg (by simp [h3]), if_neg (by simp [hf])]
                simp
          · simp [h3]
            exact fin_now (by simp [e, ← hno, h3]) rfl rfl
        · simp [hlt]
          have : i = k.Fields.length := by omega
          subst this
          exact fin_now (by simp [e, ← hno, fieldsE]) rfl rfl
  · simp [h1]
    exact fin_now (by simp [oneE, h1]) rfl rfl
end Go.Proofs.YtidhdlhblhbahaaGreat.Am
