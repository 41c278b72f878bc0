/- Package kind: lists of kinds. -/
import Derived.Test.YtidhdlhblhbahaaGreatKind3
set_option linter.unusedVariables false
set_option linter.unusedSimpArgs false
namespace Go.Proofs.YtidhdlhblhbahaaGreat.Am
open Go Go.RowKit

def findK (l : List GKind) (nm : Str) : Int := match l.findIdx? (fun k => decide (k.Name = nm)) with | some i => i | none => -1

theorem findK_some {l : List GKind} {nm : Str} {i : Nat} (hlt : i < l.length) (hno : ∀ j, j < i → ∀ k, l[j]? = some k → k.Name ≠ nm) (h : (l[i]).Name = nm) : findK l nm = i := by
  unfold findK
  have : l.findIdx? (fun k => decide (k.Name = nm)) = some i := by
    rw [List.findIdx?_eq_some_iff_getElem]
    exact ⟨hlt, by simpa using h, fun j hj => by simpa using hno j hj l[j] (List.getElem?_eq_getElem (by omega))⟩
  rw [this]
theorem findK_none {l : List GKind} {nm : Str} (hno : ∀ j, j < l.length → ∀ k, l[j]? = some k → k.Name ≠ nm) : findK l nm = -1 := by
  unfold findK
  have : l.findIdx? (fun k => decide (k.Name = nm)) = none := by
    rw [List.findIdx?_eq_none_iff]
    intro x hx
    obtain ⟨j, hj, rfl⟩ := List.getElem_of_mem hx
    simpa using hno j hj l[j] (List.getElem?_eq_getElem hj)
  rw [this]

theorem Find_fn (l : List GKind) (nm : Str) (hl : l.length ≤ 9223372036854775807) : Fn Tryz.prog 165 [.sl 2 (l.map GKind.e), kS nm] (kI (findK l nm)) := by
  refine fn_go Tryz.func165 rfl ?_
  simp [Tryz.ntmps165]
  refine awp_loop (fun i : Nat => ⟨20, [(1, kS nm), (7, .sl 2 (l.map GKind.e)), (8, kI l.length), (9, kI i)], [], 0⟩) (fun i => i ≤ l.length ∧ ∀ j, j < i → ∀ k, l[j]? = some k → k.Name ≠ nm) (fun i => l.length - i) 0 ?_ ?_ ?_
  · exact ent_mk [] rfl rfl rfl (by simp) (by simp) (by simp) (by simp) (by simp)
  · simp
  · intro i ⟨hi, hno⟩
    refine awp_go ?_
    by_cases hlt : i < l.length
    · simp [hlt, GKind.e]
      refine brkB_split (fun h => ?_) (fun h => ?_)
      · have hf := findK_some hlt hno (by simpa using h)
        simp
        exact fin_now (by simp [hf]) rfl rfl
      · simp
        rw [wrap_id (by omega) (by omega)]
        refine ⟨i + 1, ⟨by omega, fun j hj k hk => ?_⟩, by omega, ent_mk [] rfl rfl rfl (by simp) (by simp) (by simp) (by simp) (by simp)⟩
        by_cases e : j = i
        · subst e; simp [hlt] at hk; subst hk; simpa using h
        · exact hno j (by omega) k hk
    · simp [hlt]
      have : i = l.length := by omega
      subst this
      exact fin_now (by simp [findK_none hno]) rfl rfl

def checkGo (pre : List GKind) : List GKind → Int
  | [] => 0
  | k :: r => if oneE k ≠ 0 then oneE k else if findK pre k.Name ≥ 0 then 5 else checkGo (pre ++ [k]) r
def checkE (l : List GKind) : Int := if 16 < l.length then 2 else checkGo [] l

theorem Check_fn (l : List GKind) (hl : ∀ k ∈ l, k.Fields.length ≤ 9223372036854775807) (hll : l.length ≤ 9223372036854775807) : Fn Tryz.prog 107 [.sl 2 (l.map GKind.e)] (kI (checkE l)) := by
  refine fn_go Tryz.func107 rfl ?_
  simp [Tryz.ntmps107]
  by_cases h2 : (16 : Int) < (l.length : Int)
  · simp [h2]
    exact fin_now (by simp [checkE]; omega) rfl rfl
  · simp [h2]
    have e : checkE l = checkGo [] l := by simp [checkE]; omega
    refine awp_loop (fun i : Nat => ⟨29, [(0, .sl 2 (l.map GKind.e)), (9, .sl 2 (l.map GKind.e)), (10, kI l.length), (11, kI i)], [], 0⟩)
      (fun i => i ≤ l.length ∧ checkGo (l.take i) (l.drop i) = checkGo [] l) (fun i => l.length - i) 0 ?_ ?_ ?_
    · exact ent_mk [] rfl rfl rfl (by simp) (by simp) (by simp) (by simp) (by simp)
    · simp
    · intro i ⟨hi, hno⟩
      refine awp_go ?_
      by_cases hlt : i < l.length
      · simp [hlt, GKind.e]
        refine ops_fn (One_fn l[i] (hl _ (List.getElem_mem hlt))) rfl rfl rfl (by simp) en_164 rfl (by simp [GKind.e]) (by simp [GKind.e]) (by simp) ?_
        simp
        rw [List.drop_eq_getElem_cons hlt, checkGo] at hno
        by_cases h3 : oneE l[i] = 0
        · simp [h3, hi]
          refine awp_draw follows_mix [] [(0, [0]), (0, [0]), (0, [0]), (0, [0]), (0, [0]), (2, [0]), (0, [0])] 0 (by kernel_rfl) rfl ?_
          simp [hi]
          refine gD_call (kI (findK (l.take i) l[i].Name)) ?_
          simp [hi]
          refine ⟨callOk_fn (Find_fn (l.take i) l[i].Name (by simp; omega)) rfl en_165 (fun _ => rfl) (fun _ => rfl) (fun _ => rfl) (by simp) (by simp) (by simp), ?_⟩
          by_cases h4 : 0 ≤ findK (l.take i) l[i].Name
          · simp [h4]
            exact fin_now (by simp [e, ← hno, h3, h4]) rfl rfl
          · simp [h4]
            rw [wrap_id (by omega) (by omega)]
            refine ⟨i + 1, ⟨by omega, ?_⟩, by omega, ent_mk [] rfl rfl rfl (by simp) (by simp) (by simp) (by simp) (by simp [GKind.e])⟩
            rw [← hno, if_neg (by simp [h3]), if_neg (by simpa using h4)]
            simp
        · simp [h3]
          exact fin_now (by simp [e, ← hno, h3]) rfl rfl
      · simp [hlt]
        have : i = l.length := by omega
        subst this
        exact fin_now (by simp [e, ← hno, checkGo]) rfl rfl
end Go.Proofs.YtidhdlhblhbahaaGreat.Am
