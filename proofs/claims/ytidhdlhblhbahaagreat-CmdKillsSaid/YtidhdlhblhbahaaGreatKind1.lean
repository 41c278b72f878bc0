/- Package kind: names, fields, kinds, lists of kinds. -/
import Derived.Test.YtidhdlhblhbahaaGreatDat
set_option linter.unusedVariables false
set_option linter.unusedSimpArgs false
namespace Go.Proofs.YtidhdlhblhbahaaGreat.Am
open Go Go.RowKit

def lowC (c : UInt8) : Bool := decide (97 ≤ c.toNat) && decide (c.toNat ≤ 122)
def digC (c : UInt8) : Bool := decide (48 ≤ c.toNat) && decide (c.toNat ≤ 57)
def okAt (s : Str) (i : Nat) : Bool := match s[i]? with | some c => lowC c || (decide (0 < i) && digC c) | none => true
def nameB (s : Str) : Bool := decide (0 < s.size) && decide (s.size ≤ 16) && (List.range s.size).all (okAt s)

theorem Name_fn (s : Str) : Fn Tryz.prog 204 [kS s] (kB (nameB s)) := by
  refine fn_go Tryz.func204 rfl ?_
  simp [Tryz.ntmps204]
  by_cases h0 : s = ByteArray.empty
  · subst h0
    simp
    exact fin_now (by simp [nameB]) rfl rfl
  · by_cases h1 : (16 : Int) < (s.size : Int)
    · simp [h0, h1]
      exact fin_now (by simp [nameB, show ¬ s.size ≤ 16 by omega]) rfl rfl
    · simp [h0, h1]
      refine awp_loop (fun i : Nat => ⟨41, [(0, kS s), (14, kI s.size), (15, kI i)], [], 0⟩) (fun i => i ≤ s.size ∧ ∀ j, j < i → okAt s j = true) (fun i => s.size - i) 0 ?_ ?_ ?_
      · exact ent_mk [] rfl rfl rfl (by simp) (by simp) (by simp) (by simp) (by simp)
      · simp
      · intro i ⟨hi, hno⟩
        refine awp_go ?_
        by_cases hlt : i < s.size
        · have hgood : okAt s i = true → ∃ y, (y ≤ s.size ∧ ∀ j, j < y → okAt s j = true) ∧ s.size - y < s.size - i ∧ y = i + 1 := fun h => ⟨i + 1, ⟨by omega, fun j hj => by
            by_cases e : j = i
            · subst e; exact h
            · exact hno j (by omega)⟩, by omega, rfl⟩
          have hbad : okAt s i = false → nameB s = false := fun h => by
            simp only [nameB, Bool.and_eq_false_iff]
            right
            rw [List.all_eq_false]
            exact ⟨i, by simpa using hlt, by simp [h]⟩
          have hok : okAt s i = (lowC s[i] || (decide (0 < i) && digC s[i])) := by simp [okAt, hlt]
          have hend : okAt s i = true → ∀ (T : List (Nat × PV)) (σ : Boxes), look T 0 = some (kS s) → look T 14 = some (kI s.size) → look T 15 = some (kI (i + 1 : Nat)) →
              ∃ y : Nat, (y ≤ s.size ∧ ∀ j, j < y → okAt s j = true) ∧ s.size - y < s.size - i ∧ Ent ⟨41, T, σ, 0⟩ ⟨41, [(0, kS s), (14, kI s.size), (15, kI y)], [], 0⟩ := fun h T σ h0 h1 h2 => by
            obtain ⟨y, a, b, rfl⟩ := hgood h
            exact ⟨_, a, b, ent_mk [] rfl rfl rfl (by simp) (by simp) (by simp) (by simp [h0, h1, h2]) (by simp)⟩
          simp only [lowC, digC] at hok
          have hw : IntKind.i64.wrap ((i : Int) + 1) = (i : Int) + 1 := wrap_id (by omega) (by omega)
          have Hbad := Asd.mk hbad
          have Hok := Asd.mk hok
          have Hend := Asd.mk hend
          clear hbad hok hend hgood hno
          simp [hlt]
          repeat' ((first | refine brkB_splitN (fun h => ?_) (fun h => ?_) | refine brkB_split (fun h => ?_) (fun h => ?_)) <;> simp [*])
          all_goals simp only [decide_eq_true_eq, decide_eq_false_iff_not] at *
          all_goals first
            | exact fin_now (by rw [Hbad.out (by rw [Hok.out]; simp; omega)]; simp) rfl rfl
            | (refine Hend.out (by rw [Hok.out]; simp; omega) _ _ ?_ ?_ ?_ <;> simp)
        · simp [hlt]
          have : i = s.size := by omega
          subst this
          exact fin_now (by
            have : (List.range s.size).all (okAt s) = true := by
              rw [List.all_eq_true]; intro x hx; exact hno x (by simpa using hx)
            have hp : 0 < s.size := Nat.pos_of_ne_zero (fun e => h0 (by simpa using e))
            simp [nameB, this, hp]; omega) rfl rfl

end Go.Proofs.YtidhdlhblhbahaaGreat.Am
