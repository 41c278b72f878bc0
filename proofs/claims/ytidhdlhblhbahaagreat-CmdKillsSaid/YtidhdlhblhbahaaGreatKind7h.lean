/- kind.Holds. -/
import Derived.Test.YtidhdlhblhbahaaGreatKind6
set_option linter.unusedVariables false
set_option linter.unusedSimpArgs false
namespace Go.Proofs.YtidhdlhblhbahaaGreat.Am
open Go Go.RowKit

theorem take_ext {a b : List Int} {i : Nat} (ha : i < a.length) (hb : i < b.length) (h : a.take i = b.take i) (hx : a[i] = b[i]) : a.take (i + 1) = b.take (i + 1) := by
  rw [List.take_add_one, List.take_add_one, h, List.getElem?_eq_getElem ha, List.getElem?_eq_getElem hb, hx]

def holdsB (k : GKind) (v : List Int) : Bool := decide (fitE k v = 0) && decide (fitV k v = v)

set_option maxRecDepth 20000 in
theorem Holds_fn (k : GKind) (v : List Int) (hk : k.Fields.length ≤ 1000) (hvl : v.length ≤ 1000) : Fn Tryz.prog 166 [.agg k.e, slI v] (kB (holdsB k v)) := by
  refine fn_go Tryz.func166 rfl ?_
  simp [Tryz.ntmps166]
  refine ops_fn (Fit_fn k v hk hvl) rfl rfl rfl (by simp) en_122 rfl (by simp) (by simp) (by simp) ?_
  simp
  by_cases h1 : fitE k v = 0
  · have hl : (fitV k v).length = v.length := by
      unfold fitE at h1
      unfold fitV
      split at h1
      · rename_i g; exact absurd h1 g
      · rename_i g
        split at h1
        · cases h1
        · rename_i g2
          rw [if_neg g, if_neg g2]; simp [fitZ]; omega
    have hh : holdsB k v = decide (fitV k v = v) := by simp [holdsB, h1]
    generalize fitV k v = a at *
    simp [h1, slI]
    refine awp_loop (fun i : Nat => ⟨31, [(1, slI v), (5, slI a), (17, kI a.length), (18, kI i)], [some k.e], 0⟩) (fun i => i ≤ a.length ∧ a.take i = v.take i) (fun i => a.length - i) 0 ?_ ?_ ?_
    · exact ent_mk [0] rfl rfl rfl (by simp) (by simp) (by simp) (by simp [slI]) (by simp)
    · simp
    · intro i ⟨hi, hp⟩
      refine awp_go ?_
      by_cases hlt : i < a.length
      · have hla : i < v.length := by omega
        simp [hlt]
        refine awp_draw follows_mix [] [(0, [0]), (0, [0]), (0, [0]), (0, [0]), (0, [0]), (0, [0]), (0, [0]), (0, [0]), (0, [0])] 0 (by kernel_rfl) rfl ?_
        simp [slI, hlt, hla]
        by_cases he : a[i] = v[i]
        · simp [he]
          rw [wrap_id (by omega) (by omega)]
          exact ⟨i + 1, ⟨by omega, take_ext hlt hla hp he⟩, by omega, ent_mk [0] rfl rfl rfl (by simp) (by simp) (by simp) (by simp [slI]) (by simp)⟩
        · simp [he]
          have hne : a ≠ v := fun e => by subst e; exact he rfl
          exact fin_now (by simp [hh, hne]) rfl rfl
      · simp [hlt]
        have hab : a = v := by
          have e1 : a.take i = a := List.take_of_length_le (by omega)
          have e2 : v.take i = v := List.take_of_length_le (by omega)
          rw [← e1, ← e2]; exact hp
        exact fin_now (by simp [hh, hab]) rfl rfl
  · simp [h1]
    exact fin_now (by simp [holdsB, h1]) rfl rfl
end Go.Proofs.YtidhdlhblhbahaaGreat.Am
