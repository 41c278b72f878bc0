/- cmp.Compare at int, and what a binary search finds. -/
import Derived.Test.YtidhdlhblhbahaaGreatSl0
import Derived.Test.YtidhdlhblhbahaaGreatOvl
set_option linter.unusedVariables false
set_option linter.unusedSimpArgs false
namespace Go.Proofs.YtidhdlhblhbahaaGreat.Am
open Go Go.RowKit

def cmpI (a b : Int) : Int := if a < b then -1 else if b < a then 1 else 0
theorem cmpI_lt (a b : Int) : cmpI a b < 0 ↔ a < b := by unfold cmpI; repeat' split <;> omega
theorem cmpI_eq (a b : Int) : cmpI a b = 0 ↔ a = b := by unfold cmpI; repeat' split <;> omega
theorem cmpI_gt (a b : Int) : 0 < cmpI a b ↔ b < a := by unfold cmpI; repeat' split <;> omega
theorem cmpI_mem (a b : Int) : cmpI a b = -1 ∨ cmpI a b = 0 ∨ cmpI a b = 1 := by unfold cmpI; repeat' split <;> omega

theorem isNaN_fn (a : Int) : Fn Tryz.prog 125 [kI a] (kB false) := by
  refine fn_go Tryz.func125 rfl ?_
  simp [Tryz.ntmps125]
  exact finm

theorem Compare_fn (a b : Int) : Fn Tryz.prog 71 [kI a, kI b] (kI (cmpI a b)) := by
  refine fn_go Tryz.func71 rfl ?_
  simp [Tryz.ntmps71]
  refine cal (isNaN_fn a) ?_
  simp
  refine cal (isNaN_fn b) ?_
  simp
  by_cases h1 : a < b
  · simp [h1]
    exact finm (by simp [cmpI, h1])
  · by_cases h2 : b < a
    · simp [h1, h2]
      exact finm (by simp [cmpI, h1, h2])
    · simp [h1, h2]
      exact finm (by simp [cmpI, h1, h2])

/-! ### Binary search -/
def bsG (c : Nat → Int) : Nat → Nat → Nat → Nat
  | 0, i, _ => i
  | f + 1, i, j => if i < j then (if c ((i + j) / 2) < 0 then bsG c f ((i + j) / 2 + 1) j else bsG c f i ((i + j) / 2)) else i
theorem bsG_stop (c : Nat → Int) (f i j : Nat) (h : ¬ i < j) : bsG c f i j = i := by cases f <;> simp [bsG, h]
theorem bsG_le (c : Nat → Int) : ∀ (f i j : Nat), i ≤ j → bsG c f i j ≤ j
  | 0, i, j, h => h
  | f + 1, i, j, h => by
    unfold bsG
    split
    · split
      · exact bsG_le c f _ _ (by omega)
      · exact Nat.le_trans (bsG_le c f _ _ (by omega)) (by omega)
    · exact h
theorem bsG_eq (c : Nat → Int) (p : Nat) : ∀ (f i j : Nat), j ≤ i + f → i ≤ p → p ≤ j → (∀ h, h < j → (c h < 0 ↔ h < p)) → bsG c f i j = p
  | 0, i, j, h, h1, h2, h3 => by simp [bsG]; omega
  | f + 1, i, j, h, h1, h2, h3 => by
    unfold bsG
    split
    · have := h3 ((i + j) / 2) (by omega)
      split
      · rename_i hc
        exact bsG_eq c p f _ _ (by omega) (by have := this.1 hc; omega) h2 h3
      · rename_i hc
        exact bsG_eq c p f _ _ (by omega) h1 (by have := mt this.2 hc; omega) (fun h hh => h3 h (by omega))
    · omega
/-- Where a binary search ends. -/
def bsC {α : Type} (c : α → Int) (l : List α) (h : Nat) : Int := match l[h]? with | some x => c x | none => 0
theorem bsC_get {α : Type} (c : α → Int) (l : List α) (h : Nat) (hh : h < l.length) : bsC c l h = c l[h] := by simp [bsC, hh]
def bs {α : Type} (c : α → Int) (l : List α) : Nat := bsG (bsC c l) l.length 0 l.length
def bsOk {α : Type} (c : α → Int) (l : List α) : Bool := match l[bs c l]? with | some x => decide (c x = 0) | none => false
theorem bs_le {α : Type} (c : α → Int) (l : List α) : bs c l ≤ l.length := bsG_le _ _ _ _ (by omega)
theorem bsOk_lt {α : Type} {c : α → Int} {l : List α} (h : bsOk c l = true) : ∃ hi : bs c l < l.length, c l[bs c l] = 0 := by
  unfold bsOk at h
  split at h
  · rename_i x hx
    obtain ⟨hi, hh⟩ := List.getElem?_eq_some_iff.1 hx
    exact ⟨hi, by rw [hh]; simpa using h⟩
  · simp at h
theorem bs_eq {α : Type} {c : α → Int} {l : List α} (p : Nat) (hp : p ≤ l.length) (h : ∀ j (hj : j < l.length), c l[j] < 0 ↔ j < p) : bs c l = p :=
  bsG_eq _ p _ _ _ (by omega) (by omega) hp (fun j hj => by rw [bsC_get c l j hj]; exact h j hj)
theorem bsG_step (c : Nat → Int) (f i j : Nat) (h : i < j) : bsG c (f + 1) i j = if c ((i + j) / 2) < 0 then bsG c f ((i + j) / 2 + 1) j else bsG c f i ((i + j) / 2) := by simp [bsG, h]
theorem half_ops (i j : Nat) (h : i + j ≤ 9223372036854775807) : IntKind.i64.wrap ((IntKind.u64.wrap (IntKind.i64.wrap ((i : Int) + (j : Int)))).fdiv (2 ^ min 1 IntKind.u64.bits)) = (((i + j) / 2 : Nat) : Int) := by
  have e0 : IntKind.i64.wrap ((i : Int) + (j : Int)) = (i : Int) + (j : Int) := wrap_id (by omega) (by omega)
  have e1 : IntKind.u64.wrap ((i : Int) + (j : Int)) = (i : Int) + (j : Int) := by
    have h1 : (0 : Int) ≤ (i : Int) + (j : Int) := by omega
    have h2 : (i : Int) + (j : Int) < 18446744073709551616 := by omega
    simp [IntKind.wrap, IntKind.bits, IntKind.signed]
    exact Int.emod_eq_of_lt h1 h2
  have e2 : (min 1 IntKind.u64.bits) = 1 := rfl
  have e3 : (((i : Int) + (j : Int)).fdiv (2 ^ 1)) = (((i + j) / 2 : Nat) : Int) := by
    rw [Int.fdiv_eq_ediv_of_nonneg _ (by omega)]; omega
  rw [e0, e1, e2, e3, wrap_id (by omega) (by omega)]
/-! ### Rows, cut and joined -/
theorem flat_lenE {α : Type} {e : α → List PV} {z : Nat} (h : ∀ x, (e x).length = z) (l : List α) : (l.map e).flatten.length = l.length * z := by
  induction l with
  | nil => simp
  | cons a l ih => simp only [List.map_cons, List.flatten_cons, List.length_append, ih, h, List.length_cons, Nat.add_mul]; omega
theorem flat_take {α : Type} {e : α → List PV} {z : Nat} (h : ∀ x, (e x).length = z) (l : List α) (i : Nat) : (l.map e).flatten.take (i * z) = ((l.take i).map e).flatten := by
  induction l generalizing i with
  | nil => simp
  | cons a l ih =>
    cases i with
    | zero => simp
    | succ i =>
      have : (i + 1) * z = (e a).length + i * z := by rw [h, Nat.add_mul]; omega
      rw [List.map_cons, List.flatten_cons, this, List.take_length_add_append, ih]; simp
theorem flat_drop {α : Type} {e : α → List PV} {z : Nat} (h : ∀ x, (e x).length = z) (l : List α) (i : Nat) : (l.map e).flatten.drop (i * z) = ((l.drop i).map e).flatten := by
  induction l generalizing i with
  | nil => simp
  | cons a l ih =>
    cases i with
    | zero => simp
    | succ i =>
      have : (i + 1) * z = (e a).length + i * z := by rw [h, Nat.add_mul]; omega
      rw [List.map_cons, List.flatten_cons, this, List.drop_length_add_append, ih]; simp
theorem row_set {α : Type} {e : α → List PV} {z : Nat} (h : ∀ x, (e x).length = z) (l : List α) (i : Nat) (y : α) (hi : i < l.length) :
    (l.map e).flatten.take (i * z) ++ (e y ++ (l.map e).flatten.drop (i * z + z)) = ((l.set i y).map e).flatten := by
  rw [flat_take h, show i * z + z = (i + 1) * z by rw [Nat.add_mul]; omega, flat_drop h, List.set_eq_take_append_cons_drop, if_pos hi]; simp
end Go.Proofs.YtidhdlhblhbahaaGreat.Am
