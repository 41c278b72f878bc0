/- Sorting by insertion. -/
import Derived.Test.YtidhdlhblhbahaaGreatCmp
set_option linter.unusedVariables false
set_option linter.unusedSimpArgs false
namespace Go.Proofs.YtidhdlhblhbahaaGreat.Am
open Go Go.RowKit

def insIn {α : Type} (c : α → α → Int) : Nat → List α → List α
  | 0, L => L
  | j + 1, L => match L[j]?, L[j + 1]? with
    | some x, some y => if c y x < 0 then insIn c j ((L.set (j + 1) x).set j y) else L
    | _, _ => L
theorem insIn_len {α : Type} (c : α → α → Int) : ∀ (j : Nat) (L : List α), (insIn c j L).length = L.length
  | 0, L => rfl
  | j + 1, L => by
    unfold insIn
    split
    · split
      · rw [insIn_len c j]; simp
      · rfl
    · rfl
/-- From the i-th on, one after the other is put in its place. -/
def insOut {α : Type} (c : α → α → Int) : Nat → Nat → List α → List α
  | 0, _, L => L
  | f + 1, i, L => insOut c f (i + 1) (insIn c i L)
def insSort {α : Type} (c : α → α → Int) (L : List α) : List α := insOut c (L.length - 1) 1 L

theorem ba_get (d : Array UInt8) (k : Nat) : (ByteArray.mk d)[k]? = d[k]? := rfl
def len8 : Nat → Int
  | 0 => 0 | 1 => 1 | 2 => 2 | 3 => 2 | 4 => 3 | 5 => 3 | 6 => 3 | 7 => 3 | _ => 4
set_option maxRecDepth 20000 in
theorem Len64_fn (x : Nat) (hx : x ≤ 12) : Fn Tryz.prog 188 [.k (.int .u64 x)] (kI (len8 x)) := by
  refine fn_go Tryz.func188 rfl ?_
  simp [Tryz.ntmps188]
  have h1 : ¬ (4294967296 : Int) ≤ (x : Int) := by omega
  have h2 : ¬ (65536 : Int) ≤ (x : Int) := by omega
  have h3 : ¬ (256 : Int) ≤ (x : Int) := by omega
  simp [h1, h2, h3]
  have hw : IntKind.u8.wrap (x : Int) = x := by rw [IntKind.wrap_u8]; omega
  rw [hw]
  have hcs : x = 0 ∨ x = 1 ∨ x = 2 ∨ x = 3 ∨ x = 4 ∨ x = 5 ∨ x = 6 ∨ x = 7 ∨ x = 8 ∨ x = 9 ∨ x = 10 ∨ x = 11 ∨ x = 12 := by omega
  rcases hcs with rfl | rfl | rfl | rfl | rfl | rfl | rfl | rfl | rfl | rfl | rfl | rfl | rfl
  all_goals
    simp [ba_get]
    exact finm (by simp [len8, IntKind.wrap_i64])
theorem Len_fn (x : Nat) (hx : x ≤ 12) : Fn Tryz.prog 145 [.k (.int .u64 x)] (kI (len8 x)) := by
  refine fn_go Tryz.func145 rfl ?_
  simp [Tryz.ntmps145]
  refine cal (Len64_fn x hx) ?_
  simp
  exact finm (by simp)

end Go.Proofs.YtidhdlhblhbahaaGreat.Am
