/- Package tourmake: numbers from a stream. -/
import Derived.Test.YtidhdlhblhbahaaGreatDat
import Derived.Test.YtidhdlhblhbahaaGreatAmB
set_option linter.unusedVariables false
set_option linter.unusedSimpArgs false
namespace Go.Proofs.YtidhdlhblhbahaaGreat.Am
open Go Go.RowKit

theorem Below_fn (x n : Int) (h0 : 0 < n) (hn : n ≤ 9223372036854775807) : Fn Tryz.prog 48 [kI x, kI n] (kI (x % n)) := by
  refine fn_go Tryz.func48 rfl ?_
  have hn0 : n ≠ 0 := by omega
  simp [Tryz.ntmps48, hn0]
  have e := Int.tmod_eq_emod (a := x) (b := n)
  have e1 := Int.emod_nonneg x hn0
  have e2 := Int.emod_lt_of_pos x h0
  have h1 : x % n = if x.tmod n < 0 then x.tmod n + n else x.tmod n := by
    split at e <;> split <;> omega
  by_cases h : x.tmod n < 0
  · simp [h]
    have g2 : -n ≤ x.tmod n := by split at e <;> omega
    rw [wrap_id (by omega) (by omega)]
    exact fin_now (by simp [h1, h]) rfl rfl
  · simp [h]
    exact fin_now (by simp [h1, h]) rfl rfl

def nextV (l : List Int) (n : Int) : Int := match l with | [] => 0 | x :: _ => if n < 1 then 0 else x % n
def nextL (l : List Int) (n : Int) : List Int := match l with | [] => [] | x :: r => if n < 1 then x :: r else r

@[simp] theorem take_map_length {α β : Type} (f : α → β) (l : List α) : (l.map f).take l.length = l.map f := List.take_of_length_le (by simp)

theorem Next_fn (l : List Int) (n : Int) (hn : n ≤ 9223372036854775807) :
    FnD Tryz.prog 61 [.ptr 0 0, kI n] [[slI l]] (kI (nextV l n)) [some [slI (nextL l n)]] := by
  refine fng_of Tryz.func61 rfl (awp_go ?_)
  cases l with
  | nil =>
    simp [Tryz.ntmps61, slI]
    exact finG_mk (p := kI 0) (p2 := kI 0) [0] [some [slI []]] (by simp) (by simp) (by simp) (by simp) (by simp) (by simp) (by simp) (by simp [slI]) (by simp [nextV, nextL, slI])
  | cons x r =>
    have g : ¬ ((r.length : Int) + 1 = 0) := by intro h; omega
    simp [Tryz.ntmps61, slI, g]
    by_cases h : n < 1
    · simp [h]
      exact finG_mk (p := kI 0) (p2 := kI 0) [0] [some [slI (x :: r)]] (by simp) (by simp) (by simp) (by simp) (by simp) (by simp) (by simp) (by simp [slI]) (by simp [nextV, nextL, h, slI])
    · have g2 : (1 : Int) ≤ (r.length : Int) + 1 := by omega
      simp [h, g2]
      refine ops_fn (Below_fn x n (by omega) hn) rfl rfl rfl (by simp) en_48 rfl (by simp) (by simp) (by simp) ?_
      simp
      exact finG_mk (p := kI (x % n)) (p2 := kI (x % n)) [0] [some [slI r]] (by simp) (by simp) (by simp) (by simp) (by simp) (by simp) (by simp) (by simp [slI]) (by simp [nextV, nextL, h, slI])
end Go.Proofs.YtidhdlhblhbahaaGreat.Am
