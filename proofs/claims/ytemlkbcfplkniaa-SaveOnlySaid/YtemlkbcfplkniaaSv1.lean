/- Bits packed into bytes. -/
import Derived.Test.YtemlkbcfplkniaaDat
set_option linter.unusedVariables false
set_option linter.unusedSimpArgs false
namespace Go.Proofs.Ytemlkbcfplkniaa.Am
open Go Go.RowKit

abbrev kU8 (x : Int) : PV := .k (.int .u8 x)
def bitsVal (f : Nat → Bool) : Nat → Nat
  | 0 => 0
  | k + 1 => bitsVal f k + if f k = true then 2 ^ k else 0
def byteAt (bl : List Bool) (i : Nat) : Nat := bitsVal (fun j => bl.getD (8 * i + j) false) 8
def bytesTo (bl : List Bool) (m : Nat) : List Int := (List.range m).map fun i => (byteAt bl i : Int)
def packB (bl : List Bool) : List Int := bytesTo bl ((bl.length + 7) / 8)
@[simp] theorem bytesTo_len (bl : List Bool) (m : Nat) : (bytesTo bl m).length = m := by simp [bytesTo]
@[simp] theorem packB_len (bl : List Bool) : (packB bl).length = (bl.length + 7) / 8 := bytesTo_len _ _

theorem bitsVal_lt (f : Nat → Bool) : ∀ k, bitsVal f k < 2 ^ k
  | 0 => by simp [bitsVal]
  | k + 1 => by
    have := bitsVal_lt f k
    rw [bitsVal, Nat.pow_succ]
    split <;> omega
theorem bitsVal_congr {f g : Nat → Bool} : ∀ k, (∀ j, j < k → f j = g j) → bitsVal f k = bitsVal g k
  | 0, _ => rfl
  | k + 1, h => by rw [bitsVal, bitsVal, bitsVal_congr k (fun j hj => h j (by omega)), h k (by omega)]
theorem bitsVal_cut {f : Nat → Bool} (r : Nat) : ∀ k, r ≤ k → (∀ j, r ≤ j → j < k → f j = false) → bitsVal f k = bitsVal f r
  | 0, hr, _ => by rw [show r = 0 by omega]
  | k + 1, hr, h => by
    rcases Nat.lt_or_ge k r with hk | hk
    · rw [show k + 1 = r by omega]
    · rw [bitsVal, h k hk (by omega), bitsVal_cut r k hk fun j h1 h2 => h j h1 (by omega)]; simp
theorem byteAt_lt (bl : List Bool) (i : Nat) : byteAt bl i < 256 := bitsVal_lt _ 8
theorem byteAt_snoc_ne (bl : List Bool) (b : Bool) (i : Nat) (h : i < bl.length / 8) : byteAt (bl ++ [b]) i = byteAt bl i :=
  bitsVal_congr 8 fun j hj => by simp [List.getD, List.getElem?_append_left (show 8 * i + j < bl.length by omega)]
theorem byteAt_last (bl : List Bool) : byteAt bl (bl.length / 8) = bitsVal (fun j => bl.getD (8 * (bl.length / 8) + j) false) (bl.length % 8) :=
  bitsVal_cut _ 8 (by omega) fun j h1 h2 => by simp [List.getD, List.getElem?_eq_none (show bl.length ≤ 8 * (bl.length / 8) + j by omega)]
theorem byteAt_last_lt (bl : List Bool) : byteAt bl (bl.length / 8) < 2 ^ (bl.length % 8) := by rw [byteAt_last]; exact bitsVal_lt _ _
theorem byteAt_snoc (bl : List Bool) (b : Bool) : byteAt (bl ++ [b]) (bl.length / 8) = byteAt bl (bl.length / 8) + if b = true then 2 ^ (bl.length % 8) else 0 := by
  have hx : 8 * (bl.length / 8) + bl.length % 8 = bl.length := Nat.div_add_mod bl.length 8
  rw [byteAt_last]
  unfold byteAt
  rw [bitsVal_cut (bl.length % 8 + 1) 8 (by omega) fun j h1 h2 => by simp [List.getD, List.getElem?_eq_none (show (bl ++ [b]).length ≤ 8 * (bl.length / 8) + j by simp; omega)]]
  rw [bitsVal]
  congr 1
  · exact bitsVal_congr _ fun j hj => by simp [List.getD, List.getElem?_append_left (show 8 * (bl.length / 8) + j < bl.length by omega)]
  · simp only [hx]
    simp [List.getD]
theorem pack_snoc (bl : List Bool) (b : Bool) : packB (bl ++ [b]) = (bytesTo bl (bl.length / 8 + 1)).set (bl.length / 8) ((byteAt bl (bl.length / 8) + if b = true then 2 ^ (bl.length % 8) else 0 : Nat) : Int) := by
  have hl : ((bl ++ [b]).length + 7) / 8 = bl.length / 8 + 1 := by simp; omega
  have hl' : (bl.length + 1 + 7) / 8 = bl.length / 8 + 1 := by omega
  refine List.ext_getElem (by simp [hl']) fun i h1 h2 => ?_
  have hi : i < bl.length / 8 + 1 := by simpa using h2
  rw [List.getElem_set]
  simp only [packB, hl, bytesTo, List.getElem_map, List.getElem_range]
  split
  · rename_i e; subst e; rw [byteAt_snoc]
  · rw [byteAt_snoc_ne _ _ _ (by omega)]
theorem pack_room (bl : List Bool) : bytesTo bl (bl.length / 8 + 1) = if bl.length % 8 = 0 then packB bl ++ [0] else packB bl := by
  split
  · rename_i h
    have hl : (bl.length + 7) / 8 = bl.length / 8 := by omega
    have hb : byteAt bl (bl.length / 8) = 0 := by have := byteAt_last_lt bl; rw [h] at this; omega
    unfold packB bytesTo
    rw [hl, List.range_succ, List.map_append]
    simp [hb]
  · have hl : (bl.length + 7) / 8 = bl.length / 8 + 1 := by omega
    unfold packB
    rw [hl]

/-- The n lowest bits, the lowest one first. -/
def bitsOf (v : Int) (n : Nat) : List Bool := (List.range n).map fun i => decide (v / 2 ^ i % 2 = 1)
@[simp] theorem bitsOf_len (v : Int) (n : Nat) : (bitsOf v n).length = n := by simp [bitsOf]
theorem bitsOf_succ (v : Int) (n : Nat) : bitsOf v (n + 1) = bitsOf v n ++ [decide (v / 2 ^ n % 2 = 1)] := by simp [bitsOf, List.range_succ]
end Go.Proofs.Ytemlkbcfplkniaa.Am
