/- Several texts in one. -/
import Derived.Test.YtemlkbcfplkniaaDat
import Derived.Test.YtemlkbcfplkniaaDig1
import Derived.Test.YtemlkbcfplkniaaKind5
import Derived.Test.YtemlkbcfplkniaaKLaw2
import Derived.Test.YtemlkbcfplkniaaB2s
import Derived.Lib.BytesEntry
import Derived.Test.YtemlkbcfplkniaaCLaw2
import Derived.Test.YtemlkbcfplkniaaBaseW
import Derived.Test.YtemlkbcfplkniaaSameW
import Derived.Test.YtemlkbcfplkniaaWLaw1
import Derived.Test.YtemlkbcfplkniaaSpawnW
import Derived.Test.YtemlkbcfplkniaaTell
import Derived.Test.YtemlkbcfplkniaaSame2
import Derived.Test.YtemlkbcfplkniaaIntsB
set_option linter.unusedVariables false
set_option linter.unusedSimpArgs false
/- Bits packed into bytes. -/
namespace Go.Proofs.Ytemlkbcfplkniaa.Am
open Go Go.RowKit

abbrev kU8 (x : Int) : PV := .k (.int .u8 x)
def bitsVal (f : Nat → Bool) : Nat → Nat
  | 0 => 0
  | k + 1 => bitsVal f k + if f k = true then 2 ^ k else 0
def byteAt (bl : List Bool) (i : Nat) : Nat := bitsVal (fun j => bl.getD (8 * i + j) false) 8
def bytesTo (bl : List Bool) (m : Nat) : List Int := (List.range m).map fun i => (byteAt bl i : Int)
def packB (bl : List Bool) : List Int := bytesTo bl ((bl.length + 7) / 8)
@[simp] theorem bytesTo_len (bl : List Bool) (m : Nat) : (bytesTo bl m).length = m := by simp [bytesTo]
@[simp] theorem packB_len (bl : List Bool) : (packB bl).length = (bl.length + 7) / 8 := bytesTo_len _ _

theorem bitsVal_lt (f : Nat → Bool) : ∀ k, bitsVal f k < 2 ^ k
  | 0 => by simp [bitsVal]
  | k + 1 => by
    have := bitsVal_lt f k
    rw [bitsVal, Nat.pow_succ]
    split <;> omega
theorem bitsVal_congr {f g : Nat → Bool} : ∀ k, (∀ j, j < k → f j = g j) → bitsVal f k = bitsVal g k
  | 0, _ => rfl
  | k + 1, h => by rw [bitsVal, bitsVal, bitsVal_congr k (fun j hj => h j (by omega)), h k (by omega)]
theorem bitsVal_cut {f : Nat → Bool} (r : Nat) : ∀ k, r ≤ k → (∀ j, r ≤ j → j < k → f j = false) → bitsVal f k = bitsVal f r
  | 0, hr, _ => by rw [show r = 0 by omega]
  | k + 1, hr, h => by
    rcases Nat.lt_or_ge k r with hk | hk
    · rw [show k + 1 = r by omega]
    · rw [bitsVal, h k hk (by omega), bitsVal_cut r k hk fun j h1 h2 => h j h1 (by omega)]; simp
theorem byteAt_lt (bl : List Bool) (i : Nat) : byteAt bl i < 256 := bitsVal_lt _ 8
theorem byteAt_snoc_ne (bl : List Bool) (b : Bool) (i : Nat) (h : i < bl.length / 8) : byteAt (bl ++ [b]) i = byteAt bl i :=
  bitsVal_congr 8 fun j hj => by simp [List.getD, List.getElem?_append_left (show 8 * i + j < bl.length by omega)]
theorem byteAt_last (bl : List Bool) : byteAt bl (bl.length / 8) = bitsVal (fun j => bl.getD (8 * (bl.length / 8) + j) false) (bl.length % 8) :=
  bitsVal_cut _ 8 (by omega) fun j h1 h2 => by simp [List.getD, List.getElem?_eq_none (show bl.length ≤ 8 * (bl.length / 8) + j by omega)]
theorem byteAt_last_lt (bl : List Bool) : byteAt bl (bl.length / 8) < 2 ^ (bl.length % 8) := by rw [byteAt_last]; exact bitsVal_lt _ _
theorem byteAt_snoc (bl : List Bool) (b : Bool) : byteAt (bl ++ [b]) (bl.length / 8) = byteAt bl (bl.length / 8) + if b = true then 2 ^ (bl.length % 8) else 0 := by
  have hx : 8 * (bl.length / 8) + bl.length % 8 = bl.length := Nat.div_add_mod bl.length 8
  rw [byteAt_last]
  unfold byteAt
  rw [bitsVal_cut (bl.length % 8 + 1) 8 (by omega) fun j h1 h2 => by simp [List.getD, List.getElem?_eq_none (show (bl ++ [b]).length ≤ 8 * (bl.length / 8) + j by simp; omega)]]
  rw [bitsVal]
  congr 1
  · exact bitsVal_congr _ fun j hj => by simp [List.getD, List.getElem?_append_left (show 8 * (bl.length / 8) + j < bl.length by omega)]
  · simp only [hx]
    simp [List.getD]
theorem pack_snoc (bl : List Bool) (b : Bool) : packB (bl ++ [b]) = (bytesTo bl (bl.length / 8 + 1)).set (bl.length / 8) ((byteAt bl (bl.length / 8) + if b = true then 2 ^ (bl.length % 8) else 0 : Nat) : Int) := by
  have hl : ((bl ++ [b]).length + 7) / 8 = bl.length / 8 + 1 := by simp; omega
  have hl' : (bl.length + 1 + 7) / 8 = bl.length / 8 + 1 := by omega
  refine List.ext_getElem (by simp [hl']) fun i h1 h2 => ?_
  have hi : i < bl.length / 8 + 1 := by simpa using h2
  rw [List.getElem_set]
  simp only [packB, hl, bytesTo, List.getElem_map, List.getElem_range]
  split
  · rename_i e; subst e; rw [byteAt_snoc]
  · rw [byteAt_snoc_ne _ _ _ (by omega)]
theorem pack_room (bl : List Bool) : bytesTo bl (bl.length / 8 + 1) = if bl.length % 8 = 0 then packB bl ++ [0] else packB bl := by
  split
  · rename_i h
    have hl : (bl.length + 7) / 8 = bl.length / 8 := by omega
    have hb : byteAt bl (bl.length / 8) = 0 := by have := byteAt_last_lt bl; rw [h] at this; omega
    unfold packB bytesTo
    rw [hl, List.range_succ, List.map_append]
    simp [hb]
  · have hl : (bl.length + 7) / 8 = bl.length / 8 + 1 := by omega
    unfold packB
    rw [hl]

/-- The n lowest bits, the lowest one first. -/
def bitsOf (v : Int) (n : Nat) : List Bool := (List.range n).map fun i => decide (v / 2 ^ i % 2 = 1)
@[simp] theorem bitsOf_len (v : Int) (n : Nat) : (bitsOf v n).length = n := by simp [bitsOf]
theorem bitsOf_succ (v : Int) (n : Nat) : bitsOf v (n + 1) = bitsOf v n ++ [decide (v / 2 ^ n % 2 = 1)] := by simp [bitsOf, List.range_succ]
end Go.Proofs.Ytemlkbcfplkniaa.Am
/- Package bits: Writer.Put. -/
namespace Go.Proofs.Ytemlkbcfplkniaa.Am
open Go Go.RowKit

/-- What Put does to the bits that are there, for 0 ≤ n < 64: the bits, and the error. -/
def putM (bl : List Bool) (v n : Int) : List Bool × Int :=
  if v / 2 ^ n.toNat ≠ 0 then (bl, 1) else if 524288 < (bl.length : Int) + n then (bl, 6) else (bl ++ bitsOf v n.toNat, 0)

theorem bit_and (y : Int) (hy : 0 ≤ y) : IntKind.u64.wrap ↑((y % 2 ^ IntKind.u64.bits).toNat &&& 1 % 2 ^ IntKind.u64.bits) = if y % 2 = 1 then 1 else 0 := by
  have h1 : (1 % 2 ^ IntKind.u64.bits : Nat) = 1 := by decide
  have h2 : (2 : Int) ^ IntKind.u64.bits = 18446744073709551616 := by decide
  rw [h1, Nat.and_one_is_mod, h2]
  have h3 : (y % 18446744073709551616).toNat % 2 = if y % 2 = 1 then 1 else 0 := by split <;> omega
  rw [h3]
  split <;> decide
theorem byte_or (x r : Nat) (y : Int) (hy : 0 ≤ y) (hr : r < 8) (hx : x < 2 ^ r) :
    IntKind.u8.wrap ↑(x % 2 ^ IntKind.u8.bits ||| ((IntKind.u8.wrap (IntKind.u8.wrap (IntKind.u64.wrap ↑((y % 2 ^ IntKind.u64.bits).toNat &&& 1 % 2 ^ IntKind.u64.bits)) * 2 ^ min r IntKind.u8.bits)) % 2 ^ IntKind.u8.bits).toNat)
      = ((x + if decide (y % 2 = 1) = true then 2 ^ r else 0 : Nat) : Int) := by
  rw [bit_and y hy]
  have h2 : (2 : Int) ^ IntKind.u8.bits = 256 := by decide
  have hx8 : x < 2 ^ 8 := Nat.lt_of_lt_of_le hx (Nat.pow_le_pow_right (by decide) (by omega))
  have hxr : x % 2 ^ IntKind.u8.bits = x := Nat.mod_eq_of_lt hx8
  have hw : ∀ z : Nat, z < 256 → IntKind.u8.wrap (z : Int) = z := fun z hz => by
    rw [IntKind.wrap_u8]
    omega
  rw [hxr]
  by_cases hb : y % 2 = 1
  · simp only [hb, if_true, decide_true]
    have e : ((IntKind.u8.wrap (IntKind.u8.wrap 1 * 2 ^ min r IntKind.u8.bits)) % 2 ^ IntKind.u8.bits).toNat = 2 ^ r := by
      have : r = 0 ∨ r = 1 ∨ r = 2 ∨ r = 3 ∨ r = 4 ∨ r = 5 ∨ r = 6 ∨ r = 7 := by omega
      rcases this with rfl | rfl | rfl | rfl | rfl | rfl | rfl | rfl <;> decide
    rw [e]
    have h3 := Nat.two_pow_add_eq_or_of_lt hx 1
    rw [Nat.mul_one] at h3
    rw [Nat.or_comm, ← h3, Nat.add_comm]
    have : x + 2 ^ r < 2 ^ (r + 1) := by rw [Nat.pow_succ]; omega
    have : 2 ^ (r + 1) ≤ 2 ^ 8 := Nat.pow_le_pow_right (by decide) (by omega)
    exact hw _ (by omega)
  · simp only [hb, if_false, decide_false]
    have e : ((IntKind.u8.wrap (IntKind.u8.wrap 0 * 2 ^ min r IntKind.u8.bits)) % 2 ^ IntKind.u8.bits).toNat = 0 := by
      have : IntKind.u8.wrap 0 = 0 := by decide
      rw [this, Int.zero_mul, this]; rfl
    rw [e]
    simp
    exact hw x (by omega)

def wSt (bl : List Bool) (e : Int) (b : Nat) : List PV := [.osl b 1 0 ((bl.length + 7) / 8), kI bl.length, kI e]

set_option maxRecDepth 20000 in
theorem Put_fn (bl : List Bool) (v n e : Int) (hv : 0 ≤ v) (hn : 0 ≤ n ∧ n ≤ 63) (hl : bl.length ≤ 524288) : FnD Try.prog 99 [.ptr 0 0, kU v, kI n] [wSt bl e 1, (packB bl).map kU8]
    (kI (putM bl v n).2) [some (wSt (putM bl v n).1 e 2), none, some ((packB (putM bl v n).1).map kU8)] := by
  have hb : ∀ bs : List Int, (bs.map kU8).all PV.immB = true := fun bs => by simp
  refine fng_of Try.func99 rfl (awp_ent (s' := ⟨82, [(0, .ptr 0 0), (1, kU v), (2, kI n)], [some (wSt bl e 2), none, some ((packB bl).map kU8)], 2⟩)
    ((ent_mb 1 ((packB bl).map kU8)).trans (entm [0, 1, 2] (hB := by simp [wSt, imms_ren (hb _), imms_lt (hb _)]))) (awp_go ?_))
  simp [Try.ntmps99, wSt]
  obtain ⟨m, rfl⟩ : ∃ m : Nat, n = m := ⟨n.toNat, by omega⟩
  have h1 : ¬ (m : Int) < 0 := by omega
  have h2 : ¬ 64 < (m : Int) := by omega
  have h3 : (m : Int) < 64 := by omega
  have hdiv : ∀ k : Nat, k ≤ 64 → v.fdiv (2 ^ min k IntKind.u64.bits) = v / 2 ^ k := fun k hk => by
    have : min k IntKind.u64.bits = k := Nat.min_eq_left hk
    rw [this]
    exact Int.fdiv_eq_ediv_of_nonneg _ (by exact Int.pow_nonneg (by omega))
  simp [h1, h2, h3, hdiv m (by omega)]
  by_cases h4 : v / 2 ^ m = 0
  · simp [h4]
    rw [wrap_id (by omega) (by omega)]
    by_cases h5 : 524288 < (bl.length : Int) + m
    · simp [h5]
      exact finGm [0, 1, 2] (hres := by simp [putM, h4, h5]) (hB := by simp [putM, h4, h5, wSt, imms_ren (hb _), imms_lt (hb _)])
    · simp [h5]
      refine awp_loop (fun x : Nat × List Bool => ⟨82, [(0, .ptr 0 0), (1, kU v), (31, kI m), (32, kI x.1)], [some (wSt x.2 e 2), none, some ((packB x.2).map kU8)], 2⟩)
        (fun x => x.1 ≤ m ∧ x.2 = bl ++ bitsOf v x.1) (fun x => m - x.1) (0, bl) ?_ ?_ ?_
      · exact entm [0, 1, 2] (hB := by simp [wSt, imms_ren (hb _), imms_lt (hb _)])
      · simp [bitsOf]
      · rintro ⟨i, xl⟩ ⟨hi, hxl⟩
        simp only at hi hxl
        refine awp_go ?_
        by_cases hlt : i < m
        · obtain ⟨q, hq0⟩ : ∃ q, xl.length / 8 = q := ⟨_, rfl⟩
          obtain ⟨r, hr0⟩ : ∃ r, xl.length % 8 = r := ⟨_, rfl⟩
          have hxlen : xl.length = bl.length + i := by rw [hxl]; simp
          have ht : (xl.length : Int).tmod 8 = r := by rw [Int.tmod_eq_emod_of_nonneg (by omega)]; omega
          have hq : (xl.length : Int).tdiv 8 = q := by rw [Int.tdiv_eq_ediv_of_nonneg (by omega)]; omega
          have ht2 : (xl.length : Int) % 8 = r := by omega
          have hq2 : (xl.length : Int) / 8 = q := by omega
          have hqw : IntKind.i64.wrap (q : Int) = q := wrap_id (by omega) (by omega)
          have hq3 : (q : Int) < (q : Int) + 1 := by omega
          have hi0 : ¬ (i : Int) < 0 := by omega
          have hr1 : ¬ (r : Int) < 0 := by omega
          have hsn := pack_snoc xl (decide (v / 2 ^ i % 2 = 1))
          have hbl := byteAt_last_lt xl
          have hroom := pack_room xl
          rw [hq0, hr0] at hsn hbl
          rw [hq0, hr0] at hroom
          have hb1 : q + 1 ≤ 140737488355328 := by omega
          have hb2 : q + 1 ≤ maxLen := by simp only [maxLen]; omega
          have hB : ((bytesTo xl (q + 1)).map kU8)[q]? = some (kU8 (byteAt xl q)) := by simp [bytesTo]
          have hBl : ((bytesTo xl (q + 1)).map kU8).length = q + 1 := by simp
          have hby : 0 ≤ v / 2 ^ i := Int.ediv_nonneg hv (Int.pow_nonneg (by omega))
          have hor := byte_or (byteAt xl q) r (v / 2 ^ i) hby (by omega) hbl
          have hw1 : IntKind.i64.wrap ((i : Int) + 1) = ((i + 1 : Nat) : Int) := wrap_id (by omega) (by omega)
          have hw2 : IntKind.i64.wrap ((xl.length : Int) + 1) = ((xl.length + 1 : Nat) : Int) := wrap_id (by omega) (by omega)
          have hl2 : (xl.length + 1 + 7) / 8 = q + 1 := by omega
          have hnext : xl ++ [decide (v / 2 ^ i % 2 = 1)] = bl ++ bitsOf v (i + 1) := by rw [bitsOf_succ, ← List.append_assoc, ← hxl]
          by_cases h8 : r = 0
          · have e : List.map kU8 (packB xl) ++ [.k (.int .u8 0)] = (bytesTo xl (q + 1)).map kU8 := by rw [hroom, if_pos h8]; simp
            have e' : (xl.length + 7) / 8 = q := by omega
            simp [hlt, wSt, ht, ht2, h8, e', hb1, hb2]
            rw [e]
            generalize hBe : (bytesTo xl (q + 1)).map kU8 = B at hB hBl ⊢
            have hBg : B[q]'(by omega) = kU8 (byteAt xl q) := (List.getElem?_eq_some_iff.1 hB).2
            refine awp_draw follows_mix [] [(0, [0]), (0, [0]), (0, [0]), (0, [0]), (0, [0]), (0, [0]), (0, [0]), (0, [0]), (0, [0]), (0, [0]), (0, [0]), (0, [0]), (0, [0]), (0, [0]), (0, [0]), (0, [0]), (0, [0]), (0, [0]), (0, [0]), (0, [0]), (0, [0]), (0, [0]), (0, [0]), (0, [0]), (1, [0])] 1 (by kernel_rfl) rfl ?_
            simp [hq, hq2, hqw, hq3, hi0, hr1, hBg, hBl, ht, ht2, hdiv i (by omega)]
            have hfin : List.take q B ++ kU8 ((byteAt xl q + if decide (v / 2 ^ i % 2 = 1) = true then 2 ^ r else 0 : Nat) : Int) :: List.drop (q + 1) B = (packB (xl ++ [decide (v / 2 ^ i % 2 = 1)])).map kU8 := by
              have hqB : q < B.length := by omega
              rw [hsn, List.map_set, hBe, List.set_eq_take_append_cons_drop]
              simp [hqB]
            simp only [hor, hw1, hw2]
            simp only [kU8] at hfin
            rw [hfin]
            exact ⟨i + 1, xl ++ [decide (v / 2 ^ i % 2 = 1)], ⟨by omega, hnext⟩, by omega, entm [0, 1, 4] (hB := by simp [wSt, hl2, imms_ren (hb _), imms_lt (hb _)])⟩
          · have h8' : ¬ (xl.length : Int) % 8 = 0 := by omega
            have e : List.map kU8 (packB xl) = (bytesTo xl (q + 1)).map kU8 := by rw [hroom, if_neg h8]
            have e' : (xl.length + 7) / 8 = q + 1 := by omega
            simp [hlt, wSt, ht, ht2, h8, h8', e']
            rw [e]
            generalize hBe : (bytesTo xl (q + 1)).map kU8 = B at hB hBl ⊢
            have hBg : B[q]'(by omega) = kU8 (byteAt xl q) := (List.getElem?_eq_some_iff.1 hB).2
            refine awp_draw follows_mix [] [(0, [0]), (0, [0]), (0, [0]), (0, [0]), (0, [0]), (0, [0]), (0, [0]), (0, [0]), (0, [0]), (0, [0]), (0, [0]), (0, [0]), (0, [0]), (0, [0]), (0, [0]), (0, [0]), (0, [0]), (0, [0]), (0, [0]), (0, [0]), (0, [0]), (0, [0]), (0, [0]), (0, [0]), (1, [0])] 1 (by kernel_rfl) rfl ?_
            simp [hq, hq2, hqw, hq3, hi0, hr1, hBg, hBl, ht, ht2, hdiv i (by omega)]
            have hfin : List.take q B ++ kU8 ((byteAt xl q + if decide (v / 2 ^ i % 2 = 1) = true then 2 ^ r else 0 : Nat) : Int) :: List.drop (q + 1) B = (packB (xl ++ [decide (v / 2 ^ i % 2 = 1)])).map kU8 := by
              have hqB : q < B.length := by omega
              rw [hsn, List.map_set, hBe, List.set_eq_take_append_cons_drop]
              simp [hqB]
            simp only [hor, hw1, hw2]
            simp only [kU8] at hfin
            rw [hfin]
            exact ⟨i + 1, xl ++ [decide (v / 2 ^ i % 2 = 1)], ⟨by omega, hnext⟩, by omega, entm [0, 1, 2] (hB := by simp [wSt, hl2, imms_ren (hb _), imms_lt (hb _)])⟩
        · obtain rfl : i = m := by omega
          simp [wSt]
          have e1 : (putM bl v i).1 = xl := by simp [putM, h4, h5, hxl]
          have e2 : (putM bl v i).2 = 0 := by simp [putM, h4, h5]
          rw [e1, e2]
          exact finGm [0, 1, 2] (hB := by simp [imms_ren (hb _), imms_lt (hb _)])
  · simp [h4]
    exact finGm [0, 1, 2] (hres := by simp [putM, h4]) (hB := by simp [putM, h4, wSt, imms_ren (hb _), imms_lt (hb _)])
end Go.Proofs.Ytemlkbcfplkniaa.Am
/- Package bits: Writer.Nat, Writer.Int, Writer.Bytes. -/
namespace Go.Proofs.Ytemlkbcfplkniaa.Am
open Go Go.RowKit

/-- How many groups of four bits. -/
def gF : Nat → Nat → Nat
  | 0, _ => 1
  | k + 1, v => if v < 16 then 1 else gF k (v / 16) + 1
theorem gF_pos : ∀ k v, 1 ≤ gF k v ∧ gF k v ≤ k + 1
  | 0, v => by simp [gF]
  | k + 1, v => by
    have := gF_pos k (v / 16)
    unfold gF; split <;> omega
theorem u64_sz : IntKind.u64.bits = 64 := rfl
theorem shr4 (v : Nat) : ((v : Int)).fdiv (2 ^ min 4 IntKind.u64.bits) = ((v / 16 : Nat) : Int) := by
  rw [Int.fdiv_eq_ediv_of_nonneg _ (by decide)]; rfl

set_option maxRecDepth 20000 in
theorem groups_fn (v : Nat) (hv : v < 16 ^ 16) : Fn Try.prog 191 [kU v] (kI (gF 16 v)) := by
  refine fn_go Try.func191 rfl ?_
  simp [Try.ntmps191]
  rw [show (v : Int).fdiv (2 ^ min 4 IntKind.u64.bits) = ((v / 16 : Nat) : Int) from shr4 v]
  refine awp_loop (fun x : Nat × Nat => ⟨13, [(0, kU ((x.2 / 16 : Nat) : Int)), (3, kI x.1)], [], 0⟩) (fun x => 1 ≤ x.1 ∧ x.1 ≤ 17 ∧ x.2 < 16 ^ (17 - x.1) ∧ x.1 - 1 + gF (17 - x.1) x.2 = gF 16 v) (fun x => x.2) (1, v) ?_ ?_ ?_
  · exact entm []
  · simpa using hv
  · rintro ⟨n, y⟩ ⟨h1, h2, h3, h4⟩
    simp only at h1 h2 h3 h4
    refine awp_go ?_
    by_cases hy : y < 16
    · have e : y / 16 = 0 := by omega
      have hg : gF (17 - n) y = 1 := by
        cases h : 17 - n with
        | zero => rfl
        | succ k => rw [gF, if_pos hy]
      simp [e]
      exact finm (by simp; omega)
    · have e : 0 < y / 16 := by omega
      obtain ⟨k, hk⟩ : ∃ k, 17 - n = k + 1 := by
        cases h : 17 - n with
        | zero => rw [h] at h3; simp at h3; omega
        | succ k => exact ⟨k, rfl⟩
      rw [hk] at h3 h4
      rw [gF, if_neg hy] at h4
      have e2 : (0 : Int) < ((y / 16 : Nat) : Int) := by omega
      have hs := shr4 (y / 16)
      have hw : IntKind.i64.wrap ((n : Int) + 1) = ((n + 1 : Nat) : Int) := wrap_id (by omega) (by omega)
      generalize hz : y / 16 = z at e e2 hs h4 ⊢
      simp [e, e2, hs, hw]
      refine ⟨n + 1, z, ⟨by omega, by omega, ?_, ?_⟩, by omega, entm []⟩
      · rw [show 17 - (n + 1) = k by omega]
        rw [Nat.pow_succ] at h3; omega
      · rw [show 17 - (n + 1) = k by omega]; omega

def natG (v : Nat) (i : Nat) : Nat := v / 16 ^ i % 16 + if i + 1 < gF 16 v then 16 else 0
def natBits (v : Nat) : List Bool := (List.range (gF 16 v)).flatMap fun i => bitsOf (natG v i) 5
def natM (bl : List Bool) (v : Nat) : List Bool × Int := if 524288 < bl.length + 5 * gF 16 v then (bl, 6) else (bl ++ natBits v, 0)
theorem natG_lt (v i : Nat) : natG v i < 32 := by unfold natG; split <;> omega
theorem flat5 (f : Nat → Nat) (n : Nat) : ((List.range n).flatMap fun i => bitsOf (f i) 5).length = 5 * n := by
  induction n with
  | zero => rfl
  | succ n ih => rw [List.range_succ, List.flatMap_append, List.length_append, ih]; simp; omega

theorem shr4i (v i : Nat) (hi : i ≤ 16) : (v : Int).fdiv (2 ^ min (4 * (i : Int)).toNat IntKind.u64.bits) = ((v / 16 ^ i : Nat) : Int) := by
  have h1 : min (4 * (i : Int)).toNat IntKind.u64.bits = 4 * i := by
    have : IntKind.u64.bits = 64 := rfl
    omega
  rw [h1, Int.fdiv_eq_ediv_of_nonneg _ (by exact Int.pow_nonneg (by omega))]
  have : (2 : Int) ^ (4 * i) = ((16 ^ i : Nat) : Int) := by rw [Int.pow_mul]; norm_cast
  rw [this]; rfl

theorem wrapU (n : Int) : IntKind.u64.wrap n = n % 18446744073709551616 := by simp [IntKind.wrap, IntKind.bits, IntKind.signed]
theorem and15 (y : Int) (hy : 0 ≤ y) : IntKind.u64.wrap ↑((y % 2 ^ IntKind.u64.bits).toNat &&& 15 % 2 ^ IntKind.u64.bits) = y % 16 := by
  have h1 : (15 % 2 ^ IntKind.u64.bits : Nat) = 2 ^ 4 - 1 := by decide
  have h2 : (2 : Int) ^ IntKind.u64.bits = 18446744073709551616 := by decide
  rw [h1, Nat.and_two_pow_sub_one_eq_mod, h2, wrapU]
  omega
theorem or16 (y : Int) (hy : 0 ≤ y) : IntKind.u64.wrap ↑((IntKind.u64.wrap ↑((y % 2 ^ IntKind.u64.bits).toNat &&& 15 % 2 ^ IntKind.u64.bits) % 2 ^ IntKind.u64.bits).toNat ||| 16 % 2 ^ IntKind.u64.bits) = y % 16 + 16 := by
  rw [and15 y hy]
  have h1 : (16 % 2 ^ IntKind.u64.bits : Nat) = 2 ^ 4 := by decide
  have h2 : (2 : Int) ^ IntKind.u64.bits = 18446744073709551616 := by decide
  have h3 : (y % 16 % 18446744073709551616).toNat < 2 ^ 4 := by omega
  have h4 := Nat.two_pow_add_eq_or_of_lt h3 1
  rw [Nat.mul_one] at h4
  rw [h1, h2, Nat.or_comm, ← h4, wrapU]
  omega
theorem or0 (y : Int) (hy : 0 ≤ y) : IntKind.u64.wrap (max (IntKind.u64.wrap ↑((y % 2 ^ IntKind.u64.bits).toNat &&& 15 % 2 ^ IntKind.u64.bits) % 2 ^ IntKind.u64.bits) 0) = y % 16 := by
  rw [and15 y hy]
  have h2 : (2 : Int) ^ IntKind.u64.bits = 18446744073709551616 := by decide
  rw [h2, wrapU]
  omega

set_option maxRecDepth 20000 in
theorem Nat_fn (bl : List Bool) (v : Nat) (e : Int) (hv : v < 16 ^ 16) (hl : bl.length ≤ 524288) : FnD Try.prog 136 [.ptr 0 0, kU v] [wSt bl e 1, (packB bl).map kU8]
    (kI (natM bl v).2) [some (wSt (natM bl v).1 e 2), none, some ((packB (natM bl v).1).map kU8)] := by
  have hb : ∀ bs : List Int, (bs.map kU8).all PV.immB = true := fun bs => by simp
  have hg := gF_pos 16 v
  refine fng_of Try.func136 rfl (awp_ent (s' := ⟨36, [(0, .ptr 0 0), (1, kU v)], [some (wSt bl e 2), none, some ((packB bl).map kU8)], 2⟩)
    ((ent_mb 1 ((packB bl).map kU8)).trans (entm [0, 1, 2] (hB := by simp [wSt, imms_ren (hb _), imms_lt (hb _)]))) (awp_go ?_))
  simp [Try.ntmps136]
  refine cal (groups_fn v hv) ?_
  have hw1 : IntKind.i64.wrap (5 * (gF 16 v : Int)) = ((5 * gF 16 v : Nat) : Int) := by rw [wrap_id (by omega) (by omega)]; omega
  have hw2 : IntKind.i64.wrap ((bl.length : Int) + ((5 * gF 16 v : Nat) : Int)) = ((bl.length + 5 * gF 16 v : Nat) : Int) := by rw [wrap_id (by omega) (by omega)]; omega
  obtain ⟨g, hgv⟩ : ∃ g, gF 16 v = g := ⟨_, rfl⟩
  rw [hgv] at hg hw1 hw2 ⊢
  have hw3 : IntKind.i64.wrap ((bl.length : Int) + 5 * (g : Int)) = ((bl.length + 5 * g : Nat) : Int) := by rw [wrap_id (by omega) (by omega)]; omega
  simp [wSt, hw1]
  rw [hw3]
  by_cases h5 : 524288 < bl.length + 5 * g
  · have h5' : (524288 : Int) < ((bl.length + 5 * g : Nat) : Int) := by omega
    have e1 : natM bl v = (bl, 6) := by unfold natM; rw [hgv, if_pos h5]
    simp only [h5', decide_true]
    simp [e1]
    exact finGm [0, 1, 2] (hB := by simp [wSt, imms_ren (hb _), imms_lt (hb _)])
  · have h5' : ¬ (524288 : Int) < ((bl.length + 5 * g : Nat) : Int) := by omega
    have e1 : natM bl v = (bl ++ natBits v, 0) := by unfold natM; rw [hgv, if_neg h5]
    simp only [h5', decide_false]
    simp
    refine awp_loop (fun x : Nat × List Bool => ⟨36, [(0, .ptr 0 0), (1, kU v), (5, kI g), (18, kI g), (19, kI x.1)], [some (wSt x.2 e 2), none, some ((packB x.2).map kU8)], 2⟩)
      (fun x => x.1 ≤ g ∧ x.2 = bl ++ (List.range x.1).flatMap fun i => bitsOf (natG v i) 5) (fun x => g - x.1) (0, bl) ?_ ?_ ?_
    · exact entm [0, 1, 2] (hB := by simp [wSt, imms_ren (hb _), imms_lt (hb _)])
    · simp
    · rintro ⟨i, xl⟩ ⟨hi, hxl⟩
      simp only at hi hxl
      refine awp_go ?_
      by_cases hlt : i < g
      · have hxlen : xl.length = bl.length + 5 * i := by rw [hxl, List.length_append, flat5]
        have hwi : IntKind.i64.wrap ((i : Int) + 1) = ((i + 1 : Nat) : Int) := wrap_id (by omega) (by omega)
        have hput : putM xl (natG v i) 5 = (xl ++ bitsOf (natG v i) 5, 0) := by
          have h1 := natG_lt v i
          have h2 : ¬ (524288 : Int) < xl.length + 5 := by omega
          have h3 : ((natG v i : Nat) : Int) / 2 ^ (5 : Int).toNat = 0 := by
            rw [show (2 : Int) ^ (5 : Int).toNat = 32 from rfl]; omega
          unfold putM
          rw [if_neg (by simpa using h3), if_neg h2]; rfl
        have hP := Put_fn xl (natG v i) 5 e (by omega) (by omega) (by omega)
        rw [hput] at hP
        have hnx : xl ++ bitsOf (natG v i) 5 = bl ++ (List.range (i + 1)).flatMap fun i => bitsOf (natG v i) 5 := by
          rw [hxl, List.range_succ, List.flatMap_append, List.append_assoc]; simp
        have hy0 : (0 : Int) ≤ (v : Int) / 16 ^ i := Int.ediv_nonneg (by omega) (Int.pow_nonneg (by omega))
        have h40 : ¬ 4 * (i : Int) < 0 := by omega
        have hsh := shr4i v i (by omega)
        have hw4 : IntKind.i64.wrap (4 * (i : Int)) = ((4 * i : Nat) : Int) := by rw [wrap_id (by omega) (by omega)]; omega
        by_cases hm : i + 1 < g
        · have hm' : (i : Int) + 1 < g := by omega
          simp [hlt, wSt, hwi, hm', hw4, h40, hsh]
          rw [or16 _ hy0, ← show ((natG v i : Nat) : Int) = (v : Int) / 16 ^ i % 16 + 16 by unfold natG; rw [hgv, if_pos hm]; push_cast; rfl]
          refine calD [0, 2] hP ?_ (hbox := by simp [wSt, imms_ren (hb _), imms_lt (hb _)])
          simp [wSt, hwi, imms_ren (hb _), imms_lt (hb _)]
          exact ⟨i + 1, xl ++ bitsOf (natG v i) 5, ⟨by omega, hnx⟩, by omega, entm [0, 1, 3] (hB := by simp [wSt, imms_ren (hb _), imms_lt (hb _)])⟩
        · have hm' : ¬ (i : Int) + 1 < g := by omega
          simp [hlt, wSt, hwi, hm', hw4, h40, hsh]
          rw [or0 _ hy0, ← show ((natG v i : Nat) : Int) = (v : Int) / 16 ^ i % 16 by unfold natG; rw [hgv, if_neg hm]; push_cast; omega]
          refine calD [0, 2] hP ?_ (hbox := by simp [wSt, imms_ren (hb _), imms_lt (hb _)])
          simp [wSt, hwi, imms_ren (hb _), imms_lt (hb _)]
          exact ⟨i + 1, xl ++ bitsOf (natG v i) 5, ⟨by omega, hnx⟩, by omega, entm [0, 1, 3] (hB := by simp [wSt, imms_ren (hb _), imms_lt (hb _)])⟩
      · obtain rfl : i = g := by omega
        simp [wSt]
        have e2 : xl = bl ++ natBits v := by rw [hxl]; unfold natBits; rw [hgv]
        rw [e1, e2]
        exact finGm [0, 1, 2] (hB := by simp [imms_ren (hb _), imms_lt (hb _)])
end Go.Proofs.Ytemlkbcfplkniaa.Am
/- Package bits: Writer.Int, Writer.Bytes; package quant. -/
namespace Go.Proofs.Ytemlkbcfplkniaa.Am
open Go Go.RowKit

def zig (v : Int) : Nat := if 0 ≤ v then (2 * v).toNat else (-2 * v - 1).toNat

theorem xor_ones (a : Nat) (h : a < 2 ^ 64) : a ^^^ (2 ^ 64 - 1) = 2 ^ 64 - 1 - a := by
  have h1 := BitVec.xor_allOnes (x := BitVec.ofNat 64 a)
  have h2 := congrArg BitVec.toNat h1
  rw [BitVec.toNat_xor, BitVec.toNat_not, BitVec.toNat_ofNat, Nat.mod_eq_of_lt h] at h2
  simpa using h2
theorem zig_op (v : Int) (h1 : -4611686018427387904 ≤ v) (h2 : v < 4611686018427387904) :
    IntKind.u64.wrap ↑((IntKind.u64.wrap (IntKind.u64.wrap v * 2 ^ min 1 IntKind.u64.bits) % 2 ^ IntKind.u64.bits).toNat ^^^ (IntKind.u64.wrap (v.fdiv (2 ^ min 63 IntKind.i64.bits)) % 2 ^ IntKind.u64.bits).toNat) = (zig v : Int) := by
  have e1 : (2 : Int) ^ min 1 IntKind.u64.bits = 2 := by decide
  have e2 : (2 : Int) ^ IntKind.u64.bits = 18446744073709551616 := by decide
  have e3 : (2 : Int) ^ min 63 IntKind.i64.bits = 9223372036854775808 := by decide
  rw [e1, e2, e3, Int.fdiv_eq_ediv_of_nonneg _ (by decide)]
  simp only [wrapU]
  unfold zig
  by_cases h0 : 0 ≤ v
  · rw [if_pos h0]
    have a1 : (v % 18446744073709551616 * 2 % 18446744073709551616 % 18446744073709551616).toNat = (2 * v).toNat := by omega
    have a2 : (v / 9223372036854775808 % 18446744073709551616 % 18446744073709551616).toNat = 0 := by omega
    rw [a1, a2, Nat.xor_zero]; omega
  · rw [if_neg h0]
    have a1 : (v % 18446744073709551616 * 2 % 18446744073709551616 % 18446744073709551616).toNat = (18446744073709551616 + 2 * v).toNat := by omega
    have a2 : (v / 9223372036854775808 % 18446744073709551616 % 18446744073709551616).toNat = 2 ^ 64 - 1 := by omega
    rw [a1, a2, xor_ones _ (by omega)]; omega
theorem zig_lt (v : Int) (h1 : -4611686018427387904 ≤ v) (h2 : v < 4611686018427387904) : zig v < 16 ^ 16 := by unfold zig; split <;> omega

set_option maxRecDepth 20000 in
theorem WInt_fn (bl : List Bool) (v e : Int) (h1 : -4611686018427387904 ≤ v) (h2 : v < 4611686018427387904) (hl : bl.length ≤ 524288) : FnD Try.prog 135 [.ptr 0 0, kI v] [wSt bl e 1, (packB bl).map kU8]
    (kI (natM bl (zig v)).2) [some (wSt (natM bl (zig v)).1 e 2), none, some ((packB (natM bl (zig v)).1).map kU8)] := by
  have hb : ∀ bs : List Int, (bs.map kU8).all PV.immB = true := fun bs => by simp
  refine fng_of Try.func135 rfl (awp_ent (s' := ⟨14, [(0, .ptr 0 0), (1, kI v)], [some (wSt bl e 2), none, some ((packB bl).map kU8)], 2⟩)
    ((ent_mb 1 ((packB bl).map kU8)).trans (entm [0, 1, 2] (hB := by simp [wSt, imms_ren (hb _), imms_lt (hb _)]))) (awp_go ?_))
  simp [Try.ntmps135]
  rw [zig_op v h1 h2]
  refine calD [0, 2] (Nat_fn bl (zig v) e (zig_lt v h1 h2) hl) ?_ (hbox := by simp [wSt, imms_ren (hb _), imms_lt (hb _)])
  simp [wSt, imms_ren (hb _), imms_lt (hb _)]
  exact finGm [0, 1, 3] (hB := by simp [wSt, imms_ren (hb _), imms_lt (hb _)])

set_option maxRecDepth 20000 in
theorem WBytes_fn (bl : List Bool) (e : Int) (b : List Int) (hl : bl.length ≤ 524288) : FnD Try.prog 46 [.ptr 0 0] [wSt bl e 1, (packB bl).map kU8]
    (.osl 2 1 0 ((bl.length + 7) / 8)) [some (wSt bl e 1), some ((packB bl).map kU8), some ((packB bl).map kU8)] := by
  have hb : ∀ bs : List Int, (bs.map kU8).all PV.immB = true := fun bs => by simp
  refine fnd_go Try.func46 rfl ?_
  have h1 : (bl.length + 7) / 8 ≤ 140737488355328 := by omega
  have h2 : (bl.length + 7) / 8 ≤ maxLen := by simp only [maxLen]; omega
  have h3 : List.take ((bl.length + 7) / 8) ((packB bl).map kU8) = (packB bl).map kU8 := List.take_of_length_le (by simp)
  simp [Try.ntmps46, wSt, h1, h2]
  rw [h3]
  exact finGm [0, 1, 3] (hB := by simp [imms_ren (hb _), imms_lt (hb _)])
end Go.Proofs.Ytemlkbcfplkniaa.Am
/- Package quant: values of valid fields. -/
namespace Go.Proofs.Ytemlkbcfplkniaa.Am
open Go Go.RowKit

theorem Clamp_fn (a : Int) (h1 : -1099511627776 ≤ a) (h2 : a ≤ 1099511627776) : Fn Try.prog 91 [kI a] (kI a) := by
  refine fn_go Try.func91 rfl ?_
  simp [Try.ntmps91]
  exact finm (by simp; omega)

theorem field_in {f : GField} (h : fieldB f = true) : 1 ≤ f.Bits ∧ f.Bits ≤ 32 ∧ -4294967296 ≤ f.Low ∧ f.Low ≤ 4294967296 := by
  simp only [fieldB, Bool.and_eq_true, decide_eq_true_eq] at h
  omega

set_option maxRecDepth 20000 in
theorem QCheck_fn (f : GField) (hf : fieldB f = true) : Fn Try.prog 98 [.agg f.e] (kI 0) := by
  obtain ⟨h1, h2, h3, h4⟩ := field_in hf
  refine fn_go Try.func98 rfl ?_
  have a1 : ¬ f.Bits < 0 := by omega
  have a2 : ¬ 32 < f.Bits := by omega
  simp [Try.ntmps98, GField.e]
  refine awp_draw follows_mix [] [(0, [0]), (0, [0]), (0, [0]), (0, [0]), (0, [0]), (0, [0]), (0, [0]), (0, [0]), (0, [0]), (0, [0]), (0, [0]), (0, [0]), (0, [0]), (2, [0]), (0, [0]), (0, [0])] 0 (by kernel_rfl) rfl ?_
  simp [a1, a2]
  refine gD_call (kI f.Low) ?_
  simp [a1, a2]
  refine ⟨calO (Clamp_fn f.Low (by omega) (by omega)), ?_⟩
  exact finm

set_option maxRecDepth 20000 in
theorem QFit_fn (f : GField) (v : Int) (hf : fieldB f = true) (h5 : f.Low ≤ v) (h6 : v ≤ highM f) : Fn Try.prog 37 [.agg f.e, kI v] (kI v) := by
  obtain ⟨h1, h2, h3, h4⟩ := field_in hf
  refine fn_go Try.func37 rfl ?_
  simp [Try.ntmps37, GField.e]
  refine cal (Clamp_fn f.Low (by omega) (by omega)) ?_
  have hp := pow_le32 (n := f.Bits.toNat) (by omega)
  have hb : max f.Bits 0 = f.Bits := by omega
  have hb2 : min f.Bits 32 = f.Bits := by omega
  have hb3 : ¬ f.Bits < 0 := by omega
  have hb4 : min f.Bits.toNat IntKind.i64.bits = f.Bits.toNat := Nat.min_eq_left (by show f.Bits.toNat ≤ 64; omega)
  have hh : highM f = f.Low + (2 ^ f.Bits.toNat - 1) := by simp [highM, hf]
  rw [hh] at h6
  have hb5 : ¬ 32 < f.Bits := by omega
  have w1 : IntKind.i64.wrap (2 ^ f.Bits.toNat) = 2 ^ f.Bits.toNat := wrap_id (by omega) (by omega)
  simp [hb3, hb4, hb5, w1]
  generalize (2 : Int) ^ f.Bits.toNat = P at hp h6 ⊢
  have c1 : ¬ v < f.Low := by omega
  have c2 : ¬ f.Low + P - 1 < v := by omega
  rw [wrap_id (x := f.Low + P) (by omega) (by omega), wrap_id (x := f.Low + P - 1) (by omega) (by omega)]
  simp [c1, c2]
  exact finm (by simp)

theorem putM_len (bl : List Bool) (v n : Int) : (putM bl v n).1.length ≤ bl.length + n.toNat := by
  unfold putM; split
  · simp
  · split <;> simp

set_option maxRecDepth 20000 in
theorem QPut_fn (bl : List Bool) (f : GField) (v e : Int) (hf : fieldB f = true) (h5 : f.Low ≤ v) (h6 : v ≤ highM f) (hl : bl.length ≤ 524288) : FnD Try.prog 42 [.ptr 0 0, .agg f.e, kI v] [wSt bl e 1, (packB bl).map kU8]
    (kI (putM bl (v - f.Low) f.Bits).2) [some (wSt (putM bl (v - f.Low) f.Bits).1 e 2), none, some ((packB (putM bl (v - f.Low) f.Bits).1).map kU8)] := by
  obtain ⟨h1, h2, h3, h4⟩ := field_in hf
  have hb : ∀ bs : List Int, (bs.map kU8).all PV.immB = true := fun bs => by simp
  have hp := pow_le32 (n := f.Bits.toNat) (by omega)
  have hh : highM f = f.Low + (2 ^ f.Bits.toNat - 1) := by simp [highM, hf]
  refine fng_of Try.func42 rfl (awp_ent (s' := ⟨27, [(0, .ptr 0 0), (1, .agg f.e), (2, kI v)], [some (wSt bl e 2), none, some ((packB bl).map kU8)], 2⟩)
    ((ent_mb 1 ((packB bl).map kU8)).trans (entm [0, 1, 2] (hB := by simp [wSt, imms_ren (hb _), imms_lt (hb _)]))) (awp_go ?_))
  simp [Try.ntmps42]
  refine cal (QCheck_fn f hf) ?_
  simp
  refine cal (QFit_fn f v hf h5 h6) ?_
  rw [hh] at h6
  have w1 : IntKind.i64.wrap (v - f.Low) = v - f.Low := wrap_id (by omega) (by omega)
  have w2 : IntKind.u64.wrap (v - f.Low) = v - f.Low := by rw [wrapU]; omega
  simp [GField.e, w1, w2]
  refine calD [0, 2] (Put_fn bl (v - f.Low) f.Bits e (by omega) (by omega) hl) ?_ (hbox := by simp [wSt, imms_ren (hb _), imms_lt (hb _)])
  simp [wSt, imms_ren (hb _), imms_lt (hb _)]
  exact finGm [0, 1, 4] (hB := by simp [wSt, imms_ren (hb _), imms_lt (hb _)])
end Go.Proofs.Ytemlkbcfplkniaa.Am
/- The machine of values: bytes as strings; a slice of bytes that is handed on as one; the byte that is looked for. -/
namespace Go.Proofs.Ytemlkbcfplkniaa.Am
open Go Go.RowKit

abbrev slB (xs : List Int) : PV := .sl 1 (xs.map fun n => [.k (.int .u8 n)])

theorem flatB : ∀ xs : List Int, (xs.map fun n => [PV.k (.int .u8 n)]).flatten = xs.map fun n => PV.k (.int .u8 n)
  | [] => rfl
  | x :: xs => by simp [flatB xs]
theorem slB_inv {S : Nat → Prop} {w : World} {v : Value} {xs : List Int} (h : IRel S w v (slB xs)) : ∃ (a : Option Addr) (cap : Nat), v = .slice a xs.length cap ∧ xs.length ≤ cap ∧
    (0 < xs.length → ∃ b o, a = some ⟨b, o, none⟩ ∧ ∀ i, i < xs.length → w.cell? ⟨b, o + i, none⟩ = some (.int .u8 (xs.getD i 0))) := by
  cases h with
  | sl g h1 h2 h3 h4 h5 h6 h7 h8 =>
    rename_i a n cap
    simp at h1; subst h1
    refine ⟨a, cap, rfl, h2, fun hn => ?_⟩
    obtain ⟨b, o, e, hS, hg⟩ := h7 hn
    refine ⟨b, o, e, fun i hi => ?_⟩
    rw [hg i (by omega)]
    have hf := flatB xs
    have := h8 i (.k (.int .u8 xs[i])) (by rw [hf]; simp [hi])
    have hv := (VRel.imm (n := 0) (ι := fun _ => none) this).k_inv.1
    simp [hv, List.getD, hi]

/-- Bytes that nobody writes, as a string. -/
theorem ops_b2sI {P : Program} {ops : Array Oper} {rest : List Oper} {o : Oper} {s : St} {Q : St → Prop} {src dst e : TypeId} {x : Operand} {xs : List Int}
    (h : @gOps (s.put o.dst (kS (strOfNums xs))) ⟨P, ops, rest, Q⟩) (ho : o.op = .convert src dst x := by exact rfl) (hs : P.underlying src = some (.slice e) := by kernel_rfl) (he : P.underlying e = some (.int .u8) := by kernel_rfl) (hd : P.underlying dst = some .string := by kernel_rfl)
    (hx : opd s x = some (slB xs) := by first | exact rfl | simp) (hw : wantedA s ops o = some true := by simp) (hdst : dstOk o.dst s.N = true := by first | exact rfl | simp) : OpsOk P ops (o :: rest) s Q :=
  ops_step hw fun c ι S a w hr K QQ hK => by
    have hv := (opd_rel hr hx).immI rfl
    generalize hev : a.eval x = v at hv
    obtain ⟨ad, cap, rfl, hle, hc⟩ := slB_inv hv
    have hrun : (convert src dst (.slice ad xs.length cap)).run P w = .ok (.string (strOfNums xs)) w := by
      rcases Nat.eq_zero_or_pos xs.length with h0 | h0
      · have hnil : xs = [] := List.length_eq_zero_iff.1 h0
        subst hnil
        cases ad with
        | none => simp [convert, run_underlying hs, run_underlying hd, run_underlying he, Conv.bytesToString, strOfNums]; rfl
        | some ad => simp [convert, run_underlying hs, run_underlying hd, run_underlying he, Conv.bytesToString, strOfNums, loadCells, loadCellsFrom]; rfl
      · obtain ⟨b, off, rfl, hcell⟩ := hc h0
        exact run_convert_bytes_arg w src e hs he b off _ cap xs rfl hcell dst hd
    have : (execOp a.eval o).run P w = .ok (.value (.string (strOfNums xs))) w := by
      unfold execOp
      simp only [ho, hev, Sem.run_bind, hrun, Result.andThen_ok, Sem.run_pure]
    refine wpIn_val this ?_
    exact hK ι S _ _ w (Rel.next hr hr.st (fun _ _ h => h) hdst (.imm (.k rfl))) (ops_goH h)

/-- The place of a byte. -/
theorem ops_idx {P : Program} {ops : Array Oper} {rest : List Oper} {o : Oper} {s : St} {Q : St → Prop} {f : FuncId} {fn : Func} {x y : Operand} {ts : Array TypeId} {xs : List Int} {n : Int}
    (hf : P.funcs[f]? = some fn) (h : @gOps (s.put o.dst (kI (Lib.indexByte (Lib.bytesOf xs) n.toNat.toUInt8))) ⟨P, ops, rest, Q⟩) (hl : 0 < xs.length)
    (ho : o.op = .call { callee := .value (.func f), args := #[x, y], argTypes := ts } := by exact rfl)
    (hname : (fn.name == "runtime.NumGoroutine") = false := by kernel_rfl) (hb : fn.body.isNone = true := by kernel_rfl) (hn : Extern.findNext fn = none := by kernel_rfl) (he : Extern.find fn = some Extern.BytealgIndexByte.indexByte := by kernel_rfl)
    (hx : opd s x = some (slB xs) := by first | exact rfl | simp) (hy : opd s y = some (.k (.int .u8 n)) := by first | exact rfl | simp)
    (hw : wantedA s ops o = some true := by simp) (hd : dstOk o.dst s.N = true := by first | exact rfl | simp) : OpsOk P ops (o :: rest) s Q :=
  ops_step hw fun c ι S a w hr K QQ hK => by
    have hv := (opd_rel hr hx).immI rfl
    have hyv := (opd_rel hr hy).k_inv.1
    generalize hev : a.eval x = v at hv
    obtain ⟨ad, cap, rfl, hle, hc⟩ := slB_inv hv
    obtain ⟨b, off, rfl, hcell⟩ := hc hl
    have hrun := Lib.run_indexByteSlice (P := P) (w := w) b off xs.length cap xs rfl hcell n
    have hef : a.eval (.func f) = .func (.func f) #[] #[] := rfl
    have : (execOp a.eval o).run P w = .ok (.value (.int .i64 (Lib.indexByte (Lib.bytesOf xs) n.toNat.toUInt8))) w := by
      unfold execOp
      simp only [ho, Sem.run_bind, resolve, hef, Deferred.ofValue, Sem.run_pure, Result.andThen_ok, invoke]
      simp only [List.map_toArray, List.map_cons, List.map_nil, Array.append_empty, Array.empty_append, run_callFunc_extern hf hname hb hn he, hev, hyv, hrun, Result.andThen_ok]
    refine wpIn_val this ?_
    exact hK ι S _ _ w (Rel.next hr hr.st (fun _ _ h => h) hd (.imm (.k rfl))) (ops_goH h)

/-- A block that nobody writes gets a mark behind its cells. -/
def World.marked (w : World) (blk : Nat) (C : Array Value) (e : TypeId) : World := { w with heap := w.heap.setIfInBounds blk (.cells C e (C.size, C.size + 1)) }

theorem Store.marked {c : Ctx} {ι : Nat → Option Nat} {S : Nat → Prop} {σ : Boxes} {w : World} (h : Store c ι S σ w) {blk : Nat} {C : Array Value} {e : TypeId} (hw : w.heap[blk]? = some (.cells C e (0, 0))) (hS : S blk) (hl : c.M blk ∨ c.w0.heap.size ≤ blk) :
    Store c ι S σ (World.marked w blk C e) ∧ ∀ m v p, VRel m ι S w v p → VRel m ι S (World.marked w blk C e) v p := by
  have hlt : blk < w.heap.size := (Array.getElem?_eq_some_iff.1 hw).1
  have hoth : ∀ b, b ≠ blk → (World.marked w blk C e).heap[b]? = w.heap[b]? := fun b hb => by simp [World.marked, Array.getElem?_setIfInBounds_ne (Ne.symm hb)]
  have hsame : (World.marked w blk C e).heap[blk]? = some (.cells C e (C.size, C.size + 1)) := by simp [World.marked, hlt]
  have hcell : ∀ b o, (World.marked w blk C e).cell? ⟨b, o, none⟩ = w.cell? ⟨b, o, none⟩ := fun b o => by
    by_cases hb : b = blk
    · subst hb; simp only [World.cell?, hsame, hw]
    · simp only [World.cell?, hoth b hb]
  have hsh : ∀ b x, w.shape? b = some x → (World.marked w blk C e).shape? b = some x := fun b x hx => by
    by_cases hb : b = blk
    · subst hb; simp only [World.shape?, hsame, hw] at hx ⊢; exact hx
    · simp only [World.shape?, hoth b hb] at hx ⊢; exact hx
  have hv : ∀ m v p, VRel m ι S w v p → VRel m ι S (World.marked w blk C e) v p := fun m v p hh =>
    hh.mono (Nat.le_refl _) (fun _ _ => rfl) (fun _ h => h) (fun b o _ => hcell b o) hsh
  refine ⟨⟨h.os, h.tape, h.output, by simpa [World.marked] using h.size, fun b hb hM => ?_, fun b x hx => hsh b x (h.shape b x hx), fun i cs hi => ?_, h.notS, h.live, h.inj, fun b hb => by simpa [World.marked] using h.Slt b hb, h.S0, h.Snew, h.klen, h.kι⟩, hv⟩
  · rw [hoth b (fun e => by subst e; rcases hl with k | k; exact hM k; omega)]; exact h.old b hb hM
  · rcases h.boxes i cs hi with g | ⟨b, c', o, g1, g2, g3, g4⟩
    · exact .inl g
    · refine .inr ⟨b, c', o, g1, ?_, g3, fun j p hj => by obtain ⟨v, hv1, hv2⟩ := g4 j p hj; exact ⟨v, hv1, hv _ _ _ hv2⟩⟩
      rw [hoth b (fun e => h.notS i cs b hi g1 (e ▸ hS))]; exact g2

/-- A fresh slice of bytes that is handed on as a slice of bytes of its own: from then on nobody writes it. -/
theorem ops_conv {P : Program} {ops : Array Oper} {rest : List Oper} {o : Oper} {s : St} {Q : St → Prop} {t e : TypeId} {x : Operand} {b len : Nat} {cs : List PV}
    (h : @gOps ((s.fz b cs).put o.dst (.sl 1 (chunks 1 cs len))) ⟨P, ops, rest, Q⟩) (hl : 0 < len) (hlen : cs.length = len)
    (ho : o.op = .convert t t x := by exact rfl) (ht : P.underlying t = some (.slice e) := by kernel_rfl) (he : P.underlying e = some (.int .u8) := by kernel_rfl)
    (hx : opd s x = some (.osl b 1 0 len) := by first | exact rfl | simp) (hb : box s.σ b = some cs := by first | exact rfl | simp) (hi : cs.all PV.immB = true := by simp) (hk : s.k ≤ b := by simp)
    (hx2 : opd (s.fz b cs) x = some (.sl 1 (chunks 1 cs len)) := by simp) (hw : wantedA s ops o = some true := by simp) (hd : dstOk o.dst s.N = true := by first | exact rfl | simp) : OpsOk P ops (o :: rest) s Q :=
  ops_step hw fun c ι S a w hr K QQ hK => by
    have hv := opd_rel hr hx
    generalize hev : a.eval x = v at hv
    cases hv with
    | imm hi => cases hi
    | osl0 _ => omega
    | osl hbn hlc hcm hib hsh hle =>
      rename_i cap blk e2 m
      obtain ⟨b1, C, e1, hb1, k1, _, hcs⟩ := hr.st.cellsE hb hib hsh
      rw [hb1] at hib
      obtain rfl : b1 = blk := Option.some.inj hib
      have hlive := hr.st.live b cs b1 hb hb1
      obtain ⟨ι', S', hr'⟩ := ent_fz b cs hb hi hk c ι S a w hr
      have hv2 := opd_rel hr' hx2
      rw [hev] at hv2
      have hS1 : S' b1 := by
        have hI := hv2.immI rfl
        cases hI with
        | sl g i1 i2 i3 i4 i5 i6 i7 i8 =>
          obtain ⟨b', o', e', hS', _⟩ := i7 hl
          simp at e'
          rw [e'.1]; exact hS'
      obtain ⟨hst, hm⟩ := hr'.st.marked k1 hS1 hlive
      have hshp : w.shape? b1 = some (e1, C.size) := by simp [World.shape?, k1]
      have hfr : w.freeze ⟨b1, C.size, none⟩ 1 = World.marked w b1 C e1 := by
        unfold World.freeze World.marked
        rw [if_neg (by decide)]
        congr 1
        apply Array.ext
        · simp
        · intro i h1 h2
          simp only [Array.getElem_modify, Array.getElem_setIfInBounds]
          by_cases hbi : b1 = i
          · subst hbi
            have : w.heap[b1]'(by simpa using h1) = .cells C e1 (0, 0) := by
              have := Array.getElem?_eq_some_iff.1 k1
              exact this.2
            simp [this]
          · simp [hbi]; rw [Array.getElem_setIfInBounds (by simpa using h1)]; simp [hbi]
      have hrun : (convert t t (.slice (some ⟨b1, 0, none⟩) len cap)).run P w = .ok (.slice (some ⟨b1, 0, none⟩) len cap) (World.marked w b1 C e1) := by
        simp [convert, run_underlying ht, run_underlying he, markStringish, hshp, hfr]
      have : (execOp a.eval o).run P w = .ok (.value (.slice (some ⟨b1, 0, none⟩) len cap)) (World.marked w b1 C e1) := by
        unfold execOp
        simp only [ho, hev, Sem.run_bind, hrun, Result.andThen_ok, Sem.run_pure]
      refine wpIn_val this ?_
      have hd2 : dstOk o.dst (s.fz b cs).N = true := hd
      exact hK ι' S' _ _ _ (Rel.next hr' hst (fun v p hv => hm _ _ _ hv) hd2 (hm _ _ _ hv2)) (ops_goH h)
end Go.Proofs.Ytemlkbcfplkniaa.Am
/- Package save: the writer's put and name. -/
namespace Go.Proofs.Ytemlkbcfplkniaa.Am
open Go Go.RowKit

abbrev WS := List Bool × Int
abbrev wS (w : WS) (b : Nat) : List PV := wSt w.1 w.2 b
abbrev wB (w : WS) : List PV := (packB w.1).map kU8
def wput (w : WS) (v n : Int) : WS := if w.2 = 0 then putM w.1 v n else w
def wnat (w : WS) (v : Nat) : WS := if w.2 = 0 then natM w.1 v else w
theorem putM_le {bl : List Bool} {v n : Int} (h : bl.length ≤ 524288) (hn : 0 ≤ n) : (putM bl v n).1.length ≤ 524288 := by
  unfold putM; split
  · simpa
  · split
    · simpa
    · simp; omega
theorem natM_le {bl : List Bool} {v : Nat} (h : bl.length ≤ 524288) : (natM bl v).1.length ≤ 524288 := by
  unfold natM; split
  · simpa
  · have : (natBits v).length = 5 * gF 16 v := flat5 _ _
    simp; omega
theorem wput_le {w : WS} {v n : Int} (h : w.1.length ≤ 524288) (hn : 0 ≤ n) : (wput w v n).1.length ≤ 524288 := by
  unfold wput; split
  · exact putM_le h hn
  · exact h
theorem wnat_le {w : WS} {v : Nat} (h : w.1.length ≤ 524288) : (wnat w v).1.length ≤ 524288 := by
  unfold wnat; split
  · exact natM_le h
  · exact h
theorem wB_imm (w : WS) : (wB w).all PV.immB = true := by simp

/-- The writer's box moved to the place at which a call leaves it. -/
theorem ent_w {N : Nat} {T : List (Nat × PV)} (w : WS) (hT : EntT (St.mb ⟨N, T, [some (wS w 1), some (wB w)], 2⟩ 1 (wB w)) (fun i => [0, 1, 2].getD i 0) 3 T := by simp) :
    Ent ⟨N, T, [some (wS w 1), some (wB w)], 2⟩ ⟨N, T, [some (wS w 2), none, some (wB w)], 2⟩ :=
  (ent_mb 1 (wB w)).trans (entm [0, 1, 2] (hT := hT) (hB := by simp [wSt, imms_ren (wB_imm w), imms_lt (wB_imm w)]))

set_option maxRecDepth 20000 in
theorem WPut_fn (w : WS) (v n : Int) (hv : 0 ≤ v) (hn : 0 ≤ n ∧ n ≤ 63) (hl : w.1.length ≤ 524288) : FnD Try.prog 82 [.ptr 0 0, kU v, kI n] [wS w 1, wB w]
    (.tup []) [some (wS (wput w v n) 2), none, some (wB (wput w v n))] := by
  refine fng_of Try.func82 rfl (awp_ent (s' := ⟨20, [(0, .ptr 0 0), (1, kU v), (2, kI n)], [some (wS w 2), none, some (wB w)], 2⟩) (ent_w w) (awp_go ?_))
  have hb : ∀ bs : List Int, (bs.map kU8).all PV.immB = true := fun bs => by simp
  simp [Try.ntmps82, wSt]
  by_cases h0 : w.2 = 0
  · simp [h0]
    refine calD [0, 2] (Put_fn w.1 v n 0 hv hn hl) ?_ (hbox := by simp [wSt, imms_ren (hb _), imms_lt (hb _)])
    have e : wput w v n = putM w.1 v n := by simp [wput, h0]
    rw [e]
    simp [wSt, imms_ren (hb _), imms_lt (hb _)]
    exact finGm [0, 1, 3] (hB := by simp [wSt, imms_ren (hb _), imms_lt (hb _)])
  · have e : wput w v n = w := by simp [wput, h0]
    rw [e]
    simp [h0]
    exact finGm [0, 1, 2] (hB := by simp [wSt, imms_ren (hb _), imms_lt (hb _)])

def lettersL : List Int := [97, 98, 99, 100, 101, 102, 103, 104, 105, 106, 107, 108, 109, 110, 111, 112, 113, 114, 115, 116, 117, 118, 119, 120, 121, 122, 48, 49, 50, 51, 52, 53, 54, 55, 56, 57]
def letIdx (c : UInt8) : Int := Lib.indexByte (Lib.bytesOf lettersL) c
def wchar (w : WS) (c : UInt8) : WS := wput w (IntKind.u64.wrap (letIdx c)) 6
def wname (w : WS) (s : Str) : WS := s.data.toList.foldl wchar (wput w s.size 5)

set_option maxRecDepth 20000 in
theorem IndexByte_fn (xs : List Int) (n : Int) (hl : 0 < xs.length) : Fn Try.prog 190 [slB xs, kU8 n] (kI (Lib.indexByte (Lib.bytesOf xs) n.toNat.toUInt8)) := by
  refine fn_go Try.func190 rfl ?_
  simp [Try.ntmps190]
  refine ops_idx Try.func231 ?_ hl
  simp
  exact finm

set_option maxRecDepth 20000 in
set_option maxHeartbeats 1000000 in
theorem WName_fn (w : WS) (s : Str) (hs : s.size ≤ 1000000) (hl : w.1.length ≤ 524288) : FnD Try.prog 134 [.ptr 0 0, kS s] [wS w 1, wB w]
    (.tup []) [some (wS (wname w s) 2), none, some (wB (wname w s))] := by
  refine fng_of Try.func134 rfl (awp_ent (s' := ⟨25, [(0, .ptr 0 0), (1, kS s)], [some (wS w 2), none, some (wB w)], 2⟩) (ent_w w) (awp_go ?_))
  have hb : ∀ bs : List Int, (bs.map kU8).all PV.immB = true := fun bs => by simp
  have hsz : s.data.toList.length = s.size := by rw [Array.length_toList]; rfl
  have hu : IntKind.u64.wrap (s.size : Int) = s.size := by rw [wrapU]; omega
  simp [Try.ntmps134, hu]
  refine calD [0, 2] (WPut_fn w s.size 5 (by omega) (by omega) hl) ?_ (hbox := by simp [wSt, imms_ren (hb _), imms_lt (hb _)])
  have hl1 : (wput w s.size 5).1.length ≤ 524288 := wput_le hl (by omega)
  obtain ⟨w1, hw1⟩ : ∃ w1, wput w s.size 5 = w1 := ⟨_, rfl⟩
  rw [hw1] at hl1 ⊢
  simp [wSt, imms_ren (hb _), imms_lt (hb _)]
  refine awp_loop (fun x : Nat × WS => ⟨25, [(0, .ptr 0 0), (1, kS s), (11, kI s.size), (12, kI x.1)], [some (wS x.2 2), none, some (wB x.2)], 2⟩)
    (fun x => x.1 ≤ s.size ∧ x.2.1.length ≤ 524288 ∧ (s.data.toList.drop x.1).foldl wchar x.2 = wname w s) (fun x => s.size - x.1) (0, w1) ?_ ?_ ?_
  · exact entm [0, 1, 3] (hB := by simp [wSt, imms_ren (hb _), imms_lt (hb _)])
  · simp [wname, hw1, hl1]
  · rintro ⟨i, x⟩ ⟨hi, hx, hrun⟩
    simp only at hi hx hrun
    refine awp_go ?_
    by_cases hlt : i < s.size
    · obtain ⟨ch, hch⟩ : ∃ ch, s[i] = ch := ⟨_, rfl⟩
      have hdrop : s.data.toList.drop i = ch :: s.data.toList.drop (i + 1) := by
        have hlt2 : i < s.data.toList.length := by rw [hsz]; exact hlt
        rw [List.drop_eq_getElem_cons hlt2]
        congr 1
      rw [hdrop, List.foldl_cons] at hrun
      simp [hlt, wSt]
      refine ops_conv (e := 5) (b := 3) (len := 36) (cs := lettersL.map kU8) ?_ (by omega) rfl (hb := rfl) (hx2 := by simp [show lettersL.length = 36 from rfl])
      have hch2 : s[i]? = some ch := by rw [getElem?_pos s i hlt, hch]
      simp [hlt, hch, hch2, imms_fz (hb _)]
      rw [show chunks 1 (lettersL.map kU8) 36 = lettersL.map fun n => [kU8 n] from rfl]
      have hI := IndexByte_fn lettersL ch.toNat (by decide)
      rw [show ((ch.toNat : Int).toNat).toUInt8 = ch by simp, show Lib.indexByte (Lib.bytesOf lettersL) ch = letIdx ch from rfl] at hI
      refine cal hI ?_
      simp
      have hv : 0 ≤ IntKind.u64.wrap (letIdx ch) := by rw [wrapU]; omega
      refine calD [0, 2] (WPut_fn x (IntKind.u64.wrap (letIdx ch)) 6 hv (by omega) hx) ?_ (hbox := by simp [wSt, imms_ren (hb _), imms_lt (hb _)])
      have hl2 : (wchar x ch).1.length ≤ 524288 := wput_le hx (by omega)
      simp [wSt, imms_ren (hb _), imms_lt (hb _)]
      rw [wrap_id (by omega) (by omega)]
      exact ⟨i + 1, (wchar x ch).1, (wchar x ch).2, ⟨by omega, hl2, hrun⟩, by omega, entm [0, 1, 4] (hB := by simp [wSt, wchar, imms_ren (hb _), imms_lt (hb _)])⟩
    · obtain rfl : i = s.size := by omega
      have : s.data.toList.drop s.size = [] := List.drop_eq_nil_of_le (by rw [hsz]; exact Nat.le_refl _)
      rw [this] at hrun
      simp at hrun
      simp [wSt, ← hrun]
      exact finGm [0, 1, 2] (hB := by simp [wSt, imms_ren (hb _), imms_lt (hb _)])
end Go.Proofs.Ytemlkbcfplkniaa.Am
/- Package save: the writer's comps. -/
namespace Go.Proofs.Ytemlkbcfplkniaa.Am
open Go Go.RowKit

def wvals : List GField → List Int → WS → WS
  | f :: fs, v :: vs, w => wvals fs vs (wput w (v - f.Low) f.Bits)
  | _, _, w => w
def wcomps : Nat → List GKind → List GComp → WS → WS
  | _, [], _, w => w
  | i, _ :: r, [], w => wcomps (i + 1) r [] (wput w 0 1)
  | i, k :: r, c :: l, w => if c.Kind = i then wcomps (i + 1) r l (wvals k.Fields c.Vals (wput w 1 1)) else wcomps (i + 1) r (c :: l) (wput w 0 1)

theorem wvals_le : ∀ {fs : List GField} {vs : List Int} {w : WS}, (∀ f ∈ fs, fieldB f = true) → w.1.length ≤ 524288 → (wvals fs vs w).1.length ≤ 524288
  | [], _, _, _, h => by simpa [wvals] using h
  | _ :: _, [], _, _, h => by simpa [wvals] using h
  | f :: fs, v :: vs, w, hf, h => by
    rw [wvals]
    have := field_in (hf f (by simp))
    exact wvals_le (fun g hg => hf g (by simp [hg])) (wput_le h (by omega))

/-- What the values of valid components are to their fields. -/
def ValsOk (fs : List GField) (vs : List Int) : Prop := vs.length = fs.length ∧ ∀ j (h1 : j < fs.length) (h2 : j < vs.length), fs[j].Low ≤ vs[j] ∧ vs[j] ≤ highM fs[j]
theorem vals_ok {k : GKind} {v : List Int} (h : holdsB k v = true) : (∀ f ∈ k.Fields, fieldB f = true) ∧ ValsOk k.Fields v := by
  obtain ⟨h1, h2, h3⟩ := holds_iff.1 h
  have hf := oneE_fields h1
  refine ⟨hf, h2, fun j hj1 hj2 => ?_⟩
  have := (zip_iff h2).1 h3 j hj1 hj2
  have hfj := hf _ (List.getElem_mem hj1)
  rw [← this]
  exact ⟨nearLo hfj _, nearHi hfj _⟩

set_option maxRecDepth 20000 in
set_option maxHeartbeats 2000000 in
theorem WComps_fn (w : WS) (ks : List GKind) (l : List GComp) (hk : ks.length ≤ 16) (hf : ∀ k ∈ ks, k.Fields.length ≤ 8 ∧ ∀ f ∈ k.Fields, fieldB f = true) (hh : heldGo ks (-1) l = true) (hl : w.1.length ≤ 524288) :
    FnD Try.prog 137 [.ptr 0 0, .sl 2 (ks.map GKind.e), .sl 2 (l.map GComp.e)] [wS w 1, wB w]
    (.tup []) [some (wS (wcomps 0 ks l w) 2), none, some (wB (wcomps 0 ks l w))] := by
  have hll : l.length ≤ 16 := by have := held_len (by omega) hh; omega
  refine fng_of Try.func137 rfl (awp_ent (s' := ⟨68, [(0, .ptr 0 0), (1, .sl 2 (ks.map GKind.e)), (2, .sl 2 (l.map GComp.e))], [some (wS w 2), none, some (wB w)], 2⟩) (ent_w w) (awp_go ?_))
  have hb : ∀ bs : List Int, (bs.map kU8).all PV.immB = true := fun bs => by simp
  simp [Try.ntmps137]
  refine awp_loop (fun x : Nat × Nat × WS => ⟨68, [(0, .ptr 0 0), (1, .sl 2 (ks.map GKind.e)), (2, .sl 2 (l.map GComp.e)), (6, kI x.2.1), (11, kI ks.length), (12, kI x.1)], [some (wS x.2.2 2), none, some (wB x.2.2)], 2⟩)
    (fun x => x.1 ≤ ks.length ∧ x.2.1 ≤ l.length ∧ x.2.2.1.length ≤ 524288 ∧ wcomps x.1 (ks.drop x.1) (l.drop x.2.1) x.2.2 = wcomps 0 ks l w) (fun x => ks.length - x.1) (0, 0, w) ?_ ?_ ?_
  · exact entm [0, 1, 2] (hB := by simp [wSt, imms_ren (hb _), imms_lt (hb _)])
  · simp [hl]
  · rintro ⟨i, at_, x⟩ ⟨hi, hat, hx, hrun⟩
    simp only at hi hat hx hrun
    refine awp_go ?_
    by_cases hlt : i < ks.length
    · obtain ⟨k, hkk⟩ : ∃ k, ks[i] = k := ⟨_, rfl⟩
      have hkm : k ∈ ks := hkk ▸ List.getElem_mem hlt
      obtain ⟨hfl, hff⟩ := hf k hkm
      rw [List.drop_eq_getElem_cons hlt, hkk] at hrun
      have hw1 : IntKind.i64.wrap ((i : Int) + 1) = ((i + 1 : Nat) : Int) := wrap_id (by omega) (by omega)
      by_cases hal : at_ = l.length
      · subst hal
        rw [List.drop_length, wcomps] at hrun
        simp [hlt, wSt]
        refine calD [0, 2] (WPut_fn x 0 1 (by omega) (by omega) hx) ?_ (hbox := by simp [wSt, imms_ren (hb _), imms_lt (hb _)])
        simp [wSt, hw1, imms_ren (hb _), imms_lt (hb _)]
        exact ⟨i + 1, l.length, (wput x 0 1).1, (wput x 0 1).2, ⟨by omega, by omega, wput_le hx (by omega), by rw [List.drop_length]; exact hrun⟩, by omega, entm [0, 1, 3] (hB := by simp [wSt, imms_ren (hb _), imms_lt (hb _)])⟩
      · have hal2 : at_ < l.length := by omega
        have hal3 : ¬ (at_ : Int) = l.length := by omega
        obtain ⟨c, hcc⟩ : ∃ c, l[at_] = c := ⟨_, rfl⟩
        rw [List.drop_eq_getElem_cons hal2, hcc, wcomps] at hrun
        by_cases hck : c.Kind = i
        · rw [if_pos hck] at hrun
          simp [hlt, hal3, hal2, hcc, hck, wSt, GComp.e]
          refine calD [0, 2] (WPut_fn x 1 1 (by omega) (by omega) hx) ?_ (hbox := by simp [wSt, imms_ren (hb _), imms_lt (hb _)])
          obtain ⟨w1, hw1e⟩ : ∃ w1, wput x 1 1 = w1 := ⟨_, rfl⟩
          have hl1 : w1.1.length ≤ 524288 := hw1e ▸ wput_le hx (by omega)
          rw [hw1e] at hrun ⊢
          have hcm : c ∈ l := hcc ▸ List.getElem_mem hal2
          obtain ⟨_, _, hhold⟩ := held_mem hh c hcm
          have hkd : ks.getD c.Kind.toNat k0 = k := by rw [hck]; simp [List.getD, hlt, hkk]
          rw [hkd] at hhold
          obtain ⟨_, hvl, hvr⟩ := vals_ok hhold
          simp [hlt, hkk, GKind.e, wSt, imms_ren (hb _), imms_lt (hb _)]
          refine awp_loop (fun y : Nat × WS => ⟨68, [(0, .ptr 0 0), (1, .sl 2 (ks.map GKind.e)), (2, .sl 2 (l.map GComp.e)), (6, kI at_), (11, kI ks.length), (12, kI i), (36, .sl 3 (k.Fields.map GField.e)), (37, kI k.Fields.length), (38, kI y.1)], [some (wS y.2 2), none, some (wB y.2)], 2⟩)
            (fun y => y.1 ≤ k.Fields.length ∧ y.2.1.length ≤ 524288 ∧ wvals (k.Fields.drop y.1) (c.Vals.drop y.1) y.2 = wvals k.Fields c.Vals w1) (fun y => k.Fields.length - y.1) (0, w1) ?_ ?_ ?_
          · exact entm [0, 1, 3] (hB := by simp [wSt, imms_ren (hb _), imms_lt (hb _)])
          · simp [hl1]
          · rintro ⟨j, y⟩ ⟨hj, hy, hrun2⟩
            simp only at hj hy hrun2
            refine awp_go ?_
            by_cases hjl : j < k.Fields.length
            · have hjv : j < c.Vals.length := by omega
              obtain ⟨f, hfe⟩ : ∃ f, k.Fields[j] = f := ⟨_, rfl⟩
              obtain ⟨v, hve⟩ : ∃ v, c.Vals[j] = v := ⟨_, rfl⟩
              have hffv : fieldB f = true := hfe ▸ hff _ (List.getElem_mem hjl)
              have hr := hvr j hjl hjv
              rw [hfe, hve] at hr
              rw [List.drop_eq_getElem_cons hjl, List.drop_eq_getElem_cons hjv, hfe, hve, wvals] at hrun2
              have hw2 : IntKind.i64.wrap ((j : Int) + 1) = ((j + 1 : Nat) : Int) := wrap_id (by omega) (by omega)
              obtain ⟨hfb1, hfb2, _, _⟩ := field_in hffv
              have hyl : (wput y (v - f.Low) f.Bits).1.length ≤ 524288 := wput_le hy (by omega)
              by_cases h0 : y.2 = 0
              · simp [hjl, hfe, wSt, h0]
                refine awp_draw follows_mix [13] [(0, [0, 1]), (0, [0]), (0, [0]), (0, [0]), (0, [0]), (0, [0]), (0, [0]), (0, [0]), (0, [0]), (0, [0]), (0, [0]), (0, [0]), (0, [0]), (3, [0]), (0, [1]), (0, [1]), (1, [1])] 2 (by kernel_rfl) rfl ?_
                simp [hal2, hcc, GComp.e, hjv, hve]
                have e : wput y (v - f.Low) f.Bits = putM y.1 (v - f.Low) f.Bits := by simp [wput, h0]
                rw [e] at hrun2 hyl
                have hQ := QPut_fn y.1 f v 0 hffv hr.1 hr.2 hy
                obtain ⟨z, hz⟩ : ∃ z, putM y.1 (v - f.Low) f.Bits = z := ⟨_, rfl⟩
                rw [hz] at hQ hrun2 hyl
                refine gD_callW (kI z.2) [some (wSt z.1 0 4), none, none, some f.e, some ((packB z.1).map kU8)] ?_
                simp [hal2, hcc, GComp.e, hjv, hve, wSt, hw2]
                refine ⟨.inl ⟨rfl, doD [0, 2] hQ (hbox := by simp [wSt, imms_ren (hb _), imms_lt (hb _)]) (h2 := by simp [wSt, imms_ren (hb _)])⟩, ?_⟩
                exact ⟨j + 1, z.1, z.2, ⟨by omega, hyl, hrun2⟩, by omega, entm [0, 1, 4] (hB := by simp [wSt, imms_ren (hb _), imms_lt (hb _)])⟩
              · have e : wput y (v - f.Low) f.Bits = y := by simp [wput, h0]
                rw [e] at hrun2
                simp [hjl, hfe, wSt, h0, hw2]
                exact ⟨j + 1, y.1, y.2, ⟨by omega, hy, hrun2⟩, by omega, entm [0, 1, 2] (hB := by simp [wSt, imms_ren (hb _), imms_lt (hb _)])⟩
            · obtain rfl : j = k.Fields.length := by omega
              have e1 : k.Fields.drop k.Fields.length = [] := List.drop_length
              rw [e1] at hrun2
              simp [wvals] at hrun2
              have hw3 : IntKind.i64.wrap ((at_ : Int) + 1) = ((at_ + 1 : Nat) : Int) := wrap_id (by omega) (by omega)
              simp [wSt, hw1, hw3]
              exact ⟨i + 1, at_ + 1, y.1, y.2, ⟨by omega, by omega, hy, by rw [hrun2]; exact hrun⟩, by omega, entm [0, 1, 2] (hB := by simp [wSt, imms_ren (hb _), imms_lt (hb _)])⟩
        · rw [if_neg hck] at hrun
          simp [hlt, hal3, hal2, hcc, hck, wSt, GComp.e]
          refine calD [0, 2] (WPut_fn x 0 1 (by omega) (by omega) hx) ?_ (hbox := by simp [wSt, imms_ren (hb _), imms_lt (hb _)])
          simp [wSt, hw1, imms_ren (hb _), imms_lt (hb _)]
          exact ⟨i + 1, at_, (wput x 0 1).1, (wput x 0 1).2, ⟨by omega, by omega, wput_le hx (by omega), by rw [List.drop_eq_getElem_cons hal2, hcc]; exact hrun⟩, by omega, entm [0, 1, 3] (hB := by simp [wSt, imms_ren (hb _), imms_lt (hb _)])⟩
    · obtain rfl : i = ks.length := by omega
      rw [List.drop_length, wcomps] at hrun
      subst hrun
      simp [wSt]
      exact finGm [0, 1, 2] (hB := by simp [wSt, imms_ren (hb _), imms_lt (hb _)])
end Go.Proofs.Ytemlkbcfplkniaa.Am
/- Package save: the writer's kinds. -/
namespace Go.Proofs.Ytemlkbcfplkniaa.Am
open Go Go.RowKit

def wfield (w : WS) (f : GField) : WS := wnat (wput (wname w f.Name) (f.Bits - 1) 5) (zig f.Low)
def wkind (w : WS) (k : GKind) : WS := k.Fields.foldl wfield (wput (wname w k.Name) k.Fields.length 4)
def wkinds (w : WS) (ks : List GKind) : WS := ks.foldl wkind (wput w ks.length 5)
theorem wchars_le : ∀ {l : List UInt8} {w : WS}, w.1.length ≤ 524288 → (l.foldl wchar w).1.length ≤ 524288
  | [], _, h => h
  | c :: l, w, h => wchars_le (l := l) (wput_le h (by omega))
theorem wname_le {w : WS} {s : Str} (h : w.1.length ≤ 524288) : (wname w s).1.length ≤ 524288 := wchars_le (wput_le h (by omega))
theorem wfield_le {w : WS} {f : GField} (h : w.1.length ≤ 524288) : (wfield w f).1.length ≤ 524288 := wnat_le (wput_le (wname_le h) (by omega))
theorem wfields_le : ∀ {l : List GField} {w : WS}, w.1.length ≤ 524288 → (l.foldl wfield w).1.length ≤ 524288
  | [], _, h => h
  | c :: l, w, h => wfields_le (l := l) (wfield_le h)
theorem wkind_le {w : WS} {k : GKind} (h : w.1.length ≤ 524288) : (wkind w k).1.length ≤ 524288 := wfields_le (wput_le (wname_le h) (by omega))

set_option maxRecDepth 20000 in
set_option maxHeartbeats 2000000 in
theorem WKinds_fn (w : WS) (ks : List GKind) (hk : ks.length ≤ 16) (hn : ∀ k ∈ ks, k.Name.size ≤ 1000000) (hf : ∀ k ∈ ks, k.Fields.length ≤ 8 ∧ ∀ f ∈ k.Fields, fieldB f = true ∧ f.Name.size ≤ 1000000) (hl : w.1.length ≤ 524288) :
    FnD Try.prog 83 [.ptr 0 0, .sl 2 (ks.map GKind.e)] [wS w 1, wB w]
    (.tup []) [some (wS (wkinds w ks) 2), none, some (wB (wkinds w ks))] := by
  refine fng_of Try.func83 rfl (awp_ent (s' := ⟨62, [(0, .ptr 0 0), (1, .sl 2 (ks.map GKind.e))], [some (wS w 2), none, some (wB w)], 2⟩) (ent_w w) (awp_go ?_))
  have hb : ∀ bs : List Int, (bs.map kU8).all PV.immB = true := fun bs => by simp
  have hu : ∀ n : Nat, n ≤ 1000 → IntKind.u64.wrap (n : Int) = n := fun n h => by rw [wrapU]; omega
  simp [Try.ntmps83, hu ks.length (by omega)]
  refine calD [0, 2] (WPut_fn w ks.length 5 (by omega) (by omega) hl) ?_ (hbox := by simp [wSt, imms_ren (hb _), imms_lt (hb _)])
  have hl1 : (wput w ks.length 5).1.length ≤ 524288 := wput_le hl (by omega)
  obtain ⟨w1, hw1⟩ : ∃ w1, wput w ks.length 5 = w1 := ⟨_, rfl⟩
  rw [hw1] at hl1 ⊢
  simp [wSt, imms_ren (hb _), imms_lt (hb _)]
  refine awp_loop (fun x : Nat × WS => ⟨62, [(0, .ptr 0 0), (13, .sl 2 (ks.map GKind.e)), (14, kI ks.length), (15, kI x.1)], [some (wS x.2 2), none, some (wB x.2)], 2⟩)
    (fun x => x.1 ≤ ks.length ∧ x.2.1.length ≤ 524288 ∧ (ks.drop x.1).foldl wkind x.2 = wkinds w ks) (fun x => ks.length - x.1) (0, w1) ?_ ?_ ?_
  · exact entm [0, 1, 3] (hB := by simp [wSt, imms_ren (hb _), imms_lt (hb _)])
  · simp [wkinds, hw1, hl1]
  · rintro ⟨i, x⟩ ⟨hi, hx, hrun⟩
    simp only at hi hx hrun
    refine awp_go ?_
    by_cases hlt : i < ks.length
    · obtain ⟨k, hkk⟩ : ∃ k, ks[i] = k := ⟨_, rfl⟩
      have hkm : k ∈ ks := hkk ▸ List.getElem_mem hlt
      obtain ⟨hfl, hff⟩ := hf k hkm
      rw [List.drop_eq_getElem_cons hlt, hkk, List.foldl_cons] at hrun
      have hw1' : IntKind.i64.wrap ((i : Int) + 1) = ((i + 1 : Nat) : Int) := wrap_id (by omega) (by omega)
      simp [hlt, hkk, wSt, GKind.e]
      refine calD [0, 2] (WName_fn x k.Name (hn k hkm) hx) ?_ (hbox := by simp [wSt, imms_ren (hb _), imms_lt (hb _)])
      have hx1 : (wname x k.Name).1.length ≤ 524288 := wname_le hx
      obtain ⟨x1, hx1e⟩ : ∃ x1, wname x k.Name = x1 := ⟨_, rfl⟩
      rw [hx1e] at hx1 ⊢
      simp [wSt, hu k.Fields.length (by omega), imms_ren (hb _), imms_lt (hb _)]
      refine calD [0, 4] (WPut_fn x1 k.Fields.length 4 (by omega) (by omega) hx1) ?_ (hbox := by simp [wSt, imms_ren (hb _), imms_lt (hb _)])
      have hx2 : (wput x1 k.Fields.length 4).1.length ≤ 524288 := wput_le hx1 (by omega)
      have hkw : wkind x k = k.Fields.foldl wfield (wput x1 k.Fields.length 4) := by rw [← hx1e]; rfl
      obtain ⟨x2, hx2e⟩ : ∃ x2, wput x1 k.Fields.length 4 = x2 := ⟨_, rfl⟩
      rw [hx2e] at hx2 hkw ⊢
      simp [wSt, imms_ren (hb _), imms_lt (hb _)]
      refine awp_loop (fun y : Nat × WS => ⟨62, [(0, .ptr 0 0), (13, .sl 2 (ks.map GKind.e)), (14, kI ks.length), (15, kI i), (30, .sl 3 (k.Fields.map GField.e)), (31, kI k.Fields.length), (32, kI y.1)], [some (wS y.2 2), none, some (wB y.2)], 2⟩)
        (fun y => y.1 ≤ k.Fields.length ∧ y.2.1.length ≤ 524288 ∧ (k.Fields.drop y.1).foldl wfield y.2 = wkind x k) (fun y => k.Fields.length - y.1) (0, x2) ?_ ?_ ?_
      · exact entm [0, 1, 5] (hB := by simp [wSt, imms_ren (hb _), imms_lt (hb _)])
      · simp [hkw, hx2]
      · rintro ⟨j, y⟩ ⟨hj, hy, hrun2⟩
        simp only at hj hy hrun2
        refine awp_go ?_
        by_cases hjl : j < k.Fields.length
        · obtain ⟨f, hfe⟩ : ∃ f, k.Fields[j] = f := ⟨_, rfl⟩
          obtain ⟨hffv, hfn⟩ := hff f (hfe ▸ List.getElem_mem hjl)
          rw [List.drop_eq_getElem_cons hjl, hfe, List.foldl_cons] at hrun2
          obtain ⟨hfb1, hfb2, hfb3, hfb4⟩ := field_in hffv
          have hw2 : IntKind.i64.wrap ((j : Int) + 1) = ((j + 1 : Nat) : Int) := wrap_id (by omega) (by omega)
          have hw3 : IntKind.i64.wrap (f.Bits - 1) = f.Bits - 1 := wrap_id (by omega) (by omega)
          have hw4 : IntKind.u64.wrap (f.Bits - 1) = f.Bits - 1 := by rw [wrapU]; omega
          simp [hjl, hfe, wSt, GField.e]
          refine calD [0, 2] (WName_fn y f.Name hfn hy) ?_ (hbox := by simp [wSt, imms_ren (hb _), imms_lt (hb _)])
          have hy1 : (wname y f.Name).1.length ≤ 524288 := wname_le hy
          have hyf : wfield y f = wnat (wput (wname y f.Name) (f.Bits - 1) 5) (zig f.Low) := rfl
          obtain ⟨y1, hy1e⟩ : ∃ y1, wname y f.Name = y1 := ⟨_, rfl⟩
          rw [hy1e] at hy1 hyf ⊢
          simp [wSt, hw3, hw4, imms_ren (hb _), imms_lt (hb _)]
          refine calD [0, 4] (WPut_fn y1 (f.Bits - 1) 5 (by omega) (by omega) hy1) ?_ (hbox := by simp [wSt, imms_ren (hb _), imms_lt (hb _)])
          have hy2 : (wput y1 (f.Bits - 1) 5).1.length ≤ 524288 := wput_le hy1 (by omega)
          obtain ⟨y2, hy2e⟩ : ∃ y2, wput y1 (f.Bits - 1) 5 = y2 := ⟨_, rfl⟩
          rw [hy2e] at hy2 hyf ⊢
          simp [wSt, imms_ren (hb _), imms_lt (hb _)]
          by_cases h0 : y2.2 = 0
          · have e : wnat y2 (zig f.Low) = natM y2.1 (zig f.Low) := by simp [wnat, h0]
            rw [e] at hyf
            have hQ := WInt_fn y2.1 f.Low 0 (by omega) (by omega) hy2
            have hzl : (natM y2.1 (zig f.Low)).1.length ≤ 524288 := natM_le hy2
            obtain ⟨z, hz⟩ : ∃ z, natM y2.1 (zig f.Low) = z := ⟨_, rfl⟩
            rw [hz] at hQ hyf hzl
            rw [hyf] at hrun2
            simp [h0]
            refine awp_draw follows_mix [6] [(0, [0, 1]), (0, [0]), (0, [0]), (0, [0]), (0, [0]), (0, [0]), (3, [0]), (0, [1]), (0, [1]), (1, [1])] 2 (by kernel_rfl) rfl ?_
            simp
            refine gD_callW (kI z.2) [some (wSt z.1 0 6), none, none, some [kS f.Name, kI f.Bits, kI f.Low], none, none, some ((packB z.1).map kU8)] ?_
            simp [wSt, hw2]
            refine ⟨.inl ⟨rfl, doD [0, 5] hQ (hbox := by simp [wSt, imms_ren (hb _), imms_lt (hb _)]) (h2 := by simp [wSt, imms_ren (hb _)])⟩, ?_⟩
            exact ⟨j + 1, z.1, z.2, ⟨by omega, hzl, hrun2⟩, by omega, entm [0, 1, 6] (hB := by simp [wSt, imms_ren (hb _), imms_lt (hb _)])⟩
          · have e : wnat y2 (zig f.Low) = y2 := by simp [wnat, h0]
            rw [e] at hyf
            rw [hyf] at hrun2
            simp [h0, hw2]
            exact ⟨j + 1, y2.1, y2.2, ⟨by omega, hy2, hrun2⟩, by omega, entm [0, 1, 5] (hB := by simp [wSt, imms_ren (hb _), imms_lt (hb _)])⟩
        · obtain rfl : j = k.Fields.length := by omega
          rw [List.drop_length] at hrun2
          simp at hrun2
          simp [wSt, hw1']
          exact ⟨i + 1, y.1, y.2, ⟨by omega, hy, by rw [hrun2]; exact hrun⟩, by omega, entm [0, 1, 2] (hB := by simp [wSt, imms_ren (hb _), imms_lt (hb _)])⟩
    · obtain rfl : i = ks.length := by omega
      rw [List.drop_length] at hrun
      simp at hrun
      subst hrun
      simp [wSt]
      exact finGm [0, 1, 2] (hB := by simp [wSt, imms_ren (hb _), imms_lt (hb _)])
end Go.Proofs.Ytemlkbcfplkniaa.Am
/- Package save: the writer's items. -/
namespace Go.Proofs.Ytemlkbcfplkniaa.Am
open Go Go.RowKit

def witems (ks : List GKind) : Nat → List Int → List GItem → WS → WS
  | _, [], _, w => w
  | n, g :: gs, [], w => witems ks (n + 1) gs [] (wput (wnat w g.toNat) 0 1)
  | n, g :: gs, it :: r, w => if it.Ent.N = n then witems ks (n + 1) gs r (wcomps 0 ks it.Comps (wput (wnat w g.toNat) 1 1)) else witems ks (n + 1) gs (it :: r) (wput (wnat w g.toNat) 0 1)

theorem wcomps_le : ∀ {ks : List GKind} {i : Nat} {l : List GComp} {w : WS}, (∀ k ∈ ks, ∀ f ∈ k.Fields, fieldB f = true) → w.1.length ≤ 524288 → (wcomps i ks l w).1.length ≤ 524288
  | [], _, _, _, _, h => by simpa [wcomps] using h
  | k :: r, i, [], w, hf, h => by
    rw [wcomps]
    exact wcomps_le (fun k hk => hf k (by simp [hk])) (wput_le h (by omega))
  | k :: r, i, c :: l, w, hf, h => by
    rw [wcomps]
    split
    · exact wcomps_le (fun k hk => hf k (by simp [hk])) (wvals_le (hf k (by simp)) (wput_le h (by omega)))
    · exact wcomps_le (fun k hk => hf k (by simp [hk])) (wput_le h (by omega))

set_option maxRecDepth 20000 in
set_option maxHeartbeats 2000000 in
theorem WItems_fn (w : WS) (W : GWorld) (hk : W.Kinds.length ≤ 16) (hf : ∀ k ∈ W.Kinds, k.Fields.length ≤ 8 ∧ ∀ f ∈ k.Fields, fieldB f = true) (hg : W.Gens.length ≤ 256) (hgv : ∀ g ∈ W.Gens, 0 ≤ g ∧ g ≤ 1073741824)
    (hh : ∀ it ∈ W.Items, heldGo W.Kinds (-1) it.Comps = true) (hil : W.Items.length ≤ 256) (hl : w.1.length ≤ 524288) :
    FnD Try.prog 84 [.ptr 0 0, .agg W.e] [wS w 1, wB w]
    (.tup []) [some (wS (witems W.Kinds 0 W.Gens W.Items (wput w W.Gens.length 9)) 2), none, some (wB (witems W.Kinds 0 W.Gens W.Items (wput w W.Gens.length 9)))] := by
  obtain ⟨ks, gs, its⟩ := W
  simp only at hk hf hg hgv hh hil ⊢
  refine fng_of Try.func84 rfl (awp_ent (s' := ⟨68, [(0, .ptr 0 0), (1, .agg (GWorld.mk ks gs its).e)], [some (wS w 2), none, some (wB w)], 2⟩) (ent_w w) (awp_go ?_))
  have hb : ∀ bs : List Int, (bs.map kU8).all PV.immB = true := fun bs => by simp
  have hu : ∀ n : Nat, n ≤ 1000 → IntKind.u64.wrap (n : Int) = n := fun n h => by rw [wrapU]; omega
  simp [Try.ntmps84, GWorld.e, hu gs.length (by omega)]
  refine calD [0, 2] (WPut_fn w gs.length 9 (by omega) (by omega) hl) ?_ (hbox := by simp [wSt, imms_ren (hb _), imms_lt (hb _)])
  have hl1 : (wput w gs.length 9).1.length ≤ 524288 := wput_le hl (by omega)
  obtain ⟨w1, hw1⟩ : ∃ w1, wput w gs.length 9 = w1 := ⟨_, rfl⟩
  rw [hw1] at hl1 ⊢
  simp [wSt, imms_ren (hb _), imms_lt (hb _)]
  refine awp_loop (fun x : Nat × Nat × WS => ⟨68, [(0, .ptr 0 0), (3, .ptr 3 0), (4, kI x.2.1), (14, slI gs), (15, kI gs.length), (16, kI x.1)], [some (wS x.2.2 2), none, some (wB x.2.2), some [.sl 2 (ks.map GKind.e), slI gs, .sl 3 (its.map GItem.e)]], 2⟩)
    (fun x => x.1 ≤ gs.length ∧ x.2.1 ≤ its.length ∧ x.2.2.1.length ≤ 524288 ∧ witems ks x.1 (gs.drop x.1) (its.drop x.2.1) x.2.2 = witems ks 0 gs its w1) (fun x => gs.length - x.1) (0, 0, w1) ?_ ?_ ?_
  · exact entm [0, 1, 4, 3] (hB := by simp [wSt, imms_ren (hb _), imms_lt (hb _)])
  · simp [hl1]
  · rintro ⟨i, at_, x⟩ ⟨hi, hat, hx, hrun⟩
    simp only at hi hat hx hrun
    refine awp_go ?_
    by_cases hlt : i < gs.length
    · obtain ⟨g, hge⟩ : ∃ g, gs[i] = g := ⟨_, rfl⟩
      obtain ⟨hg1, hg2⟩ := hgv g (hge ▸ List.getElem_mem hlt)
      obtain ⟨m, rfl⟩ : ∃ m : Nat, g = m := ⟨g.toNat, by omega⟩
      rw [List.drop_eq_getElem_cons hlt, hge] at hrun
      have hwi : IntKind.i64.wrap ((i : Int) + 1) = ((i + 1 : Nat) : Int) := wrap_id (by omega) (by omega)
      have hug : IntKind.u64.wrap (m : Int) = m := by rw [wrapU]; omega
      have hxn : (wnat x m).1.length ≤ 524288 := wnat_le hx
      by_cases h0 : x.2 = 0
      · have e : wnat x m = natM x.1 m := by simp [wnat, h0]
        have hQ := Nat_fn x.1 m 0 (by omega) hx
        rw [e] at hxn
        obtain ⟨z, hz⟩ : ∃ z, natM x.1 m = z := ⟨_, rfl⟩
        rw [hz] at hQ hxn e
        simp [hlt, hge, wSt, h0, hug]
        refine calD [0, 2] hQ ?_ (hbox := by simp [wSt, imms_ren (hb _), imms_lt (hb _)])
        by_cases hal : at_ < its.length
        · obtain ⟨it, hite⟩ : ∃ it, its[at_] = it := ⟨_, rfl⟩
          have hitm : it ∈ its := hite ▸ List.getElem_mem hal
          rw [List.drop_eq_getElem_cons hal, hite, witems] at hrun
          simp only [Int.toNat_natCast, e] at hrun
          have hw3 : IntKind.i64.wrap ((at_ : Int) + 1) = ((at_ + 1 : Nat) : Int) := wrap_id (by omega) (by omega)
          by_cases hN : it.Ent.N = i
          · rw [if_pos hN] at hrun
            simp [wSt, hal, hite, GItem.e, hN, imms_ren (hb _), imms_lt (hb _)]
            refine calD [0, 4] (WPut_fn z 1 1 (by omega) (by omega) hxn) ?_ (hbox := by simp [wSt, imms_ren (hb _), imms_lt (hb _)])
            have hz1 : (wput z 1 1).1.length ≤ 524288 := wput_le hxn (by omega)
            obtain ⟨z1, hz1e⟩ : ∃ z1, wput z 1 1 = z1 := ⟨_, rfl⟩
            rw [hz1e] at hz1 hrun ⊢
            simp [wSt, imms_ren (hb _), imms_lt (hb _)]
            have hC := WComps_fn z1 ks it.Comps hk hf (hh it hitm) hz1
            have hz2 : (wcomps 0 ks it.Comps z1).1.length ≤ 524288 := wcomps_le (fun k hkm f hfm => (hf k hkm).2 f hfm) hz1
            obtain ⟨z2, hz2e⟩ : ∃ z2, wcomps 0 ks it.Comps z1 = z2 := ⟨_, rfl⟩
            rw [hz2e] at hC hz2 hrun
            refine awp_draw follows_mix [9] [(0, [0]), (0, [0]), (0, [0]), (0, [0]), (0, [0]), (0, [0]), (0, [0]), (0, [0]), (0, [0]), (3, [0])] 1 (by kernel_rfl) rfl ?_
            simp [hal, hite, GItem.e]
            refine gD_callW (.tup []) [some (wSt z2.1 z2.2 6), none, none, some [.sl 2 (ks.map GKind.e), slI gs, .sl 3 (its.map GItem.e)], none, none, some ((packB z2.1).map kU8)] ?_
            simp [wSt, hwi, hw3, hal, hite, GItem.e]
            refine ⟨.inl ⟨rfl, doD [0, 5] hC (hbox := by simp [wSt, imms_ren (hb _), imms_lt (hb _)]) (h2 := by simp [wSt, imms_ren (hb _)])⟩, ?_⟩
            exact ⟨i + 1, at_ + 1, z2.1, z2.2, ⟨by omega, by omega, hz2, hrun⟩, by omega, entm [0, 1, 6, 3] (hB := by simp [wSt, imms_ren (hb _), imms_lt (hb _)])⟩
          · rw [if_neg hN] at hrun
            simp [wSt, hal, hite, GItem.e, hN, imms_ren (hb _), imms_lt (hb _)]
            refine calD [0, 4] (WPut_fn z 0 1 (by omega) (by omega) hxn) ?_ (hbox := by simp [wSt, imms_ren (hb _), imms_lt (hb _)])
            have hz1 : (wput z 0 1).1.length ≤ 524288 := wput_le hxn (by omega)
            obtain ⟨z1, hz1e⟩ : ∃ z1, wput z 0 1 = z1 := ⟨_, rfl⟩
            rw [hz1e] at hz1 hrun ⊢
            simp [wSt, hwi, imms_ren (hb _), imms_lt (hb _)]
            exact ⟨i + 1, at_, z1.1, z1.2, ⟨by omega, by omega, hz1, by rw [List.drop_eq_getElem_cons hal, hite]; exact hrun⟩, by omega, entm [0, 1, 5, 3] (hB := by simp [wSt, imms_ren (hb _), imms_lt (hb _)])⟩
        · obtain rfl : at_ = its.length := by omega
          rw [List.drop_length, witems] at hrun
          simp only [Int.toNat_natCast, e] at hrun
          simp [wSt, imms_ren (hb _), imms_lt (hb _)]
          refine calD [0, 4] (WPut_fn z 0 1 (by omega) (by omega) hxn) ?_ (hbox := by simp [wSt, imms_ren (hb _), imms_lt (hb _)])
          have hz1 : (wput z 0 1).1.length ≤ 524288 := wput_le hxn (by omega)
          obtain ⟨z1, hz1e⟩ : ∃ z1, wput z 0 1 = z1 := ⟨_, rfl⟩
          rw [hz1e] at hz1 hrun ⊢
          simp [wSt, hwi, imms_ren (hb _), imms_lt (hb _)]
          exact ⟨i + 1, its.length, z1.1, z1.2, ⟨by omega, by omega, hz1, by rw [List.drop_length]; exact hrun⟩, by omega, entm [0, 1, 5, 3] (hB := by simp [wSt, imms_ren (hb _), imms_lt (hb _)])⟩
      · have e : wnat x m = x := by simp [wnat, h0]
        by_cases hal : at_ < its.length
        · obtain ⟨it, hite⟩ : ∃ it, its[at_] = it := ⟨_, rfl⟩
          have hitm : it ∈ its := hite ▸ List.getElem_mem hal
          rw [List.drop_eq_getElem_cons hal, hite, witems] at hrun
          simp only [Int.toNat_natCast, e] at hrun
          have hw3 : IntKind.i64.wrap ((at_ : Int) + 1) = ((at_ + 1 : Nat) : Int) := wrap_id (by omega) (by omega)
          by_cases hN : it.Ent.N = i
          · rw [if_pos hN] at hrun
            simp [hlt, hge, wSt, h0, hug, hal, hite, GItem.e, hN, imms_ren (hb _), imms_lt (hb _)]
            refine calD [0, 2] (WPut_fn x 1 1 (by omega) (by omega) hx) ?_ (hbox := by simp [wSt, imms_ren (hb _), imms_lt (hb _)])
            have hz1 : (wput x 1 1).1.length ≤ 524288 := wput_le hx (by omega)
            obtain ⟨z1, hz1e⟩ : ∃ z1, wput x 1 1 = z1 := ⟨_, rfl⟩
            rw [hz1e] at hz1 hrun ⊢
            simp [wSt, imms_ren (hb _), imms_lt (hb _)]
            have hC := WComps_fn z1 ks it.Comps hk hf (hh it hitm) hz1
            have hz2 : (wcomps 0 ks it.Comps z1).1.length ≤ 524288 := wcomps_le (fun k hkm f hfm => (hf k hkm).2 f hfm) hz1
            obtain ⟨z2, hz2e⟩ : ∃ z2, wcomps 0 ks it.Comps z1 = z2 := ⟨_, rfl⟩
            rw [hz2e] at hC hz2 hrun
            refine awp_draw follows_mix [9] [(0, [0]), (0, [0]), (0, [0]), (0, [0]), (0, [0]), (0, [0]), (0, [0]), (0, [0]), (0, [0]), (3, [0])] 1 (by kernel_rfl) rfl ?_
            simp [hal, hite, GItem.e]
            refine gD_callW (.tup []) [some (wSt z2.1 z2.2 5), none, none, some [.sl 2 (ks.map GKind.e), slI gs, .sl 3 (its.map GItem.e)], none, some ((packB z2.1).map kU8)] ?_
            simp [wSt, hwi, hw3, hal, hite, GItem.e]
            refine ⟨.inl ⟨rfl, doD [0, 4] hC (hbox := by simp [wSt, imms_ren (hb _), imms_lt (hb _)]) (h2 := by simp [wSt, imms_ren (hb _)])⟩, ?_⟩
            exact ⟨i + 1, at_ + 1, z2.1, z2.2, ⟨by omega, by omega, hz2, hrun⟩, by omega, entm [0, 1, 5, 3] (hB := by simp [wSt, imms_ren (hb _), imms_lt (hb _)])⟩
          · rw [if_neg hN] at hrun
            simp [hlt, hge, wSt, h0, hug, hal, hite, GItem.e, hN, imms_ren (hb _), imms_lt (hb _)]
            refine calD [0, 2] (WPut_fn x 0 1 (by omega) (by omega) hx) ?_ (hbox := by simp [wSt, imms_ren (hb _), imms_lt (hb _)])
            have hz1 : (wput x 0 1).1.length ≤ 524288 := wput_le hx (by omega)
            obtain ⟨z1, hz1e⟩ : ∃ z1, wput x 0 1 = z1 := ⟨_, rfl⟩
            rw [hz1e] at hz1 hrun ⊢
            simp [wSt, hwi, imms_ren (hb _), imms_lt (hb _)]
            exact ⟨i + 1, at_, z1.1, z1.2, ⟨by omega, by omega, hz1, by rw [List.drop_eq_getElem_cons hal, hite]; exact hrun⟩, by omega, entm [0, 1, 4, 3] (hB := by simp [wSt, imms_ren (hb _), imms_lt (hb _)])⟩
        · obtain rfl : at_ = its.length := by omega
          rw [List.drop_length, witems] at hrun
          simp only [Int.toNat_natCast, e] at hrun
          simp [hlt, hge, wSt, h0, hug, imms_ren (hb _), imms_lt (hb _)]
          refine calD [0, 2] (WPut_fn x 0 1 (by omega) (by omega) hx) ?_ (hbox := by simp [wSt, imms_ren (hb _), imms_lt (hb _)])
          have hz1 : (wput x 0 1).1.length ≤ 524288 := wput_le hx (by omega)
          obtain ⟨z1, hz1e⟩ : ∃ z1, wput x 0 1 = z1 := ⟨_, rfl⟩
          rw [hz1e] at hz1 hrun ⊢
          simp [wSt, hwi, imms_ren (hb _), imms_lt (hb _)]
          exact ⟨i + 1, its.length, z1.1, z1.2, ⟨by omega, by omega, hz1, by rw [List.drop_length]; exact hrun⟩, by omega, entm [0, 1, 4, 3] (hB := by simp [wSt, imms_ren (hb _), imms_lt (hb _)])⟩
    · obtain rfl : i = gs.length := by omega
      rw [List.drop_length, witems] at hrun
      subst hrun
      simp [wSt]
      exact finGm [0, 1, 2] (hB := by simp [wSt, imms_ren (hb _), imms_lt (hb _)])
end Go.Proofs.Ytemlkbcfplkniaa.Am
/- Package sum: digests of bytes. -/
namespace Go.Proofs.Ytemlkbcfplkniaa.Am
open Go Go.RowKit

/-- Bytes as a number, the lowest one first. -/
def leW : List Int → Int
  | [] => 0
  | c :: r => c + 256 * leW r
def digGo : Nat → Int → List Int → Int
  | 0, d, _ => d
  | k + 1, d, l => if l = [] then d else digGo k (joinM d (leW (l.take 8))) (l.drop 8)
def digB (l : List Int) : Int := digGo l.length (joinM 11170449401992604703 l.length) l
def BytesOk (l : List Int) : Prop := ∀ c ∈ l, 0 ≤ c ∧ c < 256
theorem leW_lt : ∀ {l : List Int}, BytesOk l → 0 ≤ leW l ∧ leW l < 256 ^ l.length
  | [], _ => by simp [leW]
  | c :: r, h => by
    have h1 := h c (by simp)
    have h2 := leW_lt (l := r) fun x hx => h x (by simp [hx])
    rw [leW, List.length_cons, Int.pow_succ]
    omega
theorem leW_snoc : ∀ (l : List Int) (c : Int), leW (l ++ [c]) = leW l + c * 256 ^ l.length
  | [], c => by simp [leW]
  | x :: l, c => by
    rw [List.cons_append, leW, leW_snoc l c, leW, List.length_cons, Int.pow_succ]
    rw [Int.mul_add, Int.add_assoc]
    congr 2
    rw [Int.mul_left_comm, Int.mul_comm 256]
theorem digGo_nil (k : Nat) (d : Int) : digGo k d [] = d := by cases k <;> simp [digGo]

/-- More fuel than there are bytes makes no difference. -/
theorem digGo_mono : ∀ (m k : Nat) (l : List Int), l.length ≤ m → l.length ≤ k → ∀ d, digGo m d l = digGo k d l
  | 0, k, l, h, _, d => by
    obtain rfl : l = [] := List.length_eq_zero_iff.1 (by omega)
    rw [digGo_nil, digGo_nil]
  | m + 1, 0, l, _, h, d => by
    obtain rfl : l = [] := List.length_eq_zero_iff.1 (by omega)
    rw [digGo_nil, digGo_nil]
  | m + 1, k + 1, l, h1, h2, d => by
    rw [digGo, digGo]
    split
    · rfl
    · exact digGo_mono m k (l.drop 8) (by simp; have := List.length_pos_iff.2 ‹¬ l = []›; omega) (by simp; have := List.length_pos_iff.2 ‹¬ l = []›; omega) _

theorem or_word (x c : Int) (i : Nat) (hi : i < 8) (hx : 0 ≤ x) (hx2 : x < 256 ^ i) (hc : 0 ≤ c) (hc2 : c < 256) :
    IntKind.u64.wrap ↑((x % 2 ^ IntKind.u64.bits).toNat ||| (IntKind.u64.wrap (c * 2 ^ min (8 * i) IntKind.u64.bits) % 2 ^ IntKind.u64.bits).toNat) = x + c * 256 ^ i := by
  have e1 : min (8 * i) IntKind.u64.bits = 8 * i := Nat.min_eq_left (by show 8 * i ≤ 64; omega)
  have e2 : (2 : Int) ^ IntKind.u64.bits = 18446744073709551616 := by decide
  have e3 : (2 : Int) ^ (8 * i) = 256 ^ i := by rw [Int.pow_mul]; rfl
  obtain ⟨xn, rfl⟩ := Int.eq_ofNat_of_zero_le hx
  obtain ⟨cn, rfl⟩ := Int.eq_ofNat_of_zero_le hc
  have hx3 : xn < 2 ^ (8 * i) := by
    have : ((xn : Nat) : Int) < ((2 ^ (8 * i) : Nat) : Int) := by rw [Int.natCast_pow]; rw [e3.symm] at hx2; exact hx2
    omega
  have hp : (2 : Nat) ^ (8 * i) * 256 ≤ 2 ^ 64 := by
    have : (2 : Nat) ^ (8 * i) * 256 = 2 ^ (8 * i + 8) := by rw [Nat.pow_add]
    rw [this]; exact Nat.pow_le_pow_right (by decide) (by omega)
  have hcn : cn < 256 := by omega
  have hcp : cn * 2 ^ (8 * i) + 2 ^ (8 * i) ≤ 2 ^ 64 := by
    have : (cn + 1) * 2 ^ (8 * i) ≤ 256 * 2 ^ (8 * i) := Nat.mul_le_mul_right _ (by omega)
    rw [Nat.add_mul] at this
    omega
  have hcast : ((cn : Int) * 256 ^ i) = ((cn * 2 ^ (8 * i) : Nat) : Int) := by rw [← e3]; push_cast; rfl
  rw [e1, e2, e3, hcast]
  have hor := Nat.two_pow_add_eq_or_of_lt hx3 cn
  rw [Nat.mul_comm] at hor
  obtain ⟨q, hq⟩ : ∃ q, cn * 2 ^ (8 * i) = q := ⟨_, rfl⟩
  obtain ⟨p2, hp2⟩ : ∃ p2, 2 ^ (8 * i) = p2 := ⟨_, rfl⟩
  rw [hq] at hcp hor ⊢
  rw [hp2] at hcp hx3
  simp only [wrapU]
  have a1 : ((xn : Int) % 18446744073709551616).toNat = xn := by omega
  have a2 : ((q : Int) % 18446744073709551616 % 18446744073709551616).toNat = q := by omega
  rw [a1, a2, Nat.or_comm, ← hor]
  omega

set_option maxRecDepth 20000 in
set_option maxHeartbeats 1000000 in
theorem SumBytes_fn (l : List Int) (hl : l.length ≤ 1000000) (hb : BytesOk l) : Fn Try.prog 90 [slB l] (kU (digB l)) := by
  refine fn_go Try.func90 rfl ?_
  have hu : IntKind.u64.wrap (l.length : Int) = l.length := by rw [wrapU]; omega
  simp [Try.ntmps90, hu]
  refine cal (Join_fn 11170449401992604703 l.length) ?_
  simp
  refine awp_loop (fun x : List Int × Int => ⟨42, [(0, slB x.1), (3, kU x.2)], [], 0⟩) (fun x => x.1.length ≤ 1000000 ∧ BytesOk x.1 ∧ digGo x.1.length x.2 x.1 = digB l) (fun x => x.1.length) (l, joinM 11170449401992604703 l.length) ?_ ?_ ?_
  · exact entm []
  · exact ⟨hl, hb, rfl⟩
  · rintro ⟨r, d⟩ ⟨hr, hrb, hrun⟩
    simp only at hr hrb hrun
    refine awp_go ?_
    by_cases hnil : r = []
    · subst hnil
      simp [digGo] at hrun
      subst hrun
      simp
      exact finm
    · have hpos : 0 < r.length := List.length_pos_iff.2 hnil
      have hpos' : 0 < (r.length : Int) := by omega
      obtain ⟨n, hn, hn1, hn2, hn3⟩ : ∃ n : Nat, (if 8 < (r.length : Int) then (8 : Int) else r.length) = n ∧ n ≤ r.length ∧ n ≤ 8 ∧ (r.take 8 = r.take n ∧ r.drop 8 = r.drop n ∧ 0 < n) := by
        by_cases h8 : 8 < r.length
        · exact ⟨8, by rw [if_pos (by omega)]; rfl, by omega, by omega, rfl, rfl, by omega⟩
        · exact ⟨r.length, by rw [if_neg (by omega)], by omega, by omega, by rw [List.take_of_length_le (by omega), List.take_length], by rw [List.drop_of_length_le (by omega), List.drop_length], hpos⟩
      have hn4 : (n : Int) ≤ r.length := by omega
      obtain ⟨k, hk⟩ : ∃ k, r.length = k + 1 := ⟨r.length - 1, by omega⟩
      rw [hk, digGo, if_neg hnil, hn3.1, hn3.2.1] at hrun
      simp [hpos, hn, hn4]
      rw [← List.map_take, Nat.min_eq_left hn1]
      obtain ⟨q, hq⟩ : ∃ q, r.take n = q := ⟨_, rfl⟩
      have hql : q.length = n := by rw [← hq]; simp; omega
      have hqb : BytesOk q := fun c hc => hrb c (List.mem_of_mem_take (hq ▸ hc))
      rw [hq] at hrun ⊢
      refine awp_loop (fun j : Nat => ⟨42, [(0, slB r), (3, kU d), (4, kU (leW (q.take j))), (18, slB q), (19, kI n), (20, kI j)], [], 0⟩) (fun j => j ≤ n) (fun j => n - j) 0 ?_ ?_ ?_
      · exact entm [] (hT := by simp [leW])
      · simp
      · intro j hj
        refine awp_go ?_
        by_cases hjl : j < n
        · have hjq : j < q.length := by omega
          obtain ⟨c, hc⟩ : ∃ c, q[j] = c := ⟨_, rfl⟩
          obtain ⟨hc1, hc2⟩ := hqb c (hc ▸ List.getElem_mem hjq)
          have htk : q.take (j + 1) = q.take j ++ [c] := by rw [List.take_add_one, List.getElem?_eq_getElem hjq, hc]; rfl
          have hls := leW_snoc (q.take j) c
          have hlt := leW_lt (l := q.take j) fun x hx => hqb x (List.mem_of_mem_take hx)
          have htl : (q.take j).length = j := by simp; omega
          rw [htl] at hls hlt
          have hor := or_word (leW (q.take j)) c j (by omega) hlt.1 hlt.2 hc1 hc2
          have hw1 : IntKind.i64.wrap (8 * (j : Int)) = ((8 * j : Nat) : Int) := by rw [wrap_id (by omega) (by omega)]; omega
          have hw2 : IntKind.i64.wrap ((j : Int) + 1) = ((j + 1 : Nat) : Int) := wrap_id (by omega) (by omega)
          have hw3 : IntKind.u64.wrap c = c := by rw [wrapU]; omega
          have hw4 : ¬ 8 * (j : Int) < 0 := by omega
          have hw5 : (8 * (j : Int)).toNat = 8 * j := by omega
          simp [hjl, hjq, hc, hw1, hw2, hw3, hw4, hw5]
          rw [hor]
          exact ⟨j + 1, by omega, by omega, entm [] (hT := by simp [htk, hls])⟩
        · obtain rfl : j = n := by omega
          have htq : q.take j = q := List.take_of_length_le (by omega)
          rw [htq]
          simp
          refine awp_drawS follows_mix [(0, 0), (0, 0), (2, 0), (0, 0), (0, 0), (0, 0), (0, 0), (0, 0), (0, 0), (0, 0)] 0 0 [] (by kernel_rfl) rfl rfl ?_
          simp [hn, hn4]
          refine gE_call (kU (joinM d (leW q))) ?_ ?_
          · simp
            exact calO (Join_fn d (leW q))
          have htr : List.take r.length (r.map fun n => [PV.k (.int .u8 n)]) = r.map fun n => [PV.k (.int .u8 n)] := List.take_of_length_le (by simp)
          simp [hn, hn4, htr]
          have hdl : (r.drop j).length = k + 1 - j := by rw [List.length_drop, hk]
          refine ⟨r.drop j, joinM d (leW q), ⟨by omega, fun c hc => hrb c (List.mem_of_mem_drop hc), ?_⟩, by omega, entm [] (hT := by simp)⟩
          rw [hdl, ← hrun]
          exact digGo_mono _ _ _ (by omega) (by omega) _
end Go.Proofs.Ytemlkbcfplkniaa.Am
/- Package save: seal, Write. -/
namespace Go.Proofs.Ytemlkbcfplkniaa.Am
open Go Go.RowKit

theorem chunks_b (l : List Int) : chunks 1 (l.map kU8) l.length = l.map fun n => [kU8 n] := by
  have := chunks_map (f := fun n : Int => [kU8 n]) (z := 1) (fun _ => rfl) l
  rwa [flatB] at this

def tail8 (d : Int) (m : Nat) : List Int := (List.range m).map fun i => d / 256 ^ i % 256
def sealB (l : List Int) : List Int := l ++ tail8 (digB l) 8
theorem joinM_nn (a b : Int) : 0 ≤ joinM a b := by
  unfold joinM mixM mixA
  rw [wrapU]; omega
theorem digGo_nn : ∀ (k : Nat) (d : Int) (l : List Int), 0 ≤ d → 0 ≤ digGo k d l
  | 0, _, _, h => h
  | k + 1, d, l, h => by
    rw [digGo]
    split
    · exact h
    · exact digGo_nn k _ _ (joinM_nn _ _)
theorem digB_nn (l : List Int) : 0 ≤ digB l := digGo_nn _ _ _ (joinM_nn _ _)

set_option maxRecDepth 20000 in
set_option maxHeartbeats 1000000 in
theorem Seal_fn (l : List Int) (hl : l.length ≤ 100000) (hb : BytesOk l) : FnD Try.prog 78 [.osl 0 1 0 l.length] [l.map kU8] (.osl 1 1 0 (sealB l).length) [none, some ((sealB l).map kU8)] := by
  have him : ∀ bs : List Int, (bs.map kU8).all PV.immB = true := fun bs => by simp
  refine fng_of Try.func78 rfl (awp_ent (s' := ⟨20, [(0, .osl 1 1 0 l.length)], [none, some (l.map kU8)], 1⟩)
    ((ent_mb 0 (l.map kU8)).trans (entm [0, 1] (hB := by simp [imms_ren (him _), imms_lt (him _)]))) (awp_go ?_))
  simp [Try.ntmps78]
  refine calS (SumBytes_fn l (by omega) hb) ?_ (hren := by simp [chunks_b])
  have hd0 := digB_nn l
  have hse : sealB l = l ++ tail8 (digB l) 8 := rfl
  obtain ⟨d, hd⟩ : ∃ d, digB l = d := ⟨_, rfl⟩
  rw [hd] at hd0 hse ⊢
  simp
  refine awp_loop (fun i : Nat => ⟨20, [(0, .osl 1 1 0 (l.length + i)), (3, kU d), (7, kI i)], [none, some ((l ++ tail8 d i).map kU8)], 1⟩) (fun i => i ≤ 8) (fun i => 8 - i) 0 ?_ ?_ ?_
  · exact entm [0, 1] (hB := by simp [tail8, imms_ren (him _), imms_lt (him _)])
  · simp
  · intro i hi
    refine awp_go ?_
    by_cases hlt : i < 8
    · have hw1 : IntKind.i64.wrap (8 * (i : Int)) = ((8 * i : Nat) : Int) := by rw [wrap_id (by omega) (by omega)]; omega
      have hw2 : IntKind.i64.wrap ((i : Int) + 1) = ((i + 1 : Nat) : Int) := wrap_id (by omega) (by omega)
      have hw4 : ¬ 8 * (i : Int) < 0 := by omega
      have hlt' : (i : Int) < 8 := by omega
      have hb1 : l.length + i + 1 ≤ 140737488355328 := by omega
      have hb2 : l.length + i + 1 ≤ maxLen := by simp only [maxLen]; omega
      have htl : (tail8 d i).length = i := by simp [tail8]
      simp [hlt, hlt', hw1, hw2, hw4, hb1, hb2, htl]
      have hby : IntKind.u8.wrap (d.fdiv (2 ^ min (8 * (i : Int)).toNat IntKind.u64.bits)) = d / 256 ^ i % 256 := by
        have e1 : min (8 * (i : Int)).toNat IntKind.u64.bits = 8 * i := by
          have : IntKind.u64.bits = 64 := rfl
          omega
        rw [e1, Int.fdiv_eq_ediv_of_nonneg _ (by exact Int.pow_nonneg (by omega)), IntKind.wrap_u8, Int.pow_mul]; rfl
      rw [hby]
      have hsn : tail8 d (i + 1) = tail8 d i ++ [d / 256 ^ i % 256] := by simp [tail8, List.range_succ]
      exact ⟨i + 1, by omega, by omega, entm [0, 3] (hT := by simp; omega) (hB := by simp [hsn, imms_ren (him _), imms_lt (him _)])⟩
    · obtain rfl : i = 8 := by omega
      simp
      have h8 : l.length + 8 = (sealB l).length := by simp [sealB, tail8]
      rw [h8]
      exact finGm [0, 1] (hB := by simp [hse, imms_ren (him _), imms_lt (him _)])

def writeW (W : GWorld) : WS := witems W.Kinds 0 W.Gens W.Items (wput (wkinds (wput ([], 0) 1 8) W.Kinds) W.Gens.length 9)
def writeM (W : GWorld) : List Int × Int :=
  if checkW W ≠ 0 then ([], checkW W) else if (writeW W).2 ≠ 0 ∨ 65536 < (packB (writeW W).1).length + 8 then ([], 2) else (sealB (packB (writeW W).1), 0)

theorem pack_ok (bl : List Bool) : BytesOk (packB bl) := fun c hc => by
  unfold packB bytesTo at hc
  obtain ⟨i, _, rfl⟩ := List.mem_map.1 hc
  have := byteAt_lt bl i
  omega
theorem wkinds_le {l : List GKind} : ∀ {w : WS}, w.1.length ≤ 524288 → (l.foldl wkind w).1.length ≤ 524288 := by
  induction l with
  | nil => exact fun h => h
  | cons k l ih => exact fun h => ih (wkind_le h)
theorem witems_le {ks : List GKind} (hf : ∀ k ∈ ks, ∀ f ∈ k.Fields, fieldB f = true) : ∀ {gs : List Int} {n : Nat} {its : List GItem} {w : WS}, w.1.length ≤ 524288 → (witems ks n gs its w).1.length ≤ 524288
  | [], n, its, w, h => by simpa [witems] using h
  | g :: gs, n, [], w, h => by
    rw [witems]; exact witems_le hf (wput_le (wnat_le h) (by omega))
  | g :: gs, n, it :: r, w, h => by
    rw [witems]
    split
    · exact witems_le hf (wcomps_le hf (wput_le (wnat_le h) (by omega)))
    · exact witems_le hf (wput_le (wnat_le h) (by omega))

set_option maxRecDepth 20000 in
set_option maxHeartbeats 1000000 in
theorem Write_fn (W : GWorld) (hfi : Fine W) (hvl : ∀ it ∈ W.Items, ∀ c ∈ it.Comps, c.Vals.length ≤ 1000) : Fn Try.prog 32 [.agg W.e] (.tup [slB (writeM W).1, kI (writeM W).2]) := by
  have him : ∀ bs : List Int, (bs.map kU8).all PV.immB = true := fun bs => by simp
  refine fn_go Try.func32 rfl ?_
  simp [Try.ntmps32]
  refine cal (WCheck_fn W hfi hvl) ?_
  by_cases hc : checkW W = 0
  · obtain ⟨hfi2, hcc⟩ := checkW_fine hc
    obtain ⟨ce, cg, ci, cn, cit⟩ := checkW_iff.1 hc
    obtain ⟨ce1, ce2⟩ := checkE_le ce
    have hone := checkE_one ce
    have hgv : ∀ g ∈ W.Gens, 0 ≤ g ∧ g ≤ 1073741824 := fun g hg => by
      have := List.any_eq_false.1 cn g hg
      simp at this; omega
    have hff : ∀ k ∈ W.Kinds, ∀ f ∈ k.Fields, fieldB f = true := fun k hk => oneE_fields (hone k hk)
    have hh := items_held cit
    have hfn : ∀ f : GField, fieldB f = true → f.Name.size ≤ 1000000 := fun f h => by
      simp only [fieldB, nameB, Bool.and_eq_true, decide_eq_true_eq] at h; omega
    simp [hc]
    refine ops_ent (ent_nilb (b := 1) (j := 0) (z := 1) rfl rfl) (ops_goH ?_)
    refine calD [1, 2] (WPut_fn ([], 0) 1 8 (by omega) (by omega) (by simp)) ?_ (hbox := by simp [wSt, show wB ([], 0) = [] from rfl])
    have h1 : (wput ([], 0) 1 8).1.length ≤ 524288 := wput_le (by simp) (by omega)
    have hW : writeW W = witems W.Kinds 0 W.Gens W.Items (wput (wkinds (wput ([], 0) 1 8) W.Kinds) W.Gens.length 9) := rfl
    obtain ⟨w1, hw1⟩ : ∃ w1, wput ([], 0) 1 8 = w1 := ⟨_, rfl⟩
    rw [hw1] at h1 hW ⊢
    simp [wSt, imms_ren (him _), imms_lt (him _)]
    refine calD [1, 3] (WKinds_fn w1 W.Kinds ce1 (fun k hk => ?_) (fun k hk => ⟨ce2 k hk, fun f hf => ⟨hff k hk f hf, hfn f (hff k hk f hf)⟩⟩) h1) ?_ (hbox := by simp [wSt, imms_ren (him _), imms_lt (him _)])
    · have := hone k hk
      unfold oneE at this
      split at this
      · rename_i hnm; simp only [nameB, Bool.and_eq_true, decide_eq_true_eq] at hnm; omega
      · simp at this
    have h2 : (wkinds w1 W.Kinds).1.length ≤ 524288 := wkinds_le (wput_le h1 (by omega))
    obtain ⟨w2, hw2⟩ : ∃ w2, wkinds w1 W.Kinds = w2 := ⟨_, rfl⟩
    rw [hw2] at h2 hW ⊢
    simp [wSt, imms_ren (him _), imms_lt (him _)]
    refine calD [1, 4] (WItems_fn w2 W ce1 (fun k hk => ⟨ce2 k hk, hff k hk⟩) cg hgv hh (by omega) h2) ?_ (hbox := by simp [wSt, imms_ren (him _), imms_lt (him _)])
    have h3 : (writeW W).1.length ≤ 524288 := hW ▸ witems_le hff (wput_le h2 (by omega))
    rw [← hW]
    have hM : writeM W = if (writeW W).2 ≠ 0 ∨ 65536 < (packB (writeW W).1).length + 8 then ([], 2) else (sealB (packB (writeW W).1), 0) := by simp [writeM, hc]
    obtain ⟨w3, hw3⟩ : ∃ w3, writeW W = w3 := ⟨_, rfl⟩
    rw [hw3] at h3 hM ⊢
    simp [wSt, imms_ren (him _), imms_lt (him _)]
    refine calD [1, 5] (WBytes_fn w3.1 w3.2 [] h3) ?_ (hbox := by simp [wSt, imms_ren (him _), imms_lt (him _)])
    simp [wSt, imms_ren (him _), imms_lt (him _)]
    by_cases h0 : w3.2 = 0
    · have hpl : (packB w3.1).length = (w3.1.length + 7) / 8 := packB_len _
      have hw4 : IntKind.i64.wrap ((((w3.1.length + 7) / 8 : Nat) : Int) + 8) = (((w3.1.length + 7) / 8 + 8 : Nat) : Int) := by rw [wrap_id (by omega) (by omega)]; omega
      obtain ⟨m, hm⟩ : ∃ m, (w3.1.length + 7) / 8 = m := ⟨_, rfl⟩
      rw [hm] at hpl hw4
      by_cases h5 : 65536 < m + 8
      · have h5' : (65536 : Int) < ((m + 8 : Nat) : Int) := by omega
        have h5'' : (65536 : Int) < (m : Int) + 8 := by omega
        rw [hpl, if_pos (.inr h5)] at hM
        rw [hM, hm]
        simp [h0, hw4, h5'']
        refine fin_ent (ent_nilsl (t := 2) (z := 1) rfl) ?_
        exact finm (by simp)
      · have h5'' : ¬ (65536 : Int) < (m : Int) + 8 := by omega
        rw [hpl, if_neg (by omega)] at hM
        rw [hM, hm]
        have hS := Seal_fn (packB w3.1) (by omega) (pack_ok _)
        rw [hpl] at hS
        simp [h0, hw4, h5'']
        refine calD [6] hS ?_ (hbox := by simp [imms_ren (him _), imms_lt (him _)])
        simp [imms_ren (him _), imms_lt (him _)]
        refine fin_fz 7 ((sealB (packB w3.1)).map kU8) ?_
        simp [chunks_b]
        exact finm (by simp)
    · simp [h0]
      rw [if_pos (.inl h0)] at hM
      rw [hM]
      refine fin_ent (ent_nilsl (t := 2) (z := 1) rfl) ?_
      exact finm (by simp)
  · simp [hc]
    have e : writeM W = ([], checkW W) := by simp [writeM, hc]
    rw [e]
    refine fin_ent (ent_nilsl (t := 2) (z := 1) rfl) ?_
    exact finm (by simp)
end Go.Proofs.Ytemlkbcfplkniaa.Am
/- Package bits: the reader's Left and Get. -/
namespace Go.Proofs.Ytemlkbcfplkniaa.Am
open Go Go.RowKit

def bitAt (bs : List Int) (i : Nat) : Nat := (bs.getD (i / 8) 0 / 2 ^ (i % 8) % 2).toNat
def getV (bs : List Int) (p : Nat) : Nat → Nat
  | 0 => 0
  | n + 1 => getV bs p n + bitAt bs (p + n) * 2 ^ n
/-- A reader's box: the bytes, the place. -/
abbrev rSt (bs : List Int) (p : Nat) : List PV := [slB bs, kI p]
/-- What Get gives: the value, the error, the place. -/
def getM (bs : List Int) (p n : Nat) : Nat × Int × Nat := if 8 * bs.length < p + n then (0, 14, p) else (getV bs p n, 0, p + n)
theorem bitAt_lt (bs : List Int) (i : Nat) : bitAt bs i < 2 := by unfold bitAt; omega
theorem getV_lt (bs : List Int) (p : Nat) : ∀ n, getV bs p n < 2 ^ n
  | 0 => by simp [getV]
  | n + 1 => by
    have h1 := getV_lt bs p n
    have h2 := bitAt_lt bs (p + n)
    have h3 : bitAt bs (p + n) * 2 ^ n ≤ 1 * 2 ^ n := Nat.mul_le_mul_right _ (by omega)
    rw [getV, Nat.pow_succ]; omega

theorem bit8 (c : Int) (r : Nat) (h1 : 0 ≤ c) (h2 : c < 256) (hr : r < 8) : IntKind.u8.wrap ↑((c.fdiv (2 ^ min r IntKind.u8.bits) % 2 ^ IntKind.u8.bits).toNat &&& 1 % 2 ^ IntKind.u8.bits) = ((c / 2 ^ r % 2).toNat : Int) := by
  have e1 : min r IntKind.u8.bits = r := Nat.min_eq_left (by show r ≤ 8; omega)
  have e2 : (2 : Int) ^ IntKind.u8.bits = 256 := by decide
  have e3 : (1 % 2 ^ IntKind.u8.bits : Nat) = 1 := by decide
  rw [e1, e2, e3, Int.fdiv_eq_ediv_of_nonneg _ (by exact Int.pow_nonneg (by omega)), Nat.and_one_is_mod, IntKind.wrap_u8]
  have h3 : 0 ≤ c / 2 ^ r := Int.ediv_nonneg h1 (Int.pow_nonneg (by omega))
  have h4 : c / 2 ^ r ≤ c := Int.ediv_le_self _ h1
  generalize c / 2 ^ r = y at h3 h4 ⊢
  omega
theorem or_get (x b i : Nat) (hi : i ≤ 63) (hx : x < 2 ^ i) (hb : b < 2) :
    IntKind.u64.wrap ↑(x % 2 ^ IntKind.u64.bits ||| (IntKind.u64.wrap (IntKind.u64.wrap (b : Int) * 2 ^ min i IntKind.u64.bits) % 2 ^ IntKind.u64.bits).toNat) = ((x + b * 2 ^ i : Nat) : Int) := by
  have e1 : min i IntKind.u64.bits = i := Nat.min_eq_left (by show i ≤ 64; omega)
  have e2 : (2 : Int) ^ IntKind.u64.bits = 18446744073709551616 := by decide
  have e3 : (2 : Nat) ^ IntKind.u64.bits = 18446744073709551616 := by decide
  have hp : 2 ^ i * 2 ≤ 18446744073709551616 := by
    have : (2 : Nat) ^ i * 2 = 2 ^ (i + 1) := by rw [Nat.pow_succ]
    rw [this]
    exact Nat.le_trans (Nat.pow_le_pow_right (by decide) (show i + 1 ≤ 64 by omega)) (by decide)
  have hbp : b * 2 ^ i ≤ 1 * 2 ^ i := Nat.mul_le_mul_right _ (by omega)
  have hor := Nat.two_pow_add_eq_or_of_lt hx b
  rw [Nat.mul_comm] at hor
  have hcast : ((b : Int) * 2 ^ i) = ((b * 2 ^ i : Nat) : Int) := by push_cast; rfl
  have hbw : IntKind.u64.wrap (b : Int) = b := by rw [wrapU]; omega
  rw [e1, e2, e3, hbw, hcast]
  obtain ⟨q, hq⟩ : ∃ q, b * 2 ^ i = q := ⟨_, rfl⟩
  obtain ⟨p2, hp2⟩ : ∃ p2, 2 ^ i = p2 := ⟨_, rfl⟩
  rw [hq] at hbp hor ⊢
  rw [hp2] at hp hbp hx
  simp only [wrapU]
  have a1 : x % 18446744073709551616 = x := by omega
  have a2 : ((q : Int) % 18446744073709551616 % 18446744073709551616).toNat = q := by omega
  rw [a1, a2, Nat.or_comm, ← hor]
  omega

set_option maxRecDepth 20000 in
theorem Left_fn (bs : List Int) (p : Nat) (hl : bs.length ≤ 100000) (hp : p ≤ 8 * bs.length) : FnD Try.prog 149 [.ptr 0 0] [rSt bs p] (kI ((8 * bs.length - p : Nat) : Int)) [some (rSt bs p)] := by
  refine fnd_go Try.func149 rfl ?_
  have hw1 : IntKind.i64.wrap (8 * (bs.length : Int)) = ((8 * bs.length : Nat) : Int) := by rw [wrap_id (by omega) (by omega)]; omega
  have hw2 : IntKind.i64.wrap (8 * (bs.length : Int) - p) = ((8 * bs.length - p : Nat) : Int) := by rw [wrap_id (by omega) (by omega)]; omega
  simp [Try.ntmps149]
  refine awp_draw follows_mix [] [(0, [0]), (0, [0]), (0, [0]), (0, [0]), (0, [0]), (0, [0]), (0, [0]), (0, [0]), (0, [0]), (0, [0]), (0, [0]), (0, [0])] 0 (by kernel_rfl) rfl ?_
  simp [hw1, hw2]
  exact finGm [0]

set_option maxRecDepth 20000 in
set_option maxHeartbeats 1000000 in
theorem Get_fn (bs : List Int) (p n : Nat) (hn : n ≤ 63) (hl : bs.length ≤ 100000) (hb : BytesOk bs) (hp : p ≤ 8 * bs.length) : FnD Try.prog 100 [.ptr 0 0, kI n] [rSt bs p]
    (.tup [kU (getM bs p n).1, kI (getM bs p n).2.1]) [some (rSt bs (getM bs p n).2.2)] := by
  refine fnd_go Try.func100 rfl ?_
  have h1 : ¬ (n : Int) < 0 := by omega
  have h2 : ¬ 64 < (n : Int) := by omega
  simp [Try.ntmps100, h1, h2]
  refine calD [0] (Left_fn bs p hl hp) ?_
  by_cases h3 : 8 * bs.length < p + n
  · have e : getM bs p n = (0, 14, p) := by simp [getM, h3]
    have h3' : ((8 * bs.length - p : Nat) : Int) < n := by omega
    obtain ⟨q, hq⟩ : ∃ q, 8 * bs.length - p = q := ⟨_, rfl⟩
    rw [hq] at h3' ⊢
    rw [e]
    simp [h3']
    exact finGm [0]
  · have e : getM bs p n = (getV bs p n, 0, p + n) := by simp [getM, h3]
    have h3' : ¬ ((8 * bs.length - p : Nat) : Int) < n := by omega
    obtain ⟨q, hq⟩ : ∃ q, 8 * bs.length - p = q := ⟨_, rfl⟩
    rw [hq] at h3' ⊢
    rw [e]
    simp [h3']
    refine awp_loop (fun i : Nat => ⟨54, [(0, .ptr 0 0), (6, kU (getV bs p i)), (18, kI n), (19, kI i)], [some (rSt bs (p + i))], 1⟩) (fun i => i ≤ n) (fun i => n - i) 0 ?_ ?_ ?_
    · exact entm [0] (hT := by simp [getV])
    · simp
    · intro i hi
      refine awp_go ?_
      by_cases hlt : i < n
      · obtain ⟨s, hs⟩ : ∃ s, p + i = s := ⟨_, rfl⟩
        obtain ⟨x, hx⟩ : ∃ x, s / 8 = x := ⟨_, rfl⟩
        obtain ⟨r, hr⟩ : ∃ r, s % 8 = r := ⟨_, rfl⟩
        have hlen : x < bs.length := by omega
        obtain ⟨c, hc⟩ : ∃ c, bs[x] = c := ⟨_, rfl⟩
        obtain ⟨hc1, hc2⟩ := hb c (hc ▸ List.getElem_mem hlen)
        have hbit : bitAt bs s = (c / 2 ^ r % 2).toNat := by simp [bitAt, List.getD, hx, hr, hlen, hc]
        have hgs : getV bs p (i + 1) = getV bs p i + bitAt bs s * 2 ^ i := by rw [getV, hs]
        have ht : (s : Int).tmod 8 = r := by rw [Int.tmod_eq_emod_of_nonneg (by omega)]; omega
        have hq1 : (s : Int).tdiv 8 = x := by rw [Int.tdiv_eq_ediv_of_nonneg (by omega)]; omega
        have ht2 : (s : Int) % 8 = r := by omega
        have hq2 : (s : Int) / 8 = x := by omega
        have hqw : IntKind.i64.wrap (x : Int) = x := wrap_id (by omega) (by omega)
        have hr1 : ¬ (r : Int) < 0 := by omega
        have hi0 : ¬ (i : Int) < 0 := by omega
        have hw1 : IntKind.i64.wrap ((i : Int) + 1) = ((i + 1 : Nat) : Int) := wrap_id (by omega) (by omega)
        have hw2 : IntKind.i64.wrap ((s : Int) + 1) = ((s + 1 : Nat) : Int) := wrap_id (by omega) (by omega)
        simp [hlt]
        rw [hs]
        refine awp_drawS follows_mix [(0, 0), (0, 0), (0, 0), (0, 0), (0, 0), (0, 0), (0, 0), (0, 0), (0, 0), (0, 0), (0, 0), (0, 0), (0, 0), (0, 0), (0, 0), (0, 0), (0, 0), (0, 0), (0, 0), (0, 0), (0, 0), (0, 0), (0, 0), (0, 0)] 1 1 [] (by kernel_rfl) rfl rfl ?_
        simp [ht, hq1, ht2, hq2, hqw, hr1, hi0, hlen, hc]
        rw [bit8 c r hc1 hc2 (by omega), ← hbit, or_get _ _ i (by omega) (getV_lt bs p i) (bitAt_lt bs s), ← hgs, hw1, hw2]
        have hps : p + (i + 1) = s + 1 := by omega
        exact ⟨i + 1, by omega, by omega, entm [0] (hB := by simp [hps])⟩
      · obtain rfl : i = n := by omega
        simp
        exact finGm [0]
end Go.Proofs.Ytemlkbcfplkniaa.Am
/- Package bits: the reader's Nat and Int. -/
namespace Go.Proofs.Ytemlkbcfplkniaa.Am
open Go Go.RowKit

/-- What Nat gives from the group i on: the value, the error, the place. -/
def rnGo (bs : List Int) (was : Nat) : Nat → Nat → Nat → Nat → Nat × Int × Nat
  | 0, _, _, _ => (0, 3, was)
  | k + 1, i, v, p =>
    if (getM bs p 5).2.1 ≠ 0 then (0, (getM bs p 5).2.1, was)
    else if i = 16 ∨ (getM bs p 5).1 = 0 ∧ 0 < i then (0, 3, was)
    else if (getM bs p 5).1 < 16 then (v + (getM bs p 5).1 % 16 * 2 ^ (4 * i), 0, (getM bs p 5).2.2)
    else rnGo bs was k (i + 1) (v + (getM bs p 5).1 % 16 * 2 ^ (4 * i)) (getM bs p 5).2.2
def rnat (bs : List Int) (p : Nat) : Nat × Int × Nat := rnGo bs p 17 0 0 p

theorem getM_le {bs : List Int} {p n : Nat} (h : p ≤ 8 * bs.length) : (getM bs p n).2.2 ≤ 8 * bs.length := by
  unfold getM; split
  · exact h
  · simp; omega
theorem getM_lt (bs : List Int) (p n : Nat) : (getM bs p n).1 < 2 ^ n := by
  unfold getM; split
  · exact Nat.two_pow_pos n
  · exact getV_lt bs p n

theorem or_gen (x c k : Nat) (hk : k ≤ 60) (hx : x < 2 ^ k) (hc : c < 16) :
    IntKind.u64.wrap ↑(x % 2 ^ IntKind.u64.bits ||| (IntKind.u64.wrap ((c : Int) * 2 ^ min k IntKind.u64.bits) % 2 ^ IntKind.u64.bits).toNat) = ((x + c * 2 ^ k : Nat) : Int) := by
  have e1 : min k IntKind.u64.bits = k := Nat.min_eq_left (by show k ≤ 64; omega)
  have e2 : (2 : Int) ^ IntKind.u64.bits = 18446744073709551616 := by decide
  have e3 : (2 : Nat) ^ IntKind.u64.bits = 18446744073709551616 := by decide
  have hp : 2 ^ k * 16 ≤ 18446744073709551616 := by
    have : (2 : Nat) ^ k * 16 = 2 ^ (k + 4) := by rw [Nat.pow_add]
    rw [this]
    exact Nat.le_trans (Nat.pow_le_pow_right (by decide) (show k + 4 ≤ 64 by omega)) (by decide)
  have hbp : c * 2 ^ k ≤ 15 * 2 ^ k := Nat.mul_le_mul_right _ (by omega)
  have hor := Nat.two_pow_add_eq_or_of_lt hx c
  rw [Nat.mul_comm] at hor
  have hcast : ((c : Int) * 2 ^ k) = ((c * 2 ^ k : Nat) : Int) := by push_cast; rfl
  rw [e1, e2, e3, hcast]
  obtain ⟨q, hq⟩ : ∃ q, c * 2 ^ k = q := ⟨_, rfl⟩
  obtain ⟨p2, hp2⟩ : ∃ p2, 2 ^ k = p2 := ⟨_, rfl⟩
  rw [hq] at hbp hor ⊢
  rw [hp2] at hp hbp hx
  simp only [wrapU]
  have a1 : x % 18446744073709551616 = x := by omega
  have a2 : ((q : Int) % 18446744073709551616 % 18446744073709551616).toNat = q := by omega
  rw [a1, a2, Nat.or_comm, ← hor]
  omega

set_option maxRecDepth 20000 in
set_option maxHeartbeats 1000000 in
theorem RNat_fn (bs : List Int) (p : Nat) (hl : bs.length ≤ 100000) (hb : BytesOk bs) (hp : p ≤ 8 * bs.length) : FnD Try.prog 132 [.ptr 0 0] [rSt bs p]
    (.tup [kU (rnat bs p).1, kI (rnat bs p).2.1]) [some (rSt bs (rnat bs p).2.2)] := by
  refine fnd_go Try.func132 rfl ?_
  simp [Try.ntmps132]
  refine awp_loop (fun x : Nat × Nat × Nat => ⟨51, [(0, .ptr 0 0), (4, kI p), (5, kU x.2.1), (6, kI x.1)], [some (rSt bs x.2.2)], 1⟩)
    (fun x => x.1 ≤ 16 ∧ x.2.1 < 2 ^ (4 * x.1) ∧ x.2.2 ≤ 8 * bs.length ∧ rnGo bs p (17 - x.1) x.1 x.2.1 x.2.2 = rnat bs p) (fun x => 17 - x.1) (0, 0, p) ?_ ?_ ?_
  · exact entm [0]
  · simp [hp, rnat]
  · rintro ⟨i, v, q⟩ ⟨hi, hv, hq, hrun⟩
    simp only at hi hv hq hrun
    rw [show 17 - i = (16 - i) + 1 by omega, rnGo] at hrun
    refine awp_go ?_
    simp
    refine calD [0] (Get_fn bs q 5 (by omega) hl hb hq) ?_
    have hgl := getM_lt bs q 5
    have hgp := getM_le (n := 5) hq
    obtain ⟨g, hg⟩ : ∃ g, getM bs q 5 = g := ⟨_, rfl⟩
    rw [hg] at hgl hgp hrun ⊢
    obtain ⟨gv, ge, gp⟩ := g
    simp only at hgl hgp hrun ⊢
    by_cases h0 : ge = 0
    · subst h0
      by_cases h16 : i = 16
      · subst h16
        simp at hrun
        simp
        rw [← hrun]
        exact finGm [0]
      · have h16' : ¬ (i : Int) = 16 := by omega
        by_cases hz : gv = 0 ∧ 0 < i
        · obtain ⟨hz1, hz2⟩ := hz
          subst hz1
          simp [hz2] at hrun
          have hz3 : (0 : Int) < i := by omega
          simp [h16', hz2, hz3]
          rw [← hrun]
          exact finGm [0]
        · rw [if_neg (by simp), if_neg (by omega)] at hrun
          have hw4 : IntKind.i64.wrap (4 * (i : Int)) = ((4 * i : Nat) : Int) := by rw [wrap_id (by omega) (by omega)]; omega
          have hw5 : ¬ 4 * (i : Int) < 0 := by omega
          have hw6 : (4 * (i : Int)).toNat = 4 * i := by omega
          have hw7 : IntKind.i64.wrap ((i : Int) + 1) = ((i + 1 : Nat) : Int) := wrap_id (by omega) (by omega)
          have ha : IntKind.u64.wrap ↑(gv % 2 ^ IntKind.u64.bits &&& 15 % 2 ^ IntKind.u64.bits) = ((gv % 16 : Nat) : Int) := by
            have := and15 (gv : Int) (by omega)
            have e : (((gv : Int) % 2 ^ IntKind.u64.bits).toNat) = gv % 2 ^ IntKind.u64.bits := by
              rw [show (2 : Int) ^ IntKind.u64.bits = 18446744073709551616 by decide, show (2 : Nat) ^ IntKind.u64.bits = 18446744073709551616 by decide]; omega
            rw [e] at this
            rw [this]; omega
          have ho := or_gen v (gv % 16) (4 * i) (by omega) hv (by omega)
          rw [show ((gv % 16 : Nat) : Int) = (gv : Int) % 16 by omega] at ho
          have hbd : v + gv % 16 * 2 ^ (4 * i) < 2 ^ (4 * (i + 1)) := by
            have h1 : gv % 16 * 2 ^ (4 * i) ≤ 15 * 2 ^ (4 * i) := Nat.mul_le_mul_right _ (by omega)
            rw [show 4 * (i + 1) = 4 * i + 4 by omega, Nat.pow_add]
            omega
          by_cases hgz : gv = 0
          · obtain rfl : i = 0 := by omega
            subst hgz
            obtain rfl : v = 0 := by simpa using hv
            simp at hrun
            have e0 : IntKind.u64.wrap ↑(0 % 2 ^ IntKind.u64.bits ||| (IntKind.u64.wrap (IntKind.u64.wrap 0) % 2 ^ IntKind.u64.bits).toNat) = 0 := by decide
            rw [← hrun]
            simp
            exact finGm [0] (hres := by simp; decide)
          · simp [h16', hgz, hw4, hw5, hw6, hw7, ha]
            by_cases hg16 : gv < 16
            · rw [if_pos hg16] at hrun
              have hg16' : (gv : Int) < 16 := by omega
              simp only [hg16', decide_true]
              simp
              rw [ho, ← hrun]
              exact finGm [0]
            · rw [if_neg hg16] at hrun
              have hg16' : ¬ (gv : Int) < 16 := by omega
              simp only [hg16', decide_false]
              simp [hw7]
              rw [ho]
              exact ⟨i + 1, v + gv % 16 * 2 ^ (4 * i), gp, ⟨by omega, hbd, hgp, by rw [show 17 - (i + 1) = 16 - i by omega]; exact hrun⟩, by omega, entm [0]⟩
    · rw [if_pos h0] at hrun
      simp [h0]
      rw [← hrun]
      exact finGm [0]

def zag (n : Nat) : Int := if n % 2 = 0 then ((n / 2 : Nat) : Int) else -((n / 2 : Nat) : Int) - 1
theorem zag_op (n : Nat) (h : n < 2 ^ 64) :
    IntKind.i64.wrap (IntKind.u64.wrap ↑(((n : Int).fdiv (2 ^ min 1 IntKind.u64.bits) % 2 ^ IntKind.u64.bits).toNat ^^^ (IntKind.u64.wrap (0 - IntKind.u64.wrap ↑(n % 2 ^ IntKind.u64.bits &&& 1 % 2 ^ IntKind.u64.bits)) % 2 ^ IntKind.u64.bits).toNat)) = zag n := by
  have e1 : (2 : Int) ^ min 1 IntKind.u64.bits = 2 := by decide
  have e2 : (2 : Int) ^ IntKind.u64.bits = 18446744073709551616 := by decide
  have e3 : (2 : Nat) ^ IntKind.u64.bits = 18446744073709551616 := by decide
  rw [e1, e2, e3, Int.fdiv_eq_ediv_of_nonneg _ (by decide), show (1 % 18446744073709551616 : Nat) = 1 by decide, Nat.and_one_is_mod]
  simp only [wrapU]
  have h' : n < 18446744073709551616 := h
  unfold zag
  have a0 : ((n : Int) / 2 % 18446744073709551616).toNat = n / 2 := by omega
  rw [a0]
  have hw : ∀ m : Nat, m < 18446744073709551616 → IntKind.i64.wrap ((m : Int) % 18446744073709551616) = if m < 9223372036854775808 then (m : Int) else (m : Int) - 18446744073709551616 := fun m hm => by
    rw [IntKind.wrap_i64]; split <;> omega
  by_cases hp : n % 2 = 0
  · rw [if_pos hp]
    have a1 : ((0 - ((n % 18446744073709551616 % 2 : Nat) : Int) % 18446744073709551616) % 18446744073709551616 % 18446744073709551616).toNat = 0 := by omega
    rw [a1, Nat.xor_zero, hw _ (by omega), if_pos (by omega)]
  · rw [if_neg hp]
    have a1 : ((0 - ((n % 18446744073709551616 % 2 : Nat) : Int) % 18446744073709551616) % 18446744073709551616 % 18446744073709551616).toNat = 2 ^ 64 - 1 := by omega
    rw [a1, xor_ones _ (by omega), hw _ (by omega), if_neg (by omega)]
    omega

def rint (bs : List Int) (p : Nat) : Int × Int × Nat := if (rnat bs p).2.1 ≠ 0 then (0, (rnat bs p).2.1, (rnat bs p).2.2) else (zag (rnat bs p).1, 0, (rnat bs p).2.2)
theorem rnGo_ok (bs : List Int) (was : Nat) : ∀ (k i v p : Nat), i + k = 17 → v < 2 ^ (4 * i) → was ≤ 8 * bs.length → p ≤ 8 * bs.length → (rnGo bs was k i v p).1 < 2 ^ 64 ∧ (rnGo bs was k i v p).2.2 ≤ 8 * bs.length
  | 0, i, v, p, _, _, hw, _ => by simp [rnGo, hw]
  | k + 1, i, v, p, hik, hv, hw, hp => by
    rw [rnGo]
    split
    · exact ⟨by simp, hw⟩
    · split
      · exact ⟨by simp, hw⟩
      · rename_i h1 h2
        have hi : i ≤ 15 := by omega
        have hg := getM_lt bs p 5
        have hgp := getM_le (bs := bs) (n := 5) hp
        have hbd : v + (getM bs p 5).1 % 16 * 2 ^ (4 * i) < 2 ^ (4 * (i + 1)) := by
          have h1 : (getM bs p 5).1 % 16 * 2 ^ (4 * i) ≤ 15 * 2 ^ (4 * i) := Nat.mul_le_mul_right _ (by omega)
          rw [show 4 * (i + 1) = 4 * i + 4 by omega, Nat.pow_add]
          omega
        split
        · exact ⟨Nat.lt_of_lt_of_le hbd (Nat.pow_le_pow_right (by decide) (by omega)), hgp⟩
        · exact rnGo_ok bs was k (i + 1) _ _ (by omega) hbd hw hgp
theorem rnat_ok (bs : List Int) {p : Nat} (hp : p ≤ 8 * bs.length) : (rnat bs p).1 < 2 ^ 64 ∧ (rnat bs p).2.2 ≤ 8 * bs.length := rnGo_ok bs p 17 0 0 p rfl (by simp) hp hp

set_option maxRecDepth 20000 in
theorem RInt_fn (bs : List Int) (p : Nat) (hl : bs.length ≤ 100000) (hb : BytesOk bs) (hp : p ≤ 8 * bs.length) : FnD Try.prog 131 [.ptr 0 0] [rSt bs p]
    (.tup [kI (rint bs p).1, kI (rint bs p).2.1]) [some (rSt bs (rint bs p).2.2)] := by
  refine fnd_go Try.func131 rfl ?_
  simp [Try.ntmps131]
  refine calD [0] (RNat_fn bs p hl hb hp) ?_
  obtain ⟨hok, _⟩ := rnat_ok bs hp
  have hr : rint bs p = if (rnat bs p).2.1 ≠ 0 then (0, (rnat bs p).2.1, (rnat bs p).2.2) else (zag (rnat bs p).1, 0, (rnat bs p).2.2) := rfl
  obtain ⟨g, hg⟩ : ∃ g, rnat bs p = g := ⟨_, rfl⟩
  rw [hg] at hr hok ⊢
  by_cases h0 : g.2.1 = 0
  · rw [if_neg (by simpa using h0)] at hr
    rw [hr]
    simp [h0]
    have hz := zag_op g.1 hok
    rw [Int.zero_sub] at hz
    rw [hz]
    exact finGm [0]
  · rw [if_pos h0] at hr
    rw [hr]
    simp [h0]
    exact finGm [0]
end Go.Proofs.Ytemlkbcfplkniaa.Am
/- Package save: the reader's get and name; quant.Get; bits.New; bytes.Equal. -/
namespace Go.Proofs.Ytemlkbcfplkniaa.Am
open Go Go.RowKit

/-- Where a reader stands: its place, and whether something failed. -/
abbrev RS := Nat × Bool
abbrev rdSt (s : RS) (b : Nat) : List PV := [.ptr b 0, kB s.2]
def qget (bs : List Int) (p : Nat) (f : GField) : Int × Int × Nat := if (getM bs p f.Bits.toNat).2.1 ≠ 0 then (0, (getM bs p f.Bits.toNat).2.1, (getM bs p f.Bits.toNat).2.2) else (f.Low + (getM bs p f.Bits.toNat).1, 0, (getM bs p f.Bits.toNat).2.2)
def rget (bs : List Int) (s : RS) (n : Nat) : Nat × RS := ((getM bs s.1 n).1, (getM bs s.1 n).2.2, s.2 || decide ((getM bs s.1 n).2.1 ≠ 0))

set_option maxRecDepth 20000 in
theorem QGet_fn (bs : List Int) (p : Nat) (f : GField) (hf : fieldB f = true) (hl : bs.length ≤ 100000) (hb : BytesOk bs) (hp : p ≤ 8 * bs.length) : FnD Try.prog 48 [.ptr 0 0, .agg f.e] [rSt bs p]
    (.tup [kI (qget bs p f).1, kI (qget bs p f).2.1]) [some (rSt bs (qget bs p f).2.2)] := by
  obtain ⟨h1, h2, h3, h4⟩ := field_in hf
  refine fnd_go Try.func48 rfl ?_
  simp [Try.ntmps48]
  refine cal (QCheck_fn f hf) ?_
  simp [GField.e]
  obtain ⟨m, hm⟩ : ∃ m : Nat, f.Bits = m := ⟨f.Bits.toNat, by omega⟩
  have hgm := Get_fn bs p m (by omega) hl hb hp
  have hq : qget bs p f = if (getM bs p m).2.1 ≠ 0 then (0, (getM bs p m).2.1, (getM bs p m).2.2) else (f.Low + (getM bs p m).1, 0, (getM bs p m).2.2) := by simp [qget, hm]
  have hlt := getM_lt bs p m
  rw [hm]
  refine calD [0] hgm ?_
  obtain ⟨g, hg⟩ : ∃ g, getM bs p m = g := ⟨_, rfl⟩
  rw [hg] at hq hlt ⊢
  have hp2 : 2 ^ m ≤ 2 ^ 32 := Nat.pow_le_pow_right (by decide) (by omega)
  by_cases h0 : g.2.1 = 0
  · rw [if_neg (by simpa using h0)] at hq
    rw [hq]
    have hw1 : IntKind.i64.wrap (g.1 : Int) = g.1 := wrap_id (by omega) (by omega)
    have hw2 : IntKind.i64.wrap (f.Low + (g.1 : Int)) = f.Low + g.1 := wrap_id (by omega) (by omega)
    simp [h0, hw1, hw2]
    exact finGm [0]
  · rw [if_pos h0] at hq
    rw [hq]
    simp [h0]
    exact finGm [0]

set_option maxRecDepth 20000 in
theorem RGet_fn (bs : List Int) (s : RS) (n : Nat) (hn : n ≤ 32) (hl : bs.length ≤ 100000) (hb : BytesOk bs) (hp : s.1 ≤ 8 * bs.length) : FnD Try.prog 79 [.ptr 0 0, kI n] [rdSt s 1, rSt bs s.1]
    (kI (rget bs s n).1) [some (rdSt (rget bs s n).2 1), some (rSt bs (rget bs s n).2.1)] := by
  refine fnd_go Try.func79 rfl ?_
  simp [Try.ntmps79]
  refine calD [1] (Get_fn bs s.1 n (by omega) hl hb hp) ?_
  have hlt := getM_lt bs s.1 n
  have hr : rget bs s n = ((getM bs s.1 n).1, (getM bs s.1 n).2.2, s.2 || decide ((getM bs s.1 n).2.1 ≠ 0)) := rfl
  rw [hr]
  obtain ⟨g, hg⟩ : ∃ g, getM bs s.1 n = g := ⟨_, rfl⟩
  rw [hg] at hlt ⊢
  have hp2 : 2 ^ n ≤ 2 ^ 32 := Nat.pow_le_pow_right (by decide) (by omega)
  have hw1 : IntKind.i64.wrap (g.1 : Int) = g.1 := wrap_id (by omega) (by omega)
  obtain ⟨p, bad⟩ := s
  cases bad with
  | true =>
    simp [hw1]
    exact finGm [0, 1]
  | false =>
    by_cases h0 : g.2.1 = 0
    · simp [hw1, h0]
      exact finGm [0, 1]
    · simp [hw1, h0]
      exact finGm [0, 1]

set_option maxRecDepth 20000 in
theorem Equal_fn (xs ys : List Int) (hx : BytesOk xs) (hy : BytesOk ys) : Fn Try.prog 77 [slB xs, slB ys] (kB (decide (xs = ys))) := by
  have hinj : ∀ {a b : List Int}, BytesOk a → BytesOk b → strOfNums a = strOfNums b → a = b := fun {a b} ha hb h => by
    have h1 := congrArg (fun s => s.data.toList) h
    simp only [strOfNums_data] at h1
    have h2 : a.map (fun n => UInt8.ofNat n.toNat) = b.map (fun n => UInt8.ofNat n.toNat) := h1
    clear h h1
    induction a generalizing b with
    | nil => cases b with
      | nil => rfl
      | cons y b => simp at h2
    | cons x a ih => cases b with
      | nil => simp at h2
      | cons y b =>
        simp only [List.map_cons, List.cons.injEq] at h2
        have hxx := ha x (by simp)
        have hyy := hb y (by simp)
        have h3 := congrArg UInt8.toNat h2.1
        simp at h3
        have : x = y := by omega
        rw [this, ih (fun c hc => ha c (by simp [hc])) (fun c hc => hb c (by simp [hc])) h2.2]
  refine fn_go Try.func77 rfl ?_
  simp [Try.ntmps77]
  refine ops_b2sI (xs := xs) (e := 5) ?_
  simp
  refine ops_b2sI (xs := ys) (e := 5) ?_
  simp
  by_cases h : xs = ys
  · simp [h]
    exact finm
  · have h2 : ¬ strOfNums xs = strOfNums ys := fun e => h (hinj hx hy e)
    simp [h, h2]
    exact finm
end Go.Proofs.Ytemlkbcfplkniaa.Am
/- Package save: the reader's name. -/
namespace Go.Proofs.Ytemlkbcfplkniaa.Am
open Go Go.RowKit

def rnameGo (bs : List Int) : Nat → List Int → RS → List Int × RS
  | 0, out, s => (out, s)
  | k + 1, out, s => if (rget bs s 6).1 < 36 then rnameGo bs k (out ++ [lettersL.getD (rget bs s 6).1 0]) (rget bs s 6).2 else rnameGo bs k out ((rget bs s 6).2.1, true)
def rname (bs : List Int) (s : RS) : Str × RS :=
  (strOfNums (rnameGo bs (rget bs s 5).1 [] (rget bs s 5).2).1, (rnameGo bs (rget bs s 5).1 [] (rget bs s 5).2).2)

theorem rget_le {bs : List Int} {s : RS} {n : Nat} (h : s.1 ≤ 8 * bs.length) : (rget bs s n).2.1 ≤ 8 * bs.length := getM_le h
theorem rget_lt (bs : List Int) (s : RS) (n : Nat) : (rget bs s n).1 < 2 ^ n := getM_lt bs s.1 n
theorem rnameGo_le (bs : List Int) : ∀ (k : Nat) (out : List Int) (s : RS), s.1 ≤ 8 * bs.length → (rnameGo bs k out s).2.1 ≤ 8 * bs.length
  | 0, _, _, h => h
  | k + 1, out, s, h => by
    rw [rnameGo]
    split
    · exact rnameGo_le bs k _ _ (rget_le h)
    · exact rnameGo_le bs k _ _ (rget_le h)
theorem rname_le {bs : List Int} {s : RS} (h : s.1 ≤ 8 * bs.length) : (rname bs s).2.1 ≤ 8 * bs.length := rnameGo_le bs _ _ _ (rget_le h)
theorem rnameGo_len (bs : List Int) : ∀ (k : Nat) (out : List Int) (s : RS), (rnameGo bs k out s).1.length ≤ out.length + k
  | 0, _, _ => by simp [rnameGo]
  | k + 1, out, s => by
    rw [rnameGo]
    split
    · have := rnameGo_len bs k (out ++ [lettersL.getD (rget bs s 6).1 0]) (rget bs s 6).2
      simp at this; simp; omega
    · have := rnameGo_len bs k out ((rget bs s 6).2.1, true); omega
theorem rname_size {bs : List Int} {s : RS} : (rname bs s).1.size ≤ 1000 := by
  have h1 := rnameGo_len bs (rget bs s 5).1 [] (rget bs s 5).2
  have h2 := rget_lt bs s 5
  show (strOfNums _).size ≤ 1000
  rw [strOfNums_size]
  simp at h1; omega
abbrev lettersS : ByteArray := ⟨#[97, 98, 99, 100, 101, 102, 103, 104, 105, 106, 107, 108, 109, 110, 111, 112, 113, 114, 115, 116, 117, 118, 119, 120, 121, 122, 48, 49, 50, 51, 52, 53, 54, 55, 56, 57]⟩
theorem letters_at : ∀ c, c < 36 → ∃ u : UInt8, lettersS[c]? = some u ∧ (u.toNat : Int) = lettersL.getD c 0 := by decide

set_option maxRecDepth 20000 in
set_option maxHeartbeats 1000000 in
theorem RName_fn (bs : List Int) (s : RS) (hl : bs.length ≤ 100000) (hb : BytesOk bs) (hp : s.1 ≤ 8 * bs.length) : FnD Try.prog 130 [.ptr 0 0] [rdSt s 1, rSt bs s.1]
    (kS (rname bs s).1) [some (rdSt (rname bs s).2 1), some (rSt bs (rname bs s).2.1)] := by
  have him : ∀ bs : List Int, (bs.map kU8).all PV.immB = true := fun bs => by simp
  refine fnd_go Try.func130 rfl ?_
  simp [Try.ntmps130]
  refine calD [0, 1] (RGet_fn bs s 5 (by omega) hl hb hp) ?_
  have hr : rname bs s = (strOfNums (rnameGo bs (rget bs s 5).1 [] (rget bs s 5).2).1, (rnameGo bs (rget bs s 5).1 [] (rget bs s 5).2).2) := rfl
  have h5 := rget_lt bs s 5
  have h6 := rget_le (n := 5) hp
  rw [hr]
  obtain ⟨g, hg⟩ : ∃ g, rget bs s 5 = g := ⟨_, rfl⟩
  rw [hg] at h5 h6 ⊢
  simp
  refine awp_loop (fun x : Nat × List Int × RS => ⟨26, [(0, .ptr 0 0), (4, .osl 2 1 0 x.2.1.length), (8, kI g.1), (9, kI x.1)], [some (rdSt x.2.2 1), some (rSt bs x.2.2.1), some (x.2.1.map kU8)], 2⟩)
    (fun x => x.1 ≤ g.1 ∧ x.2.1.length ≤ x.1 ∧ x.2.2.1 ≤ 8 * bs.length ∧ rnameGo bs (g.1 - x.1) x.2.1 x.2.2 = rnameGo bs g.1 [] g.2) (fun x => g.1 - x.1) (0, [], g.2) ?_ ?_ ?_
  · exact (ent_nil (t := 4) (z := 1) rfl).trans (entm [0, 1, 2])
  · simp [h6]
  · rintro ⟨i, out, s2⟩ ⟨hi, hol, hs2, hrun⟩
    simp only at hi hol hs2 hrun
    refine awp_go ?_
    by_cases hlt : i < g.1
    · rw [show g.1 - i = (g.1 - (i + 1)) + 1 by omega, rnameGo] at hrun
      have hw1 : IntKind.i64.wrap ((i : Int) + 1) = ((i + 1 : Nat) : Int) := wrap_id (by omega) (by omega)
      simp [hlt]
      refine calD [0, 1] (RGet_fn bs s2 6 (by omega) hl hb hs2) ?_
      have h7 := rget_le (n := 6) hs2
      obtain ⟨c, hc⟩ : ∃ c, rget bs s2 6 = c := ⟨_, rfl⟩
      rw [hc] at h7 hrun ⊢
      by_cases h36 : c.1 < 36
      · rw [if_pos h36] at hrun
        obtain ⟨u, hu1, hu2⟩ := letters_at c.1 h36
        have hb1 : out.length + 1 ≤ 140737488355328 := by omega
        have hb2 : out.length + 1 ≤ maxLen := by simp only [maxLen]; omega
        have h36p : (c.1 : Int) < 36 := by omega
        simp [h36, h36p, hb1, hb2, hu1, hw1, -Bool.exists_bool]
        rw [hu2]
        generalize lettersL.getD c.1 0 = z at hrun ⊢
        exact ⟨i + 1, out ++ [z], c.2.1, c.2.2, ⟨by omega, by simp; omega, h7, hrun⟩, by omega, entm [0, 1, 4] (hT := by simp) (hB := by simp [imms_ren (him _), imms_lt (him _)])⟩
      · rw [if_neg h36] at hrun
        have h36' : ¬ (c.1 : Int) < 36 := by omega
        simp [h36, h36', hw1, -Bool.exists_bool]
        exact ⟨i + 1, out, c.2.1, true, ⟨by omega, by omega, h7, hrun⟩, by omega, entm [0, 1, 2] (hB := by simp [imms_ren (him _), imms_lt (him _)])⟩
    · obtain rfl : i = g.1 := by omega
      rw [Nat.sub_self, rnameGo] at hrun
      rw [← hrun]
      simp
      refine ops_fz 2 (out.map kU8) ?_
      simp
      rw [chunks_b]
      refine ops_b2sI (xs := out) (e := 5) ?_
      simp
      exact finGm [0, 1]
end Go.Proofs.Ytemlkbcfplkniaa.Am
/- Package save: the reader's comps. -/
namespace Go.Proofs.Ytemlkbcfplkniaa.Am
open Go Go.RowKit

def rfld (bs : List Int) (s : RS) (f : GField) : Int × RS := ((qget bs s.1 f).1, (qget bs s.1 f).2.2, s.2 || decide ((qget bs s.1 f).2.1 ≠ 0))
def rvals (bs : List Int) : List GField → List Int → RS → List Int × RS
  | [], acc, s => (acc, s)
  | f :: fs, acc, s => rvals bs fs (acc ++ [(rfld bs s f).1]) (rfld bs s f).2
def rcomps (bs : List Int) : Nat → List GKind → List GComp → RS → List GComp × RS
  | _, [], acc, s => (acc, s)
  | i, k :: r, acc, s => if (rget bs s 1).1 = 0 then rcomps bs (i + 1) r acc (rget bs s 1).2
    else rcomps bs (i + 1) r (acc ++ [⟨i, (rvals bs k.Fields [] (rget bs s 1).2).1⟩]) (rvals bs k.Fields [] (rget bs s 1).2).2
theorem qget_le {bs : List Int} {p : Nat} {f : GField} (h : p ≤ 8 * bs.length) : (qget bs p f).2.2 ≤ 8 * bs.length := by
  unfold qget; split <;> exact getM_le h
theorem rvals_le (bs : List Int) : ∀ (fs : List GField) (acc : List Int) (s : RS), s.1 ≤ 8 * bs.length → (rvals bs fs acc s).2.1 ≤ 8 * bs.length
  | [], _, _, h => h
  | f :: fs, acc, s, h => rvals_le bs fs _ _ (qget_le h)
theorem rvals_len (bs : List Int) : ∀ (fs : List GField) (acc : List Int) (s : RS), (rvals bs fs acc s).1.length = acc.length + fs.length
  | [], _, _ => rfl
  | f :: fs, acc, s => by rw [rvals, rvals_len bs fs]; simp; omega
theorem rcomps_le (bs : List Int) : ∀ (r : List GKind) (i : Nat) (acc : List GComp) (s : RS), s.1 ≤ 8 * bs.length → (rcomps bs i r acc s).2.1 ≤ 8 * bs.length
  | [], _, _, _, h => h
  | k :: r, i, acc, s, h => by
    rw [rcomps]
    split
    · exact rcomps_le bs r _ _ _ (rget_le h)
    · exact rcomps_le bs r _ _ _ (rvals_le bs _ _ _ (rget_le h))

set_option maxRecDepth 20000 in
set_option maxHeartbeats 2000000 in
theorem RComps_fn (bs : List Int) (s : RS) (ks : List GKind) (hk : ks.length ≤ 16) (hf : ∀ k ∈ ks, k.Fields.length ≤ 8 ∧ ∀ f ∈ k.Fields, fieldB f = true) (hl : bs.length ≤ 100000) (hb : BytesOk bs) (hp : s.1 ≤ 8 * bs.length) :
    FnD Try.prog 133 [.ptr 0 0, .sl 2 (ks.map GKind.e)] [rdSt s 1, rSt bs s.1]
    (.sl 2 ((rcomps bs 0 ks [] s).1.map GComp.e)) [some (rdSt (rcomps bs 0 ks [] s).2 1), some (rSt bs (rcomps bs 0 ks [] s).2.1)] := by
  refine fnd_go Try.func133 rfl ?_
  simp [Try.ntmps133]
  refine awp_loop (fun x : Nat × List GComp × RS => ⟨65, [(0, .ptr 0 0), (1, .sl 2 (ks.map GKind.e)), (5, .osl 2 2 0 x.2.1.length), (13, kI ks.length), (14, kI x.1)], [some (rdSt x.2.2 1), some (rSt bs x.2.2.1), some (x.2.1.map GComp.e).flatten], 2⟩)
    (fun x => x.1 ≤ ks.length ∧ x.2.1.length ≤ x.1 ∧ x.2.2.1 ≤ 8 * bs.length ∧ rcomps bs x.1 (ks.drop x.1) x.2.1 x.2.2 = rcomps bs 0 ks [] s) (fun x => ks.length - x.1) (0, [], s) ?_ ?_ ?_
  · exact (ent_nil (t := 5) (z := 2) rfl).trans (entm [0, 1, 2])
  · simp [hp]
  · rintro ⟨i, acc, s1⟩ ⟨hi, hal, hs1, hrun⟩
    simp only at hi hal hs1 hrun
    have hacc := flat_imm GComp.e_imm acc
    refine awp_go ?_
    by_cases hlt : i < ks.length
    · obtain ⟨k, hkk⟩ : ∃ k, ks[i] = k := ⟨_, rfl⟩
      have hkm : k ∈ ks := hkk ▸ List.getElem_mem hlt
      obtain ⟨hfl, hff⟩ := hf k hkm
      rw [List.drop_eq_getElem_cons hlt, hkk, rcomps] at hrun
      have hw1 : IntKind.i64.wrap ((i : Int) + 1) = ((i + 1 : Nat) : Int) := wrap_id (by omega) (by omega)
      simp [hlt]
      refine calD [0, 1] (RGet_fn bs s1 1 (by omega) hl hb hs1) ?_
      have h7 := rget_le (n := 1) hs1
      obtain ⟨c, hc⟩ : ∃ c, rget bs s1 1 = c := ⟨_, rfl⟩
      rw [hc] at h7 hrun ⊢
      by_cases h0 : c.1 = 0
      · rw [if_pos h0] at hrun
        simp [h0, hw1, -Bool.exists_bool]
        exact ⟨i + 1, acc, c.2.1, c.2.2, ⟨by omega, by omega, h7, hrun⟩, by omega, entm [0, 1, 2] (hB := by simp [imms_ren hacc, imms_lt hacc])⟩
      · rw [if_neg h0] at hrun
        have h0' : ¬ (c.1 : Int) = 0 := by omega
        simp [h0, h0', hlt, hkk, GKind.e, GComp.e, -Bool.exists_bool]
        refine awp_loop (fun y : Nat × List Int × RS => ⟨65, [(0, .ptr 0 0), (1, .sl 2 (ks.map GKind.e)), (5, .osl 2 2 0 acc.length), (7, .ptr 3 0), (13, kI ks.length), (14, kI i), (26, .sl 3 (k.Fields.map GField.e)), (27, kI k.Fields.length), (28, kI y.1)],
            [some (rdSt y.2.2 1), some (rSt bs y.2.2.1), some (acc.map GComp.e).flatten, some [kI i, .osl 4 1 0 y.2.1.length], some (y.2.1.map kI)], 2⟩)
          (fun y => y.1 ≤ k.Fields.length ∧ y.2.1.length = y.1 ∧ y.2.2.1 ≤ 8 * bs.length ∧ rvals bs (k.Fields.drop y.1) y.2.1 y.2.2 = rvals bs k.Fields [] c.2) (fun y => k.Fields.length - y.1) (0, [], c.2) ?_ ?_ ?_
        · exact (ent_nilb (b := 3) (j := 1) (z := 1) rfl rfl).trans (entm [0, 1, 2, 3, 4] (hB := by simp [imms_ren hacc, imms_lt hacc]))
        · simp [h7]
        · rintro ⟨j, vs, s2⟩ ⟨hj, hvl, hs2, hrun2⟩
          simp only at hj hvl hs2 hrun2
          by_cases hjl : j < k.Fields.length
          · refine awp_go ?_
            obtain ⟨f, hfe⟩ : ∃ f, k.Fields[j] = f := ⟨_, rfl⟩
            have hffv : fieldB f = true := hff f (hfe ▸ List.getElem_mem hjl)
            rw [List.drop_eq_getElem_cons hjl, hfe, rvals] at hrun2
            have hw2 : IntKind.i64.wrap ((j : Int) + 1) = ((j + 1 : Nat) : Int) := wrap_id (by omega) (by omega)
            have hQ := QGet_fn bs s2.1 f hffv hl hb hs2
            have hql := qget_le (f := f) hs2
            have hrf : rfld bs s2 f = ((qget bs s2.1 f).1, (qget bs s2.1 f).2.2, s2.2 || decide ((qget bs s2.1 f).2.1 ≠ 0)) := rfl
            rw [hrf] at hrun2
            obtain ⟨g, hg⟩ : ∃ g, qget bs s2.1 f = g := ⟨_, rfl⟩
            rw [hg] at hQ hql hrun2
            have hb1 : (vs.length + 1) * 8 ≤ 140737488355328 := by omega
            have hb2 : vs.length + 1 ≤ maxLen := by simp only [maxLen]; omega
            simp [hjl, hfe]
            refine awp_draw follows_mix [5] [(0, [0]), (0, [0]), (0, [0]), (0, [0]), (0, [0]), (3, [0]), (0, [1]), (0, [1]), (0, [1]), (0, [1]), (0, [1])] 1 (by kernel_rfl) rfl ?_
            simp
            refine gD_callW (.tup [kI g.1, kI g.2.1]) [some (rdSt s2 1), some (rSt bs g.2.2), some (acc.map GComp.e).flatten, some [kI i, .osl 4 1 0 vs.length], some (vs.map kI), some f.e] ?_
            obtain ⟨p2, bad⟩ := s2
            have him : (vs.map kI ++ [kI g.1]).all PV.immB = true := by simp
            cases bad with
            | true =>
              simp [hb1, hb2, hw2, -Bool.exists_bool]
              refine ⟨.inl ⟨rfl, doD [1] hQ (h2 := by simp)⟩, ?_⟩
              exact ⟨j + 1, vs ++ [g.1], g.2.2, true, ⟨by omega, by simp; omega, hql, by simpa using hrun2⟩, by omega, entm [0, 1, 2, 3, 7] (hB := by simp [imms_ren hacc, imms_lt hacc, imms_ren him, imms_lt him])⟩
            | false =>
              by_cases h9 : g.2.1 = 0
              · simp [hb1, hb2, hw2, h9, -Bool.exists_bool]
                rw [h9] at hQ
                refine ⟨.inl ⟨rfl, doD [1] hQ (h2 := by simp)⟩, ?_⟩
                exact ⟨j + 1, vs ++ [g.1], g.2.2, false, ⟨by omega, by simp; omega, hql, by simpa [h9] using hrun2⟩, by omega, entm [0, 1, 2, 3, 7] (hB := by simp [imms_ren hacc, imms_lt hacc, imms_ren him, imms_lt him])⟩
              · simp [hb1, hb2, hw2, h9, -Bool.exists_bool]
                refine ⟨.inl ⟨rfl, doD [1] hQ (h2 := by simp)⟩, ?_⟩
                exact ⟨j + 1, vs ++ [g.1], g.2.2, true, ⟨by omega, by simp; omega, hql, by simpa [h9] using hrun2⟩, by omega, entm [0, 1, 2, 3, 7] (hB := by simp [imms_ren hacc, imms_lt hacc, imms_ren him, imms_lt him])⟩
          · obtain rfl : j = k.Fields.length := by omega
            rw [List.drop_length, rvals] at hrun2
            rw [← hrun2] at hrun
            refine awp_ent (ent_fz 4 (vs.map kI)) (awp_go ?_)
            have hb1 : (acc.length + 1) * 32 ≤ 140737488355328 := by omega
            have hb2 : acc.length + 1 ≤ maxLen := by simp only [maxLen]; omega
            simp [hb1, hb2, hw1, imms_fz hacc, -Bool.exists_bool]
            exact ⟨i + 1, acc ++ [⟨i, vs⟩], s2.1, s2.2, ⟨by omega, by simp; omega, hs2, hrun⟩, by omega, entm [0, 1, 6] (hT := by simp) (hB := by simp [GComp.e, imms_ren hacc, imms_lt hacc])⟩
    · obtain rfl : i = ks.length := by omega
      rw [List.drop_length, rcomps] at hrun
      rw [← hrun]
      simp
      refine finG_fz 2 _ ?_ (hi := hacc)
      simp [chunks_map GComp.e_len]
      exact finGm [0, 1]
end Go.Proofs.Ytemlkbcfplkniaa.Am
/- Package save: the reader's kinds. -/
namespace Go.Proofs.Ytemlkbcfplkniaa.Am
open Go Go.RowKit

def rfield (bs : List Int) (s : RS) : GField × RS :=
  (⟨(rname bs s).1, (rget bs (rname bs s).2 5).1 + 1, (rint bs (rget bs (rname bs s).2 5).2.1).1⟩,
    (rint bs (rget bs (rname bs s).2 5).2.1).2.2, (rget bs (rname bs s).2 5).2.2 || decide ((rint bs (rget bs (rname bs s).2 5).2.1).2.1 ≠ 0))
def rfields (bs : List Int) : Nat → List GField → RS → List GField × RS
  | 0, acc, s => (acc, s)
  | n + 1, acc, s => rfields bs n (acc ++ [(rfield bs s).1]) (rfield bs s).2
def rkind (bs : List Int) (s : RS) : GKind × RS :=
  (⟨(rname bs s).1, (rfields bs (rget bs (rname bs s).2 4).1 [] (rget bs (rname bs s).2 4).2).1⟩, (rfields bs (rget bs (rname bs s).2 4).1 [] (rget bs (rname bs s).2 4).2).2)
def rkindsGo (bs : List Int) : Nat → List GKind → RS → List GKind × RS
  | 0, acc, s => (acc, s)
  | n + 1, acc, s => rkindsGo bs n (acc ++ [(rkind bs s).1]) (rkind bs s).2
def rkinds (bs : List Int) (s : RS) : List GKind × RS :=
  let r := rkindsGo bs (rget bs s 5).1 [] (rget bs s 5).2
  (r.1, r.2.1, r.2.2 || decide (checkE r.1 ≠ 0))

theorem rint_le {bs : List Int} {p : Nat} (h : p ≤ 8 * bs.length) : (rint bs p).2.2 ≤ 8 * bs.length := by
  have := (rnat_ok bs h).2
  unfold rint; split <;> exact this
theorem rfield_le {bs : List Int} {s : RS} (h : s.1 ≤ 8 * bs.length) : (rfield bs s).2.1 ≤ 8 * bs.length := rint_le (rget_le (rname_le h))
theorem rfields_le (bs : List Int) : ∀ (n : Nat) (acc : List GField) (s : RS), s.1 ≤ 8 * bs.length → (rfields bs n acc s).2.1 ≤ 8 * bs.length
  | 0, _, _, h => h
  | n + 1, acc, s, h => rfields_le bs n _ _ (rfield_le h)
theorem rfields_len (bs : List Int) : ∀ (n : Nat) (acc : List GField) (s : RS), (rfields bs n acc s).1.length = acc.length + n
  | 0, _, _ => rfl
  | n + 1, acc, s => by rw [rfields, rfields_len bs n]; simp; omega
theorem rkind_le {bs : List Int} {s : RS} (h : s.1 ≤ 8 * bs.length) : (rkind bs s).2.1 ≤ 8 * bs.length := rfields_le bs _ _ _ (rget_le (rname_le h))
theorem rkindsGo_le (bs : List Int) : ∀ (n : Nat) (acc : List GKind) (s : RS), s.1 ≤ 8 * bs.length → (rkindsGo bs n acc s).2.1 ≤ 8 * bs.length
  | 0, _, _, h => h
  | n + 1, acc, s, h => rkindsGo_le bs n _ _ (rkind_le h)
theorem rkindsGo_len (bs : List Int) : ∀ (n : Nat) (acc : List GKind) (s : RS), (rkindsGo bs n acc s).1.length = acc.length + n
  | 0, _, _ => rfl
  | n + 1, acc, s => by rw [rkindsGo, rkindsGo_len bs n]; simp; omega
theorem rkind_fl (bs : List Int) (s : RS) : (rkind bs s).1.Fields.length ≤ 16 := by
  have h := rget_lt bs (rname bs s).2 4
  show (rfields bs _ _ _).1.length ≤ 16
  rw [rfields_len]; simp; omega
theorem rkindsGo_fl (bs : List Int) : ∀ (n : Nat) (acc : List GKind) (s : RS), (∀ k ∈ acc, k.Fields.length ≤ 16) → ∀ k ∈ (rkindsGo bs n acc s).1, k.Fields.length ≤ 16
  | 0, _, _, h => h
  | n + 1, acc, s, h => rkindsGo_fl bs n _ _ fun k hk => by
    rcases List.mem_append.1 hk with hk | hk
    · exact h k hk
    · obtain rfl := List.mem_singleton.1 hk; exact rkind_fl bs s

set_option maxRecDepth 20000 in
set_option maxHeartbeats 2000000 in
theorem RKinds_fn (bs : List Int) (s : RS) (hl : bs.length ≤ 100000) (hb : BytesOk bs) (hp : s.1 ≤ 8 * bs.length) :
    FnD Try.prog 80 [.ptr 0 0] [rdSt s 1, rSt bs s.1]
    (.sl 2 ((rkinds bs s).1.map GKind.e)) [some (rdSt (rkinds bs s).2 1), some (rSt bs (rkinds bs s).2.1)] := by
  refine fnd_go Try.func80 rfl ?_
  simp [Try.ntmps80]
  refine calD [0, 1] (RGet_fn bs s 5 (by omega) hl hb hp) ?_
  have hr : rkinds bs s = ((rkindsGo bs (rget bs s 5).1 [] (rget bs s 5).2).1, (rkindsGo bs (rget bs s 5).1 [] (rget bs s 5).2).2.1, (rkindsGo bs (rget bs s 5).1 [] (rget bs s 5).2).2.2 || decide (checkE (rkindsGo bs (rget bs s 5).1 [] (rget bs s 5).2).1 ≠ 0)) := rfl
  have h5 := rget_lt bs s 5
  have h6 := rget_le (n := 5) hp
  rw [hr]
  obtain ⟨g, hg⟩ : ∃ g, rget bs s 5 = g := ⟨_, rfl⟩
  rw [hg] at h5 h6 ⊢
  have hrl := rkindsGo_len bs g.1 [] g.2
  have hrf := rkindsGo_fl bs g.1 [] g.2 (by simp)
  simp
  refine awp_loop (fun x : Nat × List GKind × RS => ⟨72, [(0, .ptr 0 0), (3, .osl 2 2 0 x.2.1.length), (9, kI g.1), (10, kI x.1)], [some (rdSt x.2.2 1), some (rSt bs x.2.2.1), some (x.2.1.map GKind.e).flatten], 2⟩)
    (fun x => x.1 ≤ g.1 ∧ x.2.1.length = x.1 ∧ x.2.2.1 ≤ 8 * bs.length ∧ rkindsGo bs (g.1 - x.1) x.2.1 x.2.2 = rkindsGo bs g.1 [] g.2) (fun x => g.1 - x.1) (0, [], g.2) ?_ ?_ ?_
  · exact (ent_nil (t := 3) (z := 2) rfl).trans (entm [0, 1, 2])
  · simp [h6]
  · rintro ⟨i, acc, s1⟩ ⟨hi, hal, hs1, hrun⟩
    simp only at hi hal hs1 hrun
    have hacc := flat_imm GKind.e_imm acc
    by_cases hlt : i < g.1
    · refine awp_go ?_
      rw [show g.1 - i = (g.1 - (i + 1)) + 1 by omega, rkindsGo] at hrun
      have hw1 : IntKind.i64.wrap ((i : Int) + 1) = ((i + 1 : Nat) : Int) := wrap_id (by omega) (by omega)
      simp [hlt]
      refine calD [0, 1] (RName_fn bs s1 hl hb hs1) ?_
      have hk : rkind bs s1 = (⟨(rname bs s1).1, (rfields bs (rget bs (rname bs s1).2 4).1 [] (rget bs (rname bs s1).2 4).2).1⟩, (rfields bs (rget bs (rname bs s1).2 4).1 [] (rget bs (rname bs s1).2 4).2).2) := rfl
      rw [hk] at hrun
      have h7 := rname_le hs1
      obtain ⟨nm, hnm⟩ : ∃ nm, rname bs s1 = nm := ⟨_, rfl⟩
      rw [hnm] at h7 hrun ⊢
      simp
      refine calD [0, 1] (RGet_fn bs nm.2 4 (by omega) hl hb h7) ?_
      have h8 := rget_le (n := 4) h7
      have h9 := rget_lt bs nm.2 4
      obtain ⟨c, hc⟩ : ∃ c, rget bs nm.2 4 = c := ⟨_, rfl⟩
      rw [hc] at h8 h9 hrun ⊢
      simp
      refine awp_loop (fun y : Nat × List GField × RS => ⟨72, [(0, .ptr 0 0), (3, .osl 2 2 0 acc.length), (4, .ptr 3 0), (9, kI g.1), (10, kI i), (16, kI c.1), (17, kI y.1)],
          [some (rdSt y.2.2 1), some (rSt bs y.2.2.1), some (acc.map GKind.e).flatten, some [kS nm.1, .osl 4 3 0 y.2.1.length], some (y.2.1.map GField.e).flatten], 2⟩)
        (fun y => y.1 ≤ c.1 ∧ y.2.1.length = y.1 ∧ y.2.2.1 ≤ 8 * bs.length ∧ rfields bs (c.1 - y.1) y.2.1 y.2.2 = rfields bs c.1 [] c.2) (fun y => c.1 - y.1) (0, [], c.2) ?_ ?_ ?_
      · exact (ent_nilb (b := 3) (j := 1) (z := 3) rfl rfl).trans (entm [0, 1, 2, 3, 4] (hB := by simp [imms_ren hacc, imms_lt hacc]))
      · simp [h8]
      · rintro ⟨j, fs, s2⟩ ⟨hj, hfl, hs2, hrun2⟩
        simp only at hj hfl hs2 hrun2
        have hfs := flat_imm GField.e_imm fs
        by_cases hjl : j < c.1
        · refine awp_go ?_
          rw [show c.1 - j = (c.1 - (j + 1)) + 1 by omega, rfields] at hrun2
          have hw2 : IntKind.i64.wrap ((j : Int) + 1) = ((j + 1 : Nat) : Int) := wrap_id (by omega) (by omega)
          have hb1 : (fs.length + 1) * 32 ≤ 140737488355328 := by omega
          have hb2 : fs.length + 1 ≤ maxLen := by simp only [maxLen]; omega
          simp [hjl]
          refine calD [0, 1] (RName_fn bs s2 hl hb hs2) ?_
          have hF : rfield bs s2 = (⟨(rname bs s2).1, (rget bs (rname bs s2).2 5).1 + 1, (rint bs (rget bs (rname bs s2).2 5).2.1).1⟩,
            (rint bs (rget bs (rname bs s2).2 5).2.1).2.2, (rget bs (rname bs s2).2 5).2.2 || decide ((rint bs (rget bs (rname bs s2).2 5).2.1).2.1 ≠ 0)) := rfl
          rw [hF] at hrun2
          have k1 := rname_le hs2
          obtain ⟨fn, hfn⟩ : ∃ fn, rname bs s2 = fn := ⟨_, rfl⟩
          rw [hfn] at k1 hrun2 ⊢
          simp
          refine calD [0, 1] (RGet_fn bs fn.2 5 (by omega) hl hb k1) ?_
          have k2 := rget_le (n := 5) k1
          have k3 := rget_lt bs fn.2 5
          obtain ⟨fb, hfb⟩ : ∃ fb, rget bs fn.2 5 = fb := ⟨_, rfl⟩
          rw [hfb] at k2 k3 hrun2 ⊢
          have hw3 : IntKind.i64.wrap ((fb.1 : Int) + 1) = ((fb.1 + 1 : Nat) : Int) := wrap_id (by omega) (by omega)
          simp [hw3]
          refine calD [1] (RInt_fn bs fb.2.1 hl hb k2) ?_
          have k4 := rint_le k2
          obtain ⟨fv, hfv⟩ : ∃ fv, rint bs fb.2.1 = fv := ⟨_, rfl⟩
          rw [hfv] at k4 hrun2 ⊢
          obtain ⟨fb1, fp, bad⟩ := fb
          simp only at k2 k3 k4 hrun2 hw3 ⊢
          cases bad with
          | true =>
            simp [hb1, hb2, hw2, -Bool.exists_bool]
            exact ⟨j + 1, fs ++ [⟨fn.1, fb1 + 1, fv.1⟩], fv.2.2, true, ⟨by omega, by simp; omega, k4, by simpa using hrun2⟩, by omega, entm [0, 1, 2, 3, 7] (hT := by simp) (hB := by simp [GField.e, imms_ren hacc, imms_lt hacc, imms_ren hfs, imms_lt hfs])⟩
          | false =>
            by_cases h0 : fv.2.1 = 0
            · simp [hb1, hb2, hw2, h0, -Bool.exists_bool]
              exact ⟨j + 1, fs ++ [⟨fn.1, fb1 + 1, fv.1⟩], fv.2.2, false, ⟨by omega, by simp; omega, k4, by simpa [h0] using hrun2⟩, by omega, entm [0, 1, 2, 3, 7] (hT := by simp) (hB := by simp [GField.e, imms_ren hacc, imms_lt hacc, imms_ren hfs, imms_lt hfs])⟩
            · simp [hb1, hb2, hw2, h0, -Bool.exists_bool]
              exact ⟨j + 1, fs ++ [⟨fn.1, fb1 + 1, fv.1⟩], fv.2.2, true, ⟨by omega, by simp; omega, k4, by simpa [h0] using hrun2⟩, by omega, entm [0, 1, 2, 3, 7] (hT := by simp) (hB := by simp [GField.e, imms_ren hacc, imms_lt hacc, imms_ren hfs, imms_lt hfs])⟩
        · obtain rfl : j = c.1 := by omega
          rw [Nat.sub_self, rfields] at hrun2
          rw [← hrun2] at hrun
          refine awp_ent (ent_fz 4 _ (hi := hfs)) (awp_go ?_)
          have hb1 : (acc.length + 1) * 40 ≤ 140737488355328 := by omega
          have hb2 : acc.length + 1 ≤ maxLen := by simp only [maxLen]; omega
          simp [hb1, hb2, hw1, imms_fz hacc, flat_sum GField.e_len, chunks_map GField.e_len, -Bool.exists_bool]
          exact ⟨i + 1, acc ++ [⟨nm.1, fs⟩], s2.1, s2.2, ⟨by omega, by simp; omega, hs2, hrun⟩, by omega, entm [0, 1, 6] (hT := by simp) (hB := by simp [GKind.e, imms_ren hacc, imms_lt hacc])⟩
    · obtain rfl : i = g.1 := by omega
      rw [Nat.sub_self, rkindsGo] at hrun
      rw [← hrun] at hrl hrf ⊢
      refine awp_ent (ent_fz 2 _ (hi := hacc)) (awp_go ?_)
      obtain ⟨sp, bad⟩ := s1
      cases bad with
      | true =>
        simp [flat_sum GKind.e_len, chunks_map GKind.e_len]
        exact finGm [0, 1]
      | false =>
        simp [flat_sum GKind.e_len, chunks_map GKind.e_len]
        refine cal (Check_fn acc (fun k hk => by have := hrf k hk; omega) (by omega)) ?_
        by_cases h0 : checkE acc = 0
        · simp [h0]
          exact finGm [0, 1]
        · simp [h0]
          exact finGm [0, 1]
end Go.Proofs.Ytemlkbcfplkniaa.Am
/- Package save: the reader's items. -/
namespace Go.Proofs.Ytemlkbcfplkniaa.Am
open Go Go.RowKit

def ritems (bs : List Int) (ks : List GKind) : Nat → List Int → List GItem → RS → List Int × List GItem × RS
  | 0, gs, its, s => (gs, its, s)
  | k + 1, gs, its, s =>
    if s.2 = true ∨ (rnat bs s.1).2.1 ≠ 0 ∨ 1073741824 < (rnat bs s.1).1 then (gs, its, ((rnat bs s.1).2.2, true))
    else if (rget bs ((rnat bs s.1).2.2, false) 1).1 = 1 then
      ritems bs ks k (gs ++ [((rnat bs s.1).1 : Int)]) (its ++ [⟨⟨gs.length, (rnat bs s.1).1⟩, (rcomps bs 0 ks [] (rget bs ((rnat bs s.1).2.2, false) 1).2).1⟩]) (rcomps bs 0 ks [] (rget bs ((rnat bs s.1).2.2, false) 1).2).2
    else ritems bs ks k (gs ++ [((rnat bs s.1).1 : Int)]) its (rget bs ((rnat bs s.1).2.2, false) 1).2
def ritemsM (bs : List Int) (ks : List GKind) (s : RS) : GWorld × RS :=
  (⟨ks, (ritems bs ks (rget bs s 9).1 [] [] (rget bs s 9).2).1, (ritems bs ks (rget bs s 9).1 [] [] (rget bs s 9).2).2.1⟩, (ritems bs ks (rget bs s 9).1 [] [] (rget bs s 9).2).2.2)

set_option maxRecDepth 20000 in
set_option maxHeartbeats 2000000 in
theorem RItems_fn (bs : List Int) (s : RS) (ks : List GKind) (hk : ks.length ≤ 16) (hf : ∀ k ∈ ks, k.Fields.length ≤ 8 ∧ ∀ f ∈ k.Fields, fieldB f = true) (hl : bs.length ≤ 100000) (hb : BytesOk bs) (hp : s.1 ≤ 8 * bs.length) :
    FnD Try.prog 81 [.ptr 0 0, .sl 2 (ks.map GKind.e)] [rdSt s 1, rSt bs s.1]
    (.agg (ritemsM bs ks s).1.e) [some (rdSt (ritemsM bs ks s).2 1), some (rSt bs (ritemsM bs ks s).2.1)] := by
  refine fnd_go Try.func81 rfl ?_
  simp [Try.ntmps81]
  refine calD [0, 1] (RGet_fn bs s 9 (by omega) hl hb hp) ?_
  have hr : ritemsM bs ks s = (⟨ks, (ritems bs ks (rget bs s 9).1 [] [] (rget bs s 9).2).1, (ritems bs ks (rget bs s 9).1 [] [] (rget bs s 9).2).2.1⟩, (ritems bs ks (rget bs s 9).1 [] [] (rget bs s 9).2).2.2) := rfl
  have h5 := rget_lt bs s 9
  have h6 := rget_le (n := 9) hp
  rw [hr]
  obtain ⟨g, hg⟩ : ∃ g, rget bs s 9 = g := ⟨_, rfl⟩
  rw [hg] at h5 h6 ⊢
  simp
  obtain ⟨R, hR⟩ : ∃ R, ritems bs ks g.1 [] [] g.2 = R := ⟨_, rfl⟩
  rw [hR]
  refine awp_loop (fun x : Nat × List Int × List GItem × RS => ⟨69, [(0, .ptr 0 0), (1, .sl 2 (ks.map GKind.e)), (4, .ptr 2 0), (5, .ptr 3 0), (12, kI g.1), (13, kI x.1)],
      [some (rdSt x.2.2.2 1), some (rSt bs x.2.2.2.1), some [kNil, kNil, kNil], some [.sl 2 (ks.map GKind.e), .osl 4 1 0 x.2.1.length, .osl 5 3 0 x.2.2.1.length], some (x.2.1.map kI), some (x.2.2.1.map GItem.e).flatten], 2⟩)
    (fun x => x.1 ≤ g.1 ∧ x.2.1.length = x.1 ∧ x.2.2.1.length ≤ x.1 ∧ x.2.2.2.1 ≤ 8 * bs.length ∧ ritems bs ks (g.1 - x.1) x.2.1 x.2.2.1 x.2.2.2 = R) (fun x => g.1 - x.1) (0, [], [], g.2) ?_ ?_ ?_
  · exact (ent_nilb (b := 3) (j := 1) (z := 1) rfl rfl).trans ((ent_nilb (b := 3) (j := 2) (z := 3) rfl rfl).trans (entm [0, 1, 2, 3, 4, 5]))
  · simp [h6, hR]
  · rintro ⟨i, gs, its, s1⟩ ⟨hi, hgl, hil, hs1, hrun⟩
    simp only at hi hgl hil hs1 hrun
    have hits := flat_imm GItem.e_imm its
    have hgs : (gs.map kI).all PV.immB = true := by simp
    by_cases hlt : i < g.1
    · refine awp_go ?_
      rw [show g.1 - i = (g.1 - (i + 1)) + 1 by omega, ritems] at hrun
      have hw1 : IntKind.i64.wrap ((i : Int) + 1) = ((i + 1 : Nat) : Int) := wrap_id (by omega) (by omega)
      simp [hlt]
      refine calD [1] (RNat_fn bs s1.1 hl hb hs1) ?_
      obtain ⟨hvl, hvp⟩ := rnat_ok bs hs1
      obtain ⟨v, hv⟩ : ∃ v, rnat bs s1.1 = v := ⟨_, rfl⟩
      rw [hv] at hvl hvp hrun ⊢
      obtain ⟨p1, bad⟩ := s1
      simp only at hrun hs1
      cases bad with
      | true =>
        rw [if_pos (.inl rfl)] at hrun
        simp
        rw [← hrun]
        simp
        refine finG_fz 4 _ ?_ (hi := hgs)
        simp [flat_sum GItem.e_len, imms_fz hits]
        refine finG_fz 5 _ ?_ (hi := hits)
        simp [flat_sum GItem.e_len, chunks_map GItem.e_len]
        exact finGm [0, 1] (hres := by simp [GWorld.e, slI])
      | false =>
        by_cases h0 : v.2.1 = 0
        · by_cases h1 : 1073741824 < v.1
          · rw [if_pos (.inr (.inr h1))] at hrun
            have h1' : (1073741824 : Int) < v.1 := by omega
            simp [h0, h1, h1']
            rw [← hrun]
            simp
            refine finG_fz 4 _ ?_ (hi := hgs)
            simp [flat_sum GItem.e_len, imms_fz hits]
            refine finG_fz 5 _ ?_ (hi := hits)
            simp [flat_sum GItem.e_len, chunks_map GItem.e_len]
            exact finGm [0, 1] (hres := by simp [GWorld.e, slI])
          · rw [if_neg (by simp [h0, h1])] at hrun
            have h1' : ¬ (1073741824 : Int) < v.1 := by omega
            have hw2 : IntKind.i64.wrap (v.1 : Int) = v.1 := wrap_id (by omega) (by omega)
            have hb1 : (gs.length + 1) * 8 ≤ 140737488355328 := by omega
            have hb2 : gs.length + 1 ≤ maxLen := by simp only [maxLen]; omega
            simp [h0, h1, h1', hw2, hb1, hb2]
            refine calD [0, 1] (RGet_fn bs (v.2.2, false) 1 (by omega) hl hb hvp) ?_
            have h7 := rget_le (bs := bs) (s := (v.2.2, false)) (n := 1) hvp
            have hgs2 : (gs.map kI ++ [kI (v.1 : Int)]).all PV.immB = true := by simp
            obtain ⟨c, hc⟩ : ∃ c, rget bs (v.2.2, false) 1 = c := ⟨_, rfl⟩
            rw [hc] at h7 hrun ⊢
            by_cases hc1 : c.1 = 1
            · rw [if_pos hc1] at hrun
              have hC := RComps_fn bs c.2 ks hk hf hl hb h7
              have hCl := rcomps_le bs ks 0 [] c.2 h7
              obtain ⟨z, hz⟩ : ∃ z, rcomps bs 0 ks [] c.2 = z := ⟨_, rfl⟩
              rw [hz] at hC hCl hrun
              have hb3 : (its.length + 1) * 40 ≤ 140737488355328 := by omega
              have hb4 : its.length + 1 ≤ maxLen := by simp only [maxLen]; omega
              simp [hc1]
              refine awp_drawS follows_mix [(0, 0), (0, 0), (0, 0), (0, 0), (0, 0), (0, 0), (0, 0), (0, 0), (3, 0), (0, 0), (4, 8), (4, 9), (0, 0), (1, 0)] 8 10 [(0, 8), (0, 10), (1, 8), (1, 10), (2, 8), (3, 8), (4, 8), (5, 8)] (by kernel_rfl) rfl rfl ?_
              simp [hw2]
              refine gE_callW (.sl 2 (z.1.map GComp.e)) [0, 1] [(0, some (rdSt z.2 1)), (1, some (rSt bs z.2.1))] rfl (fun y => ?_) ?_
              · simp
                exact doD [0, 1] hC (hbox := by simp) (h2 := by simp)
              simp [hw2, hb3, hb4, hw1, -Bool.exists_bool]
              rw [hgl] at hrun
              have hit : [kI (i : Int), kI (v.1 : Int), PV.sl 2 (z.1.map GComp.e)].all PV.immB = true := rfl
              exact ⟨i + 1, gs ++ [(v.1 : Int)], its ++ [⟨⟨i, v.1⟩, z.1⟩], z.2.1, z.2.2, ⟨by omega, by simp; omega, by simp; omega, hCl, hrun⟩, by omega, entm [0, 1, 2, 3, 7, 9] (hB := by simp [GItem.e, imms_ren hits, imms_lt hits, imms_ren hgs2, imms_lt hgs2])⟩
            · rw [if_neg hc1] at hrun
              have hc1' : ¬ (c.1 : Int) = 1 := by omega
              simp [hc1, hc1', hw1, -Bool.exists_bool]
              exact ⟨i + 1, gs ++ [(v.1 : Int)], its, c.2.1, c.2.2, ⟨by omega, by simp; omega, by omega, h7, hrun⟩, by omega, entm [0, 1, 2, 3, 7, 5] (hB := by simp [imms_ren hits, imms_lt hits, imms_ren hgs2, imms_lt hgs2])⟩
        · rw [if_pos (.inr (.inl h0))] at hrun
          simp [h0]
          rw [← hrun]
          simp
          refine finG_fz 4 _ ?_ (hi := hgs)
          simp [flat_sum GItem.e_len, imms_fz hits]
          refine finG_fz 5 _ ?_ (hi := hits)
          simp [flat_sum GItem.e_len, chunks_map GItem.e_len]
          exact finGm [0, 1] (hres := by simp [GWorld.e, slI])
    · obtain rfl : i = g.1 := by omega
      rw [Nat.sub_self, ritems] at hrun
      rw [← hrun]
      refine awp_go ?_
      simp
      refine finG_fz 4 _ ?_ (hi := hgs)
      simp [flat_sum GItem.e_len, imms_fz hits]
      refine finG_fz 5 _ ?_ (hi := hits)
      simp [flat_sum GItem.e_len, chunks_map GItem.e_len]
      exact finGm [0, 1] (hres := by simp [GWorld.e, slI])
end Go.Proofs.Ytemlkbcfplkniaa.Am
/- Package save: Read. -/
namespace Go.Proofs.Ytemlkbcfplkniaa.Am
open Go Go.RowKit

theorem rcomps_fine (bs : List Int) : ∀ (r : List GKind) (i : Nat) (acc : List GComp) (s : RS), (∀ k ∈ r, k.Fields.length ≤ 8) → (∀ c ∈ acc, c.Vals.length ≤ 8) →
    (rcomps bs i r acc s).1.length ≤ acc.length + r.length ∧ ∀ c ∈ (rcomps bs i r acc s).1, c.Vals.length ≤ 8
  | [], _, acc, _, _, h => ⟨by simp [rcomps], h⟩
  | k :: r, i, acc, s, hk, h => by
    rw [rcomps]
    split
    · obtain ⟨h1, h2⟩ := rcomps_fine bs r (i + 1) acc (rget bs s 1).2 (fun k' hk' => hk k' (by simp [hk'])) h
      exact ⟨by simp; omega, h2⟩
    · obtain ⟨h1, h2⟩ := rcomps_fine bs r (i + 1) (acc ++ [⟨i, (rvals bs k.Fields [] (rget bs s 1).2).1⟩]) (rvals bs k.Fields [] (rget bs s 1).2).2 (fun k' hk' => hk k' (by simp [hk'])) (fun c hc => by
        rcases List.mem_append.1 hc with hc | hc
        · exact h c hc
        · obtain rfl := List.mem_singleton.1 hc
          have := rvals_len bs k.Fields [] (rget bs s 1).2
          have := hk k (by simp)
          simp only [List.length_nil] at *
          omega)
      exact ⟨by simp at h1; simp; omega, h2⟩
theorem ritems_fine (bs : List Int) (ks : List GKind) (hk : ∀ k ∈ ks, k.Fields.length ≤ 8) : ∀ (n : Nat) (gs : List Int) (its : List GItem) (s : RS), (∀ it ∈ its, it.Comps.length ≤ ks.length ∧ ∀ c ∈ it.Comps, c.Vals.length ≤ 8) →
    (ritems bs ks n gs its s).1.length ≤ gs.length + n ∧ (ritems bs ks n gs its s).2.1.length ≤ its.length + n ∧ ∀ it ∈ (ritems bs ks n gs its s).2.1, it.Comps.length ≤ ks.length ∧ ∀ c ∈ it.Comps, c.Vals.length ≤ 8
  | 0, gs, its, s, h => ⟨by simp [ritems], by simp [ritems], h⟩
  | n + 1, gs, its, s, h => by
    rw [ritems]
    split
    · exact ⟨by simp, by simp, h⟩
    · split
      · obtain ⟨c1, c2⟩ := rcomps_fine bs ks 0 [] (rget bs ((rnat bs s.1).2.2, false) 1).2 hk (by simp)
        obtain ⟨h1, h2, h3⟩ := ritems_fine bs ks hk n (gs ++ [((rnat bs s.1).1 : Int)]) (its ++ [⟨⟨gs.length, (rnat bs s.1).1⟩, (rcomps bs 0 ks [] (rget bs ((rnat bs s.1).2.2, false) 1).2).1⟩]) (rcomps bs 0 ks [] (rget bs ((rnat bs s.1).2.2, false) 1).2).2 (fun it hit => by
          rcases List.mem_append.1 hit with hit | hit
          · exact h it hit
          · obtain rfl := List.mem_singleton.1 hit
            exact ⟨by simpa using c1, c2⟩)
        exact ⟨by simp at h1; omega, by simp at h2; omega, h3⟩
      · obtain ⟨h1, h2, h3⟩ := ritems_fine bs ks hk n (gs ++ [((rnat bs s.1).1 : Int)]) its (rget bs ((rnat bs s.1).2.2, false) 1).2 h
        exact ⟨by simp at h1; omega, by omega, h3⟩

theorem ritemsM_fine (body : List Int) (ks : List GKind) (s : RS) (ce1 : ks.length ≤ 16) (ce2 : ∀ x ∈ ks, x.Fields.length ≤ 8) :
    Fine (ritemsM body ks s).1 ∧ ∀ it ∈ (ritemsM body ks s).1.Items, ∀ c ∈ it.Comps, c.Vals.length ≤ 1000 := by
  have hW : ritemsM body ks s = (⟨ks, (ritems body ks (rget body s 9).1 [] [] (rget body s 9).2).1, (ritems body ks (rget body s 9).1 [] [] (rget body s 9).2).2.1⟩, (ritems body ks (rget body s 9).1 [] [] (rget body s 9).2).2.2) := rfl
  have h9 := rget_lt body s 9
  obtain ⟨i1, i2, i3⟩ := ritems_fine body ks ce2 (rget body s 9).1 [] [] (rget body s 9).2 (by simp)
  rw [hW]
  simp only [List.length_nil] at i1 i2
  exact ⟨⟨by simp only; omega, fun x hx => by have := ce2 x hx; omega, by simp only; omega, by simp only; omega, fun it hit => by have := (i3 it hit).1; omega, fun it hit c hc => by have := (i3 it hit).2 c hc; omega⟩, fun it hit c hc => by have := (i3 it hit).2 c hc; omega⟩
theorem rkinds_ok (bs : List Int) (s : RS) (h : (rkinds bs s).2.2 = false) : checkE (rkinds bs s).1 = 0 := by
  have h' : ((rkindsGo bs (rget bs s 5).1 [] (rget bs s 5).2).2.2 || decide (checkE (rkindsGo bs (rget bs s 5).1 [] (rget bs s 5).2).1 ≠ 0)) = false := h
  rw [Bool.or_eq_false_iff] at h'
  show checkE (rkindsGo bs (rget bs s 5).1 [] (rget bs s 5).2).1 = 0
  exact Decidable.byContradiction fun e => by simp [e] at h'

def w00 : GWorld := ⟨[], [], []⟩
def readB (body b : List Int) : GWorld × Int :=
  if (rget body (0, false) 8).1 ≠ 1 ∨ (rget body (0, false) 8).2.2 = true then (w00, 3)
  else if (rkinds body (rget body (0, false) 8).2).2.2 = true then (w00, 3)
  else if (ritemsM body (rkinds body (rget body (0, false) 8).2).1 (rkinds body (rget body (0, false) 8).2).2).2.2 = true then (w00, 3)
  else if (writeM (ritemsM body (rkinds body (rget body (0, false) 8).2).1 (rkinds body (rget body (0, false) 8).2).2).1).2 ≠ 0 ∨ (writeM (ritemsM body (rkinds body (rget body (0, false) 8).2).1 (rkinds body (rget body (0, false) 8).2).2).1).1 ≠ b then (w00, 3)
  else ((ritemsM body (rkinds body (rget body (0, false) 8).2).1 (rkinds body (rget body (0, false) 8).2).2).1, 0)
def readM (b : List Int) : GWorld × Int :=
  if 65536 < b.length then (w00, 2) else if b.length < 8 then (w00, 14) else if sealB (b.take (b.length - 8)) ≠ b then (w00, 13) else readB (b.take (b.length - 8)) b

set_option maxRecDepth 20000 in
theorem New_fn (bs : List Int) (hl : bs.length ≤ 100000) : FnD Try.prog 45 [slB bs] [] (.ptr 0 0) [some (rSt bs 0)] := by
  have him : ∀ bs : List Int, (bs.map kU8).all PV.immB = true := fun bs => by simp
  refine fnd_go Try.func45 rfl ?_
  have h1 : bs.length ≤ 140737488355328 := by omega
  have h2 : bs.length ≤ maxLen := by simp only [maxLen]; omega
  simp [Try.ntmps45, h1, h2]
  rw [flatB]
  refine finG_fz 1 (bs.map kU8) ?_
  simp [chunks_b]
  exact finGm [2]

theorem sealB_ok {l : List Int} (h : BytesOk l) : BytesOk (sealB l) := fun c hc => by
  rcases List.mem_append.1 hc with hc | hc
  · exact h c hc
  · obtain ⟨i, _, rfl⟩ := List.mem_map.1 hc; omega
theorem writeM_ok (W : GWorld) : BytesOk (writeM W).1 := by
  unfold writeM
  split
  · intro c hc; simp at hc
  · split
    · intro c hc; simp at hc
    · exact sealB_ok (pack_ok _)
theorem ent_w00 {N k : Nat} {T : List (Nat × PV)} {σ : Boxes} : Ent ⟨N, T, some [kNil, kNil, kNil] :: σ, k⟩ ⟨N, T, some w00.e :: σ, k⟩ :=
  (ent_cell (s := ⟨N, T, some [kNil, kNil, kNil] :: σ, k⟩) (cs := [kNil, kNil, kNil]) 0 0 (tell_nil 2)).trans ((ent_cell (s := ⟨N, T, some [.sl 2 [], kNil, kNil] :: σ, k⟩) (cs := [.sl 2 [], kNil, kNil]) 0 1 (tell_nil 1)).trans (ent_cell (s := ⟨N, T, some [.sl 2 [], .sl 1 [], kNil] :: σ, k⟩) (cs := [.sl 2 [], .sl 1 [], kNil]) 0 2 (tell_nil 3)))

set_option maxRecDepth 20000 in
set_option maxHeartbeats 2000000 in
theorem Read_fn (b : List Int) (hb : BytesOk b) : Fn Try.prog 31 [slB b] (.tup [.agg (readM b).1.e, kI (readM b).2]) := by
  have him : ∀ bs : List Int, (bs.map kU8).all PV.immB = true := fun bs => by simp
  refine fn_go Try.func31 rfl ?_
  by_cases h1 : 65536 < b.length
  · have e : readM b = (w00, 2) := by simp [readM, h1]
    have h1' : (65536 : Int) < b.length := by omega
    rw [e]
    simp [Try.ntmps31, h1, h1']
    refine fin_ent ent_w00 ?_
    exact finm
  · by_cases h2 : b.length < 8
    · have e : readM b = (w00, 14) := by simp [readM, h1, h2]
      have h1' : ¬ (65536 : Int) < b.length := by omega
      have h2' : (b.length : Int) < 8 := by omega
      rw [e]
      simp [Try.ntmps31, h1, h1', h2, h2']
      refine fin_ent ent_w00 ?_
      exact finm
    · have h1' : ¬ (65536 : Int) < b.length := by omega
      have h2' : ¬ (b.length : Int) < 8 := by omega
      obtain ⟨m, hm⟩ : ∃ m, b.length - 8 = m := ⟨_, rfl⟩
      obtain ⟨body, hbody⟩ : ∃ body, b.take m = body := ⟨_, rfl⟩
      have hbl : body.length = m := by rw [← hbody]; simp; omega
      have hbb : BytesOk body := fun c hc => hb c (List.mem_of_mem_take (hbody ▸ hc))
      have hM : readM b = if sealB body ≠ b then (w00, 13) else readB body b := by simp [readM, h1, h2, hm, hbody]
      have hw1 : IntKind.i64.wrap ((b.length : Int) - 8) = m := by rw [wrap_id (by omega) (by omega)]; omega
      have hmb : (m : Int) ≤ b.length := by omega
      have hmin : min m b.length = m := by omega
      have hb1 : m ≤ 140737488355328 := by omega
      have hb2 : m ≤ maxLen := by simp only [maxLen]; omega
      rw [hM]
      simp [Try.ntmps31, h1, h1', h2, h2', hw1, hmb, hmin, hb1, hb2]
      rw [← List.map_take, hbody, flatB]
      have hS := Seal_fn body (by omega) hbb
      rw [hbl] at hS
      refine calD [2] hS ?_ (hbox := by simp [imms_ren (him _), imms_lt (him _)])
      have hsb : BytesOk (sealB body) := fun c hc => by
        rcases List.mem_append.1 hc with hc | hc
        · exact hbb c hc
        · obtain ⟨i, _, rfl⟩ := List.mem_map.1 hc; omega
      simp [imms_ren (him _), imms_lt (him _)]
      refine calS (Equal_fn (sealB body) b hsb hb) ?_ (hren := by simp [chunks_b])
      by_cases h3 : sealB body = b
      · rw [if_neg (by simpa using h3)]
        simp [h3]
        refine calD [] (New_fn body (by omega)) ?_ (hren := by simp)
        simp
        refine calD [5, 4] (RGet_fn body (0, false) 8 (by omega) (by omega) hbb (by omega)) ?_
        have q1 := rget_le (bs := body) (s := (0, false)) (n := 8) (by omega)
        have hB : readB body b = if (rget body (0, false) 8).1 ≠ 1 ∨ (rget body (0, false) 8).2.2 = true then (w00, 3)
          else if (rkinds body (rget body (0, false) 8).2).2.2 = true then (w00, 3)
          else if (ritemsM body (rkinds body (rget body (0, false) 8).2).1 (rkinds body (rget body (0, false) 8).2).2).2.2 = true then (w00, 3)
          else if (writeM (ritemsM body (rkinds body (rget body (0, false) 8).2).1 (rkinds body (rget body (0, false) 8).2).2).1).2 ≠ 0 ∨ (writeM (ritemsM body (rkinds body (rget body (0, false) 8).2).1 (rkinds body (rget body (0, false) 8).2).2).1).1 ≠ b then (w00, 3)
          else ((ritemsM body (rkinds body (rget body (0, false) 8).2).1 (rkinds body (rget body (0, false) 8).2).2).1, 0) := rfl
        obtain ⟨g, hg⟩ : ∃ g, rget body (0, false) 8 = g := ⟨_, rfl⟩
        rw [hg] at q1 hB ⊢
        by_cases h4 : g.1 = 1
        · by_cases h5 : g.2.2 = true
          · rw [if_pos (.inr h5)] at hB
            rw [hB]
            simp [h4, h5]
            refine fin_ent ent_w00 ?_
            exact finm
          · rw [if_neg (by simp [h4, h5])] at hB
            have h5' : g.2.2 = false := by simpa using h5
            simp [h4, h5']
            refine calD [5, 4] (RKinds_fn body g.2 (by omega) hbb q1) ?_ (hbox := by simp [h5'])
            have q2 : (rkinds body g.2).2.1 ≤ 8 * body.length := rkindsGo_le body _ _ _ (rget_le q1)
            have q3 := rkinds_ok body g.2
            obtain ⟨k, hk⟩ : ∃ k, rkinds body g.2 = k := ⟨_, rfl⟩
            rw [hk] at q2 q3 hB ⊢
            by_cases h6 : k.2.2 = true
            · rw [if_pos h6] at hB
              rw [hB]
              simp [h6]
              refine fin_ent ent_w00 ?_
              exact finm
            · have h6' : k.2.2 = false := by simpa using h6
              rw [if_neg h6] at hB
              have hce := q3 h6'
              obtain ⟨ce1, ce2⟩ := checkE_le hce
              have hone := checkE_one hce
              have hff : ∀ x ∈ k.1, x.Fields.length ≤ 8 ∧ ∀ f ∈ x.Fields, fieldB f = true := fun x hx => ⟨ce2 x hx, oneE_fields (hone x hx)⟩
              simp [h6']
              refine calD [5, 4] (RItems_fn body k.2 k.1 ce1 hff (by omega) hbb q2) ?_ (hbox := by simp [h6'])
              obtain ⟨hfi, hvl⟩ := ritemsM_fine body k.1 k.2 ce1 ce2
              obtain ⟨W, hWe⟩ : ∃ W, ritemsM body k.1 k.2 = W := ⟨_, rfl⟩
              rw [hWe] at hfi hvl hB ⊢
              by_cases h7 : W.2.2 = true
              · rw [if_pos h7] at hB
                rw [hB]
                simp [h7]
                refine fin_ent ent_w00 ?_
                exact finm
              · have h7' : W.2.2 = false := by simpa using h7
                rw [if_neg h7] at hB
                simp [h7']
                refine cal (Write_fn W.1 hfi hvl) ?_
                obtain ⟨c, hc⟩ : ∃ c, writeM W.1 = c := ⟨_, rfl⟩
                rw [hc] at hB ⊢
                by_cases h8 : c.2 = 0
                · have hcb : BytesOk c.1 := hc ▸ writeM_ok W.1
                  simp [h8]
                  refine cal (Equal_fn c.1 b hcb hb) ?_
                  by_cases h9 : c.1 = b
                  · rw [if_neg (by simp [h8, h9])] at hB
                    rw [hB]
                    simp [h9]
                    exact finm
                  · rw [if_pos (.inr h9)] at hB
                    rw [hB]
                    simp [h9]
                    refine fin_ent ent_w00 ?_
                    exact finm
                · rw [if_pos (.inl h8)] at hB
                  rw [hB]
                  simp [h8]
                  refine fin_ent ent_w00 ?_
                  exact finm
        · rw [if_pos (.inl h4)] at hB
          have h4' : ¬ (g.1 : Int) = 1 := by omega
          rw [hB]
          simp [h4, h4']
          refine fin_ent ent_w00 ?_
          exact finm
      · rw [if_pos h3]
        simp [h3]
        refine fin_ent ent_w00 ?_
        exact finm
end Go.Proofs.Ytemlkbcfplkniaa.Am
/- Package save: the small world written and read back. -/
namespace Go.Proofs.Ytemlkbcfplkniaa.Am
open Go Go.RowKit

theorem base_write : (writeM baseW).2 = 0 := by kernel_rfl
theorem base_wlen : decide (9 ≤ (writeM baseW).1.length ∧ (writeM baseW).1.length ≤ 100) = true := by kernel_rfl
theorem base_read : readM (writeM baseW).1 = (baseW, 0) := by kernel_rfl

theorem baseW_fine2 : Fine baseW := ⟨by decide, by decide, by decide, by decide, by decide, by decide⟩
set_option maxRecDepth 20000 in
theorem saved_fn : Fn Try.prog 29 [] (kB true) := by
  refine fn_go Try.func29 rfl ?_
  simp [Try.ntmps29]
  refine cal base_fn ?_
  simp
  refine cal (Write_fn baseW baseW_fine2 (by decide)) ?_
  have h1 := base_write
  have h2 := of_decide_eq_true base_wlen
  have h3 := base_read
  have h4 := writeM_ok baseW
  generalize writeM baseW = w at h1 h2 h3 h4 ⊢
  have h5 : ¬ (w.1.length : Int) < 9 := by omega
  simp [h1, h5]
  have hR := Read_fn w.1 h4
  rw [h3] at hR
  refine cal hR ?_
  simp
  refine awp_draw follows_mix [] [(0, [0]), (0, [0]), (0, [0]), (0, [0]), (2, [0]), (2, [0]), (0, [0]), (0, [0])] 0 (by kernel_rfl) rfl ?_
  simp
  refine gD_call (.agg baseW.e) ?_
  simp
  refine gD_call (kB true) ?_
  simp
  have hS := same_fn baseW baseW baseW_fine2
  rw [decide_eq_true rfl] at hS
  refine ⟨⟨calO base_fn, calO hS⟩, ?_⟩
  exact finm

def bytesM (l : List Int) : List Int := l.map fun n => n % 256
theorem bytesM_ok (l : List Int) : BytesOk (bytesM l) := fun c hc => by
  obtain ⟨n, _, rfl⟩ := List.mem_map.1 hc; omega
set_option maxRecDepth 20000 in
theorem Bytes_fn (l : List Int) (hl : l.length ≤ 140737488355328) : Fn Try.prog 30 [slI l] (slB (bytesM l)) := by
  have him : ∀ bs : List Int, (bs.map kU8).all PV.immB = true := fun bs => by simp
  refine fn_go Try.func30 rfl ?_
  simp [Try.ntmps30]
  refine awp_loop (fun i : Nat => ⟨19, [(3, .osl 0 1 0 i), (6, slI l), (7, kI l.length), (8, kI i)], [some ((bytesM (l.take i)).map kU8)], 0⟩) (fun i => i ≤ l.length) (fun i => l.length - i) 0 ?_ ?_ ?_
  · exact (ent_nil (t := 3) (z := 1) rfl).trans (entm [0] (hB := by simp [bytesM]))
  · simp
  · intro i hi
    refine awp_go ?_
    by_cases hlt : i < l.length
    · have hw1 : IntKind.i64.wrap ((i : Int) + 1) = ((i + 1 : Nat) : Int) := wrap_id (by omega) (by omega)
      have hb1 : i + 1 ≤ 140737488355328 := by omega
      have hb2 : i + 1 ≤ maxLen := by simp only [maxLen]; omega
      have hbl : (bytesM (l.take i)).length = i := by simp [bytesM]; omega
      have hsn : bytesM (l.take (i + 1)) = bytesM (l.take i) ++ [l[i] % 256] := by
        unfold bytesM; rw [List.take_add_one, List.getElem?_eq_getElem hlt]; exact List.map_append
      generalize bytesM (l.take i) = B at hbl hsn ⊢
      simp [hlt, hw1, hb1, hb2, hbl]
      rw [IntKind.wrap_u8]
      exact ⟨i + 1, by omega, by omega, entm [2] (hB := by simp [hsn, imms_ren (him _), imms_lt (him _)])⟩
    · obtain rfl : i = l.length := by omega
      rw [List.take_length]
      simp
      refine fin_fz 0 ((bytesM l).map kU8) ?_
      have hbl : (bytesM l).length = l.length := by simp [bytesM]
      have hch := chunks_b (bytesM l)
      rw [hbl] at hch
      simp [hbl, hch]
      exact finm
end Go.Proofs.Ytemlkbcfplkniaa.Am
/- The law SaveOnly. -/
namespace Go.Proofs.Ytemlkbcfplkniaa.Am
open Go Go.RowKit

set_option maxRecDepth 20000 in
theorem EqB_fn (a b : List Int) (ha : a.length ≤ 1000000000) : Fn Try.prog 33 [slB a, slB b] (kB (decide (a = b))) := by
  refine fn_go Try.func33 rfl ?_
  simp [Try.ntmps33]
  by_cases h : a.length = b.length
  · have h' : (a.length : Int) = b.length := by omega
    simp [h']
    refine awp_loop (fun i : Nat => ⟨26, [(0, slB a), (1, slB b), (12, kI b.length), (13, kI i)], [], 0⟩) (fun i => i ≤ a.length ∧ a.take i = b.take i) (fun i => a.length - i) 0 ?_ ?_ ?_
    · exact entm []
    · simp
    · intro i ⟨hi, hp⟩
      refine awp_go ?_
      by_cases hlt : i < b.length
      · have hla : i < a.length := by omega
        simp [hlt]
        refine awp_draw follows_mix [] [(0, [0]), (0, [0]), (0, [0]), (0, [0]), (0, [0]), (0, [0]), (0, [0]), (0, [0]), (0, [0])] 0 (by kernel_rfl) rfl ?_
        simp [hlt, hla]
        by_cases he : a[i] = b[i]
        · simp [he]
          rw [wrap_id (by omega) (by omega)]
          exact ⟨i + 1, ⟨by omega, take_extG hla hlt hp he⟩, by omega, entm []⟩
        · simp [he]
          have hne : a ≠ b := fun e => by subst e; exact he rfl
          exact finm (by simp [hne])
      · simp [hlt]
        have e1 : a.take i = a := List.take_of_length_le (by omega)
        have e2 : b.take i = b := List.take_of_length_le (by omega)
        exact finm (by simp [show a = b by rw [← e1, hp, e2]])
  · have h' : ¬ (a.length : Int) = b.length := by omega
    have hne : a ≠ b := fun e => h (by rw [e])
    simp [h']
    exact finm (by simp [hne])
theorem readM_len {b : List Int} (h : (readM b).2 = 0) : b.length ≤ 1000000000 := by
  unfold readM at h
  split at h
  · simp at h
  · omega

theorem readB_cases (body b : List Int) : readB body b = (w00, 3) ∨ ∃ W, readB body b = (W, 0) ∧ Fine W ∧ (∀ it ∈ W.Items, ∀ c ∈ it.Comps, c.Vals.length ≤ 1000) ∧ writeM W = (b, 0) := by
  unfold readB
  split
  · exact .inl rfl
  · split
    · exact .inl rfl
    · rename_i h6
      have hce := rkinds_ok body (rget body (0, false) 8).2 (by simpa using h6)
      obtain ⟨ce1, ce2⟩ := checkE_le hce
      obtain ⟨hfi, hvl⟩ := ritemsM_fine body (rkinds body (rget body (0, false) 8).2).1 (rkinds body (rget body (0, false) 8).2).2 ce1 ce2
      split
      · exact .inl rfl
      · split
        · exact .inl rfl
        · rename_i h9
          refine .inr ⟨_, rfl, hfi, hvl, ?_⟩
          have h1 := fun e => h9 (.inl e)
          have h2 := fun e => h9 (.inr e)
          exact Prod.ext (Decidable.byContradiction h2) (Decidable.byContradiction h1)
theorem readM_cases (b : List Int) : (readM b = (w00, 2) ∨ readM b = (w00, 14) ∨ readM b = (w00, 13) ∨ readM b = (w00, 3)) ∨ ∃ W, readM b = (W, 0) ∧ Fine W ∧ (∀ it ∈ W.Items, ∀ c ∈ it.Comps, c.Vals.length ≤ 1000) ∧ writeM W = (b, 0) := by
  unfold readM
  split
  · exact .inl (.inl rfl)
  · split
    · exact .inl (.inr (.inl rfl))
    · split
      · exact .inl (.inr (.inr (.inl rfl)))
      · rcases readB_cases (b.take (b.length - 8)) b with h | h
        · exact .inl (.inr (.inr (.inr h)))
        · exact .inr h

set_option maxRecDepth 20000 in
theorem SaveOnly_law (l : List Int) (hl : l.length * 8 ≤ 140737488351232) (hw : ∀ n ∈ l, (Lit.int .i64 n).wf = true) : Fn Try.prog 6 [slI l] (kB true) := by
  refine fn_go Try.func6 rfl ?_
  simp [Try.ntmps6]
  refine cal saved_fn ?_
  simp
  refine cal (Bytes_fn l (by omega)) ?_
  have hb := bytesM_ok l
  generalize bytesM l = b at hb ⊢
  simp
  have hR := Read_fn b hb
  refine cal hR ?_
  rcases readM_cases b with (h | h | h | h) | ⟨W, h, h1, h2, h3⟩
  · rw [h]; simp; exact finm
  · rw [h]; simp; exact finm
  · rw [h]; simp; exact finm
  · rw [h]; simp; exact finm
  · rw [h]
    simp
    have hW := Write_fn W h1 h2
    rw [h3] at hW
    refine cal hW ?_
    simp
    refine cal (EqB_fn b b (readM_len (by rw [h]))) ?_
    simp
    exact finm
end Go.Proofs.Ytemlkbcfplkniaa.Am
/- The writer puts the bits of a world. -/
namespace Go.Proofs.Ytemlkbcfplkniaa.Am
open Go Go.RowKit

def WPuts (f : WS → WS) (B : List Bool) : Prop := ∀ b : List Bool, b.length + B.length ≤ 524288 → f (b, 0) = (b ++ B, 0)
theorem WPuts.comp {f g : WS → WS} {A B : List Bool} (hf : WPuts f A) (hg : WPuts g B) : WPuts (fun w => g (f w)) (A ++ B) := fun b h => by
  rw [List.length_append] at h
  show g (f (b, 0)) = _
  rw [hf b (by omega), hg (b ++ A) (by rw [List.length_append]; omega), List.append_assoc]
theorem WPuts.id : WPuts (fun w => w) [] := fun b _ => by simp
theorem WPuts.fold {α : Type} {f : WS → α → WS} {B : α → List Bool} : ∀ {l : List α}, (∀ a ∈ l, WPuts (fun w => f w a) (B a)) → WPuts (fun w => l.foldl f w) (l.flatMap B)
  | [], _ => WPuts.id
  | a :: r, h => by
    rw [List.flatMap_cons]
    exact WPuts.comp (h a (by simp)) (WPuts.fold (l := r) fun x hx => h x (by simp [hx]))
theorem puts_put {v n : Int} (hn : 0 ≤ n) (hv : 0 ≤ v) (h : v < 2 ^ n.toNat) : WPuts (fun w => wput w v n) (bitsOf v n.toNat) := fun b hb => by
  rw [bitsOf_len] at hb
  show wput (b, 0) v n = _
  have e : v / 2 ^ n.toNat = 0 := Int.ediv_eq_zero_of_lt hv h
  simp only [wput, if_true, putM]
  rw [if_neg (by simp [e]), if_neg (by omega)]
theorem natBits_len (v : Nat) : (natBits v).length = 5 * gF 16 v := flat5 _ _
theorem puts_nat {v : Nat} : WPuts (fun w => wnat w v) (natBits v) := fun b hb => by
  rw [natBits_len] at hb
  show wnat (b, 0) v = _
  simp only [wnat, if_true, natM]
  rw [if_neg (by omega)]

def nameBits (s : Str) : List Bool := bitsOf s.size 5 ++ s.data.toList.flatMap fun c => bitsOf (IntKind.u64.wrap (letIdx c)) 6
def fieldBits (f : GField) : List Bool := nameBits f.Name ++ bitsOf (f.Bits - 1) 5 ++ natBits (zig f.Low)
def kindBits (k : GKind) : List Bool := nameBits k.Name ++ bitsOf k.Fields.length 4 ++ k.Fields.flatMap fieldBits
def kindsBits (ks : List GKind) : List Bool := bitsOf ks.length 5 ++ ks.flatMap kindBits
def valsBits : List GField → List Int → List Bool
  | f :: fs, v :: vs => bitsOf (v - f.Low) f.Bits.toNat ++ valsBits fs vs
  | _, _ => []
def compsBits : Nat → List GKind → List GComp → List Bool
  | _, [], _ => []
  | i, _ :: r, [] => bitsOf 0 1 ++ compsBits (i + 1) r []
  | i, k :: r, c :: l => if c.Kind = i then bitsOf 1 1 ++ valsBits k.Fields c.Vals ++ compsBits (i + 1) r l else bitsOf 0 1 ++ compsBits (i + 1) r (c :: l)
def itemsBits (ks : List GKind) : Nat → List Int → List GItem → List Bool
  | _, [], _ => []
  | n, g :: gs, [] => natBits g.toNat ++ bitsOf 0 1 ++ itemsBits ks (n + 1) gs []
  | n, g :: gs, it :: r => if it.Ent.N = n then natBits g.toNat ++ bitsOf 1 1 ++ compsBits 0 ks it.Comps ++ itemsBits ks (n + 1) gs r else natBits g.toNat ++ bitsOf 0 1 ++ itemsBits ks (n + 1) gs (it :: r)
def worldBits (W : GWorld) : List Bool := bitsOf 1 8 ++ kindsBits W.Kinds ++ bitsOf W.Gens.length 9 ++ itemsBits W.Kinds 0 W.Gens W.Items

theorem let_all : ∀ i : Fin 256, (lowC (UInt8.ofNat i.1) || digC (UInt8.ofNat i.1)) = true → 0 ≤ letIdx (UInt8.ofNat i.1) ∧ letIdx (UInt8.ofNat i.1) < 36 ∧ lettersL.getD (letIdx (UInt8.ofNat i.1)).toNat 0 = i.1 := by decide +kernel
theorem let_ok {c : UInt8} (h : (lowC c || digC c) = true) : 0 ≤ letIdx c ∧ letIdx c < 36 ∧ lettersL.getD (letIdx c).toNat 0 = c.toNat := by
  have := let_all ⟨c.toNat, c.toNat_lt⟩
  simp only [UInt8.ofNat_toNat] at this
  exact this h
theorem name_chars {s : Str} (h : nameB s = true) : 0 < s.size ∧ s.size ≤ 16 ∧ ∀ c ∈ s.data.toList, (lowC c || digC c) = true := by
  simp only [nameB, Bool.and_eq_true, decide_eq_true_eq] at h
  obtain ⟨⟨h1, h2⟩, h3⟩ := h
  refine ⟨h1, h2, fun c hc => ?_⟩
  obtain ⟨i, hi, rfl⟩ := List.mem_iff_getElem.1 hc
  have hs : i < s.size := by simpa using hi
  have := List.all_eq_true.1 h3 i (List.mem_range.2 hs)
  have e : s[i]? = some (s.data.toList[i]) := by
    rw [getElem?_pos s i hs]; rfl
  rw [okAt, e] at this
  simp only [Bool.or_eq_true, Bool.and_eq_true, decide_eq_true_eq] at this ⊢
  rcases this with h | h
  · exact .inl h
  · exact .inr h.2
theorem puts_name {s : Str} (h : nameB s = true) : WPuts (fun w => wname w s) (nameBits s) := by
  obtain ⟨h1, h2, h3⟩ := name_chars h
  refine WPuts.comp (f := fun w => wput w s.size 5) (puts_put (by omega) (by omega) (by have : (2 : Int) ^ (5 : Int).toNat = 32 := rfl; omega)) (WPuts.fold fun c hc => ?_)
  obtain ⟨c1, c2, _⟩ := let_ok (h3 c hc)
  have e : IntKind.u64.wrap (letIdx c) = letIdx c := by rw [wrapU]; omega
  have := puts_put (v := IntKind.u64.wrap (letIdx c)) (n := 6) (by omega) (by omega) (by have : (2 : Int) ^ (6 : Int).toNat = 64 := rfl; omega)
  exact this
theorem fieldB_iff {f : GField} : fieldB f = true ↔ nameB f.Name = true ∧ 1 ≤ f.Bits ∧ f.Bits ≤ 32 ∧ -4294967296 ≤ f.Low ∧ f.Low ≤ 4294967296 := by
  simp only [fieldB, Bool.and_eq_true, decide_eq_true_eq]
  constructor
  · rintro ⟨⟨⟨⟨a, b⟩, c⟩, d⟩, e⟩; exact ⟨a, b, c, d, e⟩
  · rintro ⟨a, b, c, d, e⟩; exact ⟨⟨⟨⟨a, b⟩, c⟩, d⟩, e⟩
theorem puts_field {f : GField} (h : fieldB f = true) : WPuts (fun w => wfield w f) (fieldBits f) := by
  obtain ⟨h1, h2, h3, h4, h5⟩ := fieldB_iff.1 h
  exact WPuts.comp (f := fun w => wput (wname w f.Name) (f.Bits - 1) 5) (WPuts.comp (f := fun w => wname w f.Name) (puts_name h1) (puts_put (by omega) (by omega) (by have : (2 : Int) ^ (5 : Int).toNat = 32 := rfl; omega))) puts_nat
theorem oneE_iff {k : GKind} (h : oneE k = 0) : nameB k.Name = true ∧ k.Fields.length ≤ 8 ∧ ∀ f ∈ k.Fields, fieldB f = true := by
  refine ⟨?_, oneE_le h, oneE_fields h⟩
  unfold oneE at h
  split at h
  · assumption
  · simp at h
theorem puts_kind {k : GKind} (h : oneE k = 0) : WPuts (fun w => wkind w k) (kindBits k) := by
  obtain ⟨h1, h2, h3⟩ := oneE_iff h
  exact WPuts.comp (f := fun w => wput (wname w k.Name) k.Fields.length 4) (WPuts.comp (f := fun w => wname w k.Name) (puts_name h1) (puts_put (by omega) (by omega) (by have : (2 : Int) ^ (4 : Int).toNat = 16 := rfl; omega))) (WPuts.fold fun f hf => puts_field (h3 f hf))
theorem puts_kinds {ks : List GKind} (h : checkE ks = 0) : WPuts (fun w => wkinds w ks) (kindsBits ks) := by
  obtain ⟨h1, h2⟩ := checkE_le h
  exact WPuts.comp (f := fun w => wput w ks.length 5) (puts_put (by omega) (by omega) (by have : (2 : Int) ^ (5 : Int).toNat = 32 := rfl; omega)) (WPuts.fold fun k hk => puts_kind (checkE_one h k hk))
theorem puts_vals : ∀ {fs : List GField} {vs : List Int}, (∀ f ∈ fs, fieldB f = true) → ValsOk fs vs → WPuts (fun w => wvals fs vs w) (valsBits fs vs)
  | [], _, _, _ => by simpa [wvals, valsBits] using WPuts.id
  | f :: fs, [], _, _ => by simpa [wvals, valsBits] using WPuts.id
  | f :: fs, v :: vs, hf, hv => by
    have h0 := hv.2 0 (by simp) (by simp)
    simp only [List.getElem_cons_zero] at h0
    have hfb := hf f (by simp)
    obtain ⟨_, h2, h3, _, _⟩ := fieldB_iff.1 hfb
    have h1 := h0.2
    simp only [highM, hfb, if_true] at h1
    exact WPuts.comp (f := fun w => wput w (v - f.Low) f.Bits) (puts_put (by omega) (by omega) (by omega)) (puts_vals (fs := fs) (vs := vs) (fun f hf' => hf f (by simp [hf'])) ⟨by simpa using hv.1, fun j a b => by
      have := hv.2 (j + 1) (by simpa using a) (by simpa using b)
      simpa using this⟩)
end Go.Proofs.Ytemlkbcfplkniaa.Am
/- The writer puts the bits of a world: components, items; how many bits. -/
namespace Go.Proofs.Ytemlkbcfplkniaa.Am
open Go Go.RowKit

def compsOk : Nat → List GKind → List GComp → Prop
  | _, [], l => l = []
  | _, _ :: _, [] => True
  | i, k :: r, c :: l => if c.Kind = i then (∀ f ∈ k.Fields, fieldB f = true) ∧ ValsOk k.Fields c.Vals ∧ compsOk (i + 1) r l else compsOk (i + 1) r (c :: l)
theorem comps_ok {ks : List GKind} : ∀ (r : List GKind) (i : Nat) (l : List GComp), ks.drop i = r → i ≤ ks.length → heldGo ks ((i : Int) - 1) l = true → compsOk i r l
  | [], i, [], _, _, _ => rfl
  | [], i, c :: l, hd, hi, h => by
    obtain ⟨g1, g2, _, _⟩ := held_cons.1 h
    have := List.drop_eq_nil_iff.1 hd
    omega
  | k :: r, i, [], _, _, _ => trivial
  | k :: r, i, c :: l, hd, hi, h => by
    obtain ⟨g1, g2, g3, g4⟩ := held_cons.1 h
    have hlt : i < ks.length := by
      rcases Nat.lt_or_ge i ks.length with h | h
      · exact h
      · rw [List.drop_eq_nil_of_le h] at hd; cases hd
    rw [List.drop_eq_getElem_cons hlt] at hd
    obtain ⟨hk, hr⟩ := List.cons.inj hd
    rw [compsOk]
    split
    · rename_i he
      have hkk : ks.getD c.Kind.toNat k0 = k := by rw [he]; simp [List.getD, hlt, hk]
      rw [hkk] at g3
      obtain ⟨v1, v2⟩ := vals_ok g3
      exact ⟨v1, v2, comps_ok r (i + 1) l hr (by omega) (by rw [he] at g4; rw [show (((i + 1 : Nat) : Int) - 1) = i by omega]; exact g4)⟩
    · exact comps_ok r (i + 1) (c :: l) hr (by omega) (held_cons.2 ⟨by omega, g2, g3, g4⟩)
theorem puts_comps : ∀ {ks : List GKind} {i : Nat} {l : List GComp}, compsOk i ks l → WPuts (fun w => wcomps i ks l w) (compsBits i ks l)
  | [], i, l, _ => by simpa [wcomps, compsBits] using WPuts.id
  | k :: r, i, [], h => by
    have h' : compsOk (i + 1) r [] := by cases r <;> simp [compsOk]
    simp only [wcomps, compsBits]
    exact WPuts.comp (f := fun w => wput w 0 1) (puts_put (by omega) (by omega) (by decide)) (puts_comps h')
  | k :: r, i, c :: l, h => by
    rw [compsOk] at h
    simp only [wcomps, compsBits]
    split
    · rename_i he
      rw [if_pos he] at h
      exact WPuts.comp (f := fun w => wvals k.Fields c.Vals (wput w 1 1)) (WPuts.comp (f := fun w => wput w 1 1) (puts_put (by omega) (by omega) (by decide)) (puts_vals h.1 h.2.1)) (puts_comps h.2.2)
    · rename_i he
      rw [if_neg he] at h
      exact WPuts.comp (f := fun w => wput w 0 1) (puts_put (by omega) (by omega) (by decide)) (puts_comps h)
theorem puts_items {ks : List GKind} : ∀ {gs : List Int} {n : Nat} {its : List GItem}, (∀ it ∈ its, compsOk 0 ks it.Comps) → WPuts (fun w => witems ks n gs its w) (itemsBits ks n gs its)
  | [], n, its, _ => by simpa [witems, itemsBits] using WPuts.id
  | g :: gs, n, [], h => by
    simp only [witems, itemsBits]
    exact WPuts.comp (f := fun w => wput (wnat w g.toNat) 0 1) (WPuts.comp (f := fun w => wnat w g.toNat) puts_nat (puts_put (by omega) (by omega) (by decide))) (puts_items h)
  | g :: gs, n, it :: r, h => by
    simp only [witems, itemsBits]
    split
    · exact WPuts.comp (f := fun w => wcomps 0 ks it.Comps (wput (wnat w g.toNat) 1 1)) (WPuts.comp (f := fun w => wput (wnat w g.toNat) 1 1) (WPuts.comp (f := fun w => wnat w g.toNat) puts_nat (puts_put (by omega) (by omega) (by decide))) (puts_comps (h it (by simp))))
        (puts_items fun x hx => h x (by simp [hx]))
    · exact WPuts.comp (f := fun w => wput (wnat w g.toNat) 0 1) (WPuts.comp (f := fun w => wnat w g.toNat) puts_nat (puts_put (by omega) (by omega) (by decide))) (puts_items h)
theorem puts_world {W : GWorld} (h : checkW W = 0) : WPuts (fun w => witems W.Kinds 0 W.Gens W.Items (wput (wkinds (wput w 1 8) W.Kinds) W.Gens.length 9)) (worldBits W) := by
  obtain ⟨h1, h2, h3, h4, h5⟩ := checkW_iff.1 h
  refine WPuts.comp (f := fun w => wput (wkinds (wput w 1 8) W.Kinds) W.Gens.length 9) (WPuts.comp (f := fun w => wkinds (wput w 1 8) W.Kinds) (WPuts.comp (f := fun w => wput w 1 8) (puts_put (by omega) (by omega) (by decide)) (puts_kinds h1)) (puts_put (by omega) (by omega) (by have : (2 : Int) ^ (9 : Int).toNat = 512 := rfl; omega)))
    (puts_items fun it hit => comps_ok W.Kinds 0 it.Comps rfl (by omega) (by simpa using items_held h5 it hit))

theorem flat_le {α β : Type} {f : α → List β} {K : Nat} : ∀ {l : List α}, (∀ a ∈ l, (f a).length ≤ K) → (l.flatMap f).length ≤ l.length * K
  | [], _ => by simp
  | a :: r, h => by
    have h1 := h a (by simp)
    have h2 := flat_le (f := f) (K := K) (l := r) fun x hx => h x (by simp [hx])
    rw [List.flatMap_cons, List.length_append, List.length_cons, Nat.add_mul]
    omega
theorem nat_le (v : Nat) : (natBits v).length ≤ 85 := by
  rw [natBits_len]
  have := (gF_pos 16 v).2
  omega
theorem name_le {s : Str} (h : nameB s = true) : (nameBits s).length ≤ 101 := by
  obtain ⟨h1, h2, h3⟩ := name_chars h
  have := flat_le (f := fun c : UInt8 => bitsOf (IntKind.u64.wrap (letIdx c)) 6) (K := 6) (l := s.data.toList) fun c _ => by simp
  have e : s.data.toList.length = s.size := by simp
  simp only [nameBits, List.length_append, bitsOf_len]
  omega
theorem field_le {f : GField} (h : fieldB f = true) : (fieldBits f).length ≤ 191 := by
  have := name_le (fieldB_iff.1 h).1
  have := nat_le (zig f.Low)
  simp only [fieldBits, List.length_append, bitsOf_len]
  omega
theorem kind_le {k : GKind} (h : oneE k = 0) : (kindBits k).length ≤ 1633 := by
  obtain ⟨h1, h2, h3⟩ := oneE_iff h
  have := name_le h1
  have := flat_le (f := fieldBits) (K := 191) (l := k.Fields) fun f hf => field_le (h3 f hf)
  simp only [kindBits, List.length_append, bitsOf_len]
  omega
theorem vals_le : ∀ {fs : List GField} {vs : List Int}, (∀ f ∈ fs, fieldB f = true) → (valsBits fs vs).length ≤ fs.length * 32
  | [], _, _ => by simp [valsBits]
  | f :: fs, [], _ => by simp [valsBits]
  | f :: fs, v :: vs, h => by
    have h1 := (fieldB_iff.1 (h f (by simp))).2.2.1
    have := vals_le (fs := fs) (vs := vs) fun x hx => h x (by simp [hx])
    simp only [valsBits, List.length_append, bitsOf_len, List.length_cons]
    omega
theorem comps_le : ∀ {ks : List GKind} {i : Nat} {l : List GComp}, (∀ k ∈ ks, oneE k = 0) → (compsBits i ks l).length ≤ ks.length * 257
  | [], i, l, _ => by simp [compsBits]
  | k :: r, i, [], h => by
    have := comps_le (ks := r) (i := i + 1) (l := []) fun x hx => h x (by simp [hx])
    simp only [compsBits, List.length_append, bitsOf_len, List.length_cons]
    omega
  | k :: r, i, c :: l, h => by
    obtain ⟨_, h2, h3⟩ := oneE_iff (h k (by simp))
    have h4 := vals_le (fs := k.Fields) (vs := c.Vals) h3
    rw [compsBits]
    split
    · have := comps_le (ks := r) (i := i + 1) (l := l) fun x hx => h x (by simp [hx])
      simp only [List.length_append, bitsOf_len, List.length_cons]
      omega
    · have := comps_le (ks := r) (i := i + 1) (l := c :: l) fun x hx => h x (by simp [hx])
      simp only [List.length_append, bitsOf_len, List.length_cons]
      omega
theorem items_le {ks : List GKind} (h : ∀ k ∈ ks, oneE k = 0) (hk : ks.length ≤ 4) : ∀ {gs : List Int} {n : Nat} {its : List GItem}, (itemsBits ks n gs its).length ≤ gs.length * 1114
  | [], n, its => by simp [itemsBits]
  | g :: gs, n, [] => by
    have := items_le h hk (gs := gs) (n := n + 1) (its := [])
    have := nat_le g.toNat
    simp only [itemsBits, List.length_append, bitsOf_len, List.length_cons]
    omega
  | g :: gs, n, it :: r => by
    have h0 := nat_le g.toNat
    have h1 := comps_le (ks := ks) (i := 0) (l := it.Comps) h
    rw [itemsBits]
    split
    · have := items_le h hk (gs := gs) (n := n + 1) (its := r)
      simp only [List.length_append, bitsOf_len, List.length_cons]
      omega
    · have := items_le h hk (gs := gs) (n := n + 1) (its := it :: r)
      simp only [List.length_append, bitsOf_len, List.length_cons]
      omega
theorem world_le {W : GWorld} (h : checkW W = 0) (hk : W.Kinds.length ≤ 4) : (worldBits W).length ≤ 300000 := by
  obtain ⟨h1, h2, h3, h4, h5⟩ := checkW_iff.1 h
  have := flat_le (f := kindBits) (K := 1633) (l := W.Kinds) fun f hf => kind_le (checkE_one h1 f hf)
  have := items_le (checkE_one h1) hk (gs := W.Gens) (n := 0) (its := W.Items)
  simp only [worldBits, kindsBits, List.length_append, bitsOf_len]
  omega
theorem writeM_good {W : GWorld} (h : checkW W = 0) (hk : W.Kinds.length ≤ 4) : writeM W = (sealB (packB (worldBits W)), 0) := by
  have hl := world_le h hk
  have hw : writeW W = (worldBits W, 0) := by
    have := puts_world h [] (by simp; omega)
    rw [List.nil_append] at this
    exact this
  unfold writeM
  rw [if_neg (by simp [h]), hw, if_neg]
  simp only [packB_len]
  omega
end Go.Proofs.Ytemlkbcfplkniaa.Am
/- One byte that differs is another digest. -/
namespace Go.Proofs.Ytemlkbcfplkniaa.Am
open Go Go.RowKit

def In64 (x : Int) : Prop := 0 ≤ x ∧ x < 18446744073709551616
theorem in64_wrap (x : Int) : In64 (IntKind.u64.wrap x) := by rw [wrapU]; exact ⟨by omega, by omega⟩
theorem wrap_in64 {x : Int} (h : In64 x) : IntKind.u64.wrap x = x := by rw [wrapU]; obtain ⟨h1, h2⟩ := h; omega
theorem xor_shift_inj {k x y : Nat} (hk : 0 < k) (hx : x < 2 ^ 64) (hy : y < 2 ^ 64) (h : x ^^^ (x >>> k) = y ^^^ (y >>> k)) : x = y := by
  have key : ∀ n i, 64 ≤ i + n → x.testBit i = y.testBit i := fun n => by
    induction n with
    | zero =>
      intro i hi
      rw [Nat.testBit_lt_two_pow (Nat.lt_of_lt_of_le hx (Nat.pow_le_pow_right (by decide) (by omega))), Nat.testBit_lt_two_pow (Nat.lt_of_lt_of_le hy (Nat.pow_le_pow_right (by decide) (by omega)))]
    | succ n ih =>
      intro i hi
      have h1 := congrArg (fun z => z.testBit i) h
      simp only [Nat.testBit_xor, Nat.testBit_shiftRight] at h1
      have h2 := ih (k + i) (by omega)
      rw [h2] at h1
      simpa using h1
  exact Nat.eq_of_testBit_eq fun i => key 64 i (by omega)
theorem mixA_in (k : Nat) (x : Int) : In64 (mixA k x) := in64_wrap _
theorem mixA_inj {k : Nat} {x y : Int} (hk : 0 < k) (hk2 : k ≤ 63) (hx : In64 x) (hy : In64 y) (h : mixA k x = mixA k y) : x = y := by
  obtain ⟨hx1, hx2⟩ := hx
  obtain ⟨hy1, hy2⟩ := hy
  obtain ⟨a, rfl⟩ := Int.eq_ofNat_of_zero_le hx1
  obtain ⟨b, rfl⟩ := Int.eq_ofNat_of_zero_le hy1
  have e1 : min k IntKind.u64.bits = k := Nat.min_eq_left (by show k ≤ 64; omega)
  have e2 : (2 : Int) ^ IntKind.u64.bits = 18446744073709551616 := by decide
  have e3 : ∀ n : Nat, n < 2 ^ 64 → mixA k n = ((n ^^^ (n >>> k) : Nat) : Int) := fun n hn => by
    unfold mixA
    rw [e1, e2]
    have q0 : (n : Int).fdiv (2 ^ k) = ((n / 2 ^ k : Nat) : Int) := by
      rw [Int.fdiv_eq_ediv_of_nonneg _ (by exact Int.le_of_lt (Int.pow_pos (by decide)))]
      push_cast; rfl
    have q1 : n / 2 ^ k ≤ n := Nat.div_le_self _ _
    rw [q0, Nat.shiftRight_eq_div_pow]
    generalize n / 2 ^ k = m at q1 ⊢
    have q2 : ((m : Int) % 18446744073709551616).toNat = m := by omega
    have q3 : ((n : Int) % 18446744073709551616).toNat = n := by omega
    rw [q2, q3]
    have q4 : n ^^^ m < 2 ^ 64 := Nat.xor_lt_two_pow hn (by omega)
    exact wrap_in64 ⟨by omega, by omega⟩
  rw [e3 a (by omega), e3 b (by omega)] at h
  have := xor_shift_inj hk (by omega) (by omega) (Int.ofNat.inj h)
  rw [this]
theorem mul_inj {M I t x y : Int} (hI : M * I = 1 + 18446744073709551616 * t) (hx : In64 x) (hy : In64 y) (h : IntKind.u64.wrap (x * M) = IntKind.u64.wrap (y * M)) : x = y := by
  obtain ⟨hx1, hx2⟩ := hx
  obtain ⟨hy1, hy2⟩ := hy
  rw [wrapU, wrapU] at h
  have h1 : (18446744073709551616 : Int) ∣ x * M - y * M := Int.dvd_of_emod_eq_zero (Int.emod_eq_emod_iff_emod_sub_eq_zero.1 h)
  obtain ⟨s, hs⟩ := h1
  have h2 : (x - y) * (M * I) = 18446744073709551616 * (s * I) := by
    rw [← Int.mul_assoc, Int.sub_mul, hs, Int.mul_assoc]
  rw [hI, Int.mul_add, Int.mul_one] at h2
  have h3 : (x - y) * (18446744073709551616 * t) = 18446744073709551616 * ((x - y) * t) := by rw [Int.mul_left_comm]
  rw [h3] at h2
  generalize (x - y) * t = u at h2
  generalize s * I = v at h2
  omega
theorem mul1_inj {x y : Int} (hx : In64 x) (hy : In64 y) (h : IntKind.u64.wrap (x * 7640891576956012809) = IntKind.u64.wrap (y * 7640891576956012809)) : x = y := mul_inj (I := 17228112808425395513) (t := 7136117979343430276) (by decide +kernel) hx hy h
theorem mul2_inj {x y : Int} (hx : In64 x) (hy : In64 y) (h : IntKind.u64.wrap (x * 13503953896175478587) = IntKind.u64.wrap (y * 13503953896175478587)) : x = y := mul_inj (I := 517726987020900851) (t := 379002458948852121) (by decide +kernel) hx hy h
theorem mul3_inj {x y : Int} (hx : In64 x) (hy : In64 y) (h : IntKind.u64.wrap (x * 11170449401992604703) = IntKind.u64.wrap (y * 11170449401992604703)) : x = y := mul_inj (I := 9861552557614567391) (t := 5971675729318667042) (by decide +kernel) hx hy h
theorem mixM_in (x : Int) : In64 (mixM x) := mixA_in _ _
theorem mixM_inj {x y : Int} (hx : In64 x) (hy : In64 y) (h : mixM x = mixM y) : x = y :=
  mixA_inj (by omega) (by omega) hx hy (mul1_inj (mixA_in _ _) (mixA_in _ _) (mixA_inj (by omega) (by omega) (in64_wrap _) (in64_wrap _)
    (mul2_inj (mixA_in _ _) (mixA_in _ _) (mixA_inj (by omega) (by omega) (in64_wrap _) (in64_wrap _) h))))
theorem joinM_in (a b : Int) : In64 (joinM a b) := mixM_in _
theorem add_inj {x y c : Int} (hx : In64 x) (hy : In64 y) (h : IntKind.u64.wrap (x + c) = IntKind.u64.wrap (y + c)) : x = y := by
  obtain ⟨hx1, hx2⟩ := hx
  obtain ⟨hy1, hy2⟩ := hy
  rw [wrapU, wrapU] at h
  omega
theorem joinM_inj1 {a a' b : Int} (ha : In64 a) (ha' : In64 a') (h : joinM a b = joinM a' b) : a = a' :=
  add_inj ha ha' (mixM_inj (in64_wrap _) (in64_wrap _) (mul3_inj (mixM_in _) (mixM_in _) (add_inj (in64_wrap _) (in64_wrap _) (mixM_inj (in64_wrap _) (in64_wrap _) h))))
theorem joinM_inj2 {a b b' : Int} (hb : In64 b) (hb' : In64 b') (h : joinM a b = joinM a b') : b = b' := by
  have := mixM_inj (in64_wrap _) (in64_wrap _) h
  rw [Int.add_comm _ b, Int.add_comm _ b'] at this
  exact add_inj hb hb' this
theorem leW_set : ∀ (l : List Int) (i : Nat) (x : Int) (h : i < l.length), x ≠ l[i] → leW (l.set i x) ≠ leW l
  | c :: r, 0, x, h, hx => by
    simp only [List.set_cons_zero, leW, List.getElem_cons_zero] at hx ⊢
    omega
  | c :: r, i + 1, x, h, hx => by
    have := leW_set r i x (by simpa using h) (by simpa using hx)
    simp only [List.set_cons_succ, leW]
    omega
theorem bytesOk_set {l : List Int} (h : BytesOk l) {i : Nat} {x : Int} (hx : 0 ≤ x ∧ x < 256) : BytesOk (l.set i x) := fun c hc => by
  rcases List.mem_or_eq_of_mem_set hc with hc | rfl
  · exact h c hc
  · exact hx
theorem bytesOk_take {l : List Int} (h : BytesOk l) (n : Nat) : BytesOk (l.take n) := fun c hc => h c (List.mem_of_mem_take hc)
theorem bytesOk_drop {l : List Int} (h : BytesOk l) (n : Nat) : BytesOk (l.drop n) := fun c hc => h c (List.mem_of_mem_drop hc)
theorem pow256 : ∀ n : Nat, n ≤ 8 → (256 : Int) ^ n ≤ 18446744073709551616 := by decide
theorem leW_in {l : List Int} (h : BytesOk l) (hl : l.length ≤ 8) : In64 (leW l) := by
  obtain ⟨h1, h2⟩ := leW_lt h
  exact ⟨h1, Int.lt_of_lt_of_le h2 (pow256 _ hl)⟩
theorem digGo_inj : ∀ (k : Nat) (l : List Int) (d d' : Int), In64 d → In64 d' → digGo k d l = digGo k d' l → d = d'
  | 0, _, _, _, _, _, h => h
  | k + 1, l, d, d', h1, h2, h => by
    rw [digGo, digGo] at h
    split at h
    · exact h
    · exact joinM_inj1 h1 h2 (digGo_inj k _ _ _ (joinM_in _ _) (joinM_in _ _) h)
theorem digGo_set : ∀ (k : Nat) (l : List Int) (d : Int) (i : Nat) (x : Int) (h : i < l.length), BytesOk l → 0 ≤ x → x < 256 → x ≠ l[i] → l.length ≤ k → digGo k d (l.set i x) ≠ digGo k d l
  | 0, l, _, i, _, h, _, _, _, _, hk => by omega
  | k + 1, l, d, i, x, h, hb, hx1, hx2, hx, hk => by
    have hn : l ≠ [] := by rintro rfl; simp at h
    rw [digGo, digGo, if_neg (by simpa using hn), if_neg hn]
    by_cases h8 : i < 8
    · have e1 : (l.set i x).drop 8 = l.drop 8 := by rw [List.drop_set]; simp [h8]
      rw [e1, List.take_set]
      intro he
      have h1 := digGo_inj k _ _ _ (joinM_in _ _) (joinM_in _ _) he
      have h2 := joinM_inj2 (leW_in (bytesOk_set (bytesOk_take hb 8) ⟨hx1, hx2⟩) (by simp; omega)) (leW_in (bytesOk_take hb 8) (by simp; omega)) h1
      exact leW_set (l.take 8) i x (by simp; omega) (by simpa using hx) h2
    · have e1 : (l.set i x).take 8 = l.take 8 := by rw [List.take_set]; exact List.set_eq_of_length_le (by simp; omega)
      have e2 : (l.set i x).drop 8 = (l.drop 8).set (i - 8) x := by rw [List.drop_set]; simp [h8]
      rw [e1, e2]
      refine digGo_set k (l.drop 8) _ (i - 8) x (by simp; omega) (bytesOk_drop hb 8) hx1 hx2 ?_ (by simp; omega)
      rw [List.getElem_drop]
      have : 8 + (i - 8) = i := by omega
      simp only [this]
      exact hx
theorem digB_set {l : List Int} {i : Nat} {x : Int} (h : i < l.length) (hb : BytesOk l) (h1 : 0 ≤ x) (h2 : x < 256) (hx : x ≠ l[i]) : digB (l.set i x) ≠ digB l := by
  unfold digB
  rw [List.length_set]
  exact digGo_set _ _ _ _ _ h hb h1 h2 hx (Nat.le_refl _)
theorem digGo_in : ∀ (k : Nat) (d : Int) (l : List Int), In64 d → In64 (digGo k d l)
  | 0, _, _, h => h
  | k + 1, d, l, h => by
    rw [digGo]
    split
    · exact h
    · exact digGo_in k _ _ (joinM_in _ _)
theorem digB_in (l : List Int) : In64 (digB l) := digGo_in _ _ _ (joinM_in _ _)
theorem tail8_inj {d d' : Int} (h1 : In64 d) (h2 : In64 d') (h : tail8 d 8 = tail8 d' 8) : d = d' := by
  obtain ⟨a1, a2⟩ := h1
  obtain ⟨b1, b2⟩ := h2
  simp only [tail8, List.range, List.range.loop, List.map_cons, List.map_nil, List.cons.injEq, and_true] at h
  omega
theorem tail8_len (d : Int) (m : Nat) : (tail8 d m).length = m := by simp [tail8]
theorem readM_flip {body : List Int} (hb : BytesOk body) (hl : body.length + 8 ≤ 65536) {i : Nat} {x : Int} (h : i < (sealB body).length) (h1 : 0 ≤ x) (h2 : x < 256) (hx : x ≠ (sealB body)[i]) :
    readM ((sealB body).set i x) = (w00, 13) := by
  have hsl : (sealB body).length = body.length + 8 := by simp [sealB, tail8_len]
  have hcl : ((sealB body).set i x).length = body.length + 8 := by rw [List.length_set, hsl]
  unfold readM
  rw [hcl, if_neg (by omega), if_neg (by omega), if_pos]
  have e : body.length + 8 - 8 = body.length := by omega
  rw [e]
  by_cases hi : i < body.length
  · have e1 : (sealB body).set i x = body.set i x ++ tail8 (digB body) 8 := by
      unfold sealB; rw [List.set_append_left _ _ hi]
    have hx' : x ≠ body[i] := by
      have : (sealB body)[i] = body[i] := by simp only [sealB]; rw [List.getElem_append_left hi]
      rwa [this] at hx
    rw [e1, List.take_append_of_le_length (by simp), List.take_of_length_le (by simp)]
    unfold sealB
    intro he
    have := List.append_cancel_left he
    exact digB_set hi hb h1 h2 hx' (tail8_inj (digB_in _) (digB_in _) this)
  · have e1 : ((sealB body).set i x).take body.length = body := by
      rw [List.take_set, List.set_eq_of_length_le (by simp [hsl]; omega)]
      simp [sealB]
    rw [e1]
    intro he
    have := congrArg (fun l => l[i]?) he
    simp only [List.getElem?_set_self h, List.getElem?_eq_getElem h] at this
    exact hx (Option.some.inj this).symm
end Go.Proofs.Ytemlkbcfplkniaa.Am
/- Package merkle: levels, filled. -/
namespace Go.Proofs.Ytemlkbcfplkniaa.Am
open Go Go.RowKit

abbrev slU (l : List Int) : PV := .sl 1 (l.map fun x => [kU x])
def pairUp : List Int → List Int
  | a :: b :: r => joinM a b :: pairUp r
  | [a] => [a]
  | [] => []
theorem pairUp_len : ∀ l : List Int, (pairUp l).length = (l.length + 1) / 2
  | a :: b :: r => by rw [pairUp, List.length_cons, pairUp_len r]; simp; omega
  | [a] => by simp [pairUp]
  | [] => by simp [pairUp]
def levelsGo : Nat → List Int → List (List Int)
  | 0, _ => []
  | k + 1, l => if l.length ≤ 1 then [] else pairUp l :: levelsGo k (pairUp l)
def levelsM (l : List Int) : List (List Int) := l :: levelsGo l.length l
theorem levelsGo_fuel : ∀ (m k : Nat) (l : List Int), l.length ≤ m → l.length ≤ k → levelsGo m l = levelsGo k l
  | 0, k, l, h1, h2 => by
    cases k with
    | zero => rfl
    | succ k => rw [levelsGo, levelsGo, if_pos (by omega)]
  | m + 1, 0, l, h1, h2 => by rw [levelsGo, levelsGo, if_pos (by omega)]
  | m + 1, k + 1, l, h1, h2 => by
    rw [levelsGo, levelsGo]
    split
    · rfl
    · rw [levelsGo_fuel m k (pairUp l) (by rw [pairUp_len]; omega) (by rw [pairUp_len]; omega)]
theorem flatU (l : List Int) : (l.map fun n => [kU n]).flatten = l.map kU := by induction l with | nil => rfl | cons a r ih => simp [ih]
theorem chunksUU (l : List (List Int)) : chunks 1 (l.map slU) l.length = l.map fun n => [slU n] := by
  have := chunks_map (f := fun n : List Int => [slU n]) (z := 1) (fun _ => rfl) l
  have e : (l.map fun n => [slU n]).flatten = l.map slU := by clear this; induction l with | nil => rfl | cons a r ih => simp only [List.map_cons, List.flatten_cons, ih]; rfl
  rwa [e] at this
theorem chunksU (l : List Int) : chunks 1 (l.map kU) l.length = l.map fun n => [kU n] := by
  have := chunks_map (f := fun n : Int => [kU n]) (z := 1) (fun _ => rfl) l
  rwa [flatU] at this

set_option maxRecDepth 20000 in
set_option maxHeartbeats 1000000 in
theorem levels_fn (l : List Int) (hl : l.length ≤ 100000) : Fn Try.prog 110 [slU l] (.sl 1 ((levelsM l).map fun x => [slU x])) := by
  have him : ∀ bs : List Int, (bs.map kU).all PV.immB = true := fun bs => by simp
  have him2 : ∀ bs : List (List Int), (bs.map slU).all PV.immB = true := fun bs => by simp
  refine fn_go Try.func110 rfl ?_
  have h1 : l.length * 8 ≤ 140737488355328 := by omega
  have h2 : l.length ≤ maxLen := by simp only [maxLen]; omega
  simp [Try.ntmps110, h1, h2]
  rw [flatU]
  refine awp_loop (fun x : List (List Int) × List Int => ⟨53, [(3, .osl 0 1 0 x.1.length), (4, slU x.2)], [some (x.1.map slU)], 0⟩)
    (fun x => x.2.length ≤ 100000 ∧ x.1.length + x.2.length ≤ 100001 ∧ x.1 ++ levelsGo x.2.length x.2 = levelsM l) (fun x => x.2.length) ([l], l) ?_ ?_ ?_
  · refine (ent_fz 1 (l.map kU)).trans ?_
    simp [chunksU]
    exact entm [2]
  · exact ⟨hl, by simp; omega, rfl⟩
  · rintro ⟨acc, r⟩ ⟨hr, har, hrun⟩
    simp only at hr har hrun
    refine awp_go ?_
    by_cases hlt : 1 < r.length
    · have hlt' : (1 : Int) < r.length := by omega
      have hL : levelsGo r.length r = pairUp r :: levelsGo (pairUp r).length (pairUp r) := by
        obtain ⟨k, hk⟩ : ∃ k, r.length = k + 1 := ⟨r.length - 1, by omega⟩
        rw [hk, levelsGo, if_neg (by omega)]
        congr 1
        exact levelsGo_fuel _ _ _ (by rw [pairUp_len]; omega) (Nat.le_refl _)
      rw [hL] at hrun
      simp [hlt, hlt']
      refine awp_loop (fun x : List Int × Nat => ⟨53, [(3, .osl 0 1 0 acc.length), (4, slU r), (5, .osl 1 1 0 x.1.length), (6, kI x.2)], [some (acc.map slU), some (x.1.map kU)], 0⟩)
        (fun x => x.2 ≤ r.length + 1 ∧ x.1.length ≤ x.2 ∧ x.1 ++ pairUp (r.drop x.2) = pairUp r) (fun x => r.length + 1 - x.2) ([], 0) ?_ ?_ ?_
      · exact (ent_nil (t := 5) (z := 1) rfl).trans (entm [0, 1] (hB := by simp [imms_ren (him2 _), imms_lt (him2 _)]))
      · simp
      · rintro ⟨nx, i⟩ ⟨hi, hnl, hin⟩
        simp only at hi hnl hin
        by_cases hit : i < r.length
        · refine awp_go ?_
          have hw1 : IntKind.i64.wrap ((i : Int) + 1) = ((i + 1 : Nat) : Int) := wrap_id (by omega) (by omega)
          have hw2 : IntKind.i64.wrap ((i : Int) + 2) = ((i + 2 : Nat) : Int) := wrap_id (by omega) (by omega)
          have hb1 : (nx.length + 1) * 8 ≤ 140737488355328 := by omega
          have hb2 : nx.length + 1 ≤ maxLen := by simp only [maxLen]; omega
          by_cases hi1 : i + 1 < r.length
          · have hi1' : (i : Int) + 1 < r.length := by omega
            rw [List.drop_eq_getElem_cons hit, List.drop_eq_getElem_cons hi1, pairUp] at hin
            have hi0 : (0 : Int) ≤ (i : Int) + 1 := by omega
            simp [hit, hi1, hi1', hw1]
            refine awp_drawS follows_mix [(0, 0), (0, 0), (0, 0), (0, 0), (0, 0), (0, 0), (0, 0), (0, 0), (0, 0), (0, 0), (2, 0), (4, 2), (4, 3), (0, 0)] 2 4 [(0, 11)] (by kernel_rfl) rfl rfl ?_
            simp [hit, hi1, hw1, hi0]
            refine gE_call (kU (joinM r[i] r[i + 1])) ?_ ?_
            · simp
              exact calO (Join_fn _ _)
            simp [hit, hi1, hw1, hw2, hb1, hb2, hi0, imms_ren (him nx), imms_lt (him nx)]
            refine ⟨nx ++ [joinM r[i] r[i + 1]], i + 2, ⟨by omega, by simp; omega, ?_⟩, by omega, entm [0, 3] (hB := by simp [imms_ren (him _), imms_lt (him _), imms_ren (him2 _), imms_lt (him2 _)])⟩
            rw [← hin, List.append_assoc]; rfl
          · have hi1' : ¬ (i : Int) + 1 < r.length := by omega
            rw [List.drop_eq_getElem_cons hit, List.drop_of_length_le (by omega), pairUp] at hin
            simp [hit, hi1, hi1', hw1, hw2, hb1, hb2]
            refine ⟨nx ++ [r[i]], i + 2, ⟨by omega, by simp; omega, ?_⟩, by omega, entm [0, 3] (hB := by simp [imms_ren (him _), imms_lt (him _), imms_ren (him2 _), imms_lt (him2 _)])⟩
            rw [← hin, List.drop_of_length_le (by omega)]
            simp [pairUp]
        · have hp : nx = pairUp r := by
            rw [List.drop_of_length_le (by omega)] at hin
            simpa [pairUp] using hin
          subst hp
          refine awp_ent (ent_fz 1 ((pairUp r).map kU)) (awp_go ?_)
          have hl2 := pairUp_len r
          generalize pairUp r = nx at hin hnl hrun hl2 ⊢
          have hb1 : (acc.length + 1) * 24 ≤ 140737488355328 := by omega
          have hb2 : acc.length + 1 ≤ maxLen := by simp only [maxLen]; omega
          have hfz : ∀ b cs, fzL b cs (acc.map slU) = acc.map slU := fun b cs => imm0_fzL (by simp) b cs
          simp [hit, chunksU, hb1, hb2, hfz]
          exact ⟨acc ++ [nx], nx, ⟨by omega, by simp; omega, by simpa using hrun⟩, by omega, entm [3] (hB := by simp [imms_ren (him2 _), imms_lt (him2 _)])⟩
    · have hlt' : ¬ (1 : Int) < r.length := by omega
      have hL : levelsGo r.length r = [] := by
        cases hk : r.length with
        | zero => rfl
        | succ k => rw [levelsGo, if_pos (by omega)]
      rw [hL, List.append_nil] at hrun
      subst hrun
      simp [hlt, hlt']
      refine fin_fz 0 ((levelsM l).map slU) ?_
      have hch := chunksUU (levelsM l)
      simp [hch]
      exact finm
end Go.Proofs.Ytemlkbcfplkniaa.Am
/- Package merkle: Root, Proof, Verify. -/
namespace Go.Proofs.Ytemlkbcfplkniaa.Am
open Go Go.RowKit

def rootGo : Nat → List Int → Int
  | 0, l => l.getD 0 0
  | k + 1, l => if l.length ≤ 1 then l.getD 0 0 else rootGo k (pairUp l)
def rootM (l : List Int) : Int := rootGo l.length l
theorem levels_last : ∀ (k : Nat) (l : List Int), 0 < l.length → l.length ≤ k → ∃ pre, l :: levelsGo k l = pre ++ [[rootGo k l]]
  | 0, l, h, hk => by omega
  | k + 1, l, h, hk => by
    rw [levelsGo, rootGo]
    by_cases h1 : l.length ≤ 1
    · obtain ⟨x, rfl⟩ : ∃ x, l = [x] := List.length_eq_one_iff.1 (by omega)
      exact ⟨[], by simp⟩
    · rw [if_neg h1, if_neg h1]
      have hp := pairUp_len l
      obtain ⟨pre, hpre⟩ := levels_last k (pairUp l) (by omega) (by omega)
      exact ⟨l :: pre, by rw [hpre]; rfl⟩
theorem levelsGo_len : ∀ (k : Nat) (l : List Int), l.length ≤ k → (levelsGo k l).length ≤ k
  | 0, l, _ => by simp [levelsGo]
  | k + 1, l, h => by
    rw [levelsGo]
    split
    · simp
    · have := levelsGo_len k (pairUp l) (by rw [pairUp_len]; omega)
      rw [List.length_cons]; omega
def sibN (i : Nat) : Nat := if i % 2 = 0 then i + 1 else i - 1
theorem xor_one (i : Nat) (h : i < 100000) : IntKind.i64.wrap ↑(i % 2 ^ IntKind.i64.bits ^^^ 1 % 2 ^ IntKind.i64.bits) = (sibN i : Int) := by
  have e1 : (1 % 18446744073709551616 : Nat) = 1 := by decide
  have e2 : 2 ^ IntKind.i64.bits = 18446744073709551616 := by decide
  have e3 : i % 18446744073709551616 = i := by omega
  have e4 : i ^^^ 1 = sibN i := by
    unfold sibN
    have h0 : (i ^^^ 1) % 2 = 1 - i % 2 := by
      have := Nat.testBit_xor i 1 0
      rw [Nat.testBit_zero, Nat.testBit_zero, Nat.testBit_zero] at this
      have h2 := Nat.mod_two_eq_zero_or_one i
      have h3 := Nat.mod_two_eq_zero_or_one (i ^^^ 1)
      rcases h2 with h2 | h2 <;> rcases h3 with h3 | h3 <;> simp [h2, h3] at this ⊢
    have hd : (i ^^^ 1) / 2 = i / 2 := by
      rw [Nat.xor_div_two]; simp
    split <;> omega
  rw [e2, e1, e3, e4]
  have : sibN i ≤ i + 1 := by unfold sibN; split <;> omega
  exact wrap_id (by omega) (by omega)
def proofM : List (List Int) → Nat → List Int
  | [], _ => []
  | l :: r, i => (if sibN i < l.length then [l.getD (sibN i) 0] else []) ++ proofM r (i / 2)

set_option maxRecDepth 20000 in
theorem Root_fn (l : List Int) (h0 : 0 < l.length) (hl : l.length ≤ 4096) : Fn Try.prog 60 [slU l] (.tup [kU (rootM l), kI 0]) := by
  refine fn_go Try.func60 rfl ?_
  have h1 : ¬ (4096 : Int) < l.length := by omega
  have h2 : ¬ (l.length : Int) = 0 := by omega
  have h3 : l ≠ [] := fun e => by rw [e] at h0; simp at h0
  simp [Try.ntmps60, h1, h2, h3]
  refine cal (levels_fn l (by omega)) ?_
  obtain ⟨pre, hpre⟩ := levels_last l.length l h0 (Nat.le_refl _)
  have hpl := levelsGo_len l.length l (Nat.le_refl _)
  have hL : levelsM l = pre ++ [[rootM l]] := hpre
  have hLl : (levelsM l).length = pre.length + 1 := by rw [hL]; simp
  have hl5 : (levelsM l).length ≤ 100000 := by show (l :: _).length ≤ _; rw [List.length_cons]; omega
  have hw1 : IntKind.i64.wrap ((pre.length : Int) + 1 - 1) = pre.length := by rw [wrap_id (by omega) (by omega)]; omega
  rw [hL]
  have hw2 : IntKind.i64.wrap (pre.length : Int) = pre.length := wrap_id (by omega) (by omega)
  have hget : ((pre.map fun x => [slU x]) ++ [[slU [rootM l]]])[pre.length]? = some [slU [rootM l]] := by simp
  simp [hw2, hget]
  exact finm

theorem proofM_le : ∀ (L : List (List Int)) (i : Nat), (proofM L i).length ≤ L.length
  | [], _ => by simp [proofM]
  | l :: r, i => by
    have := proofM_le r (i / 2)
    rw [proofM, List.length_append, List.length_cons]
    split <;> simp <;> omega
theorem map_drop_one {α β : Type} (f : α → β) (l : List α) (i : Nat) (h : i < l.length) : (l.map f).drop i = f l[i] :: (l.map f).drop (i + 1) := by
  rw [List.drop_eq_getElem_cons (by simpa using h)]; simp

set_option maxRecDepth 20000 in
set_option maxHeartbeats 1000000 in
theorem Proof_fn (l : List Int) (i : Nat) (hi : i < l.length) (hl : l.length ≤ 4096) : Fn Try.prog 61 [slU l, kI i] (.tup [slU (proofM (levelsM l) i), kI 0]) := by
  have him : ∀ bs : List Int, (bs.map kU).all PV.immB = true := fun bs => by simp
  refine fn_go Try.func61 rfl ?_
  have h1 : ¬ (4096 : Int) < l.length := by omega
  have h2 : ¬ (i : Int) < 0 := by omega
  have h3 : ¬ (l.length : Int) ≤ i := by omega
  simp [Try.ntmps61, h1, h2, h3]
  refine cal (levels_fn l (by omega)) ?_
  have hpl := levelsGo_len l.length l (Nat.le_refl _)
  have hl5 : (levelsM l).length ≤ 100000 := by show (l :: _).length ≤ _; rw [List.length_cons]; omega
  generalize levelsM l = L at hl5 ⊢
  simp
  refine awp_loop (fun x : Nat × List Int × Nat => ⟨45, [(1, kI x.2.2), (6, .osl 0 1 0 x.2.1.length), (22, .sl 1 (L.map fun x => [slU x])), (23, kI L.length), (24, kI x.1)], [some (x.2.1.map kU)], 0⟩)
    (fun x => x.1 ≤ L.length ∧ x.2.1.length ≤ x.1 ∧ x.2.2 ≤ 4096 ∧ x.2.1 ++ proofM (L.drop x.1) x.2.2 = proofM L i) (fun x => L.length - x.1) (0, [], i) ?_ ?_ ?_
  · exact (ent_nil (t := 6) (z := 1) rfl).trans (entm [0])
  · simp; omega
  · rintro ⟨d, out, j⟩ ⟨hd, hol, hj, hrun⟩
    simp only at hd hol hj hrun
    refine awp_go ?_
    by_cases hlt : d < L.length
    · obtain ⟨q, hq⟩ : ∃ q, L[d] = q := ⟨_, rfl⟩
      rw [List.drop_eq_getElem_cons hlt, hq, proofM] at hrun
      have hx := xor_one j (by omega)
      have hw1 : IntKind.i64.wrap ((d : Int) + 1) = ((d + 1 : Nat) : Int) := wrap_id (by omega) (by omega)
      have hw2 : IntKind.i64.wrap ((j : Int) / 2) = (j : Int) / 2 := wrap_id (by omega) (by omega)
      have hb1 : (out.length + 1) * 8 ≤ 140737488355328 := by omega
      have hb2 : out.length + 1 ≤ maxLen := by simp only [maxLen]; omega
      simp [hlt, hq, hx]
      by_cases hs : sibN j < q.length
      · have hs' : (sibN j : Int) < q.length := by omega
        rw [if_pos hs] at hrun
        simp [hs, hs', hw1, hw2, hb1, hb2]
        exact ⟨d + 1, out ++ [q.getD (sibN j) 0], j / 2, ⟨by omega, by simp; omega, by omega, by rw [← hrun]; simp⟩, by omega, entm [2] (hB := by simp [imms_ren (him _), imms_lt (him _), List.getD, hs])⟩
      · have hs' : ¬ (sibN j : Int) < q.length := by omega
        rw [if_neg hs, List.nil_append] at hrun
        simp [hs, hs', hw1, hw2]
        exact ⟨d + 1, out, j / 2, ⟨by omega, by omega, by omega, hrun⟩, by omega, entm [0] (hB := by simp [imms_ren (him _), imms_lt (him _)])⟩
    · have : d = L.length := by omega
      subst this
      rw [List.drop_length, proofM, List.append_nil] at hrun
      subst hrun
      simp
      refine fin_fz 0 ((proofM L i).map kU) ?_
      have hch := chunksU (proofM L i)
      simp [hch]
      exact finm
end Go.Proofs.Ytemlkbcfplkniaa.Am
/- Package merkle: Verify, filled, Narrow. -/
namespace Go.Proofs.Ytemlkbcfplkniaa.Am
open Go Go.RowKit

def verGo (root : Int) : Nat → Nat → Nat → Int → List Int → Bool
  | 0, _, _, leaf, p => decide (p = []) && decide (leaf = root)
  | k + 1, n, i, leaf, p => if 1 < n then
      if sibN i < n then
        if p = [] then false
        else verGo root k ((n + 1) / 2) (i / 2) (if i % 2 = 0 then joinM leaf (p.headD 0) else joinM (p.headD 0) leaf) p.tail
      else verGo root k ((n + 1) / 2) (i / 2) leaf p
    else decide (p = []) && decide (leaf = root)
set_option maxRecDepth 20000 in
set_option maxHeartbeats 1000000 in
theorem Verify_fn (root : Int) (n i : Nat) (leaf : Int) (p : List Int) (hn : 1 ≤ n) (hn2 : n ≤ 4096) (hi : i < n) : Fn Try.prog 63 [kU root, kI n, kI i, kU leaf, slU p] (kB (verGo root n n i leaf p)) := by
  refine fn_go Try.func63 rfl ?_
  have h1 : ¬ (n : Int) < 1 := by omega
  have h2 : ¬ (4096 : Int) < n := by omega
  have h3 : ¬ (i : Int) < 0 := by omega
  have h4 : ¬ (n : Int) ≤ i := by omega
  have h5 : ¬ n = 0 := by omega
  simp [Try.ntmps63, h1, h2, h3, h4, h5]
  refine awp_loop (fun x : Nat × Nat × Nat × Int × List Int => ⟨65, [(0, kU root), (1, kI x.2.1), (2, kI x.2.2.1), (3, kU x.2.2.2.1), (4, slU x.2.2.2.2)], [], 0⟩)
    (fun x => x.2.1 ≤ x.1 ∧ x.1 ≤ 4096 ∧ x.2.2.1 < x.2.1 ∧ verGo root x.1 x.2.1 x.2.2.1 x.2.2.2.1 x.2.2.2.2 = verGo root n n i leaf p) (fun x => x.1) (n, n, i, leaf, p) ?_ ?_ ?_
  · exact entm []
  · exact ⟨Nat.le_refl _, hn2, hi, rfl⟩
  · rintro ⟨k, m, j, x, q⟩ ⟨hmk, hk, hj, hrun⟩
    simp only at hmk hk hj hrun
    refine awp_go ?_
    by_cases hm : 1 < m
    · have hm' : (1 : Int) < m := by omega
      obtain ⟨k', rfl⟩ : ∃ k', k = k' + 1 := ⟨k - 1, by omega⟩
      rw [verGo, if_pos hm] at hrun
      have hx := xor_one j (by omega)
      have hw1 : IntKind.i64.wrap ((m : Int) + 1) = ((m + 1 : Nat) : Int) := wrap_id (by omega) (by omega)
      have hw2 : IntKind.i64.wrap ((j : Int) / 2) = (j : Int) / 2 := wrap_id (by omega) (by omega)
      have hw3 : IntKind.i64.wrap (((m : Int) + 1) / 2) = ((m : Int) + 1) / 2 := wrap_id (by omega) (by omega)
      have hw4 : (j : Int).tmod 2 = (j : Int) % 2 := Int.tmod_eq_emod_of_nonneg (by omega)
      have hw6 : IntKind.i64.wrap ((m : Int) + 1) = (m : Int) + 1 := wrap_id (by omega) (by omega)
      have hw7 : ((m : Int) + 1).tdiv 2 = ((m : Int) + 1) / 2 := Int.tdiv_eq_ediv_of_nonneg (by omega)
      simp [hm, hm', hx]
      by_cases hs : sibN j < m
      · have hs' : (sibN j : Int) < m := by omega
        rw [if_pos hs] at hrun
        cases q with
        | nil =>
          rw [if_pos rfl] at hrun
          rw [← hrun]
          simp [hs, hs']
          exact finm
        | cons y r =>
          rw [if_neg (by simp), List.headD_cons, List.tail_cons] at hrun
          have hne : ¬ ((r.length : Int) + 1 = 0) := by omega
          have hr1 : (1 : Int) ≤ (r.length : Int) + 1 := by omega
          have htk : List.take r.length (r.map fun x => [kU x]) = r.map fun x => [kU x] := List.take_of_length_le (by simp)
          by_cases he : j % 2 = 0
          · have he' : (j : Int) % 2 = 0 := by omega
            rw [if_pos he] at hrun
            simp [hs, hs', hne, hw4, he, he']
            refine cal (Join_fn x y) ?_
            simp [hw2, hw3, hw6, hw7, hr1, htk]
            exact ⟨k', (m + 1) / 2, j / 2, joinM x y, r, ⟨by omega, by omega, by omega, hrun⟩, by omega, entm []⟩
          · have he' : ¬ (j : Int) % 2 = 0 := by omega
            have he2 : j % 2 = 1 := by omega
            rw [if_neg he] at hrun
            simp [hs, hs', hne, hw4, he, he', he2]
            refine cal (Join_fn y x) ?_
            simp [hw2, hw3, hw6, hw7, hr1, htk]
            exact ⟨k', (m + 1) / 2, j / 2, joinM y x, r, ⟨by omega, by omega, by omega, hrun⟩, by omega, entm []⟩
      · have hs' : ¬ (sibN j : Int) < m := by omega
        rw [if_neg hs] at hrun
        simp [hs, hs', hw2, hw3, hw6, hw7]
        exact ⟨k', (m + 1) / 2, j / 2, x, q, ⟨by omega, by omega, by omega, hrun⟩, by omega, entm []⟩
    · have hm' : ¬ (1 : Int) < m := by omega
      have hE : verGo root k m j x q = (decide (q = []) && decide (x = root)) := by
        cases k with
        | zero => rfl
        | succ k => rw [verGo, if_neg hm]
      rw [hE] at hrun
      rw [← hrun]
      have hq : ((q.length : Int) = 0) = (q = []) := by simp
      by_cases hq0 : q = []
      · subst hq0
        simp [hm, hm']
        exact finm
      · have hql : ¬ (q.length : Int) = 0 := by simpa using hq0
        simp [hm, hm', hq0]
        exact finm

set_option maxRecDepth 20000 in
theorem filled_fn (a b : List Int) (h : a.length = b.length) (hl : a.length ≤ 4096) : Fn Try.prog 111 [slU a, slU b] (slU a) := by
  have him : ∀ bs : List Int, (bs.map kU).all PV.immB = true := fun bs => by simp
  refine fn_go Try.func111 rfl ?_
  have h1 : a.length * 8 ≤ 140737488355328 := by omega
  have h2 : a.length ≤ maxLen := by simp only [maxLen]; omega
  have h3 : ¬ a.length < b.length := by omega
  simp [Try.ntmps111, h1, h2]
  rw [flatU]
  refine awp_loop (fun x : Nat => ⟨26, [(1, slU b), (5, .osl 0 1 0 a.length), (6, kI a.length)], [some (a.map kU)], 0⟩) (fun _ => True) (fun x => x) 0 ?_ ?_ ?_
  · exact entm [1] (hB := by simp [imms_ren (him _), imms_lt (him _)])
  · trivial
  · intro i _
    refine awp_go ?_
    simp [h3]
    refine fin_fz 0 (a.map kU) ?_
    have hch := chunksU a
    simp [hch]
    exact finm
end Go.Proofs.Ytemlkbcfplkniaa.Am
/- Package merkle: Narrow. -/
namespace Go.Proofs.Ytemlkbcfplkniaa.Am
open Go Go.RowKit

def askedGo (X : List (List Int)) (i : Nat) : Nat → Nat → Nat
  | 0, c => c
  | k + 1, c => askedGo X i k (if 2 * (i / 2 ^ (k + 1)) + 1 = (X.getD k []).length then c else c + 1)
/-- Two trees differ at the way to leaf i, and there only. -/
structure Differ (X Y : List (List Int)) (T i : Nat) : Prop where
  hx : X.length = T + 1
  hy : Y.length = T + 1
  top : (X.getD T []).length = 1
  len : ∀ d, d ≤ T → i / 2 ^ d < (X.getD d []).length ∧ (Y.getD d []).length = (X.getD d []).length
  at_ : ∀ d, d ≤ T → (X.getD d []).getD (i / 2 ^ d) 0 ≠ (Y.getD d []).getD (i / 2 ^ d) 0
  off : ∀ d, d ≤ T → ∀ j, j < (X.getD d []).length → j ≠ i / 2 ^ d → (X.getD d []).getD j 0 = (Y.getD d []).getD j 0
set_option maxRecDepth 20000 in
set_option maxHeartbeats 1000000 in
theorem Narrow_fn (a b : List Int) (T i : Nat) (h0 : 0 < a.length) (hl : a.length ≤ 4096) (hab : a.length = b.length) (hT : T ≤ 4096) (hi : i ≤ 4096) (D : Differ (levelsM a) (levelsM b) T i) :
    Fn Try.prog 59 [slU a, slU b] (.tup [kI i, kI (askedGo (levelsM a) i T 1)]) := by
  refine fn_go Try.func59 rfl ?_
  have h1 : ¬ (4096 : Int) < b.length := by omega
  have h2 : ¬ (b.length : Int) = 0 := by omega
  have h3 : b ≠ [] := fun e => by rw [e] at hab; simp at hab; rw [hab] at h0; simp at h0
  have h4 : a ≠ [] := fun e => by rw [e] at h0; simp at h0
  have hlx := levels_fn a (by omega)
  have hly := levels_fn b (by omega)
  obtain ⟨dx, dy, dt, dl, da, dd⟩ := D
  generalize levelsM a = X at *
  generalize levelsM b = Y at *
  have gx : ∀ d, d ≤ T → X[d]? = some (X.getD d []) := fun d hd => by
    rw [List.getElem?_eq_getElem (by omega)]; simp [List.getD, List.getElem?_eq_getElem (show d < X.length by omega)]
  have gy : ∀ d, d ≤ T → Y[d]? = some (Y.getD d []) := fun d hd => by
    rw [List.getElem?_eq_getElem (by omega)]; simp [List.getD, List.getElem?_eq_getElem (show d < Y.length by omega)]
  have gl : ∀ (q : List Int) (j : Nat), j < q.length → q[j]? = some (q.getD j 0) := fun q j hj => by
    rw [List.getElem?_eq_getElem hj]; simp [List.getD, hj]
  simp [Try.ntmps59, h1, h2, h3, h4, hab]
  refine cal (filled_fn a b hab hl) ?_
  simp
  refine cal hlx ?_
  simp
  refine cal (filled_fn b a hab.symm (by omega)) ?_
  simp
  refine cal hly ?_
  have hw1 : IntKind.i64.wrap ((X.length : Int) - 1) = T := by rw [wrap_id (by omega) (by omega)]; omega
  simp [hw1]
  have hx1 := gx T (Nat.le_refl _)
  have hy1 := gy T (Nat.le_refl _)
  have hne := da T (Nat.le_refl _)
  obtain ⟨l1, l2⟩ := dl T (Nat.le_refl _)
  have hz : i / 2 ^ T = 0 := by rw [dt] at l1; exact Nat.lt_one_iff.1 l1
  rw [hz] at hne
  have k1 := gl (X.getD T []) 0 (by omega)
  have k2 := gl (Y.getD T []) 0 (by omega)
  refine awp_draw follows_mix [] [(0, [0]), (0, [0]), (0, [0]), (0, [0]), (0, [0]), (0, [0]), (0, [0]), (0, [0]), (0, [0]), (0, [0]), (0, [0]), (0, [0]), (0, [0])] 0 (by kernel_rfl) rfl ?_
  generalize hX : X.getD T [] = xt at hx1 k1 hne
  generalize hY : Y.getD T [] = yt at hy1 k2 hne
  generalize xt.getD 0 0 = p at k1 hne
  generalize yt.getD 0 0 = q at k2 hne
  simp [hx1, hy1, k1, k2, hne]
  have hwT : IntKind.i64.wrap ((T : Int) - 1) = (T : Int) - 1 := wrap_id (by omega) (by omega)
  rw [hwT]
  refine awp_loop (fun x : Nat × Nat => ⟨85, [(7, .sl 1 (X.map fun x => [slU x])), (8, .sl 1 (Y.map fun x => [slU x])), (10, kI (i / 2 ^ x.1 : Nat)), (11, kI x.2), (12, kI ((x.1 : Int) - 1))], [], 0⟩)
    (fun x => x.1 ≤ T ∧ x.2 + x.1 ≤ T + 1 ∧ askedGo X i x.1 x.2 = askedGo X i T 1) (fun x => x.1) (T, 1) ?_ ?_ ?_
  · exact entm [] (hT := by simp [hz])
  · exact ⟨Nat.le_refl _, by omega, rfl⟩
  · rintro ⟨m, c⟩ ⟨hm, hc, hrun⟩
    simp only at hm hc hrun
    refine awp_go ?_
    by_cases hm0 : m = 0
    · subst hm0
      rw [askedGo] at hrun
      simp
      exact finm (by simp [hrun])
    · obtain ⟨k, rfl⟩ : ∃ k, m = k + 1 := ⟨m - 1, by omega⟩
      have hk1 : ((k + 1 : Nat) : Int) - 1 = k := by omega
      have hge : ¬ (k : Int) < 0 := by omega
      rw [hk1]
      rw [askedGo] at hrun
      obtain ⟨s1, s2⟩ := dl k (by omega)
      have sne := da k (by omega)
      have soff := dd k (by omega)
      have hx2 := gx k (by omega)
      have hy2 := gy k (by omega)
      have hdiv : i / 2 ^ (k + 1) = i / 2 ^ k / 2 := by rw [Nat.pow_succ, Nat.div_div_eq_div_mul]
      rw [hdiv] at hrun ⊢
      generalize hX2 : X.getD k [] = u at hx2 s1 s2 sne soff hrun
      generalize hY2 : Y.getD k [] = v at hy2 s2 sne soff
      have hik : i / 2 ^ k ≤ 4096 := Nat.le_trans (Nat.div_le_self _ _) hi
      have hq : (i : Int) / 2 ^ k = ((i / 2 ^ k : Nat) : Int) := by push_cast; rfl
      generalize i / 2 ^ k = n at s1 sne soff hrun hik hq ⊢
      obtain ⟨h, hh⟩ : ∃ h, n / 2 = h := ⟨_, rfl⟩
      rw [hh] at hrun ⊢
      have e1 : IntKind.i64.wrap ((h : Int) * 2) = 2 * (h : Int) := by rw [wrap_id (by omega) (by omega)]; omega
      have e2 : IntKind.i64.wrap (2 * (h : Int) + 1) = 2 * (h : Int) + 1 := wrap_id (by omega) (by omega)
      have e3 : IntKind.i64.wrap ((k : Int) - 1) = (k : Int) - 1 := wrap_id (by omega) (by omega)
      have e4 : IntKind.i64.wrap ((c : Int) + 1) = (c : Int) + 1 := wrap_id (by omega) (by omega)
      by_cases hone : 2 * h + 1 = u.length
      · have hone' : 2 * (h : Int) + 1 = u.length := by omega
        rw [if_pos hone] at hrun
        have hn : n = 2 * h := by omega
        have e5 : IntKind.i64.wrap (u.length : Int) = u.length := by rw [← hone']; exact e2
        simp [hx2, e1, e2, e3, e5, hone', hge]
        exact ⟨k, c, ⟨by omega, by omega, hrun⟩, by omega, entm [] (hT := by simp [hq]; omega)⟩
      · have hone' : ¬ 2 * (h : Int) + 1 = u.length := by omega
        rw [if_neg hone] at hrun
        have f1 := gl u (2 * h) (by omega)
        have f2 := gl v (2 * h) (by omega)
        have f0 : (0 : Int) ≤ 2 * (h : Int) := by omega
        have f3 : (2 * (h : Int)).toNat = 2 * h := by omega
        simp [hx2, e1, e2, e3, e4, hone', hge]
        refine awp_draw follows_mix [] [(0, [0]), (0, [0]), (0, [0]), (0, [0]), (0, [0]), (0, [0]), (0, [0]), (0, [0]), (0, [0]), (0, [0]), (0, [0]), (0, [0]), (0, [0]), (0, [0]), (0, [0])] 0 (by kernel_rfl) rfl ?_
        by_cases hn : n = 2 * h
        · rw [hn] at sne
          generalize u.getD (2 * h) 0 = p1 at f1 sne
          generalize v.getD (2 * h) 0 = q1 at f2 sne
          simp [hx2, hy2, e1, e2, e3, e4, f0, f1, f2, f3, sne]
          exact ⟨k, c + 1, ⟨by omega, by omega, hrun⟩, by omega, entm [] (hT := by simp [hq]; omega)⟩
        · have hn2 : n = 2 * h + 1 := by omega
          have heq := soff (2 * h) (by omega) (by omega)
          rw [← heq] at f2
          generalize u.getD (2 * h) 0 = p1 at f1 f2
          simp [hx2, hy2, e1, e2, e3, e4, f0, f1, f2, f3]
          exact ⟨k, c + 1, ⟨by omega, by omega, hrun⟩, by omega, entm [] (hT := by simp [hq]; omega)⟩
end Go.Proofs.Ytemlkbcfplkniaa.Am
/- Trees that differ in one leaf. -/
namespace Go.Proofs.Ytemlkbcfplkniaa.Am
open Go Go.RowKit

def pairAt (l : List Int) (i : Nat) (x : Int) : Int := if sibN i < l.length then (if i % 2 = 0 then joinM x (l.getD (sibN i) 0) else joinM (l.getD (sibN i) 0) x) else x
theorem pairUp_set : ∀ (l : List Int) (i : Nat) (x : Int), i < l.length → pairUp (l.set i x) = (pairUp l).set (i / 2) (pairAt l i x)
  | [], i, x, h => by simp at h
  | [a], 0, x, _ => by simp [pairUp, pairAt, sibN]
  | [a], i + 1, x, h => by simp at h
  | a :: b :: r, 0, x, _ => by simp [pairUp, pairAt, sibN]
  | a :: b :: r, 1, x, _ => by simp [pairUp, pairAt, sibN]
  | a :: b :: r, i + 2, x, h => by
    have ih := pairUp_set r i x (by simpa using h)
    have e1 : (i + 2) / 2 = i / 2 + 1 := by omega
    have e2 : (i + 2) % 2 = i % 2 := by omega
    have e3 : sibN (i + 2) = sibN i + 2 := by unfold sibN; split <;> split <;> omega
    have e4 : pairAt (a :: b :: r) (i + 2) x = pairAt r i x := by
      unfold pairAt
      rw [e3, e2]
      simp only [List.length_cons, Nat.add_lt_add_iff_right]
      rfl
    rw [List.set_cons_succ, List.set_cons_succ, pairUp, pairUp, e1, List.set_cons_succ, ih, e4]
def AllIn (l : List Int) : Prop := ∀ j, In64 (l.getD j 0)
theorem pairUp_in : ∀ l : List Int, (∀ x ∈ l, In64 x) → ∀ x ∈ pairUp l, In64 x
  | [], _ => by simp [pairUp]
  | [a], h => by simpa [pairUp] using h
  | a :: b :: r, h => fun x hx => by
    rw [pairUp] at hx
    rcases List.mem_cons.1 hx with rfl | hx
    · exact joinM_in _ _
    · exact pairUp_in r (fun y hy => h y (by simp [hy])) x hx
theorem pairAt_in {l : List Int} {i : Nat} {x : Int} (hx : In64 x) : In64 (pairAt l i x) := by
  unfold pairAt
  split
  · split
    · exact joinM_in _ _
    · exact joinM_in _ _
  · exact hx
theorem pairAt_inj {l : List Int} {i : Nat} {x y : Int} (hx : In64 x) (hy : In64 y) (h : pairAt l i x = pairAt l i y) : x = y := by
  unfold pairAt at h
  split at h
  · split at h
    · exact joinM_inj1 hx hy h
    · exact joinM_inj2 hx hy h
  · exact h
theorem set_self_ {l : List Int} {i : Nat} (h : i < l.length) : l.set i (l.getD i 0) = l := by
  have : l.getD i 0 = l[i] := by simp [List.getD, h]
  rw [this, List.set_getElem_self]
theorem pairUp_get {l : List Int} {i : Nat} (h : i < l.length) : (pairUp l).getD (i / 2) 0 = pairAt l i (l.getD i 0) := by
  have h1 := pairUp_set l i (l.getD i 0) h
  rw [set_self_ h] at h1
  have h2 : i / 2 < (pairUp l).length := by rw [pairUp_len]; omega
  have h3 := congrArg (fun q => q.getD (i / 2) 0) h1
  have h4 : ((pairUp l).set (i / 2) (pairAt l i (l.getD i 0))).getD (i / 2) 0 = pairAt l i (l.getD i 0) := by simp [List.getD, h2]
  exact h3.trans h4
theorem differ_levels : ∀ (k : Nat) (a : List Int) (i : Nat) (x : Int), i < a.length → (∀ y ∈ a, In64 y) → In64 x → x ≠ a.getD i 0 → a.length ≤ k → ∃ T, T ≤ k ∧ Differ (a :: levelsGo k a) ((a.set i x) :: levelsGo k (a.set i x)) T i
  | 0, a, i, x, hi, _, _, _, hk => by omega
  | k + 1, a, i, x, hi, ha, hx, hne, hk => by
    have key : ∀ j, j < a.length → j ≠ i → a.getD j 0 = (a.set i x).getD j 0 := fun j h1 h2 => by
      simp [List.getD, List.getElem?_set_ne (Ne.symm h2)]
    have hat : (a.set i x).getD i 0 = x := by simp [List.getD, hi]
    rw [levelsGo, levelsGo, List.length_set]
    by_cases h1 : a.length ≤ 1
    · rw [if_pos h1, if_pos h1]
      have hi0 : i = 0 := by omega
      refine ⟨0, by omega, ⟨rfl, rfl, ?_, ?_, ?_, ?_⟩⟩
      · show a.length = 1; omega
      · intro d hd
        obtain rfl : d = 0 := by omega
        exact ⟨by show i / 1 < a.length; omega, by show (a.set i x).length = a.length; simp⟩
      · intro d hd
        obtain rfl : d = 0 := by omega
        show a.getD (i / 1) 0 ≠ (a.set i x).getD (i / 1) 0
        rw [Nat.div_one, hat]; exact Ne.symm hne
      · intro d hd j hj hji
        obtain rfl : d = 0 := by omega
        exact key j hj (by rw [Nat.pow_zero, Nat.div_one] at hji; exact hji)
    · rw [if_neg h1, if_neg h1]
      have hpl := pairUp_len a
      have hai : In64 (a.getD i 0) := by
        have : a.getD i 0 = a[i] := by simp [List.getD, hi]
        rw [this]; exact ha _ (List.getElem_mem hi)
      obtain ⟨T, hT, D⟩ := differ_levels k (pairUp a) (i / 2) (pairAt a i x) (by omega) (pairUp_in a ha) (pairAt_in hx) (by rw [pairUp_get hi]; exact fun e => hne (pairAt_inj hx hai e)) (by omega)
      rw [← pairUp_set a i x hi] at D
      obtain ⟨d1, d2, d3, d4, d5, d6⟩ := D
      have hpow : ∀ d, i / 2 ^ (d + 1) = i / 2 / 2 ^ d := fun d => by rw [Nat.pow_succ, Nat.mul_comm, Nat.div_div_eq_div_mul]
      refine ⟨T + 1, by omega, ⟨by rw [List.length_cons, d1], by rw [List.length_cons, d2], d3, ?_, ?_, ?_⟩⟩
      · intro d hd
        cases d with
        | zero => exact ⟨by show i / 1 < a.length; omega, by show (a.set i x).length = a.length; simp⟩
        | succ d => rw [hpow]; exact d4 d (by omega)
      · intro d hd
        cases d with
        | zero =>
          show a.getD (i / 1) 0 ≠ (a.set i x).getD (i / 1) 0
          rw [Nat.div_one, hat]; exact Ne.symm hne
        | succ d => rw [hpow]; exact d5 d (by omega)
      · intro d hd j hj hji
        cases d with
        | zero => exact key j hj (by rw [Nat.pow_zero, Nat.div_one] at hji; exact hji)
        | succ d => rw [hpow] at hji; exact d6 d (by omega) j hj hji
theorem root_top {a : List Int} {T : Nat} (h0 : 0 < a.length) (hT : (levelsM a).length = T + 1) : ((levelsM a).getD T []).getD 0 0 = rootM a := by
  obtain ⟨pre, hpre⟩ := levels_last a.length a h0 (Nat.le_refl _)
  have hL : levelsM a = pre ++ [[rootM a]] := hpre
  rw [hL] at hT ⊢
  have : T = pre.length := by simp at hT; omega
  subst this
  simp [List.getD]
theorem root_ne {a b : List Int} {T i : Nat} (h0 : 0 < a.length) (h1 : 0 < b.length) (D : Differ (levelsM a) (levelsM b) T i) : rootM a ≠ rootM b := by
  obtain ⟨l1, l2⟩ := D.len T (Nat.le_refl _)
  have hz : i / 2 ^ T = 0 := by rw [D.top] at l1; exact Nat.lt_one_iff.1 l1
  have := D.at_ T (Nat.le_refl _)
  rwa [hz, root_top h0 D.hx, root_top h1 D.hy] at this
theorem ver_proof (root : Int) : ∀ (k : Nat) (l : List Int) (i : Nat) (x : Int), i < l.length → l.length ≤ k → verGo root k l.length i x (proofM (l :: levelsGo k l) i) = decide (rootGo k (l.set i x) = root)
  | 0, l, i, x, hi, hk => by omega
  | k + 1, l, i, x, hi, hk => by
    rw [verGo, levelsGo, rootGo, List.length_set, proofM]
    by_cases h1 : l.length ≤ 1
    · have hi0 : i = 0 := by omega
      subst hi0
      have hs : ¬ sibN 0 < l.length := by unfold sibN; simp; omega
      rw [if_neg (by omega), if_pos h1, if_pos h1, if_neg hs, proofM]
      have : (l.set 0 x).getD 0 0 = x := by simp [List.getD, hi]
      rw [this]
      simp
    · have hpl := pairUp_len l
      rw [if_pos (by omega), if_neg h1, if_neg h1, pairUp_set l i x hi]
      have ih := ver_proof root k (pairUp l) (i / 2) (pairAt l i x) (by omega) (by omega)
      rw [← ih, hpl]
      by_cases hs : sibN i < l.length
      · rw [if_pos hs, if_pos hs, if_neg (by simp)]
        have e : pairAt l i x = if i % 2 = 0 then joinM x (l.getD (sibN i) 0) else joinM (l.getD (sibN i) 0) x := by unfold pairAt; rw [if_pos hs]
        rw [e]
        simp
      · rw [if_neg hs, if_neg hs]
        have e : pairAt l i x = x := by unfold pairAt; rw [if_neg hs]
        rw [e, List.nil_append]
end Go.Proofs.Ytemlkbcfplkniaa.Am
/- Package tourtop: h6leaves. -/
namespace Go.Proofs.Ytemlkbcfplkniaa.Am
open Go Go.RowKit

def leafI (it : GItem) : List Int := [it.Ent.N, it.Ent.Gen] ++ it.Comps.flatMap compI
def leafM (it : GItem) : Int := wordsM ((leafI it).map IntKind.u64.wrap)
theorem leafI_le {it : GItem} (h1 : it.Comps.length ≤ 16) (h2 : ∀ c ∈ it.Comps, c.Vals.length ≤ 8) : (leafI it).length ≤ 200 := by
  have := fm_len compI 10 it.Comps fun c hc => by
    have := h2 c hc
    unfold compI
    rw [List.length_append]
    simp only [List.length_cons, List.length_nil]; omega
  unfold leafI
  rw [List.length_append]
  simp only [List.length_cons, List.length_nil]; omega
set_option maxRecDepth 20000 in
set_option maxHeartbeats 1000000 in
theorem leaves_fn (w : GWorld) (hl : w.Items.length ≤ 256) (hc : ∀ it ∈ w.Items, it.Comps.length ≤ 16 ∧ ∀ c ∈ it.Comps, c.Vals.length ≤ 8) : Fn Try.prog 58 [.agg w.e] (slU (w.Items.map leafM)) := by
  have him : ∀ bs : List Int, (bs.map kU).all PV.immB = true := fun bs => by simp
  have himI : ∀ bs : List Int, (bs.map kI).all PV.immB = true := fun bs => by simp
  refine fn_go Try.func58 rfl ?_
  simp [Try.ntmps58]
  refine awp_loop (fun x : Nat × List Int => ⟨49, [(3, .osl 0 1 0 x.2.length), (10, .sl 3 (w.Items.map GItem.e)), (11, kI w.Items.length), (12, kI x.1)], [some (x.2.map kU)], 0⟩)
    (fun x => x.1 ≤ w.Items.length ∧ x.2 = (w.Items.take x.1).map leafM) (fun x => w.Items.length - x.1) (0, []) ?_ ?_ ?_
  · exact (ent_nil (t := 3) (z := 1) rfl).trans (entm [1])
  · simp
  · rintro ⟨i, out⟩ ⟨hi, hrun⟩
    simp only at hi hrun
    have hol : out.length = i := by rw [hrun]; simp; omega
    refine awp_go ?_
    by_cases hlt : i < w.Items.length
    · obtain ⟨it, hit⟩ : ∃ it, w.Items[i] = it := ⟨_, rfl⟩
      obtain ⟨q1, q2⟩ := hc it (hit ▸ List.getElem_mem hlt)
      have hle := leafI_le q1 q2
      simp [hlt, hit]
      refine awp_loop (fun x : Nat × List Int => ⟨49, [(3, .osl 0 1 0 out.length), (6, .osl 1 1 0 x.2.length), (10, .sl 3 (w.Items.map GItem.e)), (11, kI w.Items.length), (12, kI i), (24, .sl 2 (it.Comps.map GComp.e)), (25, kI it.Comps.length), (26, kI x.1)], [some (out.map kU), some (x.2.map kI)], 0⟩)
        (fun x => x.1 ≤ it.Comps.length ∧ x.2 ++ (it.Comps.drop x.1).flatMap compI = leafI it) (fun x => it.Comps.length - x.1) (0, [it.Ent.N, it.Ent.Gen]) ?_ ?_ ?_
      · exact entm [0, 2] (hB := by simp [imms_ren (him _), imms_lt (him _)])
      · simp [leafI]
      · rintro ⟨j, a⟩ ⟨hj, hin⟩
        simp only at hj hin
        by_cases hjt : j < it.Comps.length
        · refine awp_go ?_
          obtain ⟨c, hcj⟩ : ∃ c, it.Comps[j] = c := ⟨_, rfl⟩
          have hv := q2 c (hcj ▸ List.getElem_mem hjt)
          have hal : a.length ≤ 200 := Nat.le_trans (len_le hin) hle
          rw [fm_drop compI _ j hjt, hcj] at hin
          have g1 : (a.length + 2) * 8 ≤ 140737488355328 := by omega
          have g2 : a.length + 2 ≤ maxLen := by simp only [maxLen]; omega
          have g3 : (a.length + 2 + c.Vals.length) * 8 ≤ 140737488355328 := by omega
          have g4 : a.length + 2 + c.Vals.length ≤ maxLen := by simp only [maxLen]; omega
          have g5 : a.length + (c.Vals.length + 1 + 1) = a.length + 2 + c.Vals.length := by omega
          simp [hjt, hcj]
          refine awp_drawS follows_mix [(0, 0), (0, 0), (0, 0), (0, 0), (0, 0), (0, 0), (4, 3), (4, 4), (0, 0), (0, 0), (4, 5), (0, 0)] 3 6 [(0, 6), (6, 8), (6, 9), (7, 8), (7, 9)] (by kernel_rfl) rfl rfl ?_
          simp [g1, g2, g3, g4, g5, imms_ren (him out), imms_lt (him out)]
          rw [wrap_id (by omega) (by omega)]
          refine ⟨j + 1, a ++ compI c, ⟨by omega, by rw [← hin]; simp⟩, by omega, entm [0, 5] (hT := by simp [compI]; omega) (hB := by simp [imms_ren (him out), imms_lt (him out), compI])⟩
        · obtain rfl : j = it.Comps.length := by omega
          rw [List.drop_length, List.flatMap_nil, List.append_nil] at hin
          subst hin
          refine awp_ent (ent_fz 1 ((leafI it).map kI)) (awp_go ?_)
          have g1 : (out.length + 1) * 8 ≤ 140737488355328 := by omega
          have g2 : out.length + 1 ≤ maxLen := by simp only [maxLen]; omega
          have hfz : ∀ b cs, fzL b cs (out.map kU) = out.map kU := fun b cs => imm0_fzL (by simp) b cs
          have hch := chunks_ints (leafI it)
          simp [hch, hfz]
          refine cal (SumInts_fn (leafI it) (by omega)) ?_ (hren := by simp [slI_def])
          simp [g1, g2]
          rw [wrap_id (by omega) (by omega)]
          refine ⟨i + 1, out ++ [leafM it], ⟨by omega, ?_⟩, by omega, entm [3] (hB := by simp [imms_ren (him out), imms_lt (him out), leafM])⟩
          rw [← List.map_take, List.take_add_one, List.getElem?_eq_getElem hlt, hit, hrun]
          simp
    · obtain rfl : i = w.Items.length := by omega
      rw [List.take_length] at hrun
      rw [← hrun]
      clear hrun hol
      simp
      refine fin_fz 0 (out.map kU) ?_
      have hch := chunksU out
      simp [hch]
      exact finm
end Go.Proofs.Ytemlkbcfplkniaa.Am
/- Package tourtop: h6changed. -/
namespace Go.Proofs.Ytemlkbcfplkniaa.Am
open Go Go.RowKit

def fz0 : GField := ⟨⟨#[]⟩, 0, 0⟩
def newV (f : GField) (by_ x : Int) : Int := f.Low + ((x - f.Low + 1 + by_ % (2 ^ f.Bits.toNat - 1)) % 2 ^ f.Bits.toNat)
def setV (F : List GField) (by_ : Int) (v : List Int) (m : Nat) (i : Int) : List Int :=
  if 0 ≤ i ∧ i < m then v.set i.toNat (newV (F.getD i.toNat fz0) by_ (v.getD i.toNat 0)) else v
def atV (I m k a : Int) : Int := if 0 ≤ I ∧ I < m then k else a
theorem atV_0 (I k a : Int) : atV I 0 k a = a := by unfold atV; rw [if_neg (by omega)]
theorem atV_hit {I : Int} {v : Nat} {k a : Int} (h : I = v) : atV I ((v + 1 : Nat) : Int) k a = k := by unfold atV; rw [if_pos (by omega)]
theorem atV_miss {I : Int} {v : Nat} {k a : Int} (h : I ≠ v) : atV I ((v + 1 : Nat) : Int) k a = atV I v k a := by
  unfold atV
  by_cases h1 : 0 ≤ I ∧ I < v
  · rw [if_pos h1, if_pos (by omega)]
  · rw [if_neg h1, if_neg (by omega)]
theorem atV_join {I1 I2 n k a : Int} (h : I2 ≤ I1) (hn : 0 ≤ n) : atV I2 n k (atV I1 (I1 - I2) k a) = atV I1 (I1 - (I2 - n)) k a := by
  unfold atV
  split <;> split <;> (try split) <;> first | rfl | omega
theorem setV_0 (F : List GField) (b : Int) (L : List Int) (I : Int) : setV F b L 0 I = L := by unfold setV; rw [if_neg (by omega)]
theorem setV_hit {F : List GField} {b : Int} {L : List Int} {I : Int} {v : Nat} (h : I = v) : setV F b L v I = L ∧ setV F b L (v + 1) I = L.set v (newV (F.getD v fz0) b (L.getD v 0)) := by
  subst h
  unfold setV
  rw [if_neg (by omega), if_pos (by omega)]
  exact ⟨rfl, rfl⟩
theorem setV_miss {F : List GField} {b : Int} {L : List Int} {I : Int} {v : Nat} (h : I ≠ v) : setV F b L (v + 1) I = setV F b L v I := by
  unfold setV
  by_cases h1 : 0 ≤ I ∧ I < (v : Int)
  · rw [if_pos h1, if_pos (by omega)]
  · rw [if_neg h1, if_neg (by omega)]
@[simp] theorem setV_len (F : List GField) (b : Int) (L : List Int) (m : Nat) (I : Int) : (setV F b L m I).length = L.length := by unfold setV; split <;> simp
def chgC (ks : List GKind) (by_ : Int) (c : GComp) (i : Int) : GComp := ⟨c.Kind, setV (ks.getD c.Kind.toNat k0).Fields by_ c.Vals c.Vals.length i⟩
def cntC (l : List GComp) : Nat := (l.map fun c => c.Vals.length).sum
def cntI (l : List GItem) : Nat := (l.map fun it => cntC it.Comps).sum
def chgCs (ks : List GKind) (by_ : Int) : List GComp → Int → List GComp
  | [], _ => []
  | c :: r, i => chgC ks by_ c i :: chgCs ks by_ r (i - c.Vals.length)
def chgIts (ks : List GKind) (by_ : Int) : List GItem → Int → List GItem
  | [], _ => []
  | it :: r, i => ⟨it.Ent, chgCs ks by_ it.Comps i⟩ :: chgIts ks by_ r (i - cntC it.Comps)
def atGo : List GItem → Nat → Int → Int → Int
  | [], _, _, acc => acc
  | it :: r, k, i, acc => atGo r (k + 1) (i - cntC it.Comps) (atV i (cntC it.Comps) k acc)
def changedM (w : GWorld) (i by_ : Int) : GWorld × Int × Bool :=
  if cntI w.Items = 0 then (w00, 0, false) else (⟨w.Kinds, w.Gens, chgIts w.Kinds by_ w.Items (i % (cntI w.Items : Int))⟩, atGo w.Items 0 (i % (cntI w.Items : Int)) 0, true)

set_option maxRecDepth 20000 in
set_option maxHeartbeats 2000000 in
theorem changed_fn (w : GWorld) (i by_ : Int) (hw : checkW w = 0) (hwi : (Lit.int .i64 i).wf = true) : Fn Try.prog 57 [.agg w.e, kI i, kI by_] (.tup [.agg (changedM w i by_).1.e, kI (changedM w i by_).2.1, kB (changedM w i by_).2.2]) := by
  obtain ⟨hfi, hcc⟩ := checkW_fine hw
  have hil := hfi.il
  refine fn_go Try.func57 rfl ?_
  simp [Try.ntmps57]
  refine awp_loop (fun x : Nat × Nat => ⟨142, [(1, kI i), (2, kI by_), (3, .eptr w.e), (6, .ptr 0 0), (9, kI x.2), (25, .sl 3 (w.Items.map GItem.e)), (26, kI w.Items.length), (27, kI x.1)], [some [kNil, kNil, kNil]], 0⟩)
    (fun x => x.1 ≤ w.Items.length ∧ x.2 ≤ 128 * x.1 ∧ x.2 + cntI (w.Items.drop x.1) = cntI w.Items) (fun x => w.Items.length - x.1) (0, 0) ?_ ?_ ?_
  · refine (ent_fz 0 w.e).trans ?_
    simp
    exact entm [1]
  · simp
  · rintro ⟨k, n⟩ ⟨hk, hn, hrun⟩
    simp only at hk hn hrun
    refine awp_go ?_
    by_cases hlt : k < w.Items.length
    · obtain ⟨it, hit⟩ : ∃ it, w.Items[k] = it := ⟨_, rfl⟩
      obtain ⟨q1, q2⟩ := hcc it (hit ▸ List.getElem_mem hlt)
      rw [List.drop_eq_getElem_cons hlt, hit, cntI, List.map_cons, List.sum_cons] at hrun
      simp [hlt, hit]
      refine awp_loop (fun x : Nat × Nat => ⟨142, [(1, kI i), (2, kI by_), (3, .eptr w.e), (6, .ptr 0 0), (9, kI x.2), (25, .sl 3 (w.Items.map GItem.e)), (26, kI w.Items.length), (27, kI k), (32, .sl 2 (it.Comps.map GComp.e)), (33, kI it.Comps.length), (34, kI x.1)], [some [kNil, kNil, kNil]], 0⟩)
        (fun x => x.1 ≤ it.Comps.length ∧ x.2 ≤ 128 * k + 8 * x.1 ∧ x.2 + cntC (it.Comps.drop x.1) = n + cntC it.Comps) (fun x => it.Comps.length - x.1) (0, n) ?_ ?_ ?_
      · exact entm [0]
      · simp; omega
      · rintro ⟨j, m⟩ ⟨hj, hm, hin⟩
        simp only at hj hm hin
        refine awp_go ?_
        by_cases hjt : j < it.Comps.length
        · obtain ⟨c, hcj⟩ : ∃ c, it.Comps[j] = c := ⟨_, rfl⟩
          have hv := (q2 c (hcj ▸ List.getElem_mem hjt)).2.2.2
          rw [List.drop_eq_getElem_cons hjt, hcj, cntC, List.map_cons, List.sum_cons] at hin
          have e1 : IntKind.i64.wrap ((m : Int) + c.Vals.length) = (m : Int) + c.Vals.length := wrap_id (by omega) (by omega)
          have e2 : IntKind.i64.wrap ((j : Int) + 1) = (j : Int) + 1 := wrap_id (by omega) (by omega)
          simp [hjt, hcj, e1, e2]
          refine ⟨j + 1, m + c.Vals.length, ⟨by omega, by omega, ?_⟩, by omega, entm [0]⟩
          rw [← hin]; unfold cntC; omega
        · obtain rfl : j = it.Comps.length := by omega
          rw [List.drop_length] at hin
          have hin' : m = n + cntC it.Comps := by simpa [cntC] using hin
          have e2 : IntKind.i64.wrap ((k : Int) + 1) = (k : Int) + 1 := wrap_id (by omega) (by omega)
          simp [e2]
          refine ⟨k + 1, m, ⟨by omega, by omega, ?_⟩, by omega, entm [0]⟩
          rw [← hrun, hin']; unfold cntI; omega
    · obtain rfl : k = w.Items.length := by omega
      rw [List.drop_length] at hrun
      have hrun' : n = cntI w.Items := by simpa [cntI] using hrun
      subst hrun'
      by_cases hz : cntI w.Items = 0
      · have hM : changedM w i by_ = (w00, 0, false) := by simp [changedM, hz]
        rw [hM]
        simp [hz]
        refine fin_ent ent_w00 ?_
        exact finm
      · obtain ⟨I, hI⟩ : ∃ I, i % (cntI w.Items : Int) = I := ⟨_, rfl⟩
        have hI0 : 0 ≤ I ∧ I < 100000000000 := by
          have h1 := Int.emod_nonneg i (show (cntI w.Items : Int) ≠ 0 by omega)
          have h2 := Int.emod_lt_of_pos i (show (0 : Int) < (cntI w.Items : Int) by omega)
          omega
        have hM : changedM w i by_ = (⟨w.Kinds, w.Gens, chgIts w.Kinds by_ w.Items I⟩, atGo w.Items 0 I 0, true) := by simp [changedM, hz, hI]
        rw [hM]
        simp [hz]
        refine cal (Below_fn i (cntI w.Items) (by omega) (by omega)) ?_
        rw [hI]
        simp
        refine awp_loop (fun x : Nat × Int × Int × List GItem => ⟨142, [(1, kI x.2.1), (2, kI by_), (3, .eptr w.e), (6, .ptr 0 0), (14, .ptr 1 0), (15, kI x.2.2.1), (57, .sl 3 (w.Items.map GItem.e)), (58, kI w.Items.length), (59, kI x.1)],
            [some [kNil, kNil, kNil], some [.sl 2 (w.Kinds.map GKind.e), slI w.Gens, .osl 2 3 0 x.2.2.2.length], some (x.2.2.2.map GItem.e).flatten], 0⟩)
          (fun x => x.1 ≤ w.Items.length ∧ x.2.2.2.length = x.1 ∧ -128 * (x.1 : Int) ≤ x.2.1 ∧ x.2.1 < 100000000000 ∧ x.2.2.2 ++ chgIts w.Kinds by_ (w.Items.drop x.1) x.2.1 = chgIts w.Kinds by_ w.Items I ∧ atGo (w.Items.drop x.1) x.1 x.2.1 x.2.2.1 = atGo w.Items 0 I 0)
          (fun x => w.Items.length - x.1) (0, I, 0, []) ?_ ?_ ?_
        · exact (ent_nilb (b := 1) (j := 2) (z := 3) rfl rfl).trans (entm [0, 1, 2])
        · simp; omega
        · rintro ⟨k, I1, at1, acc⟩ ⟨hk, hacc, hI1, hI2, hrun, hat⟩
          simp only at hk hacc hI1 hI2 hrun hat
          by_cases hlt : k < w.Items.length
          · refine awp_go ?_
            obtain ⟨it, hit⟩ : ∃ it, w.Items[k] = it := ⟨_, rfl⟩
            obtain ⟨q1, q2⟩ := hcc it (hit ▸ List.getElem_mem hlt)
            rw [List.drop_eq_getElem_cons hlt, hit, chgIts] at hrun
            rw [List.drop_eq_getElem_cons hlt, hit, atGo] at hat
            simp [hlt, hit, GItem.e, GEnt.e]
            refine awp_loop (fun x : Nat × Int × Int × List GComp => ⟨142, [(1, kI x.2.1), (2, kI by_), (3, .eptr w.e), (6, .ptr 0 0), (14, .ptr 1 0), (15, kI x.2.2.1), (16, kI k), (18, .ptr 3 0), (57, .sl 3 (w.Items.map GItem.e)), (58, kI w.Items.length), (59, kI k), (68, .sl 2 (it.Comps.map GComp.e)), (69, kI it.Comps.length), (70, kI x.1)],
                [some [kNil, kNil, kNil], some [.sl 2 (w.Kinds.map GKind.e), slI w.Gens, .osl 2 3 0 acc.length], some (acc.map GItem.e).flatten, some [kI it.Ent.N, kI it.Ent.Gen, .osl 4 2 0 x.2.2.2.length], some (x.2.2.2.map GComp.e).flatten], 0⟩)
              (fun x => x.1 ≤ it.Comps.length ∧ x.2.2.2.length = x.1 ∧ I1 - 8 * (x.1 : Int) ≤ x.2.1 ∧ x.2.1 ≤ I1 ∧ x.2.2.2 ++ chgCs w.Kinds by_ (it.Comps.drop x.1) x.2.1 = chgCs w.Kinds by_ it.Comps I1 ∧ x.2.1 - cntC (it.Comps.drop x.1) = I1 - cntC it.Comps ∧
                x.2.2.1 = atV I1 (I1 - x.2.1) k at1)
              (fun x => it.Comps.length - x.1) (0, I1, at1, []) ?_ ?_ ?_
            · exact (ent_nilb (b := 4) (j := 2) (z := 2) rfl rfl).trans (entm [0, 1, 2, 4, 5])
            · exact ⟨by simp, rfl, by simp, by simp, by simp, by simp, by simp only; rw [Int.sub_self, atV_0]⟩
            · rintro ⟨j, I2, at2, cs⟩ ⟨hj, hcs, hJ1, hJ2, hin, hcnt, hat2⟩
              simp only at hj hcs hJ1 hJ2 hin hcnt hat2
              by_cases hjt : j < it.Comps.length
              · refine awp_go ?_
                obtain ⟨c, hcj⟩ : ∃ c, it.Comps[j] = c := ⟨_, rfl⟩
                obtain ⟨hc1, hc2, hc3, hv⟩ := q2 c (hcj ▸ List.getElem_mem hjt)
                rw [List.drop_eq_getElem_cons hjt, hcj, chgCs] at hin
                rw [List.drop_eq_getElem_cons hjt, hcj, cntC, List.map_cons, List.sum_cons] at hcnt
                obtain ⟨F, hF⟩ : ∃ F, (w.Kinds.getD c.Kind.toNat k0) = F := ⟨_, rfl⟩
                rw [hF] at hc3
                obtain ⟨v1, v2⟩ := vals_ok hc3
                simp [hjt, hcj]
                refine calD [] (CloneI_own c.Vals (by omega)) ?_ (hren := by simp)
                simp
                refine awp_loop (fun x : Nat => ⟨142, [(1, kI (I2 - x)), (2, kI by_), (3, .eptr w.e), (6, .ptr 0 0), (14, .ptr 1 0), (15, kI (atV I2 x k at2)), (16, kI k), (18, .ptr 3 0), (20, .eptr c.e), (21, .osl 5 1 0 c.Vals.length), (57, .sl 3 (w.Items.map GItem.e)), (58, kI w.Items.length), (59, kI k), (68, .sl 2 (it.Comps.map GComp.e)), (69, kI it.Comps.length), (70, kI j), (78, kI c.Vals.length), (79, kI x)],
                    [some [kNil, kNil, kNil], some [.sl 2 (w.Kinds.map GKind.e), slI w.Gens, .osl 2 3 0 acc.length], some (acc.map GItem.e).flatten, some [kI it.Ent.N, kI it.Ent.Gen, .osl 4 2 0 cs.length], some (cs.map GComp.e).flatten, some ((setV F.Fields by_ c.Vals x I2).map kI)], 0⟩)
                  (fun x => x ≤ c.Vals.length) (fun x => c.Vals.length - x) 0 ?_ ?_ ?_
                · refine (ent_fz 5 c.e).trans ?_
                  simp
                  exact entm [0, 1, 2, 3, 4, 6] (hT := by simp [atV_0]) (hB := by simp [setV_0])
                · simp
                · intro v hvl
                  by_cases hvt : v < c.Vals.length
                  · refine awp_go ?_
                    obtain ⟨K, hK⟩ : ∃ K : Nat, c.Kind = K := ⟨c.Kind.toNat, by omega⟩
                    rw [hK] at hF hc2
                    have hKl : K < w.Kinds.length := by omega
                    have hKF : w.Kinds[K] = F := by rw [← hF]; simp [List.getD, hKl]
                    have hvF : v < F.Fields.length := by have := v2.1; omega
                    obtain ⟨f, hf⟩ : ∃ f, F.Fields[v] = f := ⟨_, rfl⟩
                    have hfb := v1 f (hf ▸ List.getElem_mem hvF)
                    obtain ⟨_, fb1, fb2, fb3, fb4⟩ := fieldB_iff.1 hfb
                    have hval := v2.2 v hvF hvt
                    rw [hf] at hval
                    obtain ⟨x, hx⟩ : ∃ x, c.Vals[v] = x := ⟨_, rfl⟩
                    rw [hx] at hval
                    simp only [highM, hfb, if_true] at hval
                    have ew1 : IntKind.i64.wrap ((v : Int) + 1) = (v : Int) + 1 := wrap_id (by omega) (by omega)
                    have ew2 : IntKind.i64.wrap (I2 - (v : Int) - 1) = I2 - (v : Int) - 1 := wrap_id (by omega) (by omega)
                    by_cases hh : I2 - (v : Int) = 0
                    · have hI2 : I2 = v := by omega
                      obtain ⟨s1, s2⟩ := setV_hit (F := F.Fields) (b := by_) (L := c.Vals) hI2
                      have hFd : F.Fields.getD v fz0 = f := by rw [← hf]; simp [List.getD, hvF]
                      have hLd : c.Vals.getD v 0 = x := by rw [← hx]; simp [List.getD, hvt]
                      rw [hFd, hLd] at s2
                      have hp := pow_le32 (n := f.Bits.toNat) (by omega)
                      have hp2 : (2 : Int) ≤ 2 ^ f.Bits.toNat := by
                        obtain ⟨b, hb⟩ : ∃ b, f.Bits.toNat = b + 1 := ⟨f.Bits.toNat - 1, by omega⟩
                        have : 0 < (2 : Int) ^ b := Int.pow_pos (by decide)
                        rw [hb, Int.pow_succ]; omega
                      have hnb : ¬ f.Bits < 0 := by omega
                      have hmin : min f.Bits.toNat 64 = f.Bits.toNat := by omega
                      obtain ⟨P, hP⟩ : ∃ P, (2 : Int) ^ f.Bits.toNat = P := ⟨_, rfl⟩
                      rw [hP] at hp hp2 hval
                      obtain ⟨y, hy⟩ : ∃ y, by_ % (P - 1) = y := ⟨_, rfl⟩
                      have hy0 := Int.emod_nonneg by_ (show P - 1 ≠ 0 by omega)
                      have hy1 := Int.emod_lt_of_pos by_ (show (0 : Int) < P - 1 by omega)
                      rw [hy] at hy0 hy1
                      obtain ⟨z, hz⟩ : ∃ z, (x - f.Low + 1 + y) % P = z := ⟨_, rfl⟩
                      have hz0 := Int.emod_nonneg (x - f.Low + 1 + y) (show P ≠ 0 by omega)
                      have hz1 := Int.emod_lt_of_pos (x - f.Low + 1 + y) (show (0 : Int) < P by omega)
                      rw [hz] at hz0 hz1
                      have hnew : newV f by_ x = f.Low + z := by unfold newV; rw [hP, hy, hz]
                      rw [hnew] at s2
                      have w1 : IntKind.i64.wrap P = P := wrap_id (by omega) (by omega)
                      have w2 : IntKind.i64.wrap (P - 1) = P - 1 := wrap_id (by omega) (by omega)
                      have w3 : IntKind.i64.wrap (x - f.Low) = x - f.Low := wrap_id (by omega) (by omega)
                      have w4 : IntKind.i64.wrap (x - f.Low + 1) = x - f.Low + 1 := wrap_id (by omega) (by omega)
                      have w5 : IntKind.i64.wrap (x - f.Low + 1 + y) = x - f.Low + 1 + y := wrap_id (by omega) (by omega)
                      have w6 : IntKind.i64.wrap (f.Low + z) = f.Low + z := wrap_id (by omega) (by omega)
                      simp [hvt, hK, hKl, hKF, hvF, hf, hh]
                      rw [s1]
                      refine awp_drawS follows_mix [(0, 0), (0, 0), (0, 0), (0, 0), (0, 0), (0, 0), (0, 0), (0, 0), (0, 0), (0, 0), (0, 0), (0, 0), (0, 0), (0, 0), (0, 0), (0, 0), (0, 0), (2, 0), (0, 0), (0, 0), (0, 0), (0, 0), (2, 0), (0, 0), (0, 0), (1, 0)] 7 7 [] (by kernel_rfl) rfl rfl ?_
                      simp [hvt, hx, hnb, hmin, hP, w1, w2, w3, w4, IntKind.bits]
                      refine gE_call (kI y) ?_ ?_
                      · simp [hvt, hx, hnb, hmin, hP, w1, w2, w3, w4, IntKind.bits]
                        rw [← hy]
                        exact calO (Below_fn by_ (P - 1) (by omega) (by omega))
                      simp [hvt, hx, hnb, hmin, hP, w1, w2, w3, w4, w5, IntKind.bits]
                      refine gE_call (kI z) ?_ ?_
                      · simp [hvt, hx, hnb, hmin, hP, w1, w2, w3, w4, w5, IntKind.bits]
                        rw [← hz]
                        exact calO (Below_fn (x - f.Low + 1 + y) P (by omega) (by omega))
                      have hset : List.take v (c.Vals.map kI) ++ kI (f.Low + z) :: List.drop (v + 1) (c.Vals.map kI) = (c.Vals.set v (f.Low + z)).map kI := by
                        rw [List.map_set, List.set_eq_take_append_cons_drop, if_pos (by simpa using hvt)]
                      obtain ⟨V1, hV1⟩ : ∃ V1, c.Vals.set v (f.Low + z) = V1 := ⟨_, rfl⟩
                      rw [hV1] at hset s2
                      simp [hvt, hx, hnb, hmin, hP, w1, w2, w3, w4, w5, w6, IntKind.bits, show v + 1 ≤ c.Vals.length by omega, hset, ew1, show IntKind.i64.wrap (-1) = -1 by decide]
                      exact ⟨v + 1, by omega, by omega, entm [0, 1, 2, 3, 4, 5] (hT := by have := atV_hit (k := (k : Int)) (a := at2) hI2; push_cast at this; simp [this]; omega) (hB := by simp [s2])⟩
                    · have hI2 : I2 ≠ v := by omega
                      simp [hvt, hK, hKl, hKF, hvF, hf, hh, ew1, ew2]
                      exact ⟨v + 1, by omega, by omega, entm [0, 1, 2, 3, 4, 5] (hT := by have := atV_miss (k := (k : Int)) (a := at2) hI2; push_cast at this; simp [this]; omega) (hB := by simp [setV_miss hI2])⟩
                  · obtain rfl : v = c.Vals.length := by omega
                    obtain ⟨V, hV⟩ : ∃ V, setV F.Fields by_ c.Vals c.Vals.length I2 = V := ⟨_, rfl⟩
                    have hVl : V.length = c.Vals.length := by rw [← hV]; simp
                    have hcg : chgC w.Kinds by_ c I2 = ⟨c.Kind, V⟩ := by unfold chgC; rw [hF, hV]
                    have b1 : (cs.length + 1) * 32 ≤ 140737488355328 := by omega
                    have b2 : cs.length + 1 ≤ maxLen := by simp only [maxLen]; omega
                    have ew1 : IntKind.i64.wrap ((j : Int) + 1) = (j : Int) + 1 := wrap_id (by omega) (by omega)
                    rw [hV]
                    refine awp_ent (ent_fz 5 (V.map kI)) (awp_go ?_)
                    have hch := chunks_ints V
                    rw [hVl] at hch
                    simp [hch, ← hVl, b1, b2]
                    have hj2 : IntKind.i64.wrap ((j : Int) + 1) = (j : Int) + 1 := ew1
                    refine ⟨j + 1, I2 - V.length, atV I2 V.length k at2, cs ++ [⟨c.Kind, V⟩], ⟨by omega, by simp [hcs], by omega, by omega, ?_, ?_, ?_⟩, by omega, entm [0, 1, 2, 3, 7] (hT := by simp [hj2]) (hB := by simp [GComp.e])⟩
                    · rw [← hin, hcg, hVl]; simp
                    · rw [← hcnt, hVl]; unfold cntC; omega
                    · rw [hat2]; exact atV_join hJ2 (by omega)
              · obtain rfl : j = it.Comps.length := by omega
                rw [List.drop_length, chgCs, List.append_nil] at hin
                rw [List.drop_length] at hcnt
                have hcnt' : I2 = I1 - cntC it.Comps := by simpa [cntC] using hcnt
                have hcnt2 : I1 - I2 = cntC it.Comps := by omega
                rw [hcnt2] at hat2
                rw [← hat2, ← hcnt'] at hat
                refine awp_ent (ent_fz 4 (cs.map GComp.e).flatten) (awp_go ?_)
                have b1 : (acc.length + 1) * 40 ≤ 140737488355328 := by omega
                have b2 : acc.length + 1 ≤ maxLen := by simp only [maxLen]; omega
                have ew1 : IntKind.i64.wrap ((k : Int) + 1) = (k : Int) + 1 := wrap_id (by omega) (by omega)
                simp [b1, b2, ew1]
                refine ⟨k + 1, I2, at2, acc ++ [⟨it.Ent, cs⟩], ⟨by omega, by simp [hacc], by omega, by omega, ?_, hat⟩, by omega, entm [0, 1, 6] (hB := by simp [GItem.e, GEnt.e])⟩
                rw [← hrun, hin, hcnt']; simp
          · obtain rfl : k = w.Items.length := by omega
            rw [List.drop_length, chgIts, List.append_nil] at hrun
            rw [List.drop_length, atGo] at hat
            refine awp_ent (ent_fz 2 (acc.map GItem.e).flatten) (awp_go ?_)
            rw [← hrun, ← hat]
            simp
            exact finm (by simp [GWorld.e])
end Go.Proofs.Ytemlkbcfplkniaa.Am
/- A world in which one value differs. -/
namespace Go.Proofs.Ytemlkbcfplkniaa.Am
open Go Go.RowKit

theorem newV_ne {f : GField} {b x : Int} (hf : fieldB f = true) (h1 : f.Low ≤ x) (h2 : x ≤ highM f) : newV f b x ≠ x ∧ f.Low ≤ newV f b x ∧ newV f b x ≤ highM f := by
  obtain ⟨_, b1, b2, b3, b4⟩ := fieldB_iff.1 hf
  simp only [highM, hf, if_true] at h2 ⊢
  unfold newV
  have hp2 : (2 : Int) ≤ 2 ^ f.Bits.toNat := by
    obtain ⟨n, hn⟩ : ∃ n, f.Bits.toNat = n + 1 := ⟨f.Bits.toNat - 1, by omega⟩
    have : 0 < (2 : Int) ^ n := Int.pow_pos (by decide)
    rw [hn, Int.pow_succ]; omega
  generalize (2 : Int) ^ f.Bits.toNat = P at h2 hp2 ⊢
  have hy0 := Int.emod_nonneg b (show P - 1 ≠ 0 by omega)
  have hy1 := Int.emod_lt_of_pos b (show (0 : Int) < P - 1 by omega)
  generalize b % (P - 1) = y at hy0 hy1 ⊢
  have hz0 := Int.emod_nonneg (x - f.Low + 1 + y) (show P ≠ 0 by omega)
  have hz1 := Int.emod_lt_of_pos (x - f.Low + 1 + y) (show (0 : Int) < P by omega)
  refine ⟨fun e => ?_, by omega, by omega⟩
  have h3 : (x - f.Low + 1 + y) % P = x - f.Low := by omega
  have h4 : (x - f.Low) % P = x - f.Low := Int.emod_eq_of_lt (by omega) (by omega)
  have h5 : P ∣ (x - f.Low + 1 + y) - (x - f.Low) := Int.dvd_of_emod_eq_zero (Int.emod_eq_emod_iff_emod_sub_eq_zero.1 (h3.trans h4.symm))
  have h6 := Int.le_of_dvd (by omega) h5
  omega

theorem setV_id {F : List GField} {b : Int} {L : List Int} {m : Nat} {I : Int} (h : ¬ (0 ≤ I ∧ I < m)) : setV F b L m I = L := by unfold setV; rw [if_neg h]
theorem chgCs_id {ks : List GKind} {b : Int} : ∀ {l : List GComp} {I : Int}, I < 0 → chgCs ks b l I = l
  | [], _, _ => rfl
  | c :: r, I, h => by
    rw [chgCs, chgCs_id (l := r) (by omega), chgC, setV_id (by omega)]
theorem chgIts_id {ks : List GKind} {b : Int} : ∀ {l : List GItem} {I : Int}, I < 0 → chgIts ks b l I = l
  | [], _, _ => rfl
  | it :: r, I, h => by
    rw [chgIts, chgIts_id (l := r) (by omega), chgCs_id h]
theorem atGo_id : ∀ {l : List GItem} {k : Nat} {I a : Int}, I < 0 → atGo l k I a = a
  | [], _, _, _, _ => rfl
  | it :: r, k, I, a, h => by
    rw [atGo, atGo_id (l := r) (by omega)]
    unfold atV; rw [if_neg (by omega)]
theorem cntC_cons (c : GComp) (r : List GComp) : cntC (c :: r) = c.Vals.length + cntC r := by simp [cntC]
theorem cntI_cons (c : GItem) (r : List GItem) : cntI (c :: r) = cntC c.Comps + cntI r := by simp [cntI]
theorem chgCs_set {ks : List GKind} {b : Int} : ∀ (l : List GComp) (I : Int), 0 ≤ I → I < cntC l →
    ∃ (j m : Nat) (c : GComp), l[j]? = some c ∧ m < c.Vals.length ∧ chgCs ks b l I = l.set j ⟨c.Kind, c.Vals.set m (newV ((ks.getD c.Kind.toNat k0).Fields.getD m fz0) b (c.Vals.getD m 0))⟩
  | [], I, h0, h => by simp [cntC] at h; omega
  | c :: r, I, h0, h => by
    rw [cntC_cons] at h
    by_cases hI : I < c.Vals.length
    · refine ⟨0, I.toNat, c, rfl, by omega, ?_⟩
      rw [chgCs, chgCs_id (by omega), chgC, setV, if_pos ⟨h0, hI⟩]
      rfl
    · obtain ⟨j, m, c', h1, h2, h3⟩ := chgCs_set r (I - c.Vals.length) (by omega) (by push_cast at h; omega)
      refine ⟨j + 1, m, c', h1, h2, ?_⟩
      rw [chgCs, h3, chgC, setV_id (by omega)]
      rfl
theorem chgIts_set {ks : List GKind} {b : Int} : ∀ (l : List GItem) (n : Nat) (I a : Int), 0 ≤ I → I < cntI l →
    ∃ (k : Nat) (J : Int) (it : GItem), l[k]? = some it ∧ 0 ≤ J ∧ J < cntC it.Comps ∧ chgIts ks b l I = l.set k ⟨it.Ent, chgCs ks b it.Comps J⟩ ∧ atGo l n I a = ((n + k : Nat) : Int)
  | [], n, I, a, h0, h => by simp [cntI] at h; omega
  | it :: r, n, I, a, h0, h => by
    rw [cntI_cons] at h
    by_cases hI : I < cntC it.Comps
    · refine ⟨0, I, it, rfl, h0, hI, ?_, ?_⟩
      · rw [chgIts, chgIts_id (by omega)]; rfl
      · rw [atGo, atGo_id (by omega), atV, if_pos ⟨h0, hI⟩]; simp
    · obtain ⟨k, J, it', h1, h2, h3, h4, h5⟩ := chgIts_set r (n + 1) (I - cntC it.Comps) (atV I (cntC it.Comps) n a) (by omega) (by push_cast at h; omega)
      refine ⟨k + 1, J, it', h1, h2, h3, ?_, ?_⟩
      · rw [chgIts, h4, chgCs_id_ge hI h0]
        rfl
      · rw [atGo, h5]; congr 1; omega
where
  chgCs_id_ge {ks : List GKind} {b : Int} : ∀ {l : List GComp} {I : Int}, ¬ I < cntC l → 0 ≤ I → chgCs ks b l I = l
  | [], _, _, _ => rfl
  | c :: r, I, h, h0 => by
    rw [cntC_cons] at h
    push_cast at h
    rw [chgCs, chgCs_id_ge (l := r) (by omega) (by omega), chgC, setV_id (by omega)]

theorem held_set {ks : List GKind} : ∀ {l : List GComp} {last : Int} {j : Nat} {c x : GComp}, heldGo ks last l = true → l[j]? = some c → x.Kind = c.Kind → holdsB (ks.getD x.Kind.toNat k0) x.Vals = true → heldGo ks last (l.set j x) = true
  | [], _, _, _, _, _, h, _, _ => by simp at h
  | d :: r, last, 0, c, x, h, hj, hk, hh => by
    obtain rfl : d = c := by simpa using hj
    obtain ⟨g1, g2, g3, g4⟩ := held_cons.1 h
    exact held_cons.2 ⟨hk ▸ g1, hk ▸ g2, hh, hk ▸ g4⟩
  | d :: r, last, j + 1, c, x, h, hj, hk, hh => by
    obtain ⟨g1, g2, g3, g4⟩ := held_cons.1 h
    exact held_cons.2 ⟨g1, g2, g3, held_set g4 (by simpa using hj) hk hh⟩
theorem items_set {ks : List GKind} {gs : List Int} : ∀ {l : List GItem} {last : Int} {j : Nat} {c x : GItem}, itemsB ks gs last l = true → l[j]? = some c → x.Ent = c.Ent → heldGo ks (-1) x.Comps = true → itemsB ks gs last (l.set j x) = true
  | [], _, _, _, _, _, h, _, _ => by simp at h
  | d :: r, last, 0, c, x, h, hj, hk, hh => by
    obtain rfl : d = c := by simpa using hj
    obtain ⟨g1, g2, g3, g4, g5, g6⟩ := items_cons.1 h
    exact items_cons.2 ⟨by rw [hk]; exact g1, by rw [hk]; exact g2, by rw [hk]; exact g3, by rw [hk]; exact g4, hh, by rw [hk]; exact g6⟩
  | d :: r, last, j + 1, c, x, h, hj, hk, hh => by
    obtain ⟨g1, g2, g3, g4, g5, g6⟩ := items_cons.1 h
    exact items_cons.2 ⟨g1, g2, g3, g4, g5, items_set g6 (by simpa using hj) hk hh⟩

def OneDiff (a b : List Int) (p q : Int) : Prop := ∃ A B, a = A ++ p :: B ∧ b = A ++ q :: B
theorem OneDiff.app {a b : List Int} {p q : Int} (h : OneDiff a b p q) (X Y : List Int) : OneDiff (X ++ a ++ Y) (X ++ b ++ Y) p q := by
  obtain ⟨A, B, rfl, rfl⟩ := h
  exact ⟨X ++ A, B ++ Y, by simp, by simp⟩
theorem OneDiff.pre {a b : List Int} {p q : Int} (h : OneDiff a b p q) (X : List Int) : OneDiff (X ++ a) (X ++ b) p q := by
  simpa using h.app X []
theorem OneDiff.set {l : List Int} {m : Nat} {q : Int} (h : m < l.length) : OneDiff l (l.set m q) (l.getD m 0) q := by
  refine ⟨l.take m, l.drop (m + 1), ?_, ?_⟩
  · have e : l.getD m 0 = l[m] := by simp [List.getD, h]
    rw [e, ← List.drop_eq_getElem_cons h, List.take_append_drop]
  · rw [List.set_eq_take_append_cons_drop, if_pos h]
theorem OneDiff.flat {α : Type} {f : α → List Int} {l : List α} {j : Nat} {c x : α} {p q : Int} (hj : l[j]? = some c) (h : OneDiff (f c) (f x) p q) : OneDiff (l.flatMap f) ((l.set j x).flatMap f) p q := by
  obtain ⟨hlt, hc⟩ := List.getElem?_eq_some_iff.1 hj
  have e1 : l = l.take j ++ c :: l.drop (j + 1) := by rw [← hc, ← List.drop_eq_getElem_cons hlt, List.take_append_drop]
  have e2 : l.set j x = l.take j ++ x :: l.drop (j + 1) := by rw [List.set_eq_take_append_cons_drop, if_pos hlt]
  rw [e2]
  conv => arg 1; rw [e1]
  rw [List.flatMap_append, List.flatMap_append, List.flatMap_cons, List.flatMap_cons, ← List.append_assoc, ← List.append_assoc]
  exact h.app _ _
theorem foldl_inj : ∀ (B : List Int) (d d' : Int), In64 d → In64 d' → B.foldl joinM d = B.foldl joinM d' → d = d'
  | [], _, _, _, _, h => h
  | b :: r, d, d', h1, h2, h => joinM_inj1 h1 h2 (foldl_inj r _ _ (joinM_in _ _) (joinM_in _ _) h)
theorem foldl_in : ∀ (B : List Int) (d : Int), In64 d → In64 (B.foldl joinM d)
  | [], _, h => h
  | b :: r, d, h => foldl_in r _ (joinM_in _ _)
theorem words_ne {a b : List Int} {p q : Int} (h : OneDiff a b p q) (hpq : p ≠ q) (hp : -18446744073709551616 < p - q) (hq : p - q < 18446744073709551616) : wordsM (a.map IntKind.u64.wrap) ≠ wordsM (b.map IntKind.u64.wrap) := by
  obtain ⟨A, B, rfl, rfl⟩ := h
  unfold wordsM
  intro e
  simp only [List.map_append, List.map_cons, List.foldl_append, List.foldl_cons, List.length_append, List.length_map, List.length_cons] at e
  have h1 := foldl_inj _ _ _ (joinM_in _ _) (joinM_in _ _) e
  have h2 := joinM_inj2 (in64_wrap _) (in64_wrap _) h1
  rw [wrapU, wrapU] at h2
  omega
theorem words_in (l : List Int) : In64 (wordsM l) := foldl_in _ _ (joinM_in _ _)
end Go.Proofs.Ytemlkbcfplkniaa.Am
/- Package tourtop: h6begun. -/
namespace Go.Proofs.Ytemlkbcfplkniaa.Am
open Go Go.RowKit

def ks6 : List GKind := [⟨⟨#[97]⟩, [⟨⟨#[120]⟩, 4, 0⟩]⟩]
def w6 : GWorld := ⟨ks6, [], []⟩
def c6 : List GComp := [⟨0, [3]⟩]
theorem ks6_ok : checkE ks6 = 0 := by kernel_rfl
theorem w6_ok : checkW w6 = 0 := by kernel_rfl
theorem fit6 : fitC w6.Kinds c6 = (c6, 0) := by kernel_rfl
theorem free6 : freeM w6 = (((0 : Nat) : Int), true) := by kernel_rfl
theorem dig6 : decide (wordsM ((intsM (spawnW w6 0 c6)).map IntKind.u64.wrap) ≠ wordsM ((intsM w6).map IntKind.u64.wrap)) = true := by kernel_rfl
theorem sum6 : decide (wordsM [] ≠ digB []) = true := by kernel_rfl
theorem sp6 : Fine (spawnW w6 0 c6) := (checkW_fine (by kernel_rfl)).1
theorem il6 : (intsM (spawnW w6 0 c6)).length ≤ 1000000000 ∧ (intsM w6).length ≤ 1000000000 := of_decide_eq_true (by kernel_rfl)
set_option maxRecDepth 20000 in
theorem WNew_fn (ks : List GKind) (h : checkE ks = 0) : Fn Try.prog 87 [.sl 2 (ks.map GKind.e)] (.tup [.agg (GWorld.mk ks [] []).e, kI 0]) := by
  obtain ⟨h1, h2⟩ := checkE_le h
  refine fn_go Try.func87 rfl ?_
  simp [Try.ntmps87]
  refine cal (Check_fn ks (fun k hk => by have := h2 k hk; omega) (by omega)) ?_
  simp [h]
  refine cal (KCopy_fn ks (by omega) (fun k hk => by have := h2 k hk; omega)) ?_
  simp
  refine fin_ent (ent_cell (cs := [.sl 2 (ks.map GKind.e), kNil, kNil]) 0 1 (tell_nil 1)) ?_
  refine fin_ent (ent_cell (cs := [.sl 2 (ks.map GKind.e), .sl 1 [], kNil]) 0 2 (tell_nil 3)) ?_
  exact finm (by simp [GWorld.e, slI_def])

theorem Words_nil : Fn Try.prog 89 [kNil] (kU (wordsM [])) :=
  fn_tell (Words_fn [] (by simp)) rfl fun j p' hj => by
    match j, hj with
    | 0, hj => simp at hj; subst hj; exact ⟨_, rfl, (tell_nil 1).2⟩
    | j + 1, hj => simp at hj
theorem SumBytes_nil : Fn Try.prog 90 [kNil] (kU (digB [])) :=
  fn_tell (SumBytes_fn [] (by simp) (fun c hc => by simp at hc)) rfl fun j p' hj => by
    match j, hj with
    | 0, hj => simp at hj; subst hj; exact ⟨_, rfl, (tell_nil 1).2⟩
    | j + 1, hj => simp at hj
set_option maxRecDepth 20000 in
set_option maxHeartbeats 1000000 in
theorem h6begun_fn : Fn Try.prog 36 [] (kB true) := by
  refine fn_go Try.func36 rfl ?_
  simp [Try.ntmps36]
  refine ops_fz 0 [kS ⟨#[120]⟩, kI 4, kI 0] ?_
  simp [chunks, List.range, List.range.loop]
  refine ops_fz 1 [kS ⟨#[97]⟩, .sl 3 [[kS ⟨#[120]⟩, kI 4, kI 0]]] ?_
  simp [chunks, List.range, List.range.loop]
  refine ops_ent (s' := ⟨44, [(10, .sl 2 (ks6.map GKind.e)), (0, kB false)], [], 0⟩) (entm [] (hT := by simp [ks6, GKind.e, GField.e])) (ops_goH ?_)
  refine cal (WNew_fn ks6 ks6_ok) ?_
  have hW : GWorld.mk ks6 [] [] = w6 := rfl
  rw [hW]
  obtain ⟨W, hWd⟩ : ∃ W, w6 = W := ⟨_, rfl⟩
  have hS := Spawn_ok w6 c6 c6 0 w6_ok fit6 free6 (by decide) (by decide) (by decide)
  have hD1 := Digest_fn w6 (checkW_fine w6_ok).1 il6.2
  have hD2 := Digest_fn (spawnW w6 0 c6) sp6 il6.1
  have hne := of_decide_eq_true dig6
  have hse := of_decide_eq_true sum6
  have hg : (spawnG w6.Gens 0).getD 0 0 = 0 := by decide
  rw [hg] at hS
  rw [hWd] at hS hD1 hD2 hne ⊢
  simp
  refine ops_fz 1 [kI 3] ?_
  simp [chunks, List.range, List.range.loop]
  refine ops_fz 2 [kI 0, .sl 1 [[kI 3]]] ?_
  simp [chunks, List.range, List.range.loop]
  refine ops_ent (s' := ⟨44, [(20, .sl 2 (c6.map GComp.e)), (17, .agg W.e), (1, .ptr 0 0), (0, kB false)], [some W.e], 0⟩) (entm [0] (hT := by simp [c6, GComp.e, slI_def])) (ops_goH ?_)
  refine cal hS ?_
  obtain ⟨V, hV⟩ : ∃ V, spawnW W 0 c6 = V := ⟨_, rfl⟩
  rw [hV] at hD2 hne ⊢
  simp
  refine awp_draw follows_mix [] [(0, [0]), (0, [0]), (0, [0]), (0, [0]), (0, [0]), (0, [0]), (0, [0]), (0, [0]), (0, [0]), (2, [0]), (0, [0]), (2, [0]), (0, [0]), (0, [0]), (0, [0]), (2, [0]), (2, [0]), (0, [0]), (0, [0]), (0, [0])] 0 (by kernel_rfl) rfl ?_
  simp [GEnt.e]
  refine gD_call (kU (wordsM ((intsM V).map IntKind.u64.wrap))) ?_
  simp
  refine gD_call (kU (wordsM ((intsM W).map IntKind.u64.wrap))) ?_
  simp [hne]
  refine gD_call (kU (wordsM [])) ?_
  simp
  refine gD_call (kU (digB [])) ?_
  simp [hse]
  and_intros
  · exact calO hD2
  · exact calO hD1
  · exact hne
  · exact calO Words_nil
  · exact calO SumBytes_nil
  · rfl
  · exact finm
end Go.Proofs.Ytemlkbcfplkniaa.Am
/- The law TopDigestPlace. -/
namespace Go.Proofs.Ytemlkbcfplkniaa.Am
open Go Go.RowKit

theorem changed_spec (w : GWorld) (i b : Int) (hw : checkW w = 0) (hz : cntI w.Items ≠ 0) : ∃ (V : GWorld) (k : Nat) (it x : GItem) (p q p' q' : Int), changedM w i b = (V, (k : Int), true) ∧ w.Items[k]? = some it ∧ V.Items = w.Items.set k x ∧ checkW V = 0 ∧
    (OneDiff (intsM w) (intsM V) p q ∧ p ≠ q ∧ -18446744073709551616 < p - q ∧ p - q < 18446744073709551616) ∧ (OneDiff (leafI it) (leafI x) p' q' ∧ p' ≠ q' ∧ -18446744073709551616 < p' - q' ∧ p' - q' < 18446744073709551616) := by
  obtain ⟨hfi, hcc⟩ := checkW_fine hw
  obtain ⟨ce, cg, ci, cn, cit⟩ := checkW_iff.1 hw
  have hI0 := Int.emod_nonneg i (show (cntI w.Items : Int) ≠ 0 by omega)
  have hI1 := Int.emod_lt_of_pos i (show (0 : Int) < (cntI w.Items : Int) by omega)
  obtain ⟨k, J, it, h1, h2, h3, h4, h5⟩ := chgIts_set (ks := w.Kinds) (b := b) w.Items 0 (i % (cntI w.Items : Int)) 0 hI0 hI1
  obtain ⟨j, m, c, g1, g2, g3⟩ := chgCs_set (ks := w.Kinds) (b := b) it.Comps J h2 h3
  have hitm : it ∈ w.Items := List.mem_of_getElem? h1
  have hcm : c ∈ it.Comps := List.mem_of_getElem? g1
  obtain ⟨q1, q2⟩ := hcc it hitm
  obtain ⟨c1, c2, c3, c4⟩ := q2 c hcm
  obtain ⟨v1, v2⟩ := vals_ok c3
  obtain ⟨F, hF⟩ : ∃ F, w.Kinds.getD c.Kind.toNat k0 = F := ⟨_, rfl⟩
  rw [hF] at c3 v1 v2 g3
  have hmF : m < F.Fields.length := by have := v2.1; omega
  obtain ⟨f, hf⟩ : ∃ f, F.Fields[m] = f := ⟨_, rfl⟩
  have hfb := v1 f (hf ▸ List.getElem_mem hmF)
  have hval := v2.2 m hmF g2
  rw [hf] at hval
  have hFd : F.Fields.getD m fz0 = f := by rw [← hf]; simp [List.getD, hmF]
  have hvd : c.Vals.getD m 0 = c.Vals[m] := by simp [List.getD, g2]
  rw [hFd, hvd] at g3
  obtain ⟨n1, n2, n3⟩ := newV_ne (b := b) hfb hval.1 hval.2
  obtain ⟨nv, hnv⟩ : ∃ nv, newV f b c.Vals[m] = nv := ⟨_, rfl⟩
  rw [hnv] at g3 n1 n2 n3
  obtain ⟨c', hc'⟩ : ∃ c' : GComp, c' = ⟨c.Kind, c.Vals.set m nv⟩ := ⟨_, rfl⟩
  obtain ⟨x, hx⟩ : ∃ x : GItem, x = ⟨it.Ent, it.Comps.set j c'⟩ := ⟨_, rfl⟩
  have hheld : holdsB F c'.Vals = true := by
    obtain ⟨o1, o2, o3⟩ := holds_iff.1 c3
    rw [hc']
    refine holds_iff.2 ⟨o1, by simpa using o2, ?_⟩
    refine (zip_iff (by simpa using o2)).2 fun n a1 a2 => ?_
    have o4 := (zip_iff o2).1 o3 n a1 (by simpa using a2)
    by_cases hnm : n = m
    · subst hnm
      simp only [List.getElem_set_self]
      rw [hf]
      exact nearId hfb n2 n3
    · simp only [List.getElem_set_ne (Ne.symm hnm)]
      exact o4
  have hfbd := fieldB_iff.1 hfb
  have hhi : highM f ≤ f.Low + 4294967295 := by
    have := pow_le32 (n := f.Bits.toNat) (by omega)
    simp only [highM, hfb, if_true]; omega
  have hd0 : OneDiff c.Vals (c.Vals.set m nv) (c.Vals.getD m 0) nv := OneDiff.set g2
  rw [hvd] at hd0
  have hd1 : OneDiff (compI c) (compI c') c.Vals[m] nv := by
    rw [hc']
    unfold compI
    simp only [List.length_set]
    exact hd0.pre _
  have hd2 := OneDiff.flat g1 hd1
  have hd3 : OneDiff (itemI it) (itemI x) c.Vals[m] nv := by
    rw [hx]
    unfold itemI
    simp only [List.length_set]
    exact hd2.pre _
  have hd4 := OneDiff.flat h1 hd3
  have hd5 : OneDiff (leafI it) (leafI x) c.Vals[m] nv := by
    rw [hx]
    unfold leafI
    exact hd2.pre _
  refine ⟨⟨w.Kinds, w.Gens, w.Items.set k x⟩, k, it, x, c.Vals[m], nv, c.Vals[m], nv, ?_, h1, rfl, ?_, ⟨?_, ?_, ?_, ?_⟩, ⟨hd5, ?_, ?_, ?_⟩⟩
  · unfold changedM
    rw [if_neg hz, h4, h5, g3, hx, hc']
    simp
  · refine checkW_iff.2 ⟨ce, cg, by simpa using ci, cn, ?_⟩
    refine items_set cit h1 (by rw [hx]) ?_
    rw [hx]
    refine held_set (items_held cit it hitm) g1 (by rw [hc']) ?_
    rw [hc'] at hheld ⊢
    simp only
    rw [hF]
    exact hheld
  · unfold intsM tailI
    simp only [List.length_set]
    have e1 : ∀ its : List GItem, ((w.Kinds.length : Int) :: (w.Kinds.flatMap kindI ++ ((w.Gens.length : Int) :: (w.Gens ++ ((w.Items.length : Int) :: its.flatMap itemI))))) =
        ((w.Kinds.length : Int) :: (w.Kinds.flatMap kindI ++ ((w.Gens.length : Int) :: (w.Gens ++ [(w.Items.length : Int)])))) ++ its.flatMap itemI := fun its => by simp
    rw [e1, e1]
    exact hd4.pre _
  all_goals omega

set_option maxRecDepth 20000 in
set_option maxHeartbeats 2000000 in
theorem TopDigestPlace_law (l : List Int) (i by_ : Int) (hl : l.length * 8 ≤ 140737488351232) (hw : ∀ n ∈ l, (Lit.int .i64 n).wf = true) (hw1 : (Lit.int .i64 i).wf = true) (hw2 : (Lit.int .i64 by_).wf = true) :
    Fn Try.prog 11 [slI l, kI i, kI by_] (kB true) := by
  refine fn_go Try.func11 rfl ?_
  simp [Try.ntmps11]
  refine cal h6begun_fn ?_
  simp
  refine cal (World_fn l) ?_
  have hv := worldM_valid l
  generalize worldM l = w at hv ⊢
  obtain ⟨hfi, hcc⟩ := checkW_fine hv
  have hC := changed_fn w i by_ hv hw1
  simp
  by_cases hz : cntI w.Items = 0
  · have hM : changedM w i by_ = (w00, 0, false) := by simp [changedM, hz]
    rw [hM] at hC
    refine cal hC ?_
    simp
    have hD := Digest_fn w hfi (ints_bound hv)
    have hCp := WCopy_fn w hfi
    refine awp_draw follows_mix [] [(0, [0]), (2, [0]), (0, [0]), (2, [0]), (2, [0]), (0, [0]), (0, [0])] 0 (by kernel_rfl) rfl ?_
    simp
    generalize wordsM ((intsM w).map IntKind.u64.wrap) = d at hD
    refine gD_call (kU d) ?_
    simp
    refine gD_call (.agg w.e) ?_
    simp
    refine gD_call (kU d) ?_
    simp
    and_intros
    · exact calO hD
    · exact calO hCp
    · exact calO hD
    · exact finm
  · obtain ⟨V, k, it, x, p, q, p', q', s1, s2, s3, s4, ⟨s5, s6, s7, s8⟩, s9, s10, s11, s12⟩ := changed_spec w i by_ hv hz
    rw [s1] at hC
    refine cal hC ?_
    obtain ⟨hfiV, hccV⟩ := checkW_fine s4
    have hcw := (checkW_iff.1 hv).2.1
    have hcw2 := (checkW_iff.1 hv).2.2.1
    have hlw := leaves_fn w (by omega) fun it hit => ⟨(hcc it hit).1, fun c hc => ((hcc it hit).2 c hc).2.2.2⟩
    have hVl : V.Items.length = w.Items.length := by rw [s3]; simp
    have hlV := leaves_fn V (by omega) fun it hit => ⟨(hccV it hit).1, fun c hc => ((hccV it hit).2 c hc).2.2.2⟩
    have hDw := Digest_fn w hfi (ints_bound hv)
    have hDV := Digest_fn V hfiV (ints_bound s4)
    have hdne := words_ne s5 s6 s7 s8
    have hlne : leafM it ≠ leafM x := words_ne s9 s10 s11 s12
    have hwV : w ≠ V := fun e => by rw [← e] at hdne; exact hdne rfl
    obtain ⟨hkl, hke⟩ := List.getElem?_eq_some_iff.1 s2
    have hCh := WCheck_fn V hfiV fun it hit c hc => by have := ((hccV it hit).2 c hc).2.2.2; omega
    rw [s4] at hCh
    have hSm := WSame_fn w V hfi
    rw [decide_eq_false hwV] at hSm
    rw [s3, List.map_set] at hlV
    obtain ⟨A, hA⟩ : ∃ A, w.Items.map leafM = A := ⟨_, rfl⟩
    have hAl : A.length = w.Items.length := by rw [← hA]; simp
    have hAk : A.getD k 0 = leafM it := by rw [← hA]; simp [List.getD, s2]
    have hAin : ∀ y ∈ A, In64 y := fun y hy => by
      rw [← hA] at hy
      obtain ⟨z, _, rfl⟩ := List.mem_map.1 hy
      exact words_in _
    rw [hA] at hlw hlV
    have hxin : In64 (leafM x) := words_in _
    generalize leafM x = lx at hlV hlne hxin
    obtain ⟨T, hT, D⟩ := differ_levels A.length A k lx (by omega) hAin hxin (by rw [hAk]; exact Ne.symm hlne) (Nat.le_refl _)
    obtain ⟨B, hB⟩ : ∃ B, A.set k lx = B := ⟨_, rfl⟩
    have hBl : B.length = A.length := by rw [← hB]; simp
    have hBk : B.getD k 0 = lx := by rw [← hB]; simp [List.getD, show k < A.length by omega]
    have hDl : Differ (levelsM A) (levelsM B) T k := by
      rw [← hB]
      have e : levelsM (A.set k lx) = (A.set k lx) :: levelsGo A.length (A.set k lx) := by unfold levelsM; rw [List.length_set]
      rw [e]; exact D
    have hN := Narrow_fn A B T k (by omega) (by omega) (by omega) (by omega) (by omega) hDl
    have hRA := Root_fn A (by omega) (by omega)
    have hRB := Root_fn B (by omega) (by omega)
    have hrne := root_ne (by omega) (by omega) hDl
    have hPr := Proof_fn A k (by omega) (by omega)
    have hv1 := ver_proof (rootM A) A.length A k (leafM it) (by omega) (Nat.le_refl _)
    have hv2 := ver_proof (rootM A) A.length A k lx (by omega) (Nat.le_refl _)
    rw [← hAk, set_self_ (by omega)] at hv1
    rw [hB] at hv2
    have hRB' : rootGo A.length B = rootM B := by unfold rootM; rw [hBl]
    rw [hRB', decide_eq_false (Ne.symm hrne)] at hv2
    have hRA' : rootGo A.length A = rootM A := rfl
    rw [hRA', decide_eq_true rfl] at hv1
    have hV1 := Verify_fn (rootM A) A.length k (A.getD k 0) (proofM (levelsM A) k) (by omega) (by omega) (by omega)
    have hV2 := Verify_fn (rootM A) A.length k lx (proofM (levelsM A) k) (by omega) (by omega) (by omega)
    have hlv : A :: levelsGo A.length A = levelsM A := rfl
    rw [hlv] at hv1 hv2
    rw [hv1] at hV1
    rw [hv2] at hV2
    rw [hB] at hlV
    generalize askedGo (levelsM A) k T 1 = ask at hN
    generalize proofM (levelsM A) k = P at hV1 hV2 hPr
    generalize rootM A = ra at hRA hV1 hV2 hrne
    generalize rootM B = rb at hRB hrne
    generalize wordsM ((intsM w).map IntKind.u64.wrap) = dw at hDw hdne
    generalize wordsM ((intsM V).map IntKind.u64.wrap) = dV at hDV hdne
    simp
    refine awp_draw follows_mix [] [(0, [0]), (2, [0]), (0, [0]), (2, [0]), (0, [0]), (0, [0])] 0 (by kernel_rfl) rfl ?_
    simp
    refine gD_call (slU A) ?_
    simp
    refine gD_call (slU B) ?_
    simp
    refine ⟨⟨calO hlw, calO hlV⟩, ?_⟩
    refine cal hN ?_
    simp
    refine cal hRA ?_
    simp
    refine cal hRB ?_
    simp
    refine cal hPr ?_
    simp
    have hkA : k < A.length := by omega
    have hkB : k < B.length := by omega
    have hAke : A[k] = leafM it := by rw [← hAk]; simp [List.getD, hkA]
    have hBke : B[k] = lx := by rw [← hBk]; simp [List.getD, hkB]
    rw [hAk] at hV1
    generalize leafM it = la at hAke hV1
    refine awp_draw follows_mix [] [(0, [0]), (2, [0]), (0, [0]), (0, [0]), (0, [0]), (2, [0]), (0, [0]), (2, [0]), (0, [0]), (0, [0]), (0, [0]), (0, [0]), (0, [0]), (2, [0]), (0, [0]), (0, [0]), (0, [0]), (0, [0]), (0, [0]), (0, [0]), (0, [0]), (0, [0]), (0, [0]), (0, [0]), (0, [0]), (0, [0]), (0, [0]), (0, [0]), (0, [0]), (0, [0]), (0, [0]), (0, [0]), (0, [0]), (0, [0]), (0, [0]), (0, [0]), (0, [0]), (0, [0]), (0, [0]), (0, [0]), (0, [0]), (0, [0]), (0, [0]), (0, [0]), (0, [0]), (0, [0]), (0, [0]), (0, [0]), (2, [0]), (0, [0]), (0, [0]), (0, [0]), (0, [0]), (0, [0]), (0, [0]), (0, [0]), (0, [0]), (0, [0]), (0, [0]), (0, [0]), (2, [0]), (0, [0]), (0, [0]), (0, [0])] 0 (by kernel_rfl) rfl ?_
    simp (maxSteps := 2000000)
    refine gD_call (kI 0) ?_
    simp (maxSteps := 2000000)
    refine gD_call (kU dw) ?_
    simp (maxSteps := 2000000)
    refine gD_call (kU dV) ?_
    simp (maxSteps := 2000000) [hdne]
    refine gD_call (kB false) ?_
    simp (maxSteps := 2000000) [hrne, hkA, hkB, hAke, hBke]
    refine gD_call (kB true) ?_
    simp (maxSteps := 2000000) [hrne, hkA, hkB, hAke, hBke]
    refine gD_call (kB false) ?_
    simp (maxSteps := 2000000)
    and_intros
    all_goals first | exact calO hCh | exact calO hDw | exact calO hDV | exact calO hSm | exact calO hV1 | exact calO hV2 | exact hdne | exact hrne | exact finm | (rw [List.getElem?_eq_getElem hkA, hAke]; rfl) | (rw [List.getElem?_eq_getElem hkB, hBke]; rfl)
end Go.Proofs.Ytemlkbcfplkniaa.Am
