/- Several texts in one. -/
import Derived.Test.YtemlkbcfplkniaaDat
import Derived.Test.YtemlkbcfplkniaaDig1
import Derived.Test.YtemlkbcfplkniaaKind5
import Derived.Test.YtemlkbcfplkniaaKLaw2
import Derived.Test.YtemlkbcfplkniaaB2s
import Derived.Lib.BytesEntry
import Derived.Test.YtemlkbcfplkniaaCLaw2
import Derived.Test.YtemlkbcfplkniaaBaseW
import Derived.Test.YtemlkbcfplkniaaSameW
import Derived.Test.YtemlkbcfplkniaaWLaw1
set_option linter.unusedVariables false
set_option linter.unusedSimpArgs false
/- Bits packed into bytes. -/
namespace Go.Proofs.Ytemlkbcfplkniaa.Am
open Go Go.RowKit

abbrev kU8 (x : Int) : PV := .k (.int .u8 x)
def bitsVal (f : Nat → Bool) : Nat → Nat
  | 0 => 0
  | k + 1 => bitsVal f k + if f k = true then 2 ^ k else 0
def byteAt (bl : List Bool) (i : Nat) : Nat := bitsVal (fun j => bl.getD (8 * i + j) false) 8
def bytesTo (bl : List Bool) (m : Nat) : List Int := (List.range m).map fun i => (byteAt bl i : Int)
def packB (bl : List Bool) : List Int := bytesTo bl ((bl.length + 7) / 8)
@[simp] theorem bytesTo_len (bl : List Bool) (m : Nat) : (bytesTo bl m).length = m := by simp [bytesTo]
@[simp] theorem packB_len (bl : List Bool) : (packB bl).length = (bl.length + 7) / 8 := bytesTo_len _ _

theorem bitsVal_lt (f : Nat → Bool) : ∀ k, bitsVal f k < 2 ^ k
  | 0 => by simp [bitsVal]
  | k + 1 => by
    have := bitsVal_lt f k
    rw [bitsVal, Nat.pow_succ]
    split <;> omega
theorem bitsVal_congr {f g : Nat → Bool} : ∀ k, (∀ j, j < k → f j = g j) → bitsVal f k = bitsVal g k
  | 0, _ => rfl
  | k + 1, h => by rw [bitsVal, bitsVal, bitsVal_congr k (fun j hj => h j (by omega)), h k (by omega)]
theorem bitsVal_cut {f : Nat → Bool} (r : Nat) : ∀ k, r ≤ k → (∀ j, r ≤ j → j < k → f j = false) → bitsVal f k = bitsVal f r
  | 0, hr, _ => by rw [show r = 0 by omega]
  | k + 1, hr, h => by
    rcases Nat.lt_or_ge k r with hk | hk
    · rw [show k + 1 = r by omega]
    · rw [bitsVal, h k hk (by omega), bitsVal_cut r k hk fun j h1 h2 => h j h1 (by omega)]; simp
theorem byteAt_lt (bl : List Bool) (i : Nat) : byteAt bl i < 256 := bitsVal_lt _ 8
theorem byteAt_snoc_ne (bl : List Bool) (b : Bool) (i : Nat) (h : i < bl.length / 8) : byteAt (bl ++ [b]) i = byteAt bl i :=
  bitsVal_congr 8 fun j hj => by simp [List.getD, List.getElem?_append_left (show 8 * i + j < bl.length by omega)]
theorem byteAt_last (bl : List Bool) : byteAt bl (bl.length / 8) = bitsVal (fun j => bl.getD (8 * (bl.length / 8) + j) false) (bl.length % 8) :=
  bitsVal_cut _ 8 (by omega) fun j h1 h2 => by simp [List.getD, List.getElem?_eq_none (show bl.length ≤ 8 * (bl.length / 8) + j by omega)]
theorem byteAt_last_lt (bl : List Bool) : byteAt bl (bl.length / 8) < 2 ^ (bl.length % 8) := by rw [byteAt_last]; exact bitsVal_lt _ _
theorem byteAt_snoc (bl : List Bool) (b : Bool) : byteAt (bl ++ [b]) (bl.length / 8) = byteAt bl (bl.length / 8) + if b = true then 2 ^ (bl.length % 8) else 0 := by
  have hx : 8 * (bl.length / 8) + bl.length % 8 = bl.length := Nat.div_add_mod bl.length 8
  rw [byteAt_last]
  unfold byteAt
  rw [bitsVal_cut (bl.length % 8 + 1) 8 (by omega) fun j h1 h2 => by simp [List.getD, List.getElem?_eq_none (show (bl ++ [b]).length ≤ 8 * (bl.length / 8) + j by simp; omega)]]
  rw [bitsVal]
  congr 1
  · exact bitsVal_congr _ fun j hj => by simp [List.getD, List.getElem?_append_left (show 8 * (bl.length / 8) + j < bl.length by omega)]
  · simp only [hx]
    simp [List.getD]
theorem pack_snoc (bl : List Bool) (b : Bool) : packB (bl ++ [b]) = (bytesTo bl (bl.length / 8 + 1)).set (bl.length / 8) ((byteAt bl (bl.length / 8) + if b = true then 2 ^ (bl.length % 8) else 0 : Nat) : Int) := by
  have hl : ((bl ++ [b]).length + 7) / 8 = bl.length / 8 + 1 := by simp; omega
  have hl' : (bl.length + 1 + 7) / 8 = bl.length / 8 + 1 := by omega
  refine List.ext_getElem (by simp [hl']) fun i h1 h2 => ?_
  have hi : i < bl.length / 8 + 1 := by simpa using h2
  rw [List.getElem_set]
  simp only [packB, hl, bytesTo, List.getElem_map, List.getElem_range]
  split
  · rename_i e; subst e; rw [byteAt_snoc]
  · rw [byteAt_snoc_ne _ _ _ (by omega)]
theorem pack_room (bl : List Bool) : bytesTo bl (bl.length / 8 + 1) = if bl.length % 8 = 0 then packB bl ++ [0] else packB bl := by
  split
  · rename_i h
    have hl : (bl.length + 7) / 8 = bl.length / 8 := by omega
    have hb : byteAt bl (bl.length / 8) = 0 := by have := byteAt_last_lt bl; rw [h] at this; omega
    unfold packB bytesTo
    rw [hl, List.range_succ, List.map_append]
    simp [hb]
  · have hl : (bl.length + 7) / 8 = bl.length / 8 + 1 := by omega
    unfold packB
    rw [hl]

/-- The n lowest bits, the lowest one first. -/
def bitsOf (v : Int) (n : Nat) : List Bool := (List.range n).map fun i => decide (v / 2 ^ i % 2 = 1)
@[simp] theorem bitsOf_len (v : Int) (n : Nat) : (bitsOf v n).length = n := by simp [bitsOf]
theorem bitsOf_succ (v : Int) (n : Nat) : bitsOf v (n + 1) = bitsOf v n ++ [decide (v / 2 ^ n % 2 = 1)] := by simp [bitsOf, List.range_succ]
end Go.Proofs.Ytemlkbcfplkniaa.Am
/- Package bits: Writer.Put. -/
namespace Go.Proofs.Ytemlkbcfplkniaa.Am
open Go Go.RowKit

/-- What Put does to the bits that are there, for 0 ≤ n < 64: the bits, and the error. -/
def putM (bl : List Bool) (v n : Int) : List Bool × Int :=
  if v / 2 ^ n.toNat ≠ 0 then (bl, 1) else if 524288 < (bl.length : Int) + n then (bl, 6) else (bl ++ bitsOf v n.toNat, 0)

theorem bit_and (y : Int) (hy : 0 ≤ y) : IntKind.u64.wrap ↑((y % 2 ^ IntKind.u64.bits).toNat &&& 1 % 2 ^ IntKind.u64.bits) = if y % 2 = 1 then 1 else 0 := by
  have h1 : (1 % 2 ^ IntKind.u64.bits : Nat) = 1 := by decide
  have h2 : (2 : Int) ^ IntKind.u64.bits = 18446744073709551616 := by decide
  rw [h1, Nat.and_one_is_mod, h2]
  have h3 : (y % 18446744073709551616).toNat % 2 = if y % 2 = 1 then 1 else 0 := by split <;> omega
  rw [h3]
  split <;> decide
theorem byte_or (x r : Nat) (y : Int) (hy : 0 ≤ y) (hr : r < 8) (hx : x < 2 ^ r) :
    IntKind.u8.wrap ↑(x % 2 ^ IntKind.u8.bits ||| ((IntKind.u8.wrap (IntKind.u8.wrap (IntKind.u64.wrap ↑((y % 2 ^ IntKind.u64.bits).toNat &&& 1 % 2 ^ IntKind.u64.bits)) * 2 ^ min r IntKind.u8.bits)) % 2 ^ IntKind.u8.bits).toNat)
      = ((x + if decide (y % 2 = 1) = true then 2 ^ r else 0 : Nat) : Int) := by
  rw [bit_and y hy]
  have h2 : (2 : Int) ^ IntKind.u8.bits = 256 := by decide
  have hx8 : x < 2 ^ 8 := Nat.lt_of_lt_of_le hx (Nat.pow_le_pow_right (by decide) (by omega))
  have hxr : x % 2 ^ IntKind.u8.bits = x := Nat.mod_eq_of_lt hx8
  have hw : ∀ z : Nat, z < 256 → IntKind.u8.wrap (z : Int) = z := fun z hz => by
    rw [IntKind.wrap_u8]
    omega
  rw [hxr]
  by_cases hb : y % 2 = 1
  · simp only [hb, if_true, decide_true]
    have e : ((IntKind.u8.wrap (IntKind.u8.wrap 1 * 2 ^ min r IntKind.u8.bits)) % 2 ^ IntKind.u8.bits).toNat = 2 ^ r := by
      have : r = 0 ∨ r = 1 ∨ r = 2 ∨ r = 3 ∨ r = 4 ∨ r = 5 ∨ r = 6 ∨ r = 7 := by omega
      rcases this with rfl | rfl | rfl | rfl | rfl | rfl | rfl | rfl <;> decide
    rw [e]
    have h3 := Nat.two_pow_add_eq_or_of_lt hx 1
    rw [Nat.mul_one] at h3
    rw [Nat.or_comm, ← h3, Nat.add_comm]
    have : x + 2 ^ r < 2 ^ (r + 1) := by rw [Nat.pow_succ]; omega
    have : 2 ^ (r + 1) ≤ 2 ^ 8 := Nat.pow_le_pow_right (by decide) (by omega)
    exact hw _ (by omega)
  · simp only [hb, if_false, decide_false]
    have e : ((IntKind.u8.wrap (IntKind.u8.wrap 0 * 2 ^ min r IntKind.u8.bits)) % 2 ^ IntKind.u8.bits).toNat = 0 := by
      have : IntKind.u8.wrap 0 = 0 := by decide
      rw [this, Int.zero_mul, this]; rfl
    rw [e]
    simp
    exact hw x (by omega)

def wSt (bl : List Bool) (e : Int) (b : Nat) : List PV := [.osl b 1 0 ((bl.length + 7) / 8), kI bl.length, kI e]

set_option maxRecDepth 20000 in
theorem Put_fn (bl : List Bool) (v n e : Int) (hv : 0 ≤ v) (hn : 0 ≤ n ∧ n ≤ 63) (hl : bl.length ≤ 524288) : FnD Try.prog 99 [.ptr 0 0, kU v, kI n] [wSt bl e 1, (packB bl).map kU8]
    (kI (putM bl v n).2) [some (wSt (putM bl v n).1 e 2), none, some ((packB (putM bl v n).1).map kU8)] := by
  have hb : ∀ bs : List Int, (bs.map kU8).all PV.immB = true := fun bs => by simp
  refine fng_of Try.func99 rfl (awp_ent (s' := ⟨82, [(0, .ptr 0 0), (1, kU v), (2, kI n)], [some (wSt bl e 2), none, some ((packB bl).map kU8)], 2⟩)
    ((ent_mb 1 ((packB bl).map kU8)).trans (entm [0, 1, 2] (hB := by simp [wSt, imms_ren (hb _), imms_lt (hb _)]))) (awp_go ?_))
  simp [Try.ntmps99, wSt]
  obtain ⟨m, rfl⟩ : ∃ m : Nat, n = m := ⟨n.toNat, by omega⟩
  have h1 : ¬ (m : Int) < 0 := by omega
  have h2 : ¬ 64 < (m : Int) := by omega
  have h3 : (m : Int) < 64 := by omega
  have hdiv : ∀ k : Nat, k ≤ 64 → v.fdiv (2 ^ min k IntKind.u64.bits) = v / 2 ^ k := fun k hk => by
    have : min k IntKind.u64.bits = k := Nat.min_eq_left hk
    rw [this]
    exact Int.fdiv_eq_ediv_of_nonneg _ (by exact Int.pow_nonneg (by omega))
  simp [h1, h2, h3, hdiv m (by omega)]
  by_cases h4 : v / 2 ^ m = 0
  · simp [h4]
    rw [wrap_id (by omega) (by omega)]
    by_cases h5 : 524288 < (bl.length : Int) + m
    · simp [h5]
      exact finGm [0, 1, 2] (hres := by simp [putM, h4, h5]) (hB := by simp [putM, h4, h5, wSt, imms_ren (hb _), imms_lt (hb _)])
    · simp [h5]
      refine awp_loop (fun x : Nat × List Bool => ⟨82, [(0, .ptr 0 0), (1, kU v), (31, kI m), (32, kI x.1)], [some (wSt x.2 e 2), none, some ((packB x.2).map kU8)], 2⟩)
        (fun x => x.1 ≤ m ∧ x.2 = bl ++ bitsOf v x.1) (fun x => m - x.1) (0, bl) ?_ ?_ ?_
      · exact entm [0, 1, 2] (hB := by simp [wSt, imms_ren (hb _), imms_lt (hb _)])
      · simp [bitsOf]
      · rintro ⟨i, xl⟩ ⟨hi, hxl⟩
        simp only at hi hxl
        refine awp_go ?_
        by_cases hlt : i < m
        · obtain ⟨q, hq0⟩ : ∃ q, xl.length / 8 = q := ⟨_, rfl⟩
          obtain ⟨r, hr0⟩ : ∃ r, xl.length % 8 = r := ⟨_, rfl⟩
          have hxlen : xl.length = bl.length + i := by rw [hxl]; simp
          have ht : (xl.length : Int).tmod 8 = r := by rw [Int.tmod_eq_emod_of_nonneg (by omega)]; omega
          have hq : (xl.length : Int).tdiv 8 = q := by rw [Int.tdiv_eq_ediv_of_nonneg (by omega)]; omega
          have ht2 : (xl.length : Int) % 8 = r := by omega
          have hq2 : (xl.length : Int) / 8 = q := by omega
          have hqw : IntKind.i64.wrap (q : Int) = q := wrap_id (by omega) (by omega)
          have hq3 : (q : Int) < (q : Int) + 1 := by omega
          have hi0 : ¬ (i : Int) < 0 := by omega
          have hr1 : ¬ (r : Int) < 0 := by omega
          have hsn := pack_snoc xl (decide (v / 2 ^ i % 2 = 1))
          have hbl := byteAt_last_lt xl
          have hroom := pack_room xl
          rw [hq0, hr0] at hsn hbl
          rw [hq0, hr0] at hroom
          have hb1 : q + 1 ≤ 140737488355328 := by omega
          have hb2 : q + 1 ≤ maxLen := by simp only [maxLen]; omega
          have hB : ((bytesTo xl (q + 1)).map kU8)[q]? = some (kU8 (byteAt xl q)) := by simp [bytesTo]
          have hBl : ((bytesTo xl (q + 1)).map kU8).length = q + 1 := by simp
          have hby : 0 ≤ v / 2 ^ i := Int.ediv_nonneg hv (Int.pow_nonneg (by omega))
          have hor := byte_or (byteAt xl q) r (v / 2 ^ i) hby (by omega) hbl
          have hw1 : IntKind.i64.wrap ((i : Int) + 1) = ((i + 1 : Nat) : Int) := wrap_id (by omega) (by omega)
          have hw2 : IntKind.i64.wrap ((xl.length : Int) + 1) = ((xl.length + 1 : Nat) : Int) := wrap_id (by omega) (by omega)
          have hl2 : (xl.length + 1 + 7) / 8 = q + 1 := by omega
          have hnext : xl ++ [decide (v / 2 ^ i % 2 = 1)] = bl ++ bitsOf v (i + 1) := by rw [bitsOf_succ, ← List.append_assoc, ← hxl]
          by_cases h8 : r = 0
          · have e : List.map kU8 (packB xl) ++ [.k (.int .u8 0)] = (bytesTo xl (q + 1)).map kU8 := by rw [hroom, if_pos h8]; simp
            have e' : (xl.length + 7) / 8 = q := by omega
            simp [hlt, wSt, ht, ht2, h8, e', hb1, hb2]
            rw [e]
            generalize hBe : (bytesTo xl (q + 1)).map kU8 = B at hB hBl ⊢
            have hBg : B[q]'(by omega) = kU8 (byteAt xl q) := (List.getElem?_eq_some_iff.1 hB).2
            refine awp_draw follows_mix [] [(0, [0]), (0, [0]), (0, [0]), (0, [0]), (0, [0]), (0, [0]), (0, [0]), (0, [0]), (0, [0]), (0, [0]), (0, [0]), (0, [0]), (0, [0]), (0, [0]), (0, [0]), (0, [0]), (0, [0]), (0, [0]), (0, [0]), (0, [0]), (0, [0]), (0, [0]), (0, [0]), (0, [0]), (1, [0])] 1 (by kernel_rfl) rfl ?_
            simp [hq, hq2, hqw, hq3, hi0, hr1, hBg, hBl, ht, ht2, hdiv i (by omega)]
            have hfin : List.take q B ++ kU8 ((byteAt xl q + if decide (v / 2 ^ i % 2 = 1) = true then 2 ^ r else 0 : Nat) : Int) :: List.drop (q + 1) B = (packB (xl ++ [decide (v / 2 ^ i % 2 = 1)])).map kU8 := by
              have hqB : q < B.length := by omega
              rw [hsn, List.map_set, hBe, List.set_eq_take_append_cons_drop]
              simp [hqB]
            simp only [hor, hw1, hw2]
            simp only [kU8] at hfin
            rw [hfin]
            exact ⟨i + 1, xl ++ [decide (v / 2 ^ i % 2 = 1)], ⟨by omega, hnext⟩, by omega, entm [0, 1, 4] (hB := by simp [wSt, hl2, imms_ren (hb _), imms_lt (hb _)])⟩
          · have h8' : ¬ (xl.length : Int) % 8 = 0 := by omega
            have e : List.map kU8 (packB xl) = (bytesTo xl (q + 1)).map kU8 := by rw [hroom, if_neg h8]
            have e' : (xl.length + 7) / 8 = q + 1 := by omega
            simp [hlt, wSt, ht, ht2, h8, h8', e']
            rw [e]
            generalize hBe : (bytesTo xl (q + 1)).map kU8 = B at hB hBl ⊢
            have hBg : B[q]'(by omega) = kU8 (byteAt xl q) := (List.getElem?_eq_some_iff.1 hB).2
            refine awp_draw follows_mix [] [(0, [0]), (0, [0]), (0, [0]), (0, [0]), (0, [0]), (0, [0]), (0, [0]), (0, [0]), (0, [0]), (0, [0]), (0, [0]), (0, [0]), (0, [0]), (0, [0]), (0, [0]), (0, [0]), (0, [0]), (0, [0]), (0, [0]), (0, [0]), (0, [0]), (0, [0]), (0, [0]), (0, [0]), (1, [0])] 1 (by kernel_rfl) rfl ?_
            simp [hq, hq2, hqw, hq3, hi0, hr1, hBg, hBl, ht, ht2, hdiv i (by omega)]
            have hfin : List.take q B ++ kU8 ((byteAt xl q + if decide (v / 2 ^ i % 2 = 1) = true then 2 ^ r else 0 : Nat) : Int) :: List.drop (q + 1) B = (packB (xl ++ [decide (v / 2 ^ i % 2 = 1)])).map kU8 := by
              have hqB : q < B.length := by omega
              rw [hsn, List.map_set, hBe, List.set_eq_take_append_cons_drop]
              simp [hqB]
            simp only [hor, hw1, hw2]
            simp only [kU8] at hfin
            rw [hfin]
            exact ⟨i + 1, xl ++ [decide (v / 2 ^ i % 2 = 1)], ⟨by omega, hnext⟩, by omega, entm [0, 1, 2] (hB := by simp [wSt, hl2, imms_ren (hb _), imms_lt (hb _)])⟩
        · obtain rfl : i = m := by omega
          simp [wSt]
          have e1 : (putM bl v i).1 = xl := by simp [putM, h4, h5, hxl]
          have e2 : (putM bl v i).2 = 0 := by simp [putM, h4, h5]
          rw [e1, e2]
          exact finGm [0, 1, 2] (hB := by simp [imms_ren (hb _), imms_lt (hb _)])
  · simp [h4]
    exact finGm [0, 1, 2] (hres := by simp [putM, h4]) (hB := by simp [putM, h4, wSt, imms_ren (hb _), imms_lt (hb _)])
end Go.Proofs.Ytemlkbcfplkniaa.Am
/- Package bits: Writer.Nat, Writer.Int, Writer.Bytes. -/
namespace Go.Proofs.Ytemlkbcfplkniaa.Am
open Go Go.RowKit

/-- How many groups of four bits. -/
def gF : Nat → Nat → Nat
  | 0, _ => 1
  | k + 1, v => if v < 16 then 1 else gF k (v / 16) + 1
theorem gF_pos : ∀ k v, 1 ≤ gF k v ∧ gF k v ≤ k + 1
  | 0, v => by simp [gF]
  | k + 1, v => by
    have := gF_pos k (v / 16)
    unfold gF; split <;> omega
theorem u64_sz : IntKind.u64.bits = 64 := rfl
theorem shr4 (v : Nat) : ((v : Int)).fdiv (2 ^ min 4 IntKind.u64.bits) = ((v / 16 : Nat) : Int) := by
  rw [Int.fdiv_eq_ediv_of_nonneg _ (by decide)]; rfl

set_option maxRecDepth 20000 in
theorem groups_fn (v : Nat) (hv : v < 16 ^ 16) : Fn Try.prog 191 [kU v] (kI (gF 16 v)) := by
  refine fn_go Try.func191 rfl ?_
  simp [Try.ntmps191]
  rw [show (v : Int).fdiv (2 ^ min 4 IntKind.u64.bits) = ((v / 16 : Nat) : Int) from shr4 v]
  refine awp_loop (fun x : Nat × Nat => ⟨13, [(0, kU ((x.2 / 16 : Nat) : Int)), (3, kI x.1)], [], 0⟩) (fun x => 1 ≤ x.1 ∧ x.1 ≤ 17 ∧ x.2 < 16 ^ (17 - x.1) ∧ x.1 - 1 + gF (17 - x.1) x.2 = gF 16 v) (fun x => x.2) (1, v) ?_ ?_ ?_
  · exact entm []
  · simpa using hv
  · rintro ⟨n, y⟩ ⟨h1, h2, h3, h4⟩
    simp only at h1 h2 h3 h4
    refine awp_go ?_
    by_cases hy : y < 16
    · have e : y / 16 = 0 := by omega
      have hg : gF (17 - n) y = 1 := by
        cases h : 17 - n with
        | zero => rfl
        | succ k => rw [gF, if_pos hy]
      simp [e]
      exact finm (by simp; omega)
    · have e : 0 < y / 16 := by omega
      obtain ⟨k, hk⟩ : ∃ k, 17 - n = k + 1 := by
        cases h : 17 - n with
        | zero => rw [h] at h3; simp at h3; omega
        | succ k => exact ⟨k, rfl⟩
      rw [hk] at h3 h4
      rw [gF, if_neg hy] at h4
      have e2 : (0 : Int) < ((y / 16 : Nat) : Int) := by omega
      have hs := shr4 (y / 16)
      have hw : IntKind.i64.wrap ((n : Int) + 1) = ((n + 1 : Nat) : Int) := wrap_id (by omega) (by omega)
      generalize hz : y / 16 = z at e e2 hs h4 ⊢
      simp [e, e2, hs, hw]
      refine ⟨n + 1, z, ⟨by omega, by omega, ?_, ?_⟩, by omega, entm []⟩
      · rw [show 17 - (n + 1) = k by omega]
        rw [Nat.pow_succ] at h3; omega
      · rw [show 17 - (n + 1) = k by omega]; omega

def natG (v : Nat) (i : Nat) : Nat := v / 16 ^ i % 16 + if i + 1 < gF 16 v then 16 else 0
def natBits (v : Nat) : List Bool := (List.range (gF 16 v)).flatMap fun i => bitsOf (natG v i) 5
def natM (bl : List Bool) (v : Nat) : List Bool × Int := if 524288 < bl.length + 5 * gF 16 v then (bl, 6) else (bl ++ natBits v, 0)
theorem natG_lt (v i : Nat) : natG v i < 32 := by unfold natG; split <;> omega
theorem flat5 (f : Nat → Nat) (n : Nat) : ((List.range n).flatMap fun i => bitsOf (f i) 5).length = 5 * n := by
  induction n with
  | zero => rfl
  | succ n ih => rw [List.range_succ, List.flatMap_append, List.length_append, ih]; simp; omega

theorem shr4i (v i : Nat) (hi : i ≤ 16) : (v : Int).fdiv (2 ^ min (4 * (i : Int)).toNat IntKind.u64.bits) = ((v / 16 ^ i : Nat) : Int) := by
  have h1 : min (4 * (i : Int)).toNat IntKind.u64.bits = 4 * i := by
    have : IntKind.u64.bits = 64 := rfl
    omega
  rw [h1, Int.fdiv_eq_ediv_of_nonneg _ (by exact Int.pow_nonneg (by omega))]
  have : (2 : Int) ^ (4 * i) = ((16 ^ i : Nat) : Int) := by rw [Int.pow_mul]; norm_cast
  rw [this]; rfl

theorem wrapU (n : Int) : IntKind.u64.wrap n = n % 18446744073709551616 := by simp [IntKind.wrap, IntKind.bits, IntKind.signed]
theorem and15 (y : Int) (hy : 0 ≤ y) : IntKind.u64.wrap ↑((y % 2 ^ IntKind.u64.bits).toNat &&& 15 % 2 ^ IntKind.u64.bits) = y % 16 := by
  have h1 : (15 % 2 ^ IntKind.u64.bits : Nat) = 2 ^ 4 - 1 := by decide
  have h2 : (2 : Int) ^ IntKind.u64.bits = 18446744073709551616 := by decide
  rw [h1, Nat.and_two_pow_sub_one_eq_mod, h2, wrapU]
  omega
theorem or16 (y : Int) (hy : 0 ≤ y) : IntKind.u64.wrap ↑((IntKind.u64.wrap ↑((y % 2 ^ IntKind.u64.bits).toNat &&& 15 % 2 ^ IntKind.u64.bits) % 2 ^ IntKind.u64.bits).toNat ||| 16 % 2 ^ IntKind.u64.bits) = y % 16 + 16 := by
  rw [and15 y hy]
  have h1 : (16 % 2 ^ IntKind.u64.bits : Nat) = 2 ^ 4 := by decide
  have h2 : (2 : Int) ^ IntKind.u64.bits = 18446744073709551616 := by decide
  have h3 : (y % 16 % 18446744073709551616).toNat < 2 ^ 4 := by omega
  have h4 := Nat.two_pow_add_eq_or_of_lt h3 1
  rw [Nat.mul_one] at h4
  rw [h1, h2, Nat.or_comm, ← h4, wrapU]
  omega
theorem or0 (y : Int) (hy : 0 ≤ y) : IntKind.u64.wrap (max (IntKind.u64.wrap ↑((y % 2 ^ IntKind.u64.bits).toNat &&& 15 % 2 ^ IntKind.u64.bits) % 2 ^ IntKind.u64.bits) 0) = y % 16 := by
  rw [and15 y hy]
  have h2 : (2 : Int) ^ IntKind.u64.bits = 18446744073709551616 := by decide
  rw [h2, wrapU]
  omega

set_option maxRecDepth 20000 in
theorem Nat_fn (bl : List Bool) (v : Nat) (e : Int) (hv : v < 16 ^ 16) (hl : bl.length ≤ 524288) : FnD Try.prog 136 [.ptr 0 0, kU v] [wSt bl e 1, (packB bl).map kU8]
    (kI (natM bl v).2) [some (wSt (natM bl v).1 e 2), none, some ((packB (natM bl v).1).map kU8)] := by
  have hb : ∀ bs : List Int, (bs.map kU8).all PV.immB = true := fun bs => by simp
  have hg := gF_pos 16 v
  refine fng_of Try.func136 rfl (awp_ent (s' := ⟨36, [(0, .ptr 0 0), (1, kU v)], [some (wSt bl e 2), none, some ((packB bl).map kU8)], 2⟩)
    ((ent_mb 1 ((packB bl).map kU8)).trans (entm [0, 1, 2] (hB := by simp [wSt, imms_ren (hb _), imms_lt (hb _)]))) (awp_go ?_))
  simp [Try.ntmps136]
  refine cal (groups_fn v hv) ?_
  have hw1 : IntKind.i64.wrap (5 * (gF 16 v : Int)) = ((5 * gF 16 v : Nat) : Int) := by rw [wrap_id (by omega) (by omega)]; omega
  have hw2 : IntKind.i64.wrap ((bl.length : Int) + ((5 * gF 16 v : Nat) : Int)) = ((bl.length + 5 * gF 16 v : Nat) : Int) := by rw [wrap_id (by omega) (by omega)]; omega
  obtain ⟨g, hgv⟩ : ∃ g, gF 16 v = g := ⟨_, rfl⟩
  rw [hgv] at hg hw1 hw2 ⊢
  have hw3 : IntKind.i64.wrap ((bl.length : Int) + 5 * (g : Int)) = ((bl.length + 5 * g : Nat) : Int) := by rw [wrap_id (by omega) (by omega)]; omega
  simp [wSt, hw1]
  rw [hw3]
  by_cases h5 : 524288 < bl.length + 5 * g
  · have h5' : (524288 : Int) < ((bl.length + 5 * g : Nat) : Int) := by omega
    have e1 : natM bl v = (bl, 6) := by unfold natM; rw [hgv, if_pos h5]
    simp only [h5', decide_true]
    simp [e1]
    exact finGm [0, 1, 2] (hB := by simp [wSt, imms_ren (hb _), imms_lt (hb _)])
  · have h5' : ¬ (524288 : Int) < ((bl.length + 5 * g : Nat) : Int) := by omega
    have e1 : natM bl v = (bl ++ natBits v, 0) := by unfold natM; rw [hgv, if_neg h5]
    simp only [h5', decide_false]
    simp
    refine awp_loop (fun x : Nat × List Bool => ⟨36, [(0, .ptr 0 0), (1, kU v), (5, kI g), (18, kI g), (19, kI x.1)], [some (wSt x.2 e 2), none, some ((packB x.2).map kU8)], 2⟩)
      (fun x => x.1 ≤ g ∧ x.2 = bl ++ (List.range x.1).flatMap fun i => bitsOf (natG v i) 5) (fun x => g - x.1) (0, bl) ?_ ?_ ?_
    · exact entm [0, 1, 2] (hB := by simp [wSt, imms_ren (hb _), imms_lt (hb _)])
    · simp
    · rintro ⟨i, xl⟩ ⟨hi, hxl⟩
      simp only at hi hxl
      refine awp_go ?_
      by_cases hlt : i < g
      · have hxlen : xl.length = bl.length + 5 * i := by rw [hxl, List.length_append, flat5]
        have hwi : IntKind.i64.wrap ((i : Int) + 1) = ((i + 1 : Nat) : Int) := wrap_id (by omega) (by omega)
        have hput : putM xl (natG v i) 5 = (xl ++ bitsOf (natG v i) 5, 0) := by
          have h1 := natG_lt v i
          have h2 : ¬ (524288 : Int) < xl.length + 5 := by omega
          have h3 : ((natG v i : Nat) : Int) / 2 ^ (5 : Int).toNat = 0 := by
            rw [show (2 : Int) ^ (5 : Int).toNat = 32 from rfl]; omega
          unfold putM
          rw [if_neg (by simpa using h3), if_neg h2]; rfl
        have hP := Put_fn xl (natG v i) 5 e (by omega) (by omega) (by omega)
        rw [hput] at hP
        have hnx : xl ++ bitsOf (natG v i) 5 = bl ++ (List.range (i + 1)).flatMap fun i => bitsOf (natG v i) 5 := by
          rw [hxl, List.range_succ, List.flatMap_append, List.append_assoc]; simp
        have hy0 : (0 : Int) ≤ (v : Int) / 16 ^ i := Int.ediv_nonneg (by omega) (Int.pow_nonneg (by omega))
        have h40 : ¬ 4 * (i : Int) < 0 := by omega
        have hsh := shr4i v i (by omega)
        have hw4 : IntKind.i64.wrap (4 * (i : Int)) = ((4 * i : Nat) : Int) := by rw [wrap_id (by omega) (by omega)]; omega
        by_cases hm : i + 1 < g
        · have hm' : (i : Int) + 1 < g := by omega
          simp [hlt, wSt, hwi, hm', hw4, h40, hsh]
          rw [or16 _ hy0, ← show ((natG v i : Nat) : Int) = (v : Int) / 16 ^ i % 16 + 16 by unfold natG; rw [hgv, if_pos hm]; push_cast; rfl]
          refine calD [0, 2] hP ?_ (hbox := by simp [wSt, imms_ren (hb _), imms_lt (hb _)])
          simp [wSt, hwi, imms_ren (hb _), imms_lt (hb _)]
          exact ⟨i + 1, xl ++ bitsOf (natG v i) 5, ⟨by omega, hnx⟩, by omega, entm [0, 1, 3] (hB := by simp [wSt, imms_ren (hb _), imms_lt (hb _)])⟩
        · have hm' : ¬ (i : Int) + 1 < g := by omega
          simp [hlt, wSt, hwi, hm', hw4, h40, hsh]
          rw [or0 _ hy0, ← show ((natG v i : Nat) : Int) = (v : Int) / 16 ^ i % 16 by unfold natG; rw [hgv, if_neg hm]; push_cast; omega]
          refine calD [0, 2] hP ?_ (hbox := by simp [wSt, imms_ren (hb _), imms_lt (hb _)])
          simp [wSt, hwi, imms_ren (hb _), imms_lt (hb _)]
          exact ⟨i + 1, xl ++ bitsOf (natG v i) 5, ⟨by omega, hnx⟩, by omega, entm [0, 1, 3] (hB := by simp [wSt, imms_ren (hb _), imms_lt (hb _)])⟩
      · obtain rfl : i = g := by omega
        simp [wSt]
        have e2 : xl = bl ++ natBits v := by rw [hxl]; unfold natBits; rw [hgv]
        rw [e1, e2]
        exact finGm [0, 1, 2] (hB := by simp [imms_ren (hb _), imms_lt (hb _)])
end Go.Proofs.Ytemlkbcfplkniaa.Am
/- Package bits: Writer.Int, Writer.Bytes; package quant. -/
namespace Go.Proofs.Ytemlkbcfplkniaa.Am
open Go Go.RowKit

def zig (v : Int) : Nat := if 0 ≤ v then (2 * v).toNat else (-2 * v - 1).toNat

theorem xor_ones (a : Nat) (h : a < 2 ^ 64) : a ^^^ (2 ^ 64 - 1) = 2 ^ 64 - 1 - a := by
  have h1 := BitVec.xor_allOnes (x := BitVec.ofNat 64 a)
  have h2 := congrArg BitVec.toNat h1
  rw [BitVec.toNat_xor, BitVec.toNat_not, BitVec.toNat_ofNat, Nat.mod_eq_of_lt h] at h2
  simpa using h2
theorem zig_op (v : Int) (h1 : -4611686018427387904 ≤ v) (h2 : v < 4611686018427387904) :
    IntKind.u64.wrap ↑((IntKind.u64.wrap (IntKind.u64.wrap v * 2 ^ min 1 IntKind.u64.bits) % 2 ^ IntKind.u64.bits).toNat ^^^ (IntKind.u64.wrap (v.fdiv (2 ^ min 63 IntKind.i64.bits)) % 2 ^ IntKind.u64.bits).toNat) = (zig v : Int) := by
  have e1 : (2 : Int) ^ min 1 IntKind.u64.bits = 2 := by decide
  have e2 : (2 : Int) ^ IntKind.u64.bits = 18446744073709551616 := by decide
  have e3 : (2 : Int) ^ min 63 IntKind.i64.bits = 9223372036854775808 := by decide
  rw [e1, e2, e3, Int.fdiv_eq_ediv_of_nonneg _ (by decide)]
  simp only [wrapU]
  unfold zig
  by_cases h0 : 0 ≤ v
  · rw [if_pos h0]
    have a1 : (v % 18446744073709551616 * 2 % 18446744073709551616 % 18446744073709551616).toNat = (2 * v).toNat := by omega
    have a2 : (v / 9223372036854775808 % 18446744073709551616 % 18446744073709551616).toNat = 0 := by omega
    rw [a1, a2, Nat.xor_zero]; omega
  · rw [if_neg h0]
    have a1 : (v % 18446744073709551616 * 2 % 18446744073709551616 % 18446744073709551616).toNat = (18446744073709551616 + 2 * v).toNat := by omega
    have a2 : (v / 9223372036854775808 % 18446744073709551616 % 18446744073709551616).toNat = 2 ^ 64 - 1 := by omega
    rw [a1, a2, xor_ones _ (by omega)]; omega
theorem zig_lt (v : Int) (h1 : -4611686018427387904 ≤ v) (h2 : v < 4611686018427387904) : zig v < 16 ^ 16 := by unfold zig; split <;> omega

set_option maxRecDepth 20000 in
theorem WInt_fn (bl : List Bool) (v e : Int) (h1 : -4611686018427387904 ≤ v) (h2 : v < 4611686018427387904) (hl : bl.length ≤ 524288) : FnD Try.prog 135 [.ptr 0 0, kI v] [wSt bl e 1, (packB bl).map kU8]
    (kI (natM bl (zig v)).2) [some (wSt (natM bl (zig v)).1 e 2), none, some ((packB (natM bl (zig v)).1).map kU8)] := by
  have hb : ∀ bs : List Int, (bs.map kU8).all PV.immB = true := fun bs => by simp
  refine fng_of Try.func135 rfl (awp_ent (s' := ⟨14, [(0, .ptr 0 0), (1, kI v)], [some (wSt bl e 2), none, some ((packB bl).map kU8)], 2⟩)
    ((ent_mb 1 ((packB bl).map kU8)).trans (entm [0, 1, 2] (hB := by simp [wSt, imms_ren (hb _), imms_lt (hb _)]))) (awp_go ?_))
  simp [Try.ntmps135]
  rw [zig_op v h1 h2]
  refine calD [0, 2] (Nat_fn bl (zig v) e (zig_lt v h1 h2) hl) ?_ (hbox := by simp [wSt, imms_ren (hb _), imms_lt (hb _)])
  simp [wSt, imms_ren (hb _), imms_lt (hb _)]
  exact finGm [0, 1, 3] (hB := by simp [wSt, imms_ren (hb _), imms_lt (hb _)])

set_option maxRecDepth 20000 in
theorem WBytes_fn (bl : List Bool) (e : Int) (b : List Int) (hl : bl.length ≤ 524288) : FnD Try.prog 46 [.ptr 0 0] [wSt bl e 1, (packB bl).map kU8]
    (.osl 2 1 0 ((bl.length + 7) / 8)) [some (wSt bl e 1), some ((packB bl).map kU8), some ((packB bl).map kU8)] := by
  have hb : ∀ bs : List Int, (bs.map kU8).all PV.immB = true := fun bs => by simp
  refine fnd_go Try.func46 rfl ?_
  have h1 : (bl.length + 7) / 8 ≤ 140737488355328 := by omega
  have h2 : (bl.length + 7) / 8 ≤ maxLen := by simp only [maxLen]; omega
  have h3 : List.take ((bl.length + 7) / 8) ((packB bl).map kU8) = (packB bl).map kU8 := List.take_of_length_le (by simp)
  simp [Try.ntmps46, wSt, h1, h2]
  rw [h3]
  exact finGm [0, 1, 3] (hB := by simp [imms_ren (hb _), imms_lt (hb _)])
end Go.Proofs.Ytemlkbcfplkniaa.Am
/- Package quant: values of valid fields. -/
namespace Go.Proofs.Ytemlkbcfplkniaa.Am
open Go Go.RowKit

theorem Clamp_fn (a : Int) (h1 : -1099511627776 ≤ a) (h2 : a ≤ 1099511627776) : Fn Try.prog 91 [kI a] (kI a) := by
  refine fn_go Try.func91 rfl ?_
  simp [Try.ntmps91]
  exact finm (by simp; omega)

theorem field_in {f : GField} (h : fieldB f = true) : 1 ≤ f.Bits ∧ f.Bits ≤ 32 ∧ -4294967296 ≤ f.Low ∧ f.Low ≤ 4294967296 := by
  simp only [fieldB, Bool.and_eq_true, decide_eq_true_eq] at h
  omega

set_option maxRecDepth 20000 in
theorem QCheck_fn (f : GField) (hf : fieldB f = true) : Fn Try.prog 98 [.agg f.e] (kI 0) := by
  obtain ⟨h1, h2, h3, h4⟩ := field_in hf
  refine fn_go Try.func98 rfl ?_
  have a1 : ¬ f.Bits < 0 := by omega
  have a2 : ¬ 32 < f.Bits := by omega
  simp [Try.ntmps98, GField.e]
  refine awp_draw follows_mix [] [(0, [0]), (0, [0]), (0, [0]), (0, [0]), (0, [0]), (0, [0]), (0, [0]), (0, [0]), (0, [0]), (0, [0]), (0, [0]), (0, [0]), (0, [0]), (2, [0]), (0, [0]), (0, [0])] 0 (by kernel_rfl) rfl ?_
  simp [a1, a2]
  refine gD_call (kI f.Low) ?_
  simp [a1, a2]
  refine ⟨calO (Clamp_fn f.Low (by omega) (by omega)), ?_⟩
  exact finm

set_option maxRecDepth 20000 in
theorem QFit_fn (f : GField) (v : Int) (hf : fieldB f = true) (h5 : f.Low ≤ v) (h6 : v ≤ highM f) : Fn Try.prog 37 [.agg f.e, kI v] (kI v) := by
  obtain ⟨h1, h2, h3, h4⟩ := field_in hf
  refine fn_go Try.func37 rfl ?_
  simp [Try.ntmps37, GField.e]
  refine cal (Clamp_fn f.Low (by omega) (by omega)) ?_
  have hp := pow_le32 (n := f.Bits.toNat) (by omega)
  have hb : max f.Bits 0 = f.Bits := by omega
  have hb2 : min f.Bits 32 = f.Bits := by omega
  have hb3 : ¬ f.Bits < 0 := by omega
  have hb4 : min f.Bits.toNat IntKind.i64.bits = f.Bits.toNat := Nat.min_eq_left (by show f.Bits.toNat ≤ 64; omega)
  have hh : highM f = f.Low + (2 ^ f.Bits.toNat - 1) := by simp [highM, hf]
  rw [hh] at h6
  have hb5 : ¬ 32 < f.Bits := by omega
  have w1 : IntKind.i64.wrap (2 ^ f.Bits.toNat) = 2 ^ f.Bits.toNat := wrap_id (by omega) (by omega)
  simp [hb3, hb4, hb5, w1]
  generalize (2 : Int) ^ f.Bits.toNat = P at hp h6 ⊢
  have c1 : ¬ v < f.Low := by omega
  have c2 : ¬ f.Low + P - 1 < v := by omega
  rw [wrap_id (x := f.Low + P) (by omega) (by omega), wrap_id (x := f.Low + P - 1) (by omega) (by omega)]
  simp [c1, c2]
  exact finm (by simp)

theorem putM_len (bl : List Bool) (v n : Int) : (putM bl v n).1.length ≤ bl.length + n.toNat := by
  unfold putM; split
  · simp
  · split <;> simp

set_option maxRecDepth 20000 in
theorem QPut_fn (bl : List Bool) (f : GField) (v e : Int) (hf : fieldB f = true) (h5 : f.Low ≤ v) (h6 : v ≤ highM f) (hl : bl.length ≤ 524288) : FnD Try.prog 42 [.ptr 0 0, .agg f.e, kI v] [wSt bl e 1, (packB bl).map kU8]
    (kI (putM bl (v - f.Low) f.Bits).2) [some (wSt (putM bl (v - f.Low) f.Bits).1 e 2), none, some ((packB (putM bl (v - f.Low) f.Bits).1).map kU8)] := by
  obtain ⟨h1, h2, h3, h4⟩ := field_in hf
  have hb : ∀ bs : List Int, (bs.map kU8).all PV.immB = true := fun bs => by simp
  have hp := pow_le32 (n := f.Bits.toNat) (by omega)
  have hh : highM f = f.Low + (2 ^ f.Bits.toNat - 1) := by simp [highM, hf]
  refine fng_of Try.func42 rfl (awp_ent (s' := ⟨27, [(0, .ptr 0 0), (1, .agg f.e), (2, kI v)], [some (wSt bl e 2), none, some ((packB bl).map kU8)], 2⟩)
    ((ent_mb 1 ((packB bl).map kU8)).trans (entm [0, 1, 2] (hB := by simp [wSt, imms_ren (hb _), imms_lt (hb _)]))) (awp_go ?_))
  simp [Try.ntmps42]
  refine cal (QCheck_fn f hf) ?_
  simp
  refine cal (QFit_fn f v hf h5 h6) ?_
  rw [hh] at h6
  have w1 : IntKind.i64.wrap (v - f.Low) = v - f.Low := wrap_id (by omega) (by omega)
  have w2 : IntKind.u64.wrap (v - f.Low) = v - f.Low := by rw [wrapU]; omega
  simp [GField.e, w1, w2]
  refine calD [0, 2] (Put_fn bl (v - f.Low) f.Bits e (by omega) (by omega) hl) ?_ (hbox := by simp [wSt, imms_ren (hb _), imms_lt (hb _)])
  simp [wSt, imms_ren (hb _), imms_lt (hb _)]
  exact finGm [0, 1, 4] (hB := by simp [wSt, imms_ren (hb _), imms_lt (hb _)])
end Go.Proofs.Ytemlkbcfplkniaa.Am
/- The machine of values: bytes as strings; a slice of bytes that is handed on as one; the byte that is looked for. -/
namespace Go.Proofs.Ytemlkbcfplkniaa.Am
open Go Go.RowKit

abbrev slB (xs : List Int) : PV := .sl 1 (xs.map fun n => [.k (.int .u8 n)])

theorem flatB : ∀ xs : List Int, (xs.map fun n => [PV.k (.int .u8 n)]).flatten = xs.map fun n => PV.k (.int .u8 n)
  | [] => rfl
  | x :: xs => by simp [flatB xs]
theorem slB_inv {S : Nat → Prop} {w : World} {v : Value} {xs : List Int} (h : IRel S w v (slB xs)) : ∃ (a : Option Addr) (cap : Nat), v = .slice a xs.length cap ∧ xs.length ≤ cap ∧
    (0 < xs.length → ∃ b o, a = some ⟨b, o, none⟩ ∧ ∀ i, i < xs.length → w.cell? ⟨b, o + i, none⟩ = some (.int .u8 (xs.getD i 0))) := by
  cases h with
  | sl g h1 h2 h3 h4 h5 h6 h7 h8 =>
    rename_i a n cap
    simp at h1; subst h1
    refine ⟨a, cap, rfl, h2, fun hn => ?_⟩
    obtain ⟨b, o, e, hS, hg⟩ := h7 hn
    refine ⟨b, o, e, fun i hi => ?_⟩
    rw [hg i (by omega)]
    have hf := flatB xs
    have := h8 i (.k (.int .u8 xs[i])) (by rw [hf]; simp [hi])
    have hv := (VRel.imm (n := 0) (ι := fun _ => none) this).k_inv.1
    simp [hv, List.getD, hi]

/-- Bytes that nobody writes, as a string. -/
theorem ops_b2sI {P : Program} {ops : Array Oper} {rest : List Oper} {o : Oper} {s : St} {Q : St → Prop} {src dst e : TypeId} {x : Operand} {xs : List Int}
    (h : @gOps (s.put o.dst (kS (strOfNums xs))) ⟨P, ops, rest, Q⟩) (ho : o.op = .convert src dst x := by exact rfl) (hs : P.underlying src = some (.slice e) := by kernel_rfl) (he : P.underlying e = some (.int .u8) := by kernel_rfl) (hd : P.underlying dst = some .string := by kernel_rfl)
    (hx : opd s x = some (slB xs) := by first | exact rfl | simp) (hw : wantedA s ops o = some true := by simp) (hdst : dstOk o.dst s.N = true := by first | exact rfl | simp) : OpsOk P ops (o :: rest) s Q :=
  ops_step hw fun c ι S a w hr K QQ hK => by
    have hv := (opd_rel hr hx).immI rfl
    generalize hev : a.eval x = v at hv
    obtain ⟨ad, cap, rfl, hle, hc⟩ := slB_inv hv
    have hrun : (convert src dst (.slice ad xs.length cap)).run P w = .ok (.string (strOfNums xs)) w := by
      rcases Nat.eq_zero_or_pos xs.length with h0 | h0
      · have hnil : xs = [] := List.length_eq_zero_iff.1 h0
        subst hnil
        cases ad with
        | none => simp [convert, run_underlying hs, run_underlying hd, run_underlying he, Conv.bytesToString, strOfNums]; rfl
        | some ad => simp [convert, run_underlying hs, run_underlying hd, run_underlying he, Conv.bytesToString, strOfNums, loadCells, loadCellsFrom]; rfl
      · obtain ⟨b, off, rfl, hcell⟩ := hc h0
        exact run_convert_bytes_arg w src e hs he b off _ cap xs rfl hcell dst hd
    have : (execOp a.eval o).run P w = .ok (.value (.string (strOfNums xs))) w := by
      unfold execOp
      simp only [ho, hev, Sem.run_bind, hrun, Result.andThen_ok, Sem.run_pure]
    refine wpIn_val this ?_
    exact hK ι S _ _ w (Rel.next hr hr.st (fun _ _ h => h) hdst (.imm (.k rfl))) (ops_goH h)

/-- The place of a byte. -/
theorem ops_idx {P : Program} {ops : Array Oper} {rest : List Oper} {o : Oper} {s : St} {Q : St → Prop} {f : FuncId} {fn : Func} {x y : Operand} {ts : Array TypeId} {xs : List Int} {n : Int}
    (hf : P.funcs[f]? = some fn) (h : @gOps (s.put o.dst (kI (Lib.indexByte (Lib.bytesOf xs) n.toNat.toUInt8))) ⟨P, ops, rest, Q⟩) (hl : 0 < xs.length)
    (ho : o.op = .call { callee := .value (.func f), args := #[x, y], argTypes := ts } := by exact rfl)
    (hname : (fn.name == "runtime.NumGoroutine") = false := by kernel_rfl) (hb : fn.body.isNone = true := by kernel_rfl) (hn : Extern.findNext fn = none := by kernel_rfl) (he : Extern.find fn = some Extern.BytealgIndexByte.indexByte := by kernel_rfl)
    (hx : opd s x = some (slB xs) := by first | exact rfl | simp) (hy : opd s y = some (.k (.int .u8 n)) := by first | exact rfl | simp)
    (hw : wantedA s ops o = some true := by simp) (hd : dstOk o.dst s.N = true := by first | exact rfl | simp) : OpsOk P ops (o :: rest) s Q :=
  ops_step hw fun c ι S a w hr K QQ hK => by
    have hv := (opd_rel hr hx).immI rfl
    have hyv := (opd_rel hr hy).k_inv.1
    generalize hev : a.eval x = v at hv
    obtain ⟨ad, cap, rfl, hle, hc⟩ := slB_inv hv
    obtain ⟨b, off, rfl, hcell⟩ := hc hl
    have hrun := Lib.run_indexByteSlice (P := P) (w := w) b off xs.length cap xs rfl hcell n
    have hef : a.eval (.func f) = .func (.func f) #[] #[] := rfl
    have : (execOp a.eval o).run P w = .ok (.value (.int .i64 (Lib.indexByte (Lib.bytesOf xs) n.toNat.toUInt8))) w := by
      unfold execOp
      simp only [ho, Sem.run_bind, resolve, hef, Deferred.ofValue, Sem.run_pure, Result.andThen_ok, invoke]
      simp only [List.map_toArray, List.map_cons, List.map_nil, Array.append_empty, Array.empty_append, run_callFunc_extern hf hname hb hn he, hev, hyv, hrun, Result.andThen_ok]
    refine wpIn_val this ?_
    exact hK ι S _ _ w (Rel.next hr hr.st (fun _ _ h => h) hd (.imm (.k rfl))) (ops_goH h)

/-- A block that nobody writes gets a mark behind its cells. -/
def World.marked (w : World) (blk : Nat) (C : Array Value) (e : TypeId) : World := { w with heap := w.heap.setIfInBounds blk (.cells C e (C.size, C.size + 1)) }

theorem Store.marked {c : Ctx} {ι : Nat → Option Nat} {S : Nat → Prop} {σ : Boxes} {w : World} (h : Store c ι S σ w) {blk : Nat} {C : Array Value} {e : TypeId} (hw : w.heap[blk]? = some (.cells C e (0, 0))) (hS : S blk) (hl : c.M blk ∨ c.w0.heap.size ≤ blk) :
    Store c ι S σ (World.marked w blk C e) ∧ ∀ m v p, VRel m ι S w v p → VRel m ι S (World.marked w blk C e) v p := by
  have hlt : blk < w.heap.size := (Array.getElem?_eq_some_iff.1 hw).1
  have hoth : ∀ b, b ≠ blk → (World.marked w blk C e).heap[b]? = w.heap[b]? := fun b hb => by simp [World.marked, Array.getElem?_setIfInBounds_ne (Ne.symm hb)]
  have hsame : (World.marked w blk C e).heap[blk]? = some (.cells C e (C.size, C.size + 1)) := by simp [World.marked, hlt]
  have hcell : ∀ b o, (World.marked w blk C e).cell? ⟨b, o, none⟩ = w.cell? ⟨b, o, none⟩ := fun b o => by
    by_cases hb : b = blk
    · subst hb; simp only [World.cell?, hsame, hw]
    · simp only [World.cell?, hoth b hb]
  have hsh : ∀ b x, w.shape? b = some x → (World.marked w blk C e).shape? b = some x := fun b x hx => by
    by_cases hb : b = blk
    · subst hb; simp only [World.shape?, hsame, hw] at hx ⊢; exact hx
    · simp only [World.shape?, hoth b hb] at hx ⊢; exact hx
  have hv : ∀ m v p, VRel m ι S w v p → VRel m ι S (World.marked w blk C e) v p := fun m v p hh =>
    hh.mono (Nat.le_refl _) (fun _ _ => rfl) (fun _ h => h) (fun b o _ => hcell b o) hsh
  refine ⟨⟨h.os, h.tape, h.output, by simpa [World.marked] using h.size, fun b hb hM => ?_, fun b x hx => hsh b x (h.shape b x hx), fun i cs hi => ?_, h.notS, h.live, h.inj, fun b hb => by simpa [World.marked] using h.Slt b hb, h.S0, h.Snew, h.klen, h.kι⟩, hv⟩
  · rw [hoth b (fun e => by subst e; rcases hl with k | k; exact hM k; omega)]; exact h.old b hb hM
  · rcases h.boxes i cs hi with g | ⟨b, c', o, g1, g2, g3, g4⟩
    · exact .inl g
    · refine .inr ⟨b, c', o, g1, ?_, g3, fun j p hj => by obtain ⟨v, hv1, hv2⟩ := g4 j p hj; exact ⟨v, hv1, hv _ _ _ hv2⟩⟩
      rw [hoth b (fun e => h.notS i cs b hi g1 (e ▸ hS))]; exact g2

/-- A fresh slice of bytes that is handed on as a slice of bytes of its own: from then on nobody writes it. -/
theorem ops_conv {P : Program} {ops : Array Oper} {rest : List Oper} {o : Oper} {s : St} {Q : St → Prop} {t e : TypeId} {x : Operand} {b len : Nat} {cs : List PV}
    (h : @gOps ((s.fz b cs).put o.dst (.sl 1 (chunks 1 cs len))) ⟨P, ops, rest, Q⟩) (hl : 0 < len) (hlen : cs.length = len)
    (ho : o.op = .convert t t x := by exact rfl) (ht : P.underlying t = some (.slice e) := by kernel_rfl) (he : P.underlying e = some (.int .u8) := by kernel_rfl)
    (hx : opd s x = some (.osl b 1 0 len) := by first | exact rfl | simp) (hb : box s.σ b = some cs := by first | exact rfl | simp) (hi : cs.all PV.immB = true := by simp) (hk : s.k ≤ b := by simp)
    (hx2 : opd (s.fz b cs) x = some (.sl 1 (chunks 1 cs len)) := by simp) (hw : wantedA s ops o = some true := by simp) (hd : dstOk o.dst s.N = true := by first | exact rfl | simp) : OpsOk P ops (o :: rest) s Q :=
  ops_step hw fun c ι S a w hr K QQ hK => by
    have hv := opd_rel hr hx
    generalize hev : a.eval x = v at hv
    cases hv with
    | imm hi => cases hi
    | osl0 _ => omega
    | osl hbn hlc hcm hib hsh hle =>
      rename_i cap blk e2 m
      obtain ⟨b1, C, e1, hb1, k1, _, hcs⟩ := hr.st.cellsE hb hib hsh
      rw [hb1] at hib
      obtain rfl : b1 = blk := Option.some.inj hib
      have hlive := hr.st.live b cs b1 hb hb1
      obtain ⟨ι', S', hr'⟩ := ent_fz b cs hb hi hk c ι S a w hr
      have hv2 := opd_rel hr' hx2
      rw [hev] at hv2
      have hS1 : S' b1 := by
        have hI := hv2.immI rfl
        cases hI with
        | sl g i1 i2 i3 i4 i5 i6 i7 i8 =>
          obtain ⟨b', o', e', hS', _⟩ := i7 hl
          simp at e'
          rw [e'.1]; exact hS'
      obtain ⟨hst, hm⟩ := hr'.st.marked k1 hS1 hlive
      have hshp : w.shape? b1 = some (e1, C.size) := by simp [World.shape?, k1]
      have hfr : w.freeze ⟨b1, C.size, none⟩ 1 = World.marked w b1 C e1 := by
        unfold World.freeze World.marked
        rw [if_neg (by decide)]
        congr 1
        apply Array.ext
        · simp
        · intro i h1 h2
          simp only [Array.getElem_modify, Array.getElem_setIfInBounds]
          by_cases hbi : b1 = i
          · subst hbi
            have : w.heap[b1]'(by simpa using h1) = .cells C e1 (0, 0) := by
              have := Array.getElem?_eq_some_iff.1 k1
              exact this.2
            simp [this]
          · simp [hbi]; rw [Array.getElem_setIfInBounds (by simpa using h1)]; simp [hbi]
      have hrun : (convert t t (.slice (some ⟨b1, 0, none⟩) len cap)).run P w = .ok (.slice (some ⟨b1, 0, none⟩) len cap) (World.marked w b1 C e1) := by
        simp [convert, run_underlying ht, run_underlying he, markStringish, hshp, hfr]
      have : (execOp a.eval o).run P w = .ok (.value (.slice (some ⟨b1, 0, none⟩) len cap)) (World.marked w b1 C e1) := by
        unfold execOp
        simp only [ho, hev, Sem.run_bind, hrun, Result.andThen_ok, Sem.run_pure]
      refine wpIn_val this ?_
      have hd2 : dstOk o.dst (s.fz b cs).N = true := hd
      exact hK ι' S' _ _ _ (Rel.next hr' hst (fun v p hv => hm _ _ _ hv) hd2 (hm _ _ _ hv2)) (ops_goH h)
end Go.Proofs.Ytemlkbcfplkniaa.Am
/- Package save: the writer's put and name. -/
namespace Go.Proofs.Ytemlkbcfplkniaa.Am
open Go Go.RowKit

abbrev WS := List Bool × Int
abbrev wS (w : WS) (b : Nat) : List PV := wSt w.1 w.2 b
abbrev wB (w : WS) : List PV := (packB w.1).map kU8
def wput (w : WS) (v n : Int) : WS := if w.2 = 0 then putM w.1 v n else w
def wnat (w : WS) (v : Nat) : WS := if w.2 = 0 then natM w.1 v else w
theorem putM_le {bl : List Bool} {v n : Int} (h : bl.length ≤ 524288) (hn : 0 ≤ n) : (putM bl v n).1.length ≤ 524288 := by
  unfold putM; split
  · simpa
  · split
    · simpa
    · simp; omega
theorem natM_le {bl : List Bool} {v : Nat} (h : bl.length ≤ 524288) : (natM bl v).1.length ≤ 524288 := by
  unfold natM; split
  · simpa
  · have : (natBits v).length = 5 * gF 16 v := flat5 _ _
    simp; omega
theorem wput_le {w : WS} {v n : Int} (h : w.1.length ≤ 524288) (hn : 0 ≤ n) : (wput w v n).1.length ≤ 524288 := by
  unfold wput; split
  · exact putM_le h hn
  · exact h
theorem wnat_le {w : WS} {v : Nat} (h : w.1.length ≤ 524288) : (wnat w v).1.length ≤ 524288 := by
  unfold wnat; split
  · exact natM_le h
  · exact h
theorem wB_imm (w : WS) : (wB w).all PV.immB = true := by simp

/-- The writer's box moved to the place at which a call leaves it. -/
theorem ent_w {N : Nat} {T : List (Nat × PV)} (w : WS) (hT : EntT (St.mb ⟨N, T, [some (wS w 1), some (wB w)], 2⟩ 1 (wB w)) (fun i => [0, 1, 2].getD i 0) 3 T := by simp) :
    Ent ⟨N, T, [some (wS w 1), some (wB w)], 2⟩ ⟨N, T, [some (wS w 2), none, some (wB w)], 2⟩ :=
  (ent_mb 1 (wB w)).trans (entm [0, 1, 2] (hT := hT) (hB := by simp [wSt, imms_ren (wB_imm w), imms_lt (wB_imm w)]))

set_option maxRecDepth 20000 in
theorem WPut_fn (w : WS) (v n : Int) (hv : 0 ≤ v) (hn : 0 ≤ n ∧ n ≤ 63) (hl : w.1.length ≤ 524288) : FnD Try.prog 82 [.ptr 0 0, kU v, kI n] [wS w 1, wB w]
    (.tup []) [some (wS (wput w v n) 2), none, some (wB (wput w v n))] := by
  refine fng_of Try.func82 rfl (awp_ent (s' := ⟨20, [(0, .ptr 0 0), (1, kU v), (2, kI n)], [some (wS w 2), none, some (wB w)], 2⟩) (ent_w w) (awp_go ?_))
  have hb : ∀ bs : List Int, (bs.map kU8).all PV.immB = true := fun bs => by simp
  simp [Try.ntmps82, wSt]
  by_cases h0 : w.2 = 0
  · simp [h0]
    refine calD [0, 2] (Put_fn w.1 v n 0 hv hn hl) ?_ (hbox := by simp [wSt, imms_ren (hb _), imms_lt (hb _)])
    have e : wput w v n = putM w.1 v n := by simp [wput, h0]
    rw [e]
    simp [wSt, imms_ren (hb _), imms_lt (hb _)]
    exact finGm [0, 1, 3] (hB := by simp [wSt, imms_ren (hb _), imms_lt (hb _)])
  · have e : wput w v n = w := by simp [wput, h0]
    rw [e]
    simp [h0]
    exact finGm [0, 1, 2] (hB := by simp [wSt, imms_ren (hb _), imms_lt (hb _)])

def lettersL : List Int := [97, 98, 99, 100, 101, 102, 103, 104, 105, 106, 107, 108, 109, 110, 111, 112, 113, 114, 115, 116, 117, 118, 119, 120, 121, 122, 48, 49, 50, 51, 52, 53, 54, 55, 56, 57]
def letIdx (c : UInt8) : Int := Lib.indexByte (Lib.bytesOf lettersL) c
def wchar (w : WS) (c : UInt8) : WS := wput w (IntKind.u64.wrap (letIdx c)) 6
def wname (w : WS) (s : Str) : WS := s.data.toList.foldl wchar (wput w s.size 5)

set_option maxRecDepth 20000 in
theorem IndexByte_fn (xs : List Int) (n : Int) (hl : 0 < xs.length) : Fn Try.prog 190 [slB xs, kU8 n] (kI (Lib.indexByte (Lib.bytesOf xs) n.toNat.toUInt8)) := by
  refine fn_go Try.func190 rfl ?_
  simp [Try.ntmps190]
  refine ops_idx Try.func231 ?_ hl
  simp
  exact finm

set_option maxRecDepth 20000 in
set_option maxHeartbeats 1000000 in
theorem WName_fn (w : WS) (s : Str) (hs : s.size ≤ 1000000) (hl : w.1.length ≤ 524288) : FnD Try.prog 134 [.ptr 0 0, kS s] [wS w 1, wB w]
    (.tup []) [some (wS (wname w s) 2), none, some (wB (wname w s))] := by
  refine fng_of Try.func134 rfl (awp_ent (s' := ⟨25, [(0, .ptr 0 0), (1, kS s)], [some (wS w 2), none, some (wB w)], 2⟩) (ent_w w) (awp_go ?_))
  have hb : ∀ bs : List Int, (bs.map kU8).all PV.immB = true := fun bs => by simp
  have hsz : s.data.toList.length = s.size := by rw [Array.length_toList]; rfl
  have hu : IntKind.u64.wrap (s.size : Int) = s.size := by rw [wrapU]; omega
  simp [Try.ntmps134, hu]
  refine calD [0, 2] (WPut_fn w s.size 5 (by omega) (by omega) hl) ?_ (hbox := by simp [wSt, imms_ren (hb _), imms_lt (hb _)])
  have hl1 : (wput w s.size 5).1.length ≤ 524288 := wput_le hl (by omega)
  obtain ⟨w1, hw1⟩ : ∃ w1, wput w s.size 5 = w1 := ⟨_, rfl⟩
  rw [hw1] at hl1 ⊢
  simp [wSt, imms_ren (hb _), imms_lt (hb _)]
  refine awp_loop (fun x : Nat × WS => ⟨25, [(0, .ptr 0 0), (1, kS s), (11, kI s.size), (12, kI x.1)], [some (wS x.2 2), none, some (wB x.2)], 2⟩)
    (fun x => x.1 ≤ s.size ∧ x.2.1.length ≤ 524288 ∧ (s.data.toList.drop x.1).foldl wchar x.2 = wname w s) (fun x => s.size - x.1) (0, w1) ?_ ?_ ?_
  · exact entm [0, 1, 3] (hB := by simp [wSt, imms_ren (hb _), imms_lt (hb _)])
  · simp [wname, hw1, hl1]
  · rintro ⟨i, x⟩ ⟨hi, hx, hrun⟩
    simp only at hi hx hrun
    refine awp_go ?_
    by_cases hlt : i < s.size
    · obtain ⟨ch, hch⟩ : ∃ ch, s[i] = ch := ⟨_, rfl⟩
      have hdrop : s.data.toList.drop i = ch :: s.data.toList.drop (i + 1) := by
        have hlt2 : i < s.data.toList.length := by rw [hsz]; exact hlt
        rw [List.drop_eq_getElem_cons hlt2]
        congr 1
      rw [hdrop, List.foldl_cons] at hrun
      simp [hlt, wSt]
      refine ops_conv (e := 5) (b := 3) (len := 36) (cs := lettersL.map kU8) ?_ (by omega) rfl (hb := rfl) (hx2 := by simp [show lettersL.length = 36 from rfl])
      have hch2 : s[i]? = some ch := by rw [getElem?_pos s i hlt, hch]
      simp [hlt, hch, hch2, imms_fz (hb _)]
      rw [show chunks 1 (lettersL.map kU8) 36 = lettersL.map fun n => [kU8 n] from rfl]
      have hI := IndexByte_fn lettersL ch.toNat (by decide)
      rw [show ((ch.toNat : Int).toNat).toUInt8 = ch by simp, show Lib.indexByte (Lib.bytesOf lettersL) ch = letIdx ch from rfl] at hI
      refine cal hI ?_
      simp
      have hv : 0 ≤ IntKind.u64.wrap (letIdx ch) := by rw [wrapU]; omega
      refine calD [0, 2] (WPut_fn x (IntKind.u64.wrap (letIdx ch)) 6 hv (by omega) hx) ?_ (hbox := by simp [wSt, imms_ren (hb _), imms_lt (hb _)])
      have hl2 : (wchar x ch).1.length ≤ 524288 := wput_le hx (by omega)
      simp [wSt, imms_ren (hb _), imms_lt (hb _)]
      rw [wrap_id (by omega) (by omega)]
      exact ⟨i + 1, (wchar x ch).1, (wchar x ch).2, ⟨by omega, hl2, hrun⟩, by omega, entm [0, 1, 4] (hB := by simp [wSt, wchar, imms_ren (hb _), imms_lt (hb _)])⟩
    · obtain rfl : i = s.size := by omega
      have : s.data.toList.drop s.size = [] := List.drop_eq_nil_of_le (by rw [hsz]; exact Nat.le_refl _)
      rw [this] at hrun
      simp at hrun
      simp [wSt, ← hrun]
      exact finGm [0, 1, 2] (hB := by simp [wSt, imms_ren (hb _), imms_lt (hb _)])
end Go.Proofs.Ytemlkbcfplkniaa.Am
/- Package save: the writer's comps. -/
namespace Go.Proofs.Ytemlkbcfplkniaa.Am
open Go Go.RowKit

def wvals : List GField → List Int → WS → WS
  | f :: fs, v :: vs, w => wvals fs vs (wput w (v - f.Low) f.Bits)
  | _, _, w => w
def wcomps : Nat → List GKind → List GComp → WS → WS
  | _, [], _, w => w
  | i, _ :: r, [], w => wcomps (i + 1) r [] (wput w 0 1)
  | i, k :: r, c :: l, w => if c.Kind = i then wcomps (i + 1) r l (wvals k.Fields c.Vals (wput w 1 1)) else wcomps (i + 1) r (c :: l) (wput w 0 1)

theorem wvals_le : ∀ {fs : List GField} {vs : List Int} {w : WS}, (∀ f ∈ fs, fieldB f = true) → w.1.length ≤ 524288 → (wvals fs vs w).1.length ≤ 524288
  | [], _, _, _, h => by simpa [wvals] using h
  | _ :: _, [], _, _, h => by simpa [wvals] using h
  | f :: fs, v :: vs, w, hf, h => by
    rw [wvals]
    have := field_in (hf f (by simp))
    exact wvals_le (fun g hg => hf g (by simp [hg])) (wput_le h (by omega))

/-- What the values of valid components are to their fields. -/
def ValsOk (fs : List GField) (vs : List Int) : Prop := vs.length = fs.length ∧ ∀ j (h1 : j < fs.length) (h2 : j < vs.length), fs[j].Low ≤ vs[j] ∧ vs[j] ≤ highM fs[j]
theorem vals_ok {k : GKind} {v : List Int} (h : holdsB k v = true) : (∀ f ∈ k.Fields, fieldB f = true) ∧ ValsOk k.Fields v := by
  obtain ⟨h1, h2, h3⟩ := holds_iff.1 h
  have hf := oneE_fields h1
  refine ⟨hf, h2, fun j hj1 hj2 => ?_⟩
  have := (zip_iff h2).1 h3 j hj1 hj2
  have hfj := hf _ (List.getElem_mem hj1)
  rw [← this]
  exact ⟨nearLo hfj _, nearHi hfj _⟩

set_option maxRecDepth 20000 in
set_option maxHeartbeats 2000000 in
theorem WComps_fn (w : WS) (ks : List GKind) (l : List GComp) (hk : ks.length ≤ 16) (hf : ∀ k ∈ ks, k.Fields.length ≤ 8 ∧ ∀ f ∈ k.Fields, fieldB f = true) (hh : heldGo ks (-1) l = true) (hl : w.1.length ≤ 524288) :
    FnD Try.prog 137 [.ptr 0 0, .sl 2 (ks.map GKind.e), .sl 2 (l.map GComp.e)] [wS w 1, wB w]
    (.tup []) [some (wS (wcomps 0 ks l w) 2), none, some (wB (wcomps 0 ks l w))] := by
  have hll : l.length ≤ 16 := by have := held_len (by omega) hh; omega
  refine fng_of Try.func137 rfl (awp_ent (s' := ⟨68, [(0, .ptr 0 0), (1, .sl 2 (ks.map GKind.e)), (2, .sl 2 (l.map GComp.e))], [some (wS w 2), none, some (wB w)], 2⟩) (ent_w w) (awp_go ?_))
  have hb : ∀ bs : List Int, (bs.map kU8).all PV.immB = true := fun bs => by simp
  simp [Try.ntmps137]
  refine awp_loop (fun x : Nat × Nat × WS => ⟨68, [(0, .ptr 0 0), (1, .sl 2 (ks.map GKind.e)), (2, .sl 2 (l.map GComp.e)), (6, kI x.2.1), (11, kI ks.length), (12, kI x.1)], [some (wS x.2.2 2), none, some (wB x.2.2)], 2⟩)
    (fun x => x.1 ≤ ks.length ∧ x.2.1 ≤ l.length ∧ x.2.2.1.length ≤ 524288 ∧ wcomps x.1 (ks.drop x.1) (l.drop x.2.1) x.2.2 = wcomps 0 ks l w) (fun x => ks.length - x.1) (0, 0, w) ?_ ?_ ?_
  · exact entm [0, 1, 2] (hB := by simp [wSt, imms_ren (hb _), imms_lt (hb _)])
  · simp [hl]
  · rintro ⟨i, at_, x⟩ ⟨hi, hat, hx, hrun⟩
    simp only at hi hat hx hrun
    refine awp_go ?_
    by_cases hlt : i < ks.length
    · obtain ⟨k, hkk⟩ : ∃ k, ks[i] = k := ⟨_, rfl⟩
      have hkm : k ∈ ks := hkk ▸ List.getElem_mem hlt
      obtain ⟨hfl, hff⟩ := hf k hkm
      rw [List.drop_eq_getElem_cons hlt, hkk] at hrun
      have hw1 : IntKind.i64.wrap ((i : Int) + 1) = ((i + 1 : Nat) : Int) := wrap_id (by omega) (by omega)
      by_cases hal : at_ = l.length
      · subst hal
        rw [List.drop_length, wcomps] at hrun
        simp [hlt, wSt]
        refine calD [0, 2] (WPut_fn x 0 1 (by omega) (by omega) hx) ?_ (hbox := by simp [wSt, imms_ren (hb _), imms_lt (hb _)])
        simp [wSt, hw1, imms_ren (hb _), imms_lt (hb _)]
        exact ⟨i + 1, l.length, (wput x 0 1).1, (wput x 0 1).2, ⟨by omega, by omega, wput_le hx (by omega), by rw [List.drop_length]; exact hrun⟩, by omega, entm [0, 1, 3] (hB := by simp [wSt, imms_ren (hb _), imms_lt (hb _)])⟩
      · have hal2 : at_ < l.length := by omega
        have hal3 : ¬ (at_ : Int) = l.length := by omega
        obtain ⟨c, hcc⟩ : ∃ c, l[at_] = c := ⟨_, rfl⟩
        rw [List.drop_eq_getElem_cons hal2, hcc, wcomps] at hrun
        by_cases hck : c.Kind = i
        · rw [if_pos hck] at hrun
          simp [hlt, hal3, hal2, hcc, hck, wSt, GComp.e]
          refine calD [0, 2] (WPut_fn x 1 1 (by omega) (by omega) hx) ?_ (hbox := by simp [wSt, imms_ren (hb _), imms_lt (hb _)])
          obtain ⟨w1, hw1e⟩ : ∃ w1, wput x 1 1 = w1 := ⟨_, rfl⟩
          have hl1 : w1.1.length ≤ 524288 := hw1e ▸ wput_le hx (by omega)
          rw [hw1e] at hrun ⊢
          have hcm : c ∈ l := hcc ▸ List.getElem_mem hal2
          obtain ⟨_, _, hhold⟩ := held_mem hh c hcm
          have hkd : ks.getD c.Kind.toNat k0 = k := by rw [hck]; simp [List.getD, hlt, hkk]
          rw [hkd] at hhold
          obtain ⟨_, hvl, hvr⟩ := vals_ok hhold
          simp [hlt, hkk, GKind.e, wSt, imms_ren (hb _), imms_lt (hb _)]
          refine awp_loop (fun y : Nat × WS => ⟨68, [(0, .ptr 0 0), (1, .sl 2 (ks.map GKind.e)), (2, .sl 2 (l.map GComp.e)), (6, kI at_), (11, kI ks.length), (12, kI i), (36, .sl 3 (k.Fields.map GField.e)), (37, kI k.Fields.length), (38, kI y.1)], [some (wS y.2 2), none, some (wB y.2)], 2⟩)
            (fun y => y.1 ≤ k.Fields.length ∧ y.2.1.length ≤ 524288 ∧ wvals (k.Fields.drop y.1) (c.Vals.drop y.1) y.2 = wvals k.Fields c.Vals w1) (fun y => k.Fields.length - y.1) (0, w1) ?_ ?_ ?_
          · exact entm [0, 1, 3] (hB := by simp [wSt, imms_ren (hb _), imms_lt (hb _)])
          · simp [hl1]
          · rintro ⟨j, y⟩ ⟨hj, hy, hrun2⟩
            simp only at hj hy hrun2
            refine awp_go ?_
            by_cases hjl : j < k.Fields.length
            · have hjv : j < c.Vals.length := by omega
              obtain ⟨f, hfe⟩ : ∃ f, k.Fields[j] = f := ⟨_, rfl⟩
              obtain ⟨v, hve⟩ : ∃ v, c.Vals[j] = v := ⟨_, rfl⟩
              have hffv : fieldB f = true := hfe ▸ hff _ (List.getElem_mem hjl)
              have hr := hvr j hjl hjv
              rw [hfe, hve] at hr
              rw [List.drop_eq_getElem_cons hjl, List.drop_eq_getElem_cons hjv, hfe, hve, wvals] at hrun2
              have hw2 : IntKind.i64.wrap ((j : Int) + 1) = ((j + 1 : Nat) : Int) := wrap_id (by omega) (by omega)
              obtain ⟨hfb1, hfb2, _, _⟩ := field_in hffv
              have hyl : (wput y (v - f.Low) f.Bits).1.length ≤ 524288 := wput_le hy (by omega)
              by_cases h0 : y.2 = 0
              · simp [hjl, hfe, wSt, h0]
                refine awp_draw follows_mix [13] [(0, [0, 1]), (0, [0]), (0, [0]), (0, [0]), (0, [0]), (0, [0]), (0, [0]), (0, [0]), (0, [0]), (0, [0]), (0, [0]), (0, [0]), (0, [0]), (3, [0]), (0, [1]), (0, [1]), (1, [1])] 2 (by kernel_rfl) rfl ?_
                simp [hal2, hcc, GComp.e, hjv, hve]
                have e : wput y (v - f.Low) f.Bits = putM y.1 (v - f.Low) f.Bits := by simp [wput, h0]
                rw [e] at hrun2 hyl
                have hQ := QPut_fn y.1 f v 0 hffv hr.1 hr.2 hy
                obtain ⟨z, hz⟩ : ∃ z, putM y.1 (v - f.Low) f.Bits = z := ⟨_, rfl⟩
                rw [hz] at hQ hrun2 hyl
                refine gD_callW (kI z.2) [some (wSt z.1 0 4), none, none, some f.e, some ((packB z.1).map kU8)] ?_
                simp [hal2, hcc, GComp.e, hjv, hve, wSt, hw2]
                refine ⟨.inl ⟨rfl, doD [0, 2] hQ (hbox := by simp [wSt, imms_ren (hb _), imms_lt (hb _)]) (h2 := by simp [wSt, imms_ren (hb _)])⟩, ?_⟩
                exact ⟨j + 1, z.1, z.2, ⟨by omega, hyl, hrun2⟩, by omega, entm [0, 1, 4] (hB := by simp [wSt, imms_ren (hb _), imms_lt (hb _)])⟩
              · have e : wput y (v - f.Low) f.Bits = y := by simp [wput, h0]
                rw [e] at hrun2
                simp [hjl, hfe, wSt, h0, hw2]
                exact ⟨j + 1, y.1, y.2, ⟨by omega, hy, hrun2⟩, by omega, entm [0, 1, 2] (hB := by simp [wSt, imms_ren (hb _), imms_lt (hb _)])⟩
            · obtain rfl : j = k.Fields.length := by omega
              have e1 : k.Fields.drop k.Fields.length = [] := List.drop_length
              rw [e1] at hrun2
              simp [wvals] at hrun2
              have hw3 : IntKind.i64.wrap ((at_ : Int) + 1) = ((at_ + 1 : Nat) : Int) := wrap_id (by omega) (by omega)
              simp [wSt, hw1, hw3]
              exact ⟨i + 1, at_ + 1, y.1, y.2, ⟨by omega, by omega, hy, by rw [hrun2]; exact hrun⟩, by omega, entm [0, 1, 2] (hB := by simp [wSt, imms_ren (hb _), imms_lt (hb _)])⟩
        · rw [if_neg hck] at hrun
          simp [hlt, hal3, hal2, hcc, hck, wSt, GComp.e]
          refine calD [0, 2] (WPut_fn x 0 1 (by omega) (by omega) hx) ?_ (hbox := by simp [wSt, imms_ren (hb _), imms_lt (hb _)])
          simp [wSt, hw1, imms_ren (hb _), imms_lt (hb _)]
          exact ⟨i + 1, at_, (wput x 0 1).1, (wput x 0 1).2, ⟨by omega, by omega, wput_le hx (by omega), by rw [List.drop_eq_getElem_cons hal2, hcc]; exact hrun⟩, by omega, entm [0, 1, 3] (hB := by simp [wSt, imms_ren (hb _), imms_lt (hb _)])⟩
    · obtain rfl : i = ks.length := by omega
      rw [List.drop_length, wcomps] at hrun
      subst hrun
      simp [wSt]
      exact finGm [0, 1, 2] (hB := by simp [wSt, imms_ren (hb _), imms_lt (hb _)])
end Go.Proofs.Ytemlkbcfplkniaa.Am
/- Package save: the writer's kinds. -/
namespace Go.Proofs.Ytemlkbcfplkniaa.Am
open Go Go.RowKit

def wfield (w : WS) (f : GField) : WS := wnat (wput (wname w f.Name) (f.Bits - 1) 5) (zig f.Low)
def wkind (w : WS) (k : GKind) : WS := k.Fields.foldl wfield (wput (wname w k.Name) k.Fields.length 4)
def wkinds (w : WS) (ks : List GKind) : WS := ks.foldl wkind (wput w ks.length 5)
theorem wchars_le : ∀ {l : List UInt8} {w : WS}, w.1.length ≤ 524288 → (l.foldl wchar w).1.length ≤ 524288
  | [], _, h => h
  | c :: l, w, h => wchars_le (l := l) (wput_le h (by omega))
theorem wname_le {w : WS} {s : Str} (h : w.1.length ≤ 524288) : (wname w s).1.length ≤ 524288 := wchars_le (wput_le h (by omega))
theorem wfield_le {w : WS} {f : GField} (h : w.1.length ≤ 524288) : (wfield w f).1.length ≤ 524288 := wnat_le (wput_le (wname_le h) (by omega))
theorem wfields_le : ∀ {l : List GField} {w : WS}, w.1.length ≤ 524288 → (l.foldl wfield w).1.length ≤ 524288
  | [], _, h => h
  | c :: l, w, h => wfields_le (l := l) (wfield_le h)
theorem wkind_le {w : WS} {k : GKind} (h : w.1.length ≤ 524288) : (wkind w k).1.length ≤ 524288 := wfields_le (wput_le (wname_le h) (by omega))

set_option maxRecDepth 20000 in
set_option maxHeartbeats 2000000 in
theorem WKinds_fn (w : WS) (ks : List GKind) (hk : ks.length ≤ 16) (hn : ∀ k ∈ ks, k.Name.size ≤ 1000000) (hf : ∀ k ∈ ks, k.Fields.length ≤ 8 ∧ ∀ f ∈ k.Fields, fieldB f = true ∧ f.Name.size ≤ 1000000) (hl : w.1.length ≤ 524288) :
    FnD Try.prog 83 [.ptr 0 0, .sl 2 (ks.map GKind.e)] [wS w 1, wB w]
    (.tup []) [some (wS (wkinds w ks) 2), none, some (wB (wkinds w ks))] := by
  refine fng_of Try.func83 rfl (awp_ent (s' := ⟨62, [(0, .ptr 0 0), (1, .sl 2 (ks.map GKind.e))], [some (wS w 2), none, some (wB w)], 2⟩) (ent_w w) (awp_go ?_))
  have hb : ∀ bs : List Int, (bs.map kU8).all PV.immB = true := fun bs => by simp
  have hu : ∀ n : Nat, n ≤ 1000 → IntKind.u64.wrap (n : Int) = n := fun n h => by rw [wrapU]; omega
  simp [Try.ntmps83, hu ks.length (by omega)]
  refine calD [0, 2] (WPut_fn w ks.length 5 (by omega) (by omega) hl) ?_ (hbox := by simp [wSt, imms_ren (hb _), imms_lt (hb _)])
  have hl1 : (wput w ks.length 5).1.length ≤ 524288 := wput_le hl (by omega)
  obtain ⟨w1, hw1⟩ : ∃ w1, wput w ks.length 5 = w1 := ⟨_, rfl⟩
  rw [hw1] at hl1 ⊢
  simp [wSt, imms_ren (hb _), imms_lt (hb _)]
  refine awp_loop (fun x : Nat × WS => ⟨62, [(0, .ptr 0 0), (13, .sl 2 (ks.map GKind.e)), (14, kI ks.length), (15, kI x.1)], [some (wS x.2 2), none, some (wB x.2)], 2⟩)
    (fun x => x.1 ≤ ks.length ∧ x.2.1.length ≤ 524288 ∧ (ks.drop x.1).foldl wkind x.2 = wkinds w ks) (fun x => ks.length - x.1) (0, w1) ?_ ?_ ?_
  · exact entm [0, 1, 3] (hB := by simp [wSt, imms_ren (hb _), imms_lt (hb _)])
  · simp [wkinds, hw1, hl1]
  · rintro ⟨i, x⟩ ⟨hi, hx, hrun⟩
    simp only at hi hx hrun
    refine awp_go ?_
    by_cases hlt : i < ks.length
    · obtain ⟨k, hkk⟩ : ∃ k, ks[i] = k := ⟨_, rfl⟩
      have hkm : k ∈ ks := hkk ▸ List.getElem_mem hlt
      obtain ⟨hfl, hff⟩ := hf k hkm
      rw [List.drop_eq_getElem_cons hlt, hkk, List.foldl_cons] at hrun
      have hw1' : IntKind.i64.wrap ((i : Int) + 1) = ((i + 1 : Nat) : Int) := wrap_id (by omega) (by omega)
      simp [hlt, hkk, wSt, GKind.e]
      refine calD [0, 2] (WName_fn x k.Name (hn k hkm) hx) ?_ (hbox := by simp [wSt, imms_ren (hb _), imms_lt (hb _)])
      have hx1 : (wname x k.Name).1.length ≤ 524288 := wname_le hx
      obtain ⟨x1, hx1e⟩ : ∃ x1, wname x k.Name = x1 := ⟨_, rfl⟩
      rw [hx1e] at hx1 ⊢
      simp [wSt, hu k.Fields.length (by omega), imms_ren (hb _), imms_lt (hb _)]
      refine calD [0, 4] (WPut_fn x1 k.Fields.length 4 (by omega) (by omega) hx1) ?_ (hbox := by simp [wSt, imms_ren (hb _), imms_lt (hb _)])
      have hx2 : (wput x1 k.Fields.length 4).1.length ≤ 524288 := wput_le hx1 (by omega)
      have hkw : wkind x k = k.Fields.foldl wfield (wput x1 k.Fields.length 4) := by rw [← hx1e]; rfl
      obtain ⟨x2, hx2e⟩ : ∃ x2, wput x1 k.Fields.length 4 = x2 := ⟨_, rfl⟩
      rw [hx2e] at hx2 hkw ⊢
      simp [wSt, imms_ren (hb _), imms_lt (hb _)]
      refine awp_loop (fun y : Nat × WS => ⟨62, [(0, .ptr 0 0), (13, .sl 2 (ks.map GKind.e)), (14, kI ks.length), (15, kI i), (30, .sl 3 (k.Fields.map GField.e)), (31, kI k.Fields.length), (32, kI y.1)], [some (wS y.2 2), none, some (wB y.2)], 2⟩)
        (fun y => y.1 ≤ k.Fields.length ∧ y.2.1.length ≤ 524288 ∧ (k.Fields.drop y.1).foldl wfield y.2 = wkind x k) (fun y => k.Fields.length - y.1) (0, x2) ?_ ?_ ?_
      · exact entm [0, 1, 5] (hB := by simp [wSt, imms_ren (hb _), imms_lt (hb _)])
      · simp [hkw, hx2]
      · rintro ⟨j, y⟩ ⟨hj, hy, hrun2⟩
        simp only at hj hy hrun2
        refine awp_go ?_
        by_cases hjl : j < k.Fields.length
        · obtain ⟨f, hfe⟩ : ∃ f, k.Fields[j] = f := ⟨_, rfl⟩
          obtain ⟨hffv, hfn⟩ := hff f (hfe ▸ List.getElem_mem hjl)
          rw [List.drop_eq_getElem_cons hjl, hfe, List.foldl_cons] at hrun2
          obtain ⟨hfb1, hfb2, hfb3, hfb4⟩ := field_in hffv
          have hw2 : IntKind.i64.wrap ((j : Int) + 1) = ((j + 1 : Nat) : Int) := wrap_id (by omega) (by omega)
          have hw3 : IntKind.i64.wrap (f.Bits - 1) = f.Bits - 1 := wrap_id (by omega) (by omega)
          have hw4 : IntKind.u64.wrap (f.Bits - 1) = f.Bits - 1 := by rw [wrapU]; omega
          simp [hjl, hfe, wSt, GField.e]
          refine calD [0, 2] (WName_fn y f.Name hfn hy) ?_ (hbox := by simp [wSt, imms_ren (hb _), imms_lt (hb _)])
          have hy1 : (wname y f.Name).1.length ≤ 524288 := wname_le hy
          have hyf : wfield y f = wnat (wput (wname y f.Name) (f.Bits - 1) 5) (zig f.Low) := rfl
          obtain ⟨y1, hy1e⟩ : ∃ y1, wname y f.Name = y1 := ⟨_, rfl⟩
          rw [hy1e] at hy1 hyf ⊢
          simp [wSt, hw3, hw4, imms_ren (hb _), imms_lt (hb _)]
          refine calD [0, 4] (WPut_fn y1 (f.Bits - 1) 5 (by omega) (by omega) hy1) ?_ (hbox := by simp [wSt, imms_ren (hb _), imms_lt (hb _)])
          have hy2 : (wput y1 (f.Bits - 1) 5).1.length ≤ 524288 := wput_le hy1 (by omega)
          obtain ⟨y2, hy2e⟩ : ∃ y2, wput y1 (f.Bits - 1) 5 = y2 := ⟨_, rfl⟩
          rw [hy2e] at hy2 hyf ⊢
          simp [wSt, imms_ren (hb _), imms_lt (hb _)]
          by_cases h0 : y2.2 = 0
          · have e : wnat y2 (zig f.Low) = natM y2.1 (zig f.Low) := by simp [wnat, h0]
            rw [e] at hyf
            have hQ := WInt_fn y2.1 f.Low 0 (by omega) (by omega) hy2
            have hzl : (natM y2.1 (zig f.Low)).1.length ≤ 524288 := natM_le hy2
            obtain ⟨z, hz⟩ : ∃ z, natM y2.1 (zig f.Low) = z := ⟨_, rfl⟩
            rw [hz] at hQ hyf hzl
            rw [hyf] at hrun2
            simp [h0]
            refine awp_draw follows_mix [6] [(0, [0, 1]), (0, [0]), (0, [0]), (0, [0]), (0, [0]), (0, [0]), (3, [0]), (0, [1]), (0, [1]), (1, [1])] 2 (by kernel_rfl) rfl ?_
            simp
            refine gD_callW (kI z.2) [some (wSt z.1 0 6), none, none, some [kS f.Name, kI f.Bits, kI f.Low], none, none, some ((packB z.1).map kU8)] ?_
            simp [wSt, hw2]
            refine ⟨.inl ⟨rfl, doD [0, 5] hQ (hbox := by simp [wSt, imms_ren (hb _), imms_lt (hb _)]) (h2 := by simp [wSt, imms_ren (hb _)])⟩, ?_⟩
            exact ⟨j + 1, z.1, z.2, ⟨by omega, hzl, hrun2⟩, by omega, entm [0, 1, 6] (hB := by simp [wSt, imms_ren (hb _), imms_lt (hb _)])⟩
          · have e : wnat y2 (zig f.Low) = y2 := by simp [wnat, h0]
            rw [e] at hyf
            rw [hyf] at hrun2
            simp [h0, hw2]
            exact ⟨j + 1, y2.1, y2.2, ⟨by omega, hy2, hrun2⟩, by omega, entm [0, 1, 5] (hB := by simp [wSt, imms_ren (hb _), imms_lt (hb _)])⟩
        · obtain rfl : j = k.Fields.length := by omega
          rw [List.drop_length] at hrun2
          simp at hrun2
          simp [wSt, hw1']
          exact ⟨i + 1, y.1, y.2, ⟨by omega, hy, by rw [hrun2]; exact hrun⟩, by omega, entm [0, 1, 2] (hB := by simp [wSt, imms_ren (hb _), imms_lt (hb _)])⟩
    · obtain rfl : i = ks.length := by omega
      rw [List.drop_length] at hrun
      simp at hrun
      subst hrun
      simp [wSt]
      exact finGm [0, 1, 2] (hB := by simp [wSt, imms_ren (hb _), imms_lt (hb _)])
end Go.Proofs.Ytemlkbcfplkniaa.Am
/- Package save: the writer's items. -/
namespace Go.Proofs.Ytemlkbcfplkniaa.Am
open Go Go.RowKit

def witems (ks : List GKind) : Nat → List Int → List GItem → WS → WS
  | _, [], _, w => w
  | n, g :: gs, [], w => witems ks (n + 1) gs [] (wput (wnat w g.toNat) 0 1)
  | n, g :: gs, it :: r, w => if it.Ent.N = n then witems ks (n + 1) gs r (wcomps 0 ks it.Comps (wput (wnat w g.toNat) 1 1)) else witems ks (n + 1) gs (it :: r) (wput (wnat w g.toNat) 0 1)

theorem wcomps_le : ∀ {ks : List GKind} {i : Nat} {l : List GComp} {w : WS}, (∀ k ∈ ks, ∀ f ∈ k.Fields, fieldB f = true) → w.1.length ≤ 524288 → (wcomps i ks l w).1.length ≤ 524288
  | [], _, _, _, _, h => by simpa [wcomps] using h
  | k :: r, i, [], w, hf, h => by
    rw [wcomps]
    exact wcomps_le (fun k hk => hf k (by simp [hk])) (wput_le h (by omega))
  | k :: r, i, c :: l, w, hf, h => by
    rw [wcomps]
    split
    · exact wcomps_le (fun k hk => hf k (by simp [hk])) (wvals_le (hf k (by simp)) (wput_le h (by omega)))
    · exact wcomps_le (fun k hk => hf k (by simp [hk])) (wput_le h (by omega))

set_option maxRecDepth 20000 in
set_option maxHeartbeats 2000000 in
theorem WItems_fn (w : WS) (W : GWorld) (hk : W.Kinds.length ≤ 16) (hf : ∀ k ∈ W.Kinds, k.Fields.length ≤ 8 ∧ ∀ f ∈ k.Fields, fieldB f = true) (hg : W.Gens.length ≤ 256) (hgv : ∀ g ∈ W.Gens, 0 ≤ g ∧ g ≤ 1073741824)
    (hh : ∀ it ∈ W.Items, heldGo W.Kinds (-1) it.Comps = true) (hil : W.Items.length ≤ 256) (hl : w.1.length ≤ 524288) :
    FnD Try.prog 84 [.ptr 0 0, .agg W.e] [wS w 1, wB w]
    (.tup []) [some (wS (witems W.Kinds 0 W.Gens W.Items (wput w W.Gens.length 9)) 2), none, some (wB (witems W.Kinds 0 W.Gens W.Items (wput w W.Gens.length 9)))] := by
  obtain ⟨ks, gs, its⟩ := W
  simp only at hk hf hg hgv hh hil ⊢
  refine fng_of Try.func84 rfl (awp_ent (s' := ⟨68, [(0, .ptr 0 0), (1, .agg (GWorld.mk ks gs its).e)], [some (wS w 2), none, some (wB w)], 2⟩) (ent_w w) (awp_go ?_))
  have hb : ∀ bs : List Int, (bs.map kU8).all PV.immB = true := fun bs => by simp
  have hu : ∀ n : Nat, n ≤ 1000 → IntKind.u64.wrap (n : Int) = n := fun n h => by rw [wrapU]; omega
  simp [Try.ntmps84, GWorld.e, hu gs.length (by omega)]
  refine calD [0, 2] (WPut_fn w gs.length 9 (by omega) (by omega) hl) ?_ (hbox := by simp [wSt, imms_ren (hb _), imms_lt (hb _)])
  have hl1 : (wput w gs.length 9).1.length ≤ 524288 := wput_le hl (by omega)
  obtain ⟨w1, hw1⟩ : ∃ w1, wput w gs.length 9 = w1 := ⟨_, rfl⟩
  rw [hw1] at hl1 ⊢
  simp [wSt, imms_ren (hb _), imms_lt (hb _)]
  refine awp_loop (fun x : Nat × Nat × WS => ⟨68, [(0, .ptr 0 0), (3, .ptr 3 0), (4, kI x.2.1), (14, slI gs), (15, kI gs.length), (16, kI x.1)], [some (wS x.2.2 2), none, some (wB x.2.2), some [.sl 2 (ks.map GKind.e), slI gs, .sl 3 (its.map GItem.e)]], 2⟩)
    (fun x => x.1 ≤ gs.length ∧ x.2.1 ≤ its.length ∧ x.2.2.1.length ≤ 524288 ∧ witems ks x.1 (gs.drop x.1) (its.drop x.2.1) x.2.2 = witems ks 0 gs its w1) (fun x => gs.length - x.1) (0, 0, w1) ?_ ?_ ?_
  · exact entm [0, 1, 4, 3] (hB := by simp [wSt, imms_ren (hb _), imms_lt (hb _)])
  · simp [hl1]
  · rintro ⟨i, at_, x⟩ ⟨hi, hat, hx, hrun⟩
    simp only at hi hat hx hrun
    refine awp_go ?_
    by_cases hlt : i < gs.length
    · obtain ⟨g, hge⟩ : ∃ g, gs[i] = g := ⟨_, rfl⟩
      obtain ⟨hg1, hg2⟩ := hgv g (hge ▸ List.getElem_mem hlt)
      obtain ⟨m, rfl⟩ : ∃ m : Nat, g = m := ⟨g.toNat, by omega⟩
      rw [List.drop_eq_getElem_cons hlt, hge] at hrun
      have hwi : IntKind.i64.wrap ((i : Int) + 1) = ((i + 1 : Nat) : Int) := wrap_id (by omega) (by omega)
      have hug : IntKind.u64.wrap (m : Int) = m := by rw [wrapU]; omega
      have hxn : (wnat x m).1.length ≤ 524288 := wnat_le hx
      by_cases h0 : x.2 = 0
      · have e : wnat x m = natM x.1 m := by simp [wnat, h0]
        have hQ := Nat_fn x.1 m 0 (by omega) hx
        rw [e] at hxn
        obtain ⟨z, hz⟩ : ∃ z, natM x.1 m = z := ⟨_, rfl⟩
        rw [hz] at hQ hxn e
        simp [hlt, hge, wSt, h0, hug]
        refine calD [0, 2] hQ ?_ (hbox := by simp [wSt, imms_ren (hb _), imms_lt (hb _)])
        by_cases hal : at_ < its.length
        · obtain ⟨it, hite⟩ : ∃ it, its[at_] = it := ⟨_, rfl⟩
          have hitm : it ∈ its := hite ▸ List.getElem_mem hal
          rw [List.drop_eq_getElem_cons hal, hite, witems] at hrun
          simp only [Int.toNat_natCast, e] at hrun
          have hw3 : IntKind.i64.wrap ((at_ : Int) + 1) = ((at_ + 1 : Nat) : Int) := wrap_id (by omega) (by omega)
          by_cases hN : it.Ent.N = i
          · rw [if_pos hN] at hrun
            simp [wSt, hal, hite, GItem.e, hN, imms_ren (hb _), imms_lt (hb _)]
            refine calD [0, 4] (WPut_fn z 1 1 (by omega) (by omega) hxn) ?_ (hbox := by simp [wSt, imms_ren (hb _), imms_lt (hb _)])
            have hz1 : (wput z 1 1).1.length ≤ 524288 := wput_le hxn (by omega)
            obtain ⟨z1, hz1e⟩ : ∃ z1, wput z 1 1 = z1 := ⟨_, rfl⟩
            rw [hz1e] at hz1 hrun ⊢
            simp [wSt, imms_ren (hb _), imms_lt (hb _)]
            have hC := WComps_fn z1 ks it.Comps hk hf (hh it hitm) hz1
            have hz2 : (wcomps 0 ks it.Comps z1).1.length ≤ 524288 := wcomps_le (fun k hkm f hfm => (hf k hkm).2 f hfm) hz1
            obtain ⟨z2, hz2e⟩ : ∃ z2, wcomps 0 ks it.Comps z1 = z2 := ⟨_, rfl⟩
            rw [hz2e] at hC hz2 hrun
            refine awp_draw follows_mix [9] [(0, [0]), (0, [0]), (0, [0]), (0, [0]), (0, [0]), (0, [0]), (0, [0]), (0, [0]), (0, [0]), (3, [0])] 1 (by kernel_rfl) rfl ?_
            simp [hal, hite, GItem.e]
            refine gD_callW (.tup []) [some (wSt z2.1 z2.2 6), none, none, some [.sl 2 (ks.map GKind.e), slI gs, .sl 3 (its.map GItem.e)], none, none, some ((packB z2.1).map kU8)] ?_
            simp [wSt, hwi, hw3, hal, hite, GItem.e]
            refine ⟨.inl ⟨rfl, doD [0, 5] hC (hbox := by simp [wSt, imms_ren (hb _), imms_lt (hb _)]) (h2 := by simp [wSt, imms_ren (hb _)])⟩, ?_⟩
            exact ⟨i + 1, at_ + 1, z2.1, z2.2, ⟨by omega, by omega, hz2, hrun⟩, by omega, entm [0, 1, 6, 3] (hB := by simp [wSt, imms_ren (hb _), imms_lt (hb _)])⟩
          · rw [if_neg hN] at hrun
            simp [wSt, hal, hite, GItem.e, hN, imms_ren (hb _), imms_lt (hb _)]
            refine calD [0, 4] (WPut_fn z 0 1 (by omega) (by omega) hxn) ?_ (hbox := by simp [wSt, imms_ren (hb _), imms_lt (hb _)])
            have hz1 : (wput z 0 1).1.length ≤ 524288 := wput_le hxn (by omega)
            obtain ⟨z1, hz1e⟩ : ∃ z1, wput z 0 1 = z1 := ⟨_, rfl⟩
            rw [hz1e] at hz1 hrun ⊢
            simp [wSt, hwi, imms_ren (hb _), imms_lt (hb _)]
            exact ⟨i + 1, at_, z1.1, z1.2, ⟨by omega, by omega, hz1, by rw [List.drop_eq_getElem_cons hal, hite]; exact hrun⟩, by omega, entm [0, 1, 5, 3] (hB := by simp [wSt, imms_ren (hb _), imms_lt (hb _)])⟩
        · obtain rfl : at_ = its.length := by omega
          rw [List.drop_length, witems] at hrun
          simp only [Int.toNat_natCast, e] at hrun
          simp [wSt, imms_ren (hb _), imms_lt (hb _)]
          refine calD [0, 4] (WPut_fn z 0 1 (by omega) (by omega) hxn) ?_ (hbox := by simp [wSt, imms_ren (hb _), imms_lt (hb _)])
          have hz1 : (wput z 0 1).1.length ≤ 524288 := wput_le hxn (by omega)
          obtain ⟨z1, hz1e⟩ : ∃ z1, wput z 0 1 = z1 := ⟨_, rfl⟩
          rw [hz1e] at hz1 hrun ⊢
          simp [wSt, hwi, imms_ren (hb _), imms_lt (hb _)]
          exact ⟨i + 1, its.length, z1.1, z1.2, ⟨by omega, by omega, hz1, by rw [List.drop_length]; exact hrun⟩, by omega, entm [0, 1, 5, 3] (hB := by simp [wSt, imms_ren (hb _), imms_lt (hb _)])⟩
      · have e : wnat x m = x := by simp [wnat, h0]
        by_cases hal : at_ < its.length
        · obtain ⟨it, hite⟩ : ∃ it, its[at_] = it := ⟨_, rfl⟩
          have hitm : it ∈ its := hite ▸ List.getElem_mem hal
          rw [List.drop_eq_getElem_cons hal, hite, witems] at hrun
          simp only [Int.toNat_natCast, e] at hrun
          have hw3 : IntKind.i64.wrap ((at_ : Int) + 1) = ((at_ + 1 : Nat) : Int) := wrap_id (by omega) (by omega)
          by_cases hN : it.Ent.N = i
          · rw [if_pos hN] at hrun
            simp [hlt, hge, wSt, h0, hug, hal, hite, GItem.e, hN, imms_ren (hb _), imms_lt (hb _)]
            refine calD [0, 2] (WPut_fn x 1 1 (by omega) (by omega) hx) ?_ (hbox := by simp [wSt, imms_ren (hb _), imms_lt (hb _)])
            have hz1 : (wput x 1 1).1.length ≤ 524288 := wput_le hx (by omega)
            obtain ⟨z1, hz1e⟩ : ∃ z1, wput x 1 1 = z1 := ⟨_, rfl⟩
            rw [hz1e] at hz1 hrun ⊢
            simp [wSt, imms_ren (hb _), imms_lt (hb _)]
            have hC := WComps_fn z1 ks it.Comps hk hf (hh it hitm) hz1
            have hz2 : (wcomps 0 ks it.Comps z1).1.length ≤ 524288 := wcomps_le (fun k hkm f hfm => (hf k hkm).2 f hfm) hz1
            obtain ⟨z2, hz2e⟩ : ∃ z2, wcomps 0 ks it.Comps z1 = z2 := ⟨_, rfl⟩
            rw [hz2e] at hC hz2 hrun
            refine awp_draw follows_mix [9] [(0, [0]), (0, [0]), (0, [0]), (0, [0]), (0, [0]), (0, [0]), (0, [0]), (0, [0]), (0, [0]), (3, [0])] 1 (by kernel_rfl) rfl ?_
            simp [hal, hite, GItem.e]
            refine gD_callW (.tup []) [some (wSt z2.1 z2.2 5), none, none, some [.sl 2 (ks.map GKind.e), slI gs, .sl 3 (its.map GItem.e)], none, some ((packB z2.1).map kU8)] ?_
            simp [wSt, hwi, hw3, hal, hite, GItem.e]
            refine ⟨.inl ⟨rfl, doD [0, 4] hC (hbox := by simp [wSt, imms_ren (hb _), imms_lt (hb _)]) (h2 := by simp [wSt, imms_ren (hb _)])⟩, ?_⟩
            exact ⟨i + 1, at_ + 1, z2.1, z2.2, ⟨by omega, by omega, hz2, hrun⟩, by omega, entm [0, 1, 5, 3] (hB := by simp [wSt, imms_ren (hb _), imms_lt (hb _)])⟩
          · rw [if_neg hN] at hrun
            simp [hlt, hge, wSt, h0, hug, hal, hite, GItem.e, hN, imms_ren (hb _), imms_lt (hb _)]
            refine calD [0, 2] (WPut_fn x 0 1 (by omega) (by omega) hx) ?_ (hbox := by simp [wSt, imms_ren (hb _), imms_lt (hb _)])
            have hz1 : (wput x 0 1).1.length ≤ 524288 := wput_le hx (by omega)
            obtain ⟨z1, hz1e⟩ : ∃ z1, wput x 0 1 = z1 := ⟨_, rfl⟩
            rw [hz1e] at hz1 hrun ⊢
            simp [wSt, hwi, imms_ren (hb _), imms_lt (hb _)]
            exact ⟨i + 1, at_, z1.1, z1.2, ⟨by omega, by omega, hz1, by rw [List.drop_eq_getElem_cons hal, hite]; exact hrun⟩, by omega, entm [0, 1, 4, 3] (hB := by simp [wSt, imms_ren (hb _), imms_lt (hb _)])⟩
        · obtain rfl : at_ = its.length := by omega
          rw [List.drop_length, witems] at hrun
          simp only [Int.toNat_natCast, e] at hrun
          simp [hlt, hge, wSt, h0, hug, imms_ren (hb _), imms_lt (hb _)]
          refine calD [0, 2] (WPut_fn x 0 1 (by omega) (by omega) hx) ?_ (hbox := by simp [wSt, imms_ren (hb _), imms_lt (hb _)])
          have hz1 : (wput x 0 1).1.length ≤ 524288 := wput_le hx (by omega)
          obtain ⟨z1, hz1e⟩ : ∃ z1, wput x 0 1 = z1 := ⟨_, rfl⟩
          rw [hz1e] at hz1 hrun ⊢
          simp [wSt, hwi, imms_ren (hb _), imms_lt (hb _)]
          exact ⟨i + 1, its.length, z1.1, z1.2, ⟨by omega, by omega, hz1, by rw [List.drop_length]; exact hrun⟩, by omega, entm [0, 1, 4, 3] (hB := by simp [wSt, imms_ren (hb _), imms_lt (hb _)])⟩
    · obtain rfl : i = gs.length := by omega
      rw [List.drop_length, witems] at hrun
      subst hrun
      simp [wSt]
      exact finGm [0, 1, 2] (hB := by simp [wSt, imms_ren (hb _), imms_lt (hb _)])
end Go.Proofs.Ytemlkbcfplkniaa.Am
/- Package sum: digests of bytes. -/
namespace Go.Proofs.Ytemlkbcfplkniaa.Am
open Go Go.RowKit

/-- Bytes as a number, the lowest one first. -/
def leW : List Int → Int
  | [] => 0
  | c :: r => c + 256 * leW r
def digGo : Nat → Int → List Int → Int
  | 0, d, _ => d
  | k + 1, d, l => if l = [] then d else digGo k (joinM d (leW (l.take 8))) (l.drop 8)
def digB (l : List Int) : Int := digGo l.length (joinM 11170449401992604703 l.length) l
def BytesOk (l : List Int) : Prop := ∀ c ∈ l, 0 ≤ c ∧ c < 256
theorem leW_lt : ∀ {l : List Int}, BytesOk l → 0 ≤ leW l ∧ leW l < 256 ^ l.length
  | [], _ => by simp [leW]
  | c :: r, h => by
    have h1 := h c (by simp)
    have h2 := leW_lt (l := r) fun x hx => h x (by simp [hx])
    rw [leW, List.length_cons, Int.pow_succ]
    omega
theorem leW_snoc : ∀ (l : List Int) (c : Int), leW (l ++ [c]) = leW l + c * 256 ^ l.length
  | [], c => by simp [leW]
  | x :: l, c => by
    rw [List.cons_append, leW, leW_snoc l c, leW, List.length_cons, Int.pow_succ]
    rw [Int.mul_add, Int.add_assoc]
    congr 2
    rw [Int.mul_left_comm, Int.mul_comm 256]
theorem digGo_nil (k : Nat) (d : Int) : digGo k d [] = d := by cases k <;> simp [digGo]

/-- More fuel than there are bytes makes no difference. -/
theorem digGo_mono : ∀ (m k : Nat) (l : List Int), l.length ≤ m → l.length ≤ k → ∀ d, digGo m d l = digGo k d l
  | 0, k, l, h, _, d => by
    obtain rfl : l = [] := List.length_eq_zero_iff.1 (by omega)
    rw [digGo_nil, digGo_nil]
  | m + 1, 0, l, _, h, d => by
    obtain rfl : l = [] := List.length_eq_zero_iff.1 (by omega)
    rw [digGo_nil, digGo_nil]
  | m + 1, k + 1, l, h1, h2, d => by
    rw [digGo, digGo]
    split
    · rfl
    · exact digGo_mono m k (l.drop 8) (by simp; have := List.length_pos_iff.2 ‹¬ l = []›; omega) (by simp; have := List.length_pos_iff.2 ‹¬ l = []›; omega) _

theorem or_word (x c : Int) (i : Nat) (hi : i < 8) (hx : 0 ≤ x) (hx2 : x < 256 ^ i) (hc : 0 ≤ c) (hc2 : c < 256) :
    IntKind.u64.wrap ↑((x % 2 ^ IntKind.u64.bits).toNat ||| (IntKind.u64.wrap (c * 2 ^ min (8 * i) IntKind.u64.bits) % 2 ^ IntKind.u64.bits).toNat) = x + c * 256 ^ i := by
  have e1 : min (8 * i) IntKind.u64.bits = 8 * i := Nat.min_eq_left (by show 8 * i ≤ 64; omega)
  have e2 : (2 : Int) ^ IntKind.u64.bits = 18446744073709551616 := by decide
  have e3 : (2 : Int) ^ (8 * i) = 256 ^ i := by rw [Int.pow_mul]; rfl
  obtain ⟨xn, rfl⟩ := Int.eq_ofNat_of_zero_le hx
  obtain ⟨cn, rfl⟩ := Int.eq_ofNat_of_zero_le hc
  have hx3 : xn < 2 ^ (8 * i) := by
    have : ((xn : Nat) : Int) < ((2 ^ (8 * i) : Nat) : Int) := by rw [Int.natCast_pow]; rw [e3.symm] at hx2; exact hx2
    omega
  have hp : (2 : Nat) ^ (8 * i) * 256 ≤ 2 ^ 64 := by
    have : (2 : Nat) ^ (8 * i) * 256 = 2 ^ (8 * i + 8) := by rw [Nat.pow_add]
    rw [this]; exact Nat.pow_le_pow_right (by decide) (by omega)
  have hcn : cn < 256 := by omega
  have hcp : cn * 2 ^ (8 * i) + 2 ^ (8 * i) ≤ 2 ^ 64 := by
    have : (cn + 1) * 2 ^ (8 * i) ≤ 256 * 2 ^ (8 * i) := Nat.mul_le_mul_right _ (by omega)
    rw [Nat.add_mul] at this
    omega
  have hcast : ((cn : Int) * 256 ^ i) = ((cn * 2 ^ (8 * i) : Nat) : Int) := by rw [← e3]; push_cast; rfl
  rw [e1, e2, e3, hcast]
  have hor := Nat.two_pow_add_eq_or_of_lt hx3 cn
  rw [Nat.mul_comm] at hor
  obtain ⟨q, hq⟩ : ∃ q, cn * 2 ^ (8 * i) = q := ⟨_, rfl⟩
  obtain ⟨p2, hp2⟩ : ∃ p2, 2 ^ (8 * i) = p2 := ⟨_, rfl⟩
  rw [hq] at hcp hor ⊢
  rw [hp2] at hcp hx3
  simp only [wrapU]
  have a1 : ((xn : Int) % 18446744073709551616).toNat = xn := by omega
  have a2 : ((q : Int) % 18446744073709551616 % 18446744073709551616).toNat = q := by omega
  rw [a1, a2, Nat.or_comm, ← hor]
  omega

set_option maxRecDepth 20000 in
set_option maxHeartbeats 1000000 in
theorem SumBytes_fn (l : List Int) (hl : l.length ≤ 1000000) (hb : BytesOk l) : Fn Try.prog 90 [slB l] (kU (digB l)) := by
  refine fn_go Try.func90 rfl ?_
  have hu : IntKind.u64.wrap (l.length : Int) = l.length := by rw [wrapU]; omega
  simp [Try.ntmps90, hu]
  refine cal (Join_fn 11170449401992604703 l.length) ?_
  simp
  refine awp_loop (fun x : List Int × Int => ⟨42, [(0, slB x.1), (3, kU x.2)], [], 0⟩) (fun x => x.1.length ≤ 1000000 ∧ BytesOk x.1 ∧ digGo x.1.length x.2 x.1 = digB l) (fun x => x.1.length) (l, joinM 11170449401992604703 l.length) ?_ ?_ ?_
  · exact entm []
  · exact ⟨hl, hb, rfl⟩
  · rintro ⟨r, d⟩ ⟨hr, hrb, hrun⟩
    simp only at hr hrb hrun
    refine awp_go ?_
    by_cases hnil : r = []
    · subst hnil
      simp [digGo] at hrun
      subst hrun
      simp
      exact finm
    · have hpos : 0 < r.length := List.length_pos_iff.2 hnil
      have hpos' : 0 < (r.length : Int) := by omega
      obtain ⟨n, hn, hn1, hn2, hn3⟩ : ∃ n : Nat, (if 8 < (r.length : Int) then (8 : Int) else r.length) = n ∧ n ≤ r.length ∧ n ≤ 8 ∧ (r.take 8 = r.take n ∧ r.drop 8 = r.drop n ∧ 0 < n) := by
        by_cases h8 : 8 < r.length
        · exact ⟨8, by rw [if_pos (by omega)]; rfl, by omega, by omega, rfl, rfl, by omega⟩
        · exact ⟨r.length, by rw [if_neg (by omega)], by omega, by omega, by rw [List.take_of_length_le (by omega), List.take_length], by rw [List.drop_of_length_le (by omega), List.drop_length], hpos⟩
      have hn4 : (n : Int) ≤ r.length := by omega
      obtain ⟨k, hk⟩ : ∃ k, r.length = k + 1 := ⟨r.length - 1, by omega⟩
      rw [hk, digGo, if_neg hnil, hn3.1, hn3.2.1] at hrun
      simp [hpos, hn, hn4]
      rw [← List.map_take, Nat.min_eq_left hn1]
      obtain ⟨q, hq⟩ : ∃ q, r.take n = q := ⟨_, rfl⟩
      have hql : q.length = n := by rw [← hq]; simp; omega
      have hqb : BytesOk q := fun c hc => hrb c (List.mem_of_mem_take (hq ▸ hc))
      rw [hq] at hrun ⊢
      refine awp_loop (fun j : Nat => ⟨42, [(0, slB r), (3, kU d), (4, kU (leW (q.take j))), (18, slB q), (19, kI n), (20, kI j)], [], 0⟩) (fun j => j ≤ n) (fun j => n - j) 0 ?_ ?_ ?_
      · exact entm [] (hT := by simp [leW])
      · simp
      · intro j hj
        refine awp_go ?_
        by_cases hjl : j < n
        · have hjq : j < q.length := by omega
          obtain ⟨c, hc⟩ : ∃ c, q[j] = c := ⟨_, rfl⟩
          obtain ⟨hc1, hc2⟩ := hqb c (hc ▸ List.getElem_mem hjq)
          have htk : q.take (j + 1) = q.take j ++ [c] := by rw [List.take_add_one, List.getElem?_eq_getElem hjq, hc]; rfl
          have hls := leW_snoc (q.take j) c
          have hlt := leW_lt (l := q.take j) fun x hx => hqb x (List.mem_of_mem_take hx)
          have htl : (q.take j).length = j := by simp; omega
          rw [htl] at hls hlt
          have hor := or_word (leW (q.take j)) c j (by omega) hlt.1 hlt.2 hc1 hc2
          have hw1 : IntKind.i64.wrap (8 * (j : Int)) = ((8 * j : Nat) : Int) := by rw [wrap_id (by omega) (by omega)]; omega
          have hw2 : IntKind.i64.wrap ((j : Int) + 1) = ((j + 1 : Nat) : Int) := wrap_id (by omega) (by omega)
          have hw3 : IntKind.u64.wrap c = c := by rw [wrapU]; omega
          have hw4 : ¬ 8 * (j : Int) < 0 := by omega
          have hw5 : (8 * (j : Int)).toNat = 8 * j := by omega
          simp [hjl, hjq, hc, hw1, hw2, hw3, hw4, hw5]
          rw [hor]
          exact ⟨j + 1, by omega, by omega, entm [] (hT := by simp [htk, hls])⟩
        · obtain rfl : j = n := by omega
          have htq : q.take j = q := List.take_of_length_le (by omega)
          rw [htq]
          simp
          refine awp_drawS follows_mix [(0, 0), (0, 0), (2, 0), (0, 0), (0, 0), (0, 0), (0, 0), (0, 0), (0, 0), (0, 0)] 0 0 [] (by kernel_rfl) rfl rfl ?_
          simp [hn, hn4]
          refine gE_call (kU (joinM d (leW q))) ?_ ?_
          · simp
            exact calO (Join_fn d (leW q))
          have htr : List.take r.length (r.map fun n => [PV.k (.int .u8 n)]) = r.map fun n => [PV.k (.int .u8 n)] := List.take_of_length_le (by simp)
          simp [hn, hn4, htr]
          have hdl : (r.drop j).length = k + 1 - j := by rw [List.length_drop, hk]
          refine ⟨r.drop j, joinM d (leW q), ⟨by omega, fun c hc => hrb c (List.mem_of_mem_drop hc), ?_⟩, by omega, entm [] (hT := by simp)⟩
          rw [hdl, ← hrun]
          exact digGo_mono _ _ _ (by omega) (by omega) _
end Go.Proofs.Ytemlkbcfplkniaa.Am
/- Package save: seal, Write. -/
namespace Go.Proofs.Ytemlkbcfplkniaa.Am
open Go Go.RowKit

theorem chunks_b (l : List Int) : chunks 1 (l.map kU8) l.length = l.map fun n => [kU8 n] := by
  have := chunks_map (f := fun n : Int => [kU8 n]) (z := 1) (fun _ => rfl) l
  rwa [flatB] at this

def tail8 (d : Int) (m : Nat) : List Int := (List.range m).map fun i => d / 256 ^ i % 256
def sealB (l : List Int) : List Int := l ++ tail8 (digB l) 8
theorem joinM_nn (a b : Int) : 0 ≤ joinM a b := by
  unfold joinM mixM mixA
  rw [wrapU]; omega
theorem digGo_nn : ∀ (k : Nat) (d : Int) (l : List Int), 0 ≤ d → 0 ≤ digGo k d l
  | 0, _, _, h => h
  | k + 1, d, l, h => by
    rw [digGo]
    split
    · exact h
    · exact digGo_nn k _ _ (joinM_nn _ _)
theorem digB_nn (l : List Int) : 0 ≤ digB l := digGo_nn _ _ _ (joinM_nn _ _)

set_option maxRecDepth 20000 in
set_option maxHeartbeats 1000000 in
theorem Seal_fn (l : List Int) (hl : l.length ≤ 100000) (hb : BytesOk l) : FnD Try.prog 78 [.osl 0 1 0 l.length] [l.map kU8] (.osl 1 1 0 (sealB l).length) [none, some ((sealB l).map kU8)] := by
  have him : ∀ bs : List Int, (bs.map kU8).all PV.immB = true := fun bs => by simp
  refine fng_of Try.func78 rfl (awp_ent (s' := ⟨20, [(0, .osl 1 1 0 l.length)], [none, some (l.map kU8)], 1⟩)
    ((ent_mb 0 (l.map kU8)).trans (entm [0, 1] (hB := by simp [imms_ren (him _), imms_lt (him _)]))) (awp_go ?_))
  simp [Try.ntmps78]
  refine calS (SumBytes_fn l (by omega) hb) ?_ (hren := by simp [chunks_b])
  have hd0 := digB_nn l
  have hse : sealB l = l ++ tail8 (digB l) 8 := rfl
  obtain ⟨d, hd⟩ : ∃ d, digB l = d := ⟨_, rfl⟩
  rw [hd] at hd0 hse ⊢
  simp
  refine awp_loop (fun i : Nat => ⟨20, [(0, .osl 1 1 0 (l.length + i)), (3, kU d), (7, kI i)], [none, some ((l ++ tail8 d i).map kU8)], 1⟩) (fun i => i ≤ 8) (fun i => 8 - i) 0 ?_ ?_ ?_
  · exact entm [0, 1] (hB := by simp [tail8, imms_ren (him _), imms_lt (him _)])
  · simp
  · intro i hi
    refine awp_go ?_
    by_cases hlt : i < 8
    · have hw1 : IntKind.i64.wrap (8 * (i : Int)) = ((8 * i : Nat) : Int) := by rw [wrap_id (by omega) (by omega)]; omega
      have hw2 : IntKind.i64.wrap ((i : Int) + 1) = ((i + 1 : Nat) : Int) := wrap_id (by omega) (by omega)
      have hw4 : ¬ 8 * (i : Int) < 0 := by omega
      have hlt' : (i : Int) < 8 := by omega
      have hb1 : l.length + i + 1 ≤ 140737488355328 := by omega
      have hb2 : l.length + i + 1 ≤ maxLen := by simp only [maxLen]; omega
      have htl : (tail8 d i).length = i := by simp [tail8]
      simp [hlt, hlt', hw1, hw2, hw4, hb1, hb2, htl]
      have hby : IntKind.u8.wrap (d.fdiv (2 ^ min (8 * (i : Int)).toNat IntKind.u64.bits)) = d / 256 ^ i % 256 := by
        have e1 : min (8 * (i : Int)).toNat IntKind.u64.bits = 8 * i := by
          have : IntKind.u64.bits = 64 := rfl
          omega
        rw [e1, Int.fdiv_eq_ediv_of_nonneg _ (by exact Int.pow_nonneg (by omega)), IntKind.wrap_u8, Int.pow_mul]; rfl
      rw [hby]
      have hsn : tail8 d (i + 1) = tail8 d i ++ [d / 256 ^ i % 256] := by simp [tail8, List.range_succ]
      exact ⟨i + 1, by omega, by omega, entm [0, 3] (hT := by simp; omega) (hB := by simp [hsn, imms_ren (him _), imms_lt (him _)])⟩
    · obtain rfl : i = 8 := by omega
      simp
      have h8 : l.length + 8 = (sealB l).length := by simp [sealB, tail8]
      rw [h8]
      exact finGm [0, 1] (hB := by simp [hse, imms_ren (him _), imms_lt (him _)])

def writeW (W : GWorld) : WS := witems W.Kinds 0 W.Gens W.Items (wput (wkinds (wput ([], 0) 1 8) W.Kinds) W.Gens.length 9)
def writeM (W : GWorld) : List Int × Int :=
  if checkW W ≠ 0 then ([], checkW W) else if (writeW W).2 ≠ 0 ∨ 65536 < (packB (writeW W).1).length + 8 then ([], 2) else (sealB (packB (writeW W).1), 0)

theorem pack_ok (bl : List Bool) : BytesOk (packB bl) := fun c hc => by
  unfold packB bytesTo at hc
  obtain ⟨i, _, rfl⟩ := List.mem_map.1 hc
  have := byteAt_lt bl i
  omega
theorem wkinds_le {l : List GKind} : ∀ {w : WS}, w.1.length ≤ 524288 → (l.foldl wkind w).1.length ≤ 524288 := by
  induction l with
  | nil => exact fun h => h
  | cons k l ih => exact fun h => ih (wkind_le h)
theorem witems_le {ks : List GKind} (hf : ∀ k ∈ ks, ∀ f ∈ k.Fields, fieldB f = true) : ∀ {gs : List Int} {n : Nat} {its : List GItem} {w : WS}, w.1.length ≤ 524288 → (witems ks n gs its w).1.length ≤ 524288
  | [], n, its, w, h => by simpa [witems] using h
  | g :: gs, n, [], w, h => by
    rw [witems]; exact witems_le hf (wput_le (wnat_le h) (by omega))
  | g :: gs, n, it :: r, w, h => by
    rw [witems]
    split
    · exact witems_le hf (wcomps_le hf (wput_le (wnat_le h) (by omega)))
    · exact witems_le hf (wput_le (wnat_le h) (by omega))

set_option maxRecDepth 20000 in
set_option maxHeartbeats 1000000 in
theorem Write_fn (W : GWorld) (hfi : Fine W) (hvl : ∀ it ∈ W.Items, ∀ c ∈ it.Comps, c.Vals.length ≤ 1000) : Fn Try.prog 32 [.agg W.e] (.tup [slB (writeM W).1, kI (writeM W).2]) := by
  have him : ∀ bs : List Int, (bs.map kU8).all PV.immB = true := fun bs => by simp
  refine fn_go Try.func32 rfl ?_
  simp [Try.ntmps32]
  refine cal (WCheck_fn W hfi hvl) ?_
  by_cases hc : checkW W = 0
  · obtain ⟨hfi2, hcc⟩ := checkW_fine hc
    obtain ⟨ce, cg, ci, cn, cit⟩ := checkW_iff.1 hc
    obtain ⟨ce1, ce2⟩ := checkE_le ce
    have hone := checkE_one ce
    have hgv : ∀ g ∈ W.Gens, 0 ≤ g ∧ g ≤ 1073741824 := fun g hg => by
      have := List.any_eq_false.1 cn g hg
      simp at this; omega
    have hff : ∀ k ∈ W.Kinds, ∀ f ∈ k.Fields, fieldB f = true := fun k hk => oneE_fields (hone k hk)
    have hh := items_held cit
    have hfn : ∀ f : GField, fieldB f = true → f.Name.size ≤ 1000000 := fun f h => by
      simp only [fieldB, nameB, Bool.and_eq_true, decide_eq_true_eq] at h; omega
    simp [hc]
    refine ops_ent (ent_nilb (b := 1) (j := 0) (z := 1) rfl rfl) (ops_goH ?_)
    refine calD [1, 2] (WPut_fn ([], 0) 1 8 (by omega) (by omega) (by simp)) ?_ (hbox := by simp [wSt, show wB ([], 0) = [] from rfl])
    have h1 : (wput ([], 0) 1 8).1.length ≤ 524288 := wput_le (by simp) (by omega)
    have hW : writeW W = witems W.Kinds 0 W.Gens W.Items (wput (wkinds (wput ([], 0) 1 8) W.Kinds) W.Gens.length 9) := rfl
    obtain ⟨w1, hw1⟩ : ∃ w1, wput ([], 0) 1 8 = w1 := ⟨_, rfl⟩
    rw [hw1] at h1 hW ⊢
    simp [wSt, imms_ren (him _), imms_lt (him _)]
    refine calD [1, 3] (WKinds_fn w1 W.Kinds ce1 (fun k hk => ?_) (fun k hk => ⟨ce2 k hk, fun f hf => ⟨hff k hk f hf, hfn f (hff k hk f hf)⟩⟩) h1) ?_ (hbox := by simp [wSt, imms_ren (him _), imms_lt (him _)])
    · have := hone k hk
      unfold oneE at this
      split at this
      · rename_i hnm; simp only [nameB, Bool.and_eq_true, decide_eq_true_eq] at hnm; omega
      · simp at this
    have h2 : (wkinds w1 W.Kinds).1.length ≤ 524288 := wkinds_le (wput_le h1 (by omega))
    obtain ⟨w2, hw2⟩ : ∃ w2, wkinds w1 W.Kinds = w2 := ⟨_, rfl⟩
    rw [hw2] at h2 hW ⊢
    simp [wSt, imms_ren (him _), imms_lt (him _)]
    refine calD [1, 4] (WItems_fn w2 W ce1 (fun k hk => ⟨ce2 k hk, hff k hk⟩) cg hgv hh (by omega) h2) ?_ (hbox := by simp [wSt, imms_ren (him _), imms_lt (him _)])
    have h3 : (writeW W).1.length ≤ 524288 := hW ▸ witems_le hff (wput_le h2 (by omega))
    rw [← hW]
    have hM : writeM W = if (writeW W).2 ≠ 0 ∨ 65536 < (packB (writeW W).1).length + 8 then ([], 2) else (sealB (packB (writeW W).1), 0) := by simp [writeM, hc]
    obtain ⟨w3, hw3⟩ : ∃ w3, writeW W = w3 := ⟨_, rfl⟩
    rw [hw3] at h3 hM ⊢
    simp [wSt, imms_ren (him _), imms_lt (him _)]
    refine calD [1, 5] (WBytes_fn w3.1 w3.2 [] h3) ?_ (hbox := by simp [wSt, imms_ren (him _), imms_lt (him _)])
    simp [wSt, imms_ren (him _), imms_lt (him _)]
    by_cases h0 : w3.2 = 0
    · have hpl : (packB w3.1).length = (w3.1.length + 7) / 8 := packB_len _
      have hw4 : IntKind.i64.wrap ((((w3.1.length + 7) / 8 : Nat) : Int) + 8) = (((w3.1.length + 7) / 8 + 8 : Nat) : Int) := by rw [wrap_id (by omega) (by omega)]; omega
      obtain ⟨m, hm⟩ : ∃ m, (w3.1.length + 7) / 8 = m := ⟨_, rfl⟩
      rw [hm] at hpl hw4
      by_cases h5 : 65536 < m + 8
      · have h5' : (65536 : Int) < ((m + 8 : Nat) : Int) := by omega
        have h5'' : (65536 : Int) < (m : Int) + 8 := by omega
        rw [hpl, if_pos (.inr h5)] at hM
        rw [hM, hm]
        simp [h0, hw4, h5'']
        refine fin_ent (ent_nilsl (t := 2) (z := 1) rfl) ?_
        exact finm (by simp)
      · have h5'' : ¬ (65536 : Int) < (m : Int) + 8 := by omega
        rw [hpl, if_neg (by omega)] at hM
        rw [hM, hm]
        have hS := Seal_fn (packB w3.1) (by omega) (pack_ok _)
        rw [hpl] at hS
        simp [h0, hw4, h5'']
        refine calD [6] hS ?_ (hbox := by simp [imms_ren (him _), imms_lt (him _)])
        simp [imms_ren (him _), imms_lt (him _)]
        refine fin_fz 7 ((sealB (packB w3.1)).map kU8) ?_
        simp [chunks_b]
        exact finm (by simp)
    · simp [h0]
      rw [if_pos (.inl h0)] at hM
      rw [hM]
      refine fin_ent (ent_nilsl (t := 2) (z := 1) rfl) ?_
      exact finm (by simp)
  · simp [hc]
    have e : writeM W = ([], checkW W) := by simp [writeM, hc]
    rw [e]
    refine fin_ent (ent_nilsl (t := 2) (z := 1) rfl) ?_
    exact finm (by simp)
end Go.Proofs.Ytemlkbcfplkniaa.Am
/- Package bits: the reader's Left and Get. -/
namespace Go.Proofs.Ytemlkbcfplkniaa.Am
open Go Go.RowKit

def bitAt (bs : List Int) (i : Nat) : Nat := (bs.getD (i / 8) 0 / 2 ^ (i % 8) % 2).toNat
def getV (bs : List Int) (p : Nat) : Nat → Nat
  | 0 => 0
  | n + 1 => getV bs p n + bitAt bs (p + n) * 2 ^ n
/-- A reader's box: the bytes, the place. -/
abbrev rSt (bs : List Int) (p : Nat) : List PV := [slB bs, kI p]
/-- What Get gives: the value, the error, the place. -/
def getM (bs : List Int) (p n : Nat) : Nat × Int × Nat := if 8 * bs.length < p + n then (0, 14, p) else (getV bs p n, 0, p + n)
theorem bitAt_lt (bs : List Int) (i : Nat) : bitAt bs i < 2 := by unfold bitAt; omega
theorem getV_lt (bs : List Int) (p : Nat) : ∀ n, getV bs p n < 2 ^ n
  | 0 => by simp [getV]
  | n + 1 => by
    have h1 := getV_lt bs p n
    have h2 := bitAt_lt bs (p + n)
    have h3 : bitAt bs (p + n) * 2 ^ n ≤ 1 * 2 ^ n := Nat.mul_le_mul_right _ (by omega)
    rw [getV, Nat.pow_succ]; omega

theorem bit8 (c : Int) (r : Nat) (h1 : 0 ≤ c) (h2 : c < 256) (hr : r < 8) : IntKind.u8.wrap ↑((c.fdiv (2 ^ min r IntKind.u8.bits) % 2 ^ IntKind.u8.bits).toNat &&& 1 % 2 ^ IntKind.u8.bits) = ((c / 2 ^ r % 2).toNat : Int) := by
  have e1 : min r IntKind.u8.bits = r := Nat.min_eq_left (by show r ≤ 8; omega)
  have e2 : (2 : Int) ^ IntKind.u8.bits = 256 := by decide
  have e3 : (1 % 2 ^ IntKind.u8.bits : Nat) = 1 := by decide
  rw [e1, e2, e3, Int.fdiv_eq_ediv_of_nonneg _ (by exact Int.pow_nonneg (by omega)), Nat.and_one_is_mod, IntKind.wrap_u8]
  have h3 : 0 ≤ c / 2 ^ r := Int.ediv_nonneg h1 (Int.pow_nonneg (by omega))
  have h4 : c / 2 ^ r ≤ c := Int.ediv_le_self _ h1
  generalize c / 2 ^ r = y at h3 h4 ⊢
  omega
theorem or_get (x b i : Nat) (hi : i ≤ 63) (hx : x < 2 ^ i) (hb : b < 2) :
    IntKind.u64.wrap ↑(x % 2 ^ IntKind.u64.bits ||| (IntKind.u64.wrap (IntKind.u64.wrap (b : Int) * 2 ^ min i IntKind.u64.bits) % 2 ^ IntKind.u64.bits).toNat) = ((x + b * 2 ^ i : Nat) : Int) := by
  have e1 : min i IntKind.u64.bits = i := Nat.min_eq_left (by show i ≤ 64; omega)
  have e2 : (2 : Int) ^ IntKind.u64.bits = 18446744073709551616 := by decide
  have e3 : (2 : Nat) ^ IntKind.u64.bits = 18446744073709551616 := by decide
  have hp : 2 ^ i * 2 ≤ 18446744073709551616 := by
    have : (2 : Nat) ^ i * 2 = 2 ^ (i + 1) := by rw [Nat.pow_succ]
    rw [this]
    exact Nat.le_trans (Nat.pow_le_pow_right (by decide) (show i + 1 ≤ 64 by omega)) (by decide)
  have hbp : b * 2 ^ i ≤ 1 * 2 ^ i := Nat.mul_le_mul_right _ (by omega)
  have hor := Nat.two_pow_add_eq_or_of_lt hx b
  rw [Nat.mul_comm] at hor
  have hcast : ((b : Int) * 2 ^ i) = ((b * 2 ^ i : Nat) : Int) := by push_cast; rfl
  have hbw : IntKind.u64.wrap (b : Int) = b := by rw [wrapU]; omega
  rw [e1, e2, e3, hbw, hcast]
  obtain ⟨q, hq⟩ : ∃ q, b * 2 ^ i = q := ⟨_, rfl⟩
  obtain ⟨p2, hp2⟩ : ∃ p2, 2 ^ i = p2 := ⟨_, rfl⟩
  rw [hq] at hbp hor ⊢
  rw [hp2] at hp hbp hx
  simp only [wrapU]
  have a1 : x % 18446744073709551616 = x := by omega
  have a2 : ((q : Int) % 18446744073709551616 % 18446744073709551616).toNat = q := by omega
  rw [a1, a2, Nat.or_comm, ← hor]
  omega

set_option maxRecDepth 20000 in
theorem Left_fn (bs : List Int) (p : Nat) (hl : bs.length ≤ 100000) (hp : p ≤ 8 * bs.length) : FnD Try.prog 149 [.ptr 0 0] [rSt bs p] (kI ((8 * bs.length - p : Nat) : Int)) [some (rSt bs p)] := by
  refine fnd_go Try.func149 rfl ?_
  have hw1 : IntKind.i64.wrap (8 * (bs.length : Int)) = ((8 * bs.length : Nat) : Int) := by rw [wrap_id (by omega) (by omega)]; omega
  have hw2 : IntKind.i64.wrap (8 * (bs.length : Int) - p) = ((8 * bs.length - p : Nat) : Int) := by rw [wrap_id (by omega) (by omega)]; omega
  simp [Try.ntmps149]
  refine awp_draw follows_mix [] [(0, [0]), (0, [0]), (0, [0]), (0, [0]), (0, [0]), (0, [0]), (0, [0]), (0, [0]), (0, [0]), (0, [0]), (0, [0]), (0, [0])] 0 (by kernel_rfl) rfl ?_
  simp [hw1, hw2]
  exact finGm [0]

set_option maxRecDepth 20000 in
set_option maxHeartbeats 1000000 in
theorem Get_fn (bs : List Int) (p n : Nat) (hn : n ≤ 63) (hl : bs.length ≤ 100000) (hb : BytesOk bs) (hp : p ≤ 8 * bs.length) : FnD Try.prog 100 [.ptr 0 0, kI n] [rSt bs p]
    (.tup [kU (getM bs p n).1, kI (getM bs p n).2.1]) [some (rSt bs (getM bs p n).2.2)] := by
  refine fnd_go Try.func100 rfl ?_
  have h1 : ¬ (n : Int) < 0 := by omega
  have h2 : ¬ 64 < (n : Int) := by omega
  simp [Try.ntmps100, h1, h2]
  refine calD [0] (Left_fn bs p hl hp) ?_
  by_cases h3 : 8 * bs.length < p + n
  · have e : getM bs p n = (0, 14, p) := by simp [getM, h3]
    have h3' : ((8 * bs.length - p : Nat) : Int) < n := by omega
    obtain ⟨q, hq⟩ : ∃ q, 8 * bs.length - p = q := ⟨_, rfl⟩
    rw [hq] at h3' ⊢
    rw [e]
    simp [h3']
    exact finGm [0]
  · have e : getM bs p n = (getV bs p n, 0, p + n) := by simp [getM, h3]
    have h3' : ¬ ((8 * bs.length - p : Nat) : Int) < n := by omega
    obtain ⟨q, hq⟩ : ∃ q, 8 * bs.length - p = q := ⟨_, rfl⟩
    rw [hq] at h3' ⊢
    rw [e]
    simp [h3']
    refine awp_loop (fun i : Nat => ⟨54, [(0, .ptr 0 0), (6, kU (getV bs p i)), (18, kI n), (19, kI i)], [some (rSt bs (p + i))], 1⟩) (fun i => i ≤ n) (fun i => n - i) 0 ?_ ?_ ?_
    · exact entm [0] (hT := by simp [getV])
    · simp
    · intro i hi
      refine awp_go ?_
      by_cases hlt : i < n
      · obtain ⟨s, hs⟩ : ∃ s, p + i = s := ⟨_, rfl⟩
        obtain ⟨x, hx⟩ : ∃ x, s / 8 = x := ⟨_, rfl⟩
        obtain ⟨r, hr⟩ : ∃ r, s % 8 = r := ⟨_, rfl⟩
        have hlen : x < bs.length := by omega
        obtain ⟨c, hc⟩ : ∃ c, bs[x] = c := ⟨_, rfl⟩
        obtain ⟨hc1, hc2⟩ := hb c (hc ▸ List.getElem_mem hlen)
        have hbit : bitAt bs s = (c / 2 ^ r % 2).toNat := by simp [bitAt, List.getD, hx, hr, hlen, hc]
        have hgs : getV bs p (i + 1) = getV bs p i + bitAt bs s * 2 ^ i := by rw [getV, hs]
        have ht : (s : Int).tmod 8 = r := by rw [Int.tmod_eq_emod_of_nonneg (by omega)]; omega
        have hq1 : (s : Int).tdiv 8 = x := by rw [Int.tdiv_eq_ediv_of_nonneg (by omega)]; omega
        have ht2 : (s : Int) % 8 = r := by omega
        have hq2 : (s : Int) / 8 = x := by omega
        have hqw : IntKind.i64.wrap (x : Int) = x := wrap_id (by omega) (by omega)
        have hr1 : ¬ (r : Int) < 0 := by omega
        have hi0 : ¬ (i : Int) < 0 := by omega
        have hw1 : IntKind.i64.wrap ((i : Int) + 1) = ((i + 1 : Nat) : Int) := wrap_id (by omega) (by omega)
        have hw2 : IntKind.i64.wrap ((s : Int) + 1) = ((s + 1 : Nat) : Int) := wrap_id (by omega) (by omega)
        simp [hlt]
        rw [hs]
        refine awp_drawS follows_mix [(0, 0), (0, 0), (0, 0), (0, 0), (0, 0), (0, 0), (0, 0), (0, 0), (0, 0), (0, 0), (0, 0), (0, 0), (0, 0), (0, 0), (0, 0), (0, 0), (0, 0), (0, 0), (0, 0), (0, 0), (0, 0), (0, 0), (0, 0), (0, 0)] 1 1 [] (by kernel_rfl) rfl rfl ?_
        simp [ht, hq1, ht2, hq2, hqw, hr1, hi0, hlen, hc]
        rw [bit8 c r hc1 hc2 (by omega), ← hbit, or_get _ _ i (by omega) (getV_lt bs p i) (bitAt_lt bs s), ← hgs, hw1, hw2]
        have hps : p + (i + 1) = s + 1 := by omega
        exact ⟨i + 1, by omega, by omega, entm [0] (hB := by simp [hps])⟩
      · obtain rfl : i = n := by omega
        simp
        exact finGm [0]
end Go.Proofs.Ytemlkbcfplkniaa.Am
/- Package bits: the reader's Nat and Int. -/
namespace Go.Proofs.Ytemlkbcfplkniaa.Am
open Go Go.RowKit

/-- What Nat gives from the group i on: the value, the error, the place. -/
def rnGo (bs : List Int) (was : Nat) : Nat → Nat → Nat → Nat → Nat × Int × Nat
  | 0, _, _, _ => (0, 3, was)
  | k + 1, i, v, p =>
    if (getM bs p 5).2.1 ≠ 0 then (0, (getM bs p 5).2.1, was)
    else if i = 16 ∨ (getM bs p 5).1 = 0 ∧ 0 < i then (0, 3, was)
    else if (getM bs p 5).1 < 16 then (v + (getM bs p 5).1 % 16 * 2 ^ (4 * i), 0, (getM bs p 5).2.2)
    else rnGo bs was k (i + 1) (v + (getM bs p 5).1 % 16 * 2 ^ (4 * i)) (getM bs p 5).2.2
def rnat (bs : List Int) (p : Nat) : Nat × Int × Nat := rnGo bs p 17 0 0 p

theorem getM_le {bs : List Int} {p n : Nat} (h : p ≤ 8 * bs.length) : (getM bs p n).2.2 ≤ 8 * bs.length := by
  unfold getM; split
  · exact h
  · simp; omega
theorem getM_lt (bs : List Int) (p n : Nat) : (getM bs p n).1 < 2 ^ n := by
  unfold getM; split
  · exact Nat.two_pow_pos n
  · exact getV_lt bs p n

theorem or_gen (x c k : Nat) (hk : k ≤ 60) (hx : x < 2 ^ k) (hc : c < 16) :
    IntKind.u64.wrap ↑(x % 2 ^ IntKind.u64.bits ||| (IntKind.u64.wrap ((c : Int) * 2 ^ min k IntKind.u64.bits) % 2 ^ IntKind.u64.bits).toNat) = ((x + c * 2 ^ k : Nat) : Int) := by
  have e1 : min k IntKind.u64.bits = k := Nat.min_eq_left (by show k ≤ 64; omega)
  have e2 : (2 : Int) ^ IntKind.u64.bits = 18446744073709551616 := by decide
  have e3 : (2 : Nat) ^ IntKind.u64.bits = 18446744073709551616 := by decide
  have hp : 2 ^ k * 16 ≤ 18446744073709551616 := by
    have : (2 : Nat) ^ k * 16 = 2 ^ (k + 4) := by rw [Nat.pow_add]
    rw [this]
    exact Nat.le_trans (Nat.pow_le_pow_right (by decide) (show k + 4 ≤ 64 by omega)) (by decide)
  have hbp : c * 2 ^ k ≤ 15 * 2 ^ k := Nat.mul_le_mul_right _ (by omega)
  have hor := Nat.two_pow_add_eq_or_of_lt hx c
  rw [Nat.mul_comm] at hor
  have hcast : ((c : Int) * 2 ^ k) = ((c * 2 ^ k : Nat) : Int) := by push_cast; rfl
  rw [e1, e2, e3, hcast]
  obtain ⟨q, hq⟩ : ∃ q, c * 2 ^ k = q := ⟨_, rfl⟩
  obtain ⟨p2, hp2⟩ : ∃ p2, 2 ^ k = p2 := ⟨_, rfl⟩
  rw [hq] at hbp hor ⊢
  rw [hp2] at hp hbp hx
  simp only [wrapU]
  have a1 : x % 18446744073709551616 = x := by omega
  have a2 : ((q : Int) % 18446744073709551616 % 18446744073709551616).toNat = q := by omega
  rw [a1, a2, Nat.or_comm, ← hor]
  omega

set_option maxRecDepth 20000 in
set_option maxHeartbeats 1000000 in
theorem RNat_fn (bs : List Int) (p : Nat) (hl : bs.length ≤ 100000) (hb : BytesOk bs) (hp : p ≤ 8 * bs.length) : FnD Try.prog 132 [.ptr 0 0] [rSt bs p]
    (.tup [kU (rnat bs p).1, kI (rnat bs p).2.1]) [some (rSt bs (rnat bs p).2.2)] := by
  refine fnd_go Try.func132 rfl ?_
  simp [Try.ntmps132]
  refine awp_loop (fun x : Nat × Nat × Nat => ⟨51, [(0, .ptr 0 0), (4, kI p), (5, kU x.2.1), (6, kI x.1)], [some (rSt bs x.2.2)], 1⟩)
    (fun x => x.1 ≤ 16 ∧ x.2.1 < 2 ^ (4 * x.1) ∧ x.2.2 ≤ 8 * bs.length ∧ rnGo bs p (17 - x.1) x.1 x.2.1 x.2.2 = rnat bs p) (fun x => 17 - x.1) (0, 0, p) ?_ ?_ ?_
  · exact entm [0]
  · simp [hp, rnat]
  · rintro ⟨i, v, q⟩ ⟨hi, hv, hq, hrun⟩
    simp only at hi hv hq hrun
    rw [show 17 - i = (16 - i) + 1 by omega, rnGo] at hrun
    refine awp_go ?_
    simp
    refine calD [0] (Get_fn bs q 5 (by omega) hl hb hq) ?_
    have hgl := getM_lt bs q 5
    have hgp := getM_le (n := 5) hq
    obtain ⟨g, hg⟩ : ∃ g, getM bs q 5 = g := ⟨_, rfl⟩
    rw [hg] at hgl hgp hrun ⊢
    obtain ⟨gv, ge, gp⟩ := g
    simp only at hgl hgp hrun ⊢
    by_cases h0 : ge = 0
    · subst h0
      by_cases h16 : i = 16
      · subst h16
        simp at hrun
        simp
        rw [← hrun]
        exact finGm [0]
      · have h16' : ¬ (i : Int) = 16 := by omega
        by_cases hz : gv = 0 ∧ 0 < i
        · obtain ⟨hz1, hz2⟩ := hz
          subst hz1
          simp [hz2] at hrun
          have hz3 : (0 : Int) < i := by omega
          simp [h16', hz2, hz3]
          rw [← hrun]
          exact finGm [0]
        · rw [if_neg (by simp), if_neg (by omega)] at hrun
          have hw4 : IntKind.i64.wrap (4 * (i : Int)) = ((4 * i : Nat) : Int) := by rw [wrap_id (by omega) (by omega)]; omega
          have hw5 : ¬ 4 * (i : Int) < 0 := by omega
          have hw6 : (4 * (i : Int)).toNat = 4 * i := by omega
          have hw7 : IntKind.i64.wrap ((i : Int) + 1) = ((i + 1 : Nat) : Int) := wrap_id (by omega) (by omega)
          have ha : IntKind.u64.wrap ↑(gv % 2 ^ IntKind.u64.bits &&& 15 % 2 ^ IntKind.u64.bits) = ((gv % 16 : Nat) : Int) := by
            have := and15 (gv : Int) (by omega)
            have e : (((gv : Int) % 2 ^ IntKind.u64.bits).toNat) = gv % 2 ^ IntKind.u64.bits := by
              rw [show (2 : Int) ^ IntKind.u64.bits = 18446744073709551616 by decide, show (2 : Nat) ^ IntKind.u64.bits = 18446744073709551616 by decide]; omega
            rw [e] at this
            rw [this]; omega
          have ho := or_gen v (gv % 16) (4 * i) (by omega) hv (by omega)
          rw [show ((gv % 16 : Nat) : Int) = (gv : Int) % 16 by omega] at ho
          have hbd : v + gv % 16 * 2 ^ (4 * i) < 2 ^ (4 * (i + 1)) := by
            have h1 : gv % 16 * 2 ^ (4 * i) ≤ 15 * 2 ^ (4 * i) := Nat.mul_le_mul_right _ (by omega)
            rw [show 4 * (i + 1) = 4 * i + 4 by omega, Nat.pow_add]
            omega
          by_cases hgz : gv = 0
          · obtain rfl : i = 0 := by omega
            subst hgz
            obtain rfl : v = 0 := by simpa using hv
            simp at hrun
            have e0 : IntKind.u64.wrap ↑(0 % 2 ^ IntKind.u64.bits ||| (IntKind.u64.wrap (IntKind.u64.wrap 0) % 2 ^ IntKind.u64.bits).toNat) = 0 := by decide
            rw [← hrun]
            simp
            exact finGm [0] (hres := by simp; decide)
          · simp [h16', hgz, hw4, hw5, hw6, hw7, ha]
            by_cases hg16 : gv < 16
            · rw [if_pos hg16] at hrun
              have hg16' : (gv : Int) < 16 := by omega
              simp only [hg16', decide_true]
              simp
              rw [ho, ← hrun]
              exact finGm [0]
            · rw [if_neg hg16] at hrun
              have hg16' : ¬ (gv : Int) < 16 := by omega
              simp only [hg16', decide_false]
              simp [hw7]
              rw [ho]
              exact ⟨i + 1, v + gv % 16 * 2 ^ (4 * i), gp, ⟨by omega, hbd, hgp, by rw [show 17 - (i + 1) = 16 - i by omega]; exact hrun⟩, by omega, entm [0]⟩
    · rw [if_pos h0] at hrun
      simp [h0]
      rw [← hrun]
      exact finGm [0]

def zag (n : Nat) : Int := if n % 2 = 0 then ((n / 2 : Nat) : Int) else -((n / 2 : Nat) : Int) - 1
theorem zag_op (n : Nat) (h : n < 2 ^ 64) :
    IntKind.i64.wrap (IntKind.u64.wrap ↑(((n : Int).fdiv (2 ^ min 1 IntKind.u64.bits) % 2 ^ IntKind.u64.bits).toNat ^^^ (IntKind.u64.wrap (0 - IntKind.u64.wrap ↑(n % 2 ^ IntKind.u64.bits &&& 1 % 2 ^ IntKind.u64.bits)) % 2 ^ IntKind.u64.bits).toNat)) = zag n := by
  have e1 : (2 : Int) ^ min 1 IntKind.u64.bits = 2 := by decide
  have e2 : (2 : Int) ^ IntKind.u64.bits = 18446744073709551616 := by decide
  have e3 : (2 : Nat) ^ IntKind.u64.bits = 18446744073709551616 := by decide
  rw [e1, e2, e3, Int.fdiv_eq_ediv_of_nonneg _ (by decide), show (1 % 18446744073709551616 : Nat) = 1 by decide, Nat.and_one_is_mod]
  simp only [wrapU]
  have h' : n < 18446744073709551616 := h
  unfold zag
  have a0 : ((n : Int) / 2 % 18446744073709551616).toNat = n / 2 := by omega
  rw [a0]
  have hw : ∀ m : Nat, m < 18446744073709551616 → IntKind.i64.wrap ((m : Int) % 18446744073709551616) = if m < 9223372036854775808 then (m : Int) else (m : Int) - 18446744073709551616 := fun m hm => by
    rw [IntKind.wrap_i64]; split <;> omega
  by_cases hp : n % 2 = 0
  · rw [if_pos hp]
    have a1 : ((0 - ((n % 18446744073709551616 % 2 : Nat) : Int) % 18446744073709551616) % 18446744073709551616 % 18446744073709551616).toNat = 0 := by omega
    rw [a1, Nat.xor_zero, hw _ (by omega), if_pos (by omega)]
  · rw [if_neg hp]
    have a1 : ((0 - ((n % 18446744073709551616 % 2 : Nat) : Int) % 18446744073709551616) % 18446744073709551616 % 18446744073709551616).toNat = 2 ^ 64 - 1 := by omega
    rw [a1, xor_ones _ (by omega), hw _ (by omega), if_neg (by omega)]
    omega

def rint (bs : List Int) (p : Nat) : Int × Int × Nat := if (rnat bs p).2.1 ≠ 0 then (0, (rnat bs p).2.1, (rnat bs p).2.2) else (zag (rnat bs p).1, 0, (rnat bs p).2.2)
theorem rnGo_ok (bs : List Int) (was : Nat) : ∀ (k i v p : Nat), i + k = 17 → v < 2 ^ (4 * i) → was ≤ 8 * bs.length → p ≤ 8 * bs.length → (rnGo bs was k i v p).1 < 2 ^ 64 ∧ (rnGo bs was k i v p).2.2 ≤ 8 * bs.length
  | 0, i, v, p, _, _, hw, _ => by simp [rnGo, hw]
  | k + 1, i, v, p, hik, hv, hw, hp => by
    rw [rnGo]
    split
    · exact ⟨by simp, hw⟩
    · split
      · exact ⟨by simp, hw⟩
      · rename_i h1 h2
        have hi : i ≤ 15 := by omega
        have hg := getM_lt bs p 5
        have hgp := getM_le (bs := bs) (n := 5) hp
        have hbd : v + (getM bs p 5).1 % 16 * 2 ^ (4 * i) < 2 ^ (4 * (i + 1)) := by
          have h1 : (getM bs p 5).1 % 16 * 2 ^ (4 * i) ≤ 15 * 2 ^ (4 * i) := Nat.mul_le_mul_right _ (by omega)
          rw [show 4 * (i + 1) = 4 * i + 4 by omega, Nat.pow_add]
          omega
        split
        · exact ⟨Nat.lt_of_lt_of_le hbd (Nat.pow_le_pow_right (by decide) (by omega)), hgp⟩
        · exact rnGo_ok bs was k (i + 1) _ _ (by omega) hbd hw hgp
theorem rnat_ok (bs : List Int) {p : Nat} (hp : p ≤ 8 * bs.length) : (rnat bs p).1 < 2 ^ 64 ∧ (rnat bs p).2.2 ≤ 8 * bs.length := rnGo_ok bs p 17 0 0 p rfl (by simp) hp hp

set_option maxRecDepth 20000 in
theorem RInt_fn (bs : List Int) (p : Nat) (hl : bs.length ≤ 100000) (hb : BytesOk bs) (hp : p ≤ 8 * bs.length) : FnD Try.prog 131 [.ptr 0 0] [rSt bs p]
    (.tup [kI (rint bs p).1, kI (rint bs p).2.1]) [some (rSt bs (rint bs p).2.2)] := by
  refine fnd_go Try.func131 rfl ?_
  simp [Try.ntmps131]
  refine calD [0] (RNat_fn bs p hl hb hp) ?_
  obtain ⟨hok, _⟩ := rnat_ok bs hp
  have hr : rint bs p = if (rnat bs p).2.1 ≠ 0 then (0, (rnat bs p).2.1, (rnat bs p).2.2) else (zag (rnat bs p).1, 0, (rnat bs p).2.2) := rfl
  obtain ⟨g, hg⟩ : ∃ g, rnat bs p = g := ⟨_, rfl⟩
  rw [hg] at hr hok ⊢
  by_cases h0 : g.2.1 = 0
  · rw [if_neg (by simpa using h0)] at hr
    rw [hr]
    simp [h0]
    have hz := zag_op g.1 hok
    rw [Int.zero_sub] at hz
    rw [hz]
    exact finGm [0]
  · rw [if_pos h0] at hr
    rw [hr]
    simp [h0]
    exact finGm [0]
end Go.Proofs.Ytemlkbcfplkniaa.Am
/- Package save: the reader's get and name; quant.Get; bits.New; bytes.Equal. -/
namespace Go.Proofs.Ytemlkbcfplkniaa.Am
open Go Go.RowKit

/-- Where a reader stands: its place, and whether something failed. -/
abbrev RS := Nat × Bool
abbrev rdSt (s : RS) (b : Nat) : List PV := [.ptr b 0, kB s.2]
def qget (bs : List Int) (p : Nat) (f : GField) : Int × Int × Nat := if (getM bs p f.Bits.toNat).2.1 ≠ 0 then (0, (getM bs p f.Bits.toNat).2.1, (getM bs p f.Bits.toNat).2.2) else (f.Low + (getM bs p f.Bits.toNat).1, 0, (getM bs p f.Bits.toNat).2.2)
def rget (bs : List Int) (s : RS) (n : Nat) : Nat × RS := ((getM bs s.1 n).1, (getM bs s.1 n).2.2, s.2 || decide ((getM bs s.1 n).2.1 ≠ 0))

set_option maxRecDepth 20000 in
theorem QGet_fn (bs : List Int) (p : Nat) (f : GField) (hf : fieldB f = true) (hl : bs.length ≤ 100000) (hb : BytesOk bs) (hp : p ≤ 8 * bs.length) : FnD Try.prog 48 [.ptr 0 0, .agg f.e] [rSt bs p]
    (.tup [kI (qget bs p f).1, kI (qget bs p f).2.1]) [some (rSt bs (qget bs p f).2.2)] := by
  obtain ⟨h1, h2, h3, h4⟩ := field_in hf
  refine fnd_go Try.func48 rfl ?_
  simp [Try.ntmps48]
  refine cal (QCheck_fn f hf) ?_
  simp [GField.e]
  obtain ⟨m, hm⟩ : ∃ m : Nat, f.Bits = m := ⟨f.Bits.toNat, by omega⟩
  have hgm := Get_fn bs p m (by omega) hl hb hp
  have hq : qget bs p f = if (getM bs p m).2.1 ≠ 0 then (0, (getM bs p m).2.1, (getM bs p m).2.2) else (f.Low + (getM bs p m).1, 0, (getM bs p m).2.2) := by simp [qget, hm]
  have hlt := getM_lt bs p m
  rw [hm]
  refine calD [0] hgm ?_
  obtain ⟨g, hg⟩ : ∃ g, getM bs p m = g := ⟨_, rfl⟩
  rw [hg] at hq hlt ⊢
  have hp2 : 2 ^ m ≤ 2 ^ 32 := Nat.pow_le_pow_right (by decide) (by omega)
  by_cases h0 : g.2.1 = 0
  · rw [if_neg (by simpa using h0)] at hq
    rw [hq]
    have hw1 : IntKind.i64.wrap (g.1 : Int) = g.1 := wrap_id (by omega) (by omega)
    have hw2 : IntKind.i64.wrap (f.Low + (g.1 : Int)) = f.Low + g.1 := wrap_id (by omega) (by omega)
    simp [h0, hw1, hw2]
    exact finGm [0]
  · rw [if_pos h0] at hq
    rw [hq]
    simp [h0]
    exact finGm [0]

set_option maxRecDepth 20000 in
theorem RGet_fn (bs : List Int) (s : RS) (n : Nat) (hn : n ≤ 32) (hl : bs.length ≤ 100000) (hb : BytesOk bs) (hp : s.1 ≤ 8 * bs.length) : FnD Try.prog 79 [.ptr 0 0, kI n] [rdSt s 1, rSt bs s.1]
    (kI (rget bs s n).1) [some (rdSt (rget bs s n).2 1), some (rSt bs (rget bs s n).2.1)] := by
  refine fnd_go Try.func79 rfl ?_
  simp [Try.ntmps79]
  refine calD [1] (Get_fn bs s.1 n (by omega) hl hb hp) ?_
  have hlt := getM_lt bs s.1 n
  have hr : rget bs s n = ((getM bs s.1 n).1, (getM bs s.1 n).2.2, s.2 || decide ((getM bs s.1 n).2.1 ≠ 0)) := rfl
  rw [hr]
  obtain ⟨g, hg⟩ : ∃ g, getM bs s.1 n = g := ⟨_, rfl⟩
  rw [hg] at hlt ⊢
  have hp2 : 2 ^ n ≤ 2 ^ 32 := Nat.pow_le_pow_right (by decide) (by omega)
  have hw1 : IntKind.i64.wrap (g.1 : Int) = g.1 := wrap_id (by omega) (by omega)
  obtain ⟨p, bad⟩ := s
  cases bad with
  | true =>
    simp [hw1]
    exact finGm [0, 1]
  | false =>
    by_cases h0 : g.2.1 = 0
    · simp [hw1, h0]
      exact finGm [0, 1]
    · simp [hw1, h0]
      exact finGm [0, 1]

set_option maxRecDepth 20000 in
theorem Equal_fn (xs ys : List Int) (hx : BytesOk xs) (hy : BytesOk ys) : Fn Try.prog 77 [slB xs, slB ys] (kB (decide (xs = ys))) := by
  have hinj : ∀ {a b : List Int}, BytesOk a → BytesOk b → strOfNums a = strOfNums b → a = b := fun {a b} ha hb h => by
    have h1 := congrArg (fun s => s.data.toList) h
    simp only [strOfNums_data] at h1
    have h2 : a.map (fun n => UInt8.ofNat n.toNat) = b.map (fun n => UInt8.ofNat n.toNat) := h1
    clear h h1
    induction a generalizing b with
    | nil => cases b with
      | nil => rfl
      | cons y b => simp at h2
    | cons x a ih => cases b with
      | nil => simp at h2
      | cons y b =>
        simp only [List.map_cons, List.cons.injEq] at h2
        have hxx := ha x (by simp)
        have hyy := hb y (by simp)
        have h3 := congrArg UInt8.toNat h2.1
        simp at h3
        have : x = y := by omega
        rw [this, ih (fun c hc => ha c (by simp [hc])) (fun c hc => hb c (by simp [hc])) h2.2]
  refine fn_go Try.func77 rfl ?_
  simp [Try.ntmps77]
  refine ops_b2sI (xs := xs) (e := 5) ?_
  simp
  refine ops_b2sI (xs := ys) (e := 5) ?_
  simp
  by_cases h : xs = ys
  · simp [h]
    exact finm
  · have h2 : ¬ strOfNums xs = strOfNums ys := fun e => h (hinj hx hy e)
    simp [h, h2]
    exact finm
end Go.Proofs.Ytemlkbcfplkniaa.Am
/- Package save: the reader's name. -/
namespace Go.Proofs.Ytemlkbcfplkniaa.Am
open Go Go.RowKit

def rnameGo (bs : List Int) : Nat → List Int → RS → List Int × RS
  | 0, out, s => (out, s)
  | k + 1, out, s => if (rget bs s 6).1 < 36 then rnameGo bs k (out ++ [lettersL.getD (rget bs s 6).1 0]) (rget bs s 6).2 else rnameGo bs k out ((rget bs s 6).2.1, true)
def rname (bs : List Int) (s : RS) : Str × RS :=
  (strOfNums (rnameGo bs (rget bs s 5).1 [] (rget bs s 5).2).1, (rnameGo bs (rget bs s 5).1 [] (rget bs s 5).2).2)

theorem rget_le {bs : List Int} {s : RS} {n : Nat} (h : s.1 ≤ 8 * bs.length) : (rget bs s n).2.1 ≤ 8 * bs.length := getM_le h
theorem rget_lt (bs : List Int) (s : RS) (n : Nat) : (rget bs s n).1 < 2 ^ n := getM_lt bs s.1 n
theorem rnameGo_le (bs : List Int) : ∀ (k : Nat) (out : List Int) (s : RS), s.1 ≤ 8 * bs.length → (rnameGo bs k out s).2.1 ≤ 8 * bs.length
  | 0, _, _, h => h
  | k + 1, out, s, h => by
    rw [rnameGo]
    split
    · exact rnameGo_le bs k _ _ (rget_le h)
    · exact rnameGo_le bs k _ _ (rget_le h)
theorem rname_le {bs : List Int} {s : RS} (h : s.1 ≤ 8 * bs.length) : (rname bs s).2.1 ≤ 8 * bs.length := rnameGo_le bs _ _ _ (rget_le h)
theorem rnameGo_len (bs : List Int) : ∀ (k : Nat) (out : List Int) (s : RS), (rnameGo bs k out s).1.length ≤ out.length + k
  | 0, _, _ => by simp [rnameGo]
  | k + 1, out, s => by
    rw [rnameGo]
    split
    · have := rnameGo_len bs k (out ++ [lettersL.getD (rget bs s 6).1 0]) (rget bs s 6).2
      simp at this; simp; omega
    · have := rnameGo_len bs k out ((rget bs s 6).2.1, true); omega
theorem rname_size {bs : List Int} {s : RS} : (rname bs s).1.size ≤ 1000 := by
  have h1 := rnameGo_len bs (rget bs s 5).1 [] (rget bs s 5).2
  have h2 := rget_lt bs s 5
  show (strOfNums _).size ≤ 1000
  rw [strOfNums_size]
  simp at h1; omega
abbrev lettersS : ByteArray := ⟨#[97, 98, 99, 100, 101, 102, 103, 104, 105, 106, 107, 108, 109, 110, 111, 112, 113, 114, 115, 116, 117, 118, 119, 120, 121, 122, 48, 49, 50, 51, 52, 53, 54, 55, 56, 57]⟩
theorem letters_at : ∀ c, c < 36 → ∃ u : UInt8, lettersS[c]? = some u ∧ (u.toNat : Int) = lettersL.getD c 0 := by decide

set_option maxRecDepth 20000 in
set_option maxHeartbeats 1000000 in
theorem RName_fn (bs : List Int) (s : RS) (hl : bs.length ≤ 100000) (hb : BytesOk bs) (hp : s.1 ≤ 8 * bs.length) : FnD Try.prog 130 [.ptr 0 0] [rdSt s 1, rSt bs s.1]
    (kS (rname bs s).1) [some (rdSt (rname bs s).2 1), some (rSt bs (rname bs s).2.1)] := by
  have him : ∀ bs : List Int, (bs.map kU8).all PV.immB = true := fun bs => by simp
  refine fnd_go Try.func130 rfl ?_
  simp [Try.ntmps130]
  refine calD [0, 1] (RGet_fn bs s 5 (by omega) hl hb hp) ?_
  have hr : rname bs s = (strOfNums (rnameGo bs (rget bs s 5).1 [] (rget bs s 5).2).1, (rnameGo bs (rget bs s 5).1 [] (rget bs s 5).2).2) := rfl
  have h5 := rget_lt bs s 5
  have h6 := rget_le (n := 5) hp
  rw [hr]
  obtain ⟨g, hg⟩ : ∃ g, rget bs s 5 = g := ⟨_, rfl⟩
  rw [hg] at h5 h6 ⊢
  simp
  refine awp_loop (fun x : Nat × List Int × RS => ⟨26, [(0, .ptr 0 0), (4, .osl 2 1 0 x.2.1.length), (8, kI g.1), (9, kI x.1)], [some (rdSt x.2.2 1), some (rSt bs x.2.2.1), some (x.2.1.map kU8)], 2⟩)
    (fun x => x.1 ≤ g.1 ∧ x.2.1.length ≤ x.1 ∧ x.2.2.1 ≤ 8 * bs.length ∧ rnameGo bs (g.1 - x.1) x.2.1 x.2.2 = rnameGo bs g.1 [] g.2) (fun x => g.1 - x.1) (0, [], g.2) ?_ ?_ ?_
  · exact (ent_nil (t := 4) (z := 1) rfl).trans (entm [0, 1, 2])
  · simp [h6]
  · rintro ⟨i, out, s2⟩ ⟨hi, hol, hs2, hrun⟩
    simp only at hi hol hs2 hrun
    refine awp_go ?_
    by_cases hlt : i < g.1
    · rw [show g.1 - i = (g.1 - (i + 1)) + 1 by omega, rnameGo] at hrun
      have hw1 : IntKind.i64.wrap ((i : Int) + 1) = ((i + 1 : Nat) : Int) := wrap_id (by omega) (by omega)
      simp [hlt]
      refine calD [0, 1] (RGet_fn bs s2 6 (by omega) hl hb hs2) ?_
      have h7 := rget_le (n := 6) hs2
      obtain ⟨c, hc⟩ : ∃ c, rget bs s2 6 = c := ⟨_, rfl⟩
      rw [hc] at h7 hrun ⊢
      by_cases h36 : c.1 < 36
      · rw [if_pos h36] at hrun
        obtain ⟨u, hu1, hu2⟩ := letters_at c.1 h36
        have hb1 : out.length + 1 ≤ 140737488355328 := by omega
        have hb2 : out.length + 1 ≤ maxLen := by simp only [maxLen]; omega
        have h36p : (c.1 : Int) < 36 := by omega
        simp [h36, h36p, hb1, hb2, hu1, hw1, -Bool.exists_bool]
        rw [hu2]
        generalize lettersL.getD c.1 0 = z at hrun ⊢
        exact ⟨i + 1, out ++ [z], c.2.1, c.2.2, ⟨by omega, by simp; omega, h7, hrun⟩, by omega, entm [0, 1, 4] (hT := by simp) (hB := by simp [imms_ren (him _), imms_lt (him _)])⟩
      · rw [if_neg h36] at hrun
        have h36' : ¬ (c.1 : Int) < 36 := by omega
        simp [h36, h36', hw1, -Bool.exists_bool]
        exact ⟨i + 1, out, c.2.1, true, ⟨by omega, by omega, h7, hrun⟩, by omega, entm [0, 1, 2] (hB := by simp [imms_ren (him _), imms_lt (him _)])⟩
    · obtain rfl : i = g.1 := by omega
      rw [Nat.sub_self, rnameGo] at hrun
      rw [← hrun]
      simp
      refine ops_fz 2 (out.map kU8) ?_
      simp
      rw [chunks_b]
      refine ops_b2sI (xs := out) (e := 5) ?_
      simp
      exact finGm [0, 1]
end Go.Proofs.Ytemlkbcfplkniaa.Am
/- Package save: the reader's comps. -/
namespace Go.Proofs.Ytemlkbcfplkniaa.Am
open Go Go.RowKit

def rfld (bs : List Int) (s : RS) (f : GField) : Int × RS := ((qget bs s.1 f).1, (qget bs s.1 f).2.2, s.2 || decide ((qget bs s.1 f).2.1 ≠ 0))
def rvals (bs : List Int) : List GField → List Int → RS → List Int × RS
  | [], acc, s => (acc, s)
  | f :: fs, acc, s => rvals bs fs (acc ++ [(rfld bs s f).1]) (rfld bs s f).2
def rcomps (bs : List Int) : Nat → List GKind → List GComp → RS → List GComp × RS
  | _, [], acc, s => (acc, s)
  | i, k :: r, acc, s => if (rget bs s 1).1 = 0 then rcomps bs (i + 1) r acc (rget bs s 1).2
    else rcomps bs (i + 1) r (acc ++ [⟨i, (rvals bs k.Fields [] (rget bs s 1).2).1⟩]) (rvals bs k.Fields [] (rget bs s 1).2).2
theorem qget_le {bs : List Int} {p : Nat} {f : GField} (h : p ≤ 8 * bs.length) : (qget bs p f).2.2 ≤ 8 * bs.length := by
  unfold qget; split <;> exact getM_le h
theorem rvals_le (bs : List Int) : ∀ (fs : List GField) (acc : List Int) (s : RS), s.1 ≤ 8 * bs.length → (rvals bs fs acc s).2.1 ≤ 8 * bs.length
  | [], _, _, h => h
  | f :: fs, acc, s, h => rvals_le bs fs _ _ (qget_le h)
theorem rvals_len (bs : List Int) : ∀ (fs : List GField) (acc : List Int) (s : RS), (rvals bs fs acc s).1.length = acc.length + fs.length
  | [], _, _ => rfl
  | f :: fs, acc, s => by rw [rvals, rvals_len bs fs]; simp; omega
theorem rcomps_le (bs : List Int) : ∀ (r : List GKind) (i : Nat) (acc : List GComp) (s : RS), s.1 ≤ 8 * bs.length → (rcomps bs i r acc s).2.1 ≤ 8 * bs.length
  | [], _, _, _, h => h
  | k :: r, i, acc, s, h => by
    rw [rcomps]
    split
    · exact rcomps_le bs r _ _ _ (rget_le h)
    · exact rcomps_le bs r _ _ _ (rvals_le bs _ _ _ (rget_le h))

set_option maxRecDepth 20000 in
set_option maxHeartbeats 2000000 in
theorem RComps_fn (bs : List Int) (s : RS) (ks : List GKind) (hk : ks.length ≤ 16) (hf : ∀ k ∈ ks, k.Fields.length ≤ 8 ∧ ∀ f ∈ k.Fields, fieldB f = true) (hl : bs.length ≤ 100000) (hb : BytesOk bs) (hp : s.1 ≤ 8 * bs.length) :
    FnD Try.prog 133 [.ptr 0 0, .sl 2 (ks.map GKind.e)] [rdSt s 1, rSt bs s.1]
    (.sl 2 ((rcomps bs 0 ks [] s).1.map GComp.e)) [some (rdSt (rcomps bs 0 ks [] s).2 1), some (rSt bs (rcomps bs 0 ks [] s).2.1)] := by
  refine fnd_go Try.func133 rfl ?_
  simp [Try.ntmps133]
  refine awp_loop (fun x : Nat × List GComp × RS => ⟨65, [(0, .ptr 0 0), (1, .sl 2 (ks.map GKind.e)), (5, .osl 2 2 0 x.2.1.length), (13, kI ks.length), (14, kI x.1)], [some (rdSt x.2.2 1), some (rSt bs x.2.2.1), some (x.2.1.map GComp.e).flatten], 2⟩)
    (fun x => x.1 ≤ ks.length ∧ x.2.1.length ≤ x.1 ∧ x.2.2.1 ≤ 8 * bs.length ∧ rcomps bs x.1 (ks.drop x.1) x.2.1 x.2.2 = rcomps bs 0 ks [] s) (fun x => ks.length - x.1) (0, [], s) ?_ ?_ ?_
  · exact (ent_nil (t := 5) (z := 2) rfl).trans (entm [0, 1, 2])
  · simp [hp]
  · rintro ⟨i, acc, s1⟩ ⟨hi, hal, hs1, hrun⟩
    simp only at hi hal hs1 hrun
    have hacc := flat_imm GComp.e_imm acc
    refine awp_go ?_
    by_cases hlt : i < ks.length
    · obtain ⟨k, hkk⟩ : ∃ k, ks[i] = k := ⟨_, rfl⟩
      have hkm : k ∈ ks := hkk ▸ List.getElem_mem hlt
      obtain ⟨hfl, hff⟩ := hf k hkm
      rw [List.drop_eq_getElem_cons hlt, hkk, rcomps] at hrun
      have hw1 : IntKind.i64.wrap ((i : Int) + 1) = ((i + 1 : Nat) : Int) := wrap_id (by omega) (by omega)
      simp [hlt]
      refine calD [0, 1] (RGet_fn bs s1 1 (by omega) hl hb hs1) ?_
      have h7 := rget_le (n := 1) hs1
      obtain ⟨c, hc⟩ : ∃ c, rget bs s1 1 = c := ⟨_, rfl⟩
      rw [hc] at h7 hrun ⊢
      by_cases h0 : c.1 = 0
      · rw [if_pos h0] at hrun
        simp [h0, hw1, -Bool.exists_bool]
        exact ⟨i + 1, acc, c.2.1, c.2.2, ⟨by omega, by omega, h7, hrun⟩, by omega, entm [0, 1, 2] (hB := by simp [imms_ren hacc, imms_lt hacc])⟩
      · rw [if_neg h0] at hrun
        have h0' : ¬ (c.1 : Int) = 0 := by omega
        simp [h0, h0', hlt, hkk, GKind.e, GComp.e, -Bool.exists_bool]
        refine awp_loop (fun y : Nat × List Int × RS => ⟨65, [(0, .ptr 0 0), (1, .sl 2 (ks.map GKind.e)), (5, .osl 2 2 0 acc.length), (7, .ptr 3 0), (13, kI ks.length), (14, kI i), (26, .sl 3 (k.Fields.map GField.e)), (27, kI k.Fields.length), (28, kI y.1)],
            [some (rdSt y.2.2 1), some (rSt bs y.2.2.1), some (acc.map GComp.e).flatten, some [kI i, .osl 4 1 0 y.2.1.length], some (y.2.1.map kI)], 2⟩)
          (fun y => y.1 ≤ k.Fields.length ∧ y.2.1.length = y.1 ∧ y.2.2.1 ≤ 8 * bs.length ∧ rvals bs (k.Fields.drop y.1) y.2.1 y.2.2 = rvals bs k.Fields [] c.2) (fun y => k.Fields.length - y.1) (0, [], c.2) ?_ ?_ ?_
        · exact (ent_nilb (b := 3) (j := 1) (z := 1) rfl rfl).trans (entm [0, 1, 2, 3, 4] (hB := by simp [imms_ren hacc, imms_lt hacc]))
        · simp [h7]
        · rintro ⟨j, vs, s2⟩ ⟨hj, hvl, hs2, hrun2⟩
          simp only at hj hvl hs2 hrun2
          by_cases hjl : j < k.Fields.length
          · refine awp_go ?_
            obtain ⟨f, hfe⟩ : ∃ f, k.Fields[j] = f := ⟨_, rfl⟩
            have hffv : fieldB f = true := hff f (hfe ▸ List.getElem_mem hjl)
            rw [List.drop_eq_getElem_cons hjl, hfe, rvals] at hrun2
            have hw2 : IntKind.i64.wrap ((j : Int) + 1) = ((j + 1 : Nat) : Int) := wrap_id (by omega) (by omega)
            have hQ := QGet_fn bs s2.1 f hffv hl hb hs2
            have hql := qget_le (f := f) hs2
            have hrf : rfld bs s2 f = ((qget bs s2.1 f).1, (qget bs s2.1 f).2.2, s2.2 || decide ((qget bs s2.1 f).2.1 ≠ 0)) := rfl
            rw [hrf] at hrun2
            obtain ⟨g, hg⟩ : ∃ g, qget bs s2.1 f = g := ⟨_, rfl⟩
            rw [hg] at hQ hql hrun2
            have hb1 : (vs.length + 1) * 8 ≤ 140737488355328 := by omega
            have hb2 : vs.length + 1 ≤ maxLen := by simp only [maxLen]; omega
            simp [hjl, hfe]
            refine awp_draw follows_mix [5] [(0, [0]), (0, [0]), (0, [0]), (0, [0]), (0, [0]), (3, [0]), (0, [1]), (0, [1]), (0, [1]), (0, [1]), (0, [1])] 1 (by kernel_rfl) rfl ?_
            simp
            refine gD_callW (.tup [kI g.1, kI g.2.1]) [some (rdSt s2 1), some (rSt bs g.2.2), some (acc.map GComp.e).flatten, some [kI i, .osl 4 1 0 vs.length], some (vs.map kI), some f.e] ?_
            obtain ⟨p2, bad⟩ := s2
            have him : (vs.map kI ++ [kI g.1]).all PV.immB = true := by simp
            cases bad with
            | true =>
              simp [hb1, hb2, hw2, -Bool.exists_bool]
              refine ⟨.inl ⟨rfl, doD [1] hQ (h2 := by simp)⟩, ?_⟩
              exact ⟨j + 1, vs ++ [g.1], g.2.2, true, ⟨by omega, by simp; omega, hql, by simpa using hrun2⟩, by omega, entm [0, 1, 2, 3, 7] (hB := by simp [imms_ren hacc, imms_lt hacc, imms_ren him, imms_lt him])⟩
            | false =>
              by_cases h9 : g.2.1 = 0
              · simp [hb1, hb2, hw2, h9, -Bool.exists_bool]
                rw [h9] at hQ
                refine ⟨.inl ⟨rfl, doD [1] hQ (h2 := by simp)⟩, ?_⟩
                exact ⟨j + 1, vs ++ [g.1], g.2.2, false, ⟨by omega, by simp; omega, hql, by simpa [h9] using hrun2⟩, by omega, entm [0, 1, 2, 3, 7] (hB := by simp [imms_ren hacc, imms_lt hacc, imms_ren him, imms_lt him])⟩
              · simp [hb1, hb2, hw2, h9, -Bool.exists_bool]
                refine ⟨.inl ⟨rfl, doD [1] hQ (h2 := by simp)⟩, ?_⟩
                exact ⟨j + 1, vs ++ [g.1], g.2.2, true, ⟨by omega, by simp; omega, hql, by simpa [h9] using hrun2⟩, by omega, entm [0, 1, 2, 3, 7] (hB := by simp [imms_ren hacc, imms_lt hacc, imms_ren him, imms_lt him])⟩
          · obtain rfl : j = k.Fields.length := by omega
            rw [List.drop_length, rvals] at hrun2
            rw [← hrun2] at hrun
            refine awp_ent (ent_fz 4 (vs.map kI)) (awp_go ?_)
            have hb1 : (acc.length + 1) * 32 ≤ 140737488355328 := by omega
            have hb2 : acc.length + 1 ≤ maxLen := by simp only [maxLen]; omega
            simp [hb1, hb2, hw1, imms_fz hacc, -Bool.exists_bool]
            exact ⟨i + 1, acc ++ [⟨i, vs⟩], s2.1, s2.2, ⟨by omega, by simp; omega, hs2, hrun⟩, by omega, entm [0, 1, 6] (hT := by simp) (hB := by simp [GComp.e, imms_ren hacc, imms_lt hacc])⟩
    · obtain rfl : i = ks.length := by omega
      rw [List.drop_length, rcomps] at hrun
      rw [← hrun]
      simp
      refine finG_fz 2 _ ?_ (hi := hacc)
      simp [chunks_map GComp.e_len]
      exact finGm [0, 1]
end Go.Proofs.Ytemlkbcfplkniaa.Am
/- Package save: the reader's kinds. -/
namespace Go.Proofs.Ytemlkbcfplkniaa.Am
open Go Go.RowKit

def rfield (bs : List Int) (s : RS) : GField × RS :=
  (⟨(rname bs s).1, (rget bs (rname bs s).2 5).1 + 1, (rint bs (rget bs (rname bs s).2 5).2.1).1⟩,
    (rint bs (rget bs (rname bs s).2 5).2.1).2.2, (rget bs (rname bs s).2 5).2.2 || decide ((rint bs (rget bs (rname bs s).2 5).2.1).2.1 ≠ 0))
def rfields (bs : List Int) : Nat → List GField → RS → List GField × RS
  | 0, acc, s => (acc, s)
  | n + 1, acc, s => rfields bs n (acc ++ [(rfield bs s).1]) (rfield bs s).2
def rkind (bs : List Int) (s : RS) : GKind × RS :=
  (⟨(rname bs s).1, (rfields bs (rget bs (rname bs s).2 4).1 [] (rget bs (rname bs s).2 4).2).1⟩, (rfields bs (rget bs (rname bs s).2 4).1 [] (rget bs (rname bs s).2 4).2).2)
def rkindsGo (bs : List Int) : Nat → List GKind → RS → List GKind × RS
  | 0, acc, s => (acc, s)
  | n + 1, acc, s => rkindsGo bs n (acc ++ [(rkind bs s).1]) (rkind bs s).2
def rkinds (bs : List Int) (s : RS) : List GKind × RS :=
  let r := rkindsGo bs (rget bs s 5).1 [] (rget bs s 5).2
  (r.1, r.2.1, r.2.2 || decide (checkE r.1 ≠ 0))

theorem rint_le {bs : List Int} {p : Nat} (h : p ≤ 8 * bs.length) : (rint bs p).2.2 ≤ 8 * bs.length := by
  have := (rnat_ok bs h).2
  unfold rint; split <;> exact this
theorem rfield_le {bs : List Int} {s : RS} (h : s.1 ≤ 8 * bs.length) : (rfield bs s).2.1 ≤ 8 * bs.length := rint_le (rget_le (rname_le h))
theorem rfields_le (bs : List Int) : ∀ (n : Nat) (acc : List GField) (s : RS), s.1 ≤ 8 * bs.length → (rfields bs n acc s).2.1 ≤ 8 * bs.length
  | 0, _, _, h => h
  | n + 1, acc, s, h => rfields_le bs n _ _ (rfield_le h)
theorem rfields_len (bs : List Int) : ∀ (n : Nat) (acc : List GField) (s : RS), (rfields bs n acc s).1.length = acc.length + n
  | 0, _, _ => rfl
  | n + 1, acc, s => by rw [rfields, rfields_len bs n]; simp; omega
theorem rkind_le {bs : List Int} {s : RS} (h : s.1 ≤ 8 * bs.length) : (rkind bs s).2.1 ≤ 8 * bs.length := rfields_le bs _ _ _ (rget_le (rname_le h))
theorem rkindsGo_le (bs : List Int) : ∀ (n : Nat) (acc : List GKind) (s : RS), s.1 ≤ 8 * bs.length → (rkindsGo bs n acc s).2.1 ≤ 8 * bs.length
  | 0, _, _, h => h
  | n + 1, acc, s, h => rkindsGo_le bs n _ _ (rkind_le h)
theorem rkindsGo_len (bs : List Int) : ∀ (n : Nat) (acc : List GKind) (s : RS), (rkindsGo bs n acc s).1.length = acc.length + n
  | 0, _, _ => rfl
  | n + 1, acc, s => by rw [rkindsGo, rkindsGo_len bs n]; simp; omega
theorem rkind_fl (bs : List Int) (s : RS) : (rkind bs s).1.Fields.length ≤ 16 := by
  have h := rget_lt bs (rname bs s).2 4
  show (rfields bs _ _ _).1.length ≤ 16
  rw [rfields_len]; simp; omega
theorem rkindsGo_fl (bs : List Int) : ∀ (n : Nat) (acc : List GKind) (s : RS), (∀ k ∈ acc, k.Fields.length ≤ 16) → ∀ k ∈ (rkindsGo bs n acc s).1, k.Fields.length ≤ 16
  | 0, _, _, h => h
  | n + 1, acc, s, h => rkindsGo_fl bs n _ _ fun k hk => by
    rcases List.mem_append.1 hk with hk | hk
    · exact h k hk
    · obtain rfl := List.mem_singleton.1 hk; exact rkind_fl bs s

set_option maxRecDepth 20000 in
set_option maxHeartbeats 2000000 in
theorem RKinds_fn (bs : List Int) (s : RS) (hl : bs.length ≤ 100000) (hb : BytesOk bs) (hp : s.1 ≤ 8 * bs.length) :
    FnD Try.prog 80 [.ptr 0 0] [rdSt s 1, rSt bs s.1]
    (.sl 2 ((rkinds bs s).1.map GKind.e)) [some (rdSt (rkinds bs s).2 1), some (rSt bs (rkinds bs s).2.1)] := by
  refine fnd_go Try.func80 rfl ?_
  simp [Try.ntmps80]
  refine calD [0, 1] (RGet_fn bs s 5 (by omega) hl hb hp) ?_
  have hr : rkinds bs s = ((rkindsGo bs (rget bs s 5).1 [] (rget bs s 5).2).1, (rkindsGo bs (rget bs s 5).1 [] (rget bs s 5).2).2.1, (rkindsGo bs (rget bs s 5).1 [] (rget bs s 5).2).2.2 || decide (checkE (rkindsGo bs (rget bs s 5).1 [] (rget bs s 5).2).1 ≠ 0)) := rfl
  have h5 := rget_lt bs s 5
  have h6 := rget_le (n := 5) hp
  rw [hr]
  obtain ⟨g, hg⟩ : ∃ g, rget bs s 5 = g := ⟨_, rfl⟩
  rw [hg] at h5 h6 ⊢
  have hrl := rkindsGo_len bs g.1 [] g.2
  have hrf := rkindsGo_fl bs g.1 [] g.2 (by simp)
  simp
  refine awp_loop (fun x : Nat × List GKind × RS => ⟨72, [(0, .ptr 0 0), (3, .osl 2 2 0 x.2.1.length), (9, kI g.1), (10, kI x.1)], [some (rdSt x.2.2 1), some (rSt bs x.2.2.1), some (x.2.1.map GKind.e).flatten], 2⟩)
    (fun x => x.1 ≤ g.1 ∧ x.2.1.length = x.1 ∧ x.2.2.1 ≤ 8 * bs.length ∧ rkindsGo bs (g.1 - x.1) x.2.1 x.2.2 = rkindsGo bs g.1 [] g.2) (fun x => g.1 - x.1) (0, [], g.2) ?_ ?_ ?_
  · exact (ent_nil (t := 3) (z := 2) rfl).trans (entm [0, 1, 2])
  · simp [h6]
  · rintro ⟨i, acc, s1⟩ ⟨hi, hal, hs1, hrun⟩
    simp only at hi hal hs1 hrun
    have hacc := flat_imm GKind.e_imm acc
    by_cases hlt : i < g.1
    · refine awp_go ?_
      rw [show g.1 - i = (g.1 - (i + 1)) + 1 by omega, rkindsGo] at hrun
      have hw1 : IntKind.i64.wrap ((i : Int) + 1) = ((i + 1 : Nat) : Int) := wrap_id (by omega) (by omega)
      simp [hlt]
      refine calD [0, 1] (RName_fn bs s1 hl hb hs1) ?_
      have hk : rkind bs s1 = (⟨(rname bs s1).1, (rfields bs (rget bs (rname bs s1).2 4).1 [] (rget bs (rname bs s1).2 4).2).1⟩, (rfields bs (rget bs (rname bs s1).2 4).1 [] (rget bs (rname bs s1).2 4).2).2) := rfl
      rw [hk] at hrun
      have h7 := rname_le hs1
      obtain ⟨nm, hnm⟩ : ∃ nm, rname bs s1 = nm := ⟨_, rfl⟩
      rw [hnm] at h7 hrun ⊢
      simp
      refine calD [0, 1] (RGet_fn bs nm.2 4 (by omega) hl hb h7) ?_
      have h8 := rget_le (n := 4) h7
      have h9 := rget_lt bs nm.2 4
      obtain ⟨c, hc⟩ : ∃ c, rget bs nm.2 4 = c := ⟨_, rfl⟩
      rw [hc] at h8 h9 hrun ⊢
      simp
      refine awp_loop (fun y : Nat × List GField × RS => ⟨72, [(0, .ptr 0 0), (3, .osl 2 2 0 acc.length), (4, .ptr 3 0), (9, kI g.1), (10, kI i), (16, kI c.1), (17, kI y.1)],
          [some (rdSt y.2.2 1), some (rSt bs y.2.2.1), some (acc.map GKind.e).flatten, some [kS nm.1, .osl 4 3 0 y.2.1.length], some (y.2.1.map GField.e).flatten], 2⟩)
        (fun y => y.1 ≤ c.1 ∧ y.2.1.length = y.1 ∧ y.2.2.1 ≤ 8 * bs.length ∧ rfields bs (c.1 - y.1) y.2.1 y.2.2 = rfields bs c.1 [] c.2) (fun y => c.1 - y.1) (0, [], c.2) ?_ ?_ ?_
      · exact (ent_nilb (b := 3) (j := 1) (z := 3) rfl rfl).trans (entm [0, 1, 2, 3, 4] (hB := by simp [imms_ren hacc, imms_lt hacc]))
      · simp [h8]
      · rintro ⟨j, fs, s2⟩ ⟨hj, hfl, hs2, hrun2⟩
        simp only at hj hfl hs2 hrun2
        have hfs := flat_imm GField.e_imm fs
        by_cases hjl : j < c.1
        · refine awp_go ?_
          rw [show c.1 - j = (c.1 - (j + 1)) + 1 by omega, rfields] at hrun2
          have hw2 : IntKind.i64.wrap ((j : Int) + 1) = ((j + 1 : Nat) : Int) := wrap_id (by omega) (by omega)
          have hb1 : (fs.length + 1) * 32 ≤ 140737488355328 := by omega
          have hb2 : fs.length + 1 ≤ maxLen := by simp only [maxLen]; omega
          simp [hjl]
          refine calD [0, 1] (RName_fn bs s2 hl hb hs2) ?_
          have hF : rfield bs s2 = (⟨(rname bs s2).1, (rget bs (rname bs s2).2 5).1 + 1, (rint bs (rget bs (rname bs s2).2 5).2.1).1⟩,
            (rint bs (rget bs (rname bs s2).2 5).2.1).2.2, (rget bs (rname bs s2).2 5).2.2 || decide ((rint bs (rget bs (rname bs s2).2 5).2.1).2.1 ≠ 0)) := rfl
          rw [hF] at hrun2
          have k1 := rname_le hs2
          obtain ⟨fn, hfn⟩ : ∃ fn, rname bs s2 = fn := ⟨_, rfl⟩
          rw [hfn] at k1 hrun2 ⊢
          simp
          refine calD [0, 1] (RGet_fn bs fn.2 5 (by omega) hl hb k1) ?_
          have k2 := rget_le (n := 5) k1
          have k3 := rget_lt bs fn.2 5
          obtain ⟨fb, hfb⟩ : ∃ fb, rget bs fn.2 5 = fb := ⟨_, rfl⟩
          rw [hfb] at k2 k3 hrun2 ⊢
          have hw3 : IntKind.i64.wrap ((fb.1 : Int) + 1) = ((fb.1 + 1 : Nat) : Int) := wrap_id (by omega) (by omega)
          simp [hw3]
          refine calD [1] (RInt_fn bs fb.2.1 hl hb k2) ?_
          have k4 := rint_le k2
          obtain ⟨fv, hfv⟩ : ∃ fv, rint bs fb.2.1 = fv := ⟨_, rfl⟩
          rw [hfv] at k4 hrun2 ⊢
          obtain ⟨fb1, fp, bad⟩ := fb
          simp only at k2 k3 k4 hrun2 hw3 ⊢
          cases bad with
          | true =>
            simp [hb1, hb2, hw2, -Bool.exists_bool]
            exact ⟨j + 1, fs ++ [⟨fn.1, fb1 + 1, fv.1⟩], fv.2.2, true, ⟨by omega, by simp; omega, k4, by simpa using hrun2⟩, by omega, entm [0, 1, 2, 3, 7] (hT := by simp) (hB := by simp [GField.e, imms_ren hacc, imms_lt hacc, imms_ren hfs, imms_lt hfs])⟩
          | false =>
            by_cases h0 : fv.2.1 = 0
            · simp [hb1, hb2, hw2, h0, -Bool.exists_bool]
              exact ⟨j + 1, fs ++ [⟨fn.1, fb1 + 1, fv.1⟩], fv.2.2, false, ⟨by omega, by simp; omega, k4, by simpa [h0] using hrun2⟩, by omega, entm [0, 1, 2, 3, 7] (hT := by simp) (hB := by simp [GField.e, imms_ren hacc, imms_lt hacc, imms_ren hfs, imms_lt hfs])⟩
            · simp [hb1, hb2, hw2, h0, -Bool.exists_bool]
              exact ⟨j + 1, fs ++ [⟨fn.1, fb1 + 1, fv.1⟩], fv.2.2, true, ⟨by omega, by simp; omega, k4, by simpa [h0] using hrun2⟩, by omega, entm [0, 1, 2, 3, 7] (hT := by simp) (hB := by simp [GField.e, imms_ren hacc, imms_lt hacc, imms_ren hfs, imms_lt hfs])⟩
        · obtain rfl : j = c.1 := by omega
          rw [Nat.sub_self, rfields] at hrun2
          rw [← hrun2] at hrun
          refine awp_ent (ent_fz 4 _ (hi := hfs)) (awp_go ?_)
          have hb1 : (acc.length + 1) * 40 ≤ 140737488355328 := by omega
          have hb2 : acc.length + 1 ≤ maxLen := by simp only [maxLen]; omega
          simp [hb1, hb2, hw1, imms_fz hacc, flat_sum GField.e_len, chunks_map GField.e_len, -Bool.exists_bool]
          exact ⟨i + 1, acc ++ [⟨nm.1, fs⟩], s2.1, s2.2, ⟨by omega, by simp; omega, hs2, hrun⟩, by omega, entm [0, 1, 6] (hT := by simp) (hB := by simp [GKind.e, imms_ren hacc, imms_lt hacc])⟩
    · obtain rfl : i = g.1 := by omega
      rw [Nat.sub_self, rkindsGo] at hrun
      rw [← hrun] at hrl hrf ⊢
      refine awp_ent (ent_fz 2 _ (hi := hacc)) (awp_go ?_)
      obtain ⟨sp, bad⟩ := s1
      cases bad with
      | true =>
        simp [flat_sum GKind.e_len, chunks_map GKind.e_len]
        exact finGm [0, 1]
      | false =>
        simp [flat_sum GKind.e_len, chunks_map GKind.e_len]
        refine cal (Check_fn acc (fun k hk => by have := hrf k hk; omega) (by omega)) ?_
        by_cases h0 : checkE acc = 0
        · simp [h0]
          exact finGm [0, 1]
        · simp [h0]
          exact finGm [0, 1]
end Go.Proofs.Ytemlkbcfplkniaa.Am
/- Package save: the reader's items. -/
namespace Go.Proofs.Ytemlkbcfplkniaa.Am
open Go Go.RowKit

def ritems (bs : List Int) (ks : List GKind) : Nat → List Int → List GItem → RS → List Int × List GItem × RS
  | 0, gs, its, s => (gs, its, s)
  | k + 1, gs, its, s =>
    if s.2 = true ∨ (rnat bs s.1).2.1 ≠ 0 ∨ 1073741824 < (rnat bs s.1).1 then (gs, its, ((rnat bs s.1).2.2, true))
    else if (rget bs ((rnat bs s.1).2.2, false) 1).1 = 1 then
      ritems bs ks k (gs ++ [((rnat bs s.1).1 : Int)]) (its ++ [⟨⟨gs.length, (rnat bs s.1).1⟩, (rcomps bs 0 ks [] (rget bs ((rnat bs s.1).2.2, false) 1).2).1⟩]) (rcomps bs 0 ks [] (rget bs ((rnat bs s.1).2.2, false) 1).2).2
    else ritems bs ks k (gs ++ [((rnat bs s.1).1 : Int)]) its (rget bs ((rnat bs s.1).2.2, false) 1).2
def ritemsM (bs : List Int) (ks : List GKind) (s : RS) : GWorld × RS :=
  (⟨ks, (ritems bs ks (rget bs s 9).1 [] [] (rget bs s 9).2).1, (ritems bs ks (rget bs s 9).1 [] [] (rget bs s 9).2).2.1⟩, (ritems bs ks (rget bs s 9).1 [] [] (rget bs s 9).2).2.2)

set_option maxRecDepth 20000 in
set_option maxHeartbeats 2000000 in
theorem RItems_fn (bs : List Int) (s : RS) (ks : List GKind) (hk : ks.length ≤ 16) (hf : ∀ k ∈ ks, k.Fields.length ≤ 8 ∧ ∀ f ∈ k.Fields, fieldB f = true) (hl : bs.length ≤ 100000) (hb : BytesOk bs) (hp : s.1 ≤ 8 * bs.length) :
    FnD Try.prog 81 [.ptr 0 0, .sl 2 (ks.map GKind.e)] [rdSt s 1, rSt bs s.1]
    (.agg (ritemsM bs ks s).1.e) [some (rdSt (ritemsM bs ks s).2 1), some (rSt bs (ritemsM bs ks s).2.1)] := by
  refine fnd_go Try.func81 rfl ?_
  simp [Try.ntmps81]
  refine calD [0, 1] (RGet_fn bs s 9 (by omega) hl hb hp) ?_
  have hr : ritemsM bs ks s = (⟨ks, (ritems bs ks (rget bs s 9).1 [] [] (rget bs s 9).2).1, (ritems bs ks (rget bs s 9).1 [] [] (rget bs s 9).2).2.1⟩, (ritems bs ks (rget bs s 9).1 [] [] (rget bs s 9).2).2.2) := rfl
  have h5 := rget_lt bs s 9
  have h6 := rget_le (n := 9) hp
  rw [hr]
  obtain ⟨g, hg⟩ : ∃ g, rget bs s 9 = g := ⟨_, rfl⟩
  rw [hg] at h5 h6 ⊢
  simp
  obtain ⟨R, hR⟩ : ∃ R, ritems bs ks g.1 [] [] g.2 = R := ⟨_, rfl⟩
  rw [hR]
  refine awp_loop (fun x : Nat × List Int × List GItem × RS => ⟨69, [(0, .ptr 0 0), (1, .sl 2 (ks.map GKind.e)), (4, .ptr 2 0), (5, .ptr 3 0), (12, kI g.1), (13, kI x.1)],
      [some (rdSt x.2.2.2 1), some (rSt bs x.2.2.2.1), some [kNil, kNil, kNil], some [.sl 2 (ks.map GKind.e), .osl 4 1 0 x.2.1.length, .osl 5 3 0 x.2.2.1.length], some (x.2.1.map kI), some (x.2.2.1.map GItem.e).flatten], 2⟩)
    (fun x => x.1 ≤ g.1 ∧ x.2.1.length = x.1 ∧ x.2.2.1.length ≤ x.1 ∧ x.2.2.2.1 ≤ 8 * bs.length ∧ ritems bs ks (g.1 - x.1) x.2.1 x.2.2.1 x.2.2.2 = R) (fun x => g.1 - x.1) (0, [], [], g.2) ?_ ?_ ?_
  · exact (ent_nilb (b := 3) (j := 1) (z := 1) rfl rfl).trans ((ent_nilb (b := 3) (j := 2) (z := 3) rfl rfl).trans (entm [0, 1, 2, 3, 4, 5]))
  · simp [h6, hR]
  · rintro ⟨i, gs, its, s1⟩ ⟨hi, hgl, hil, hs1, hrun⟩
    simp only at hi hgl hil hs1 hrun
    have hits := flat_imm GItem.e_imm its
    have hgs : (gs.map kI).all PV.immB = true := by simp
    by_cases hlt : i < g.1
    · refine awp_go ?_
      rw [show g.1 - i = (g.1 - (i + 1)) + 1 by omega, ritems] at hrun
      have hw1 : IntKind.i64.wrap ((i : Int) + 1) = ((i + 1 : Nat) : Int) := wrap_id (by omega) (by omega)
      simp [hlt]
      refine calD [1] (RNat_fn bs s1.1 hl hb hs1) ?_
      obtain ⟨hvl, hvp⟩ := rnat_ok bs hs1
      obtain ⟨v, hv⟩ : ∃ v, rnat bs s1.1 = v := ⟨_, rfl⟩
      rw [hv] at hvl hvp hrun ⊢
      obtain ⟨p1, bad⟩ := s1
      simp only at hrun hs1
      cases bad with
      | true =>
        rw [if_pos (.inl rfl)] at hrun
        simp
        rw [← hrun]
        simp
        refine finG_fz 4 _ ?_ (hi := hgs)
        simp [flat_sum GItem.e_len, imms_fz hits]
        refine finG_fz 5 _ ?_ (hi := hits)
        simp [flat_sum GItem.e_len, chunks_map GItem.e_len]
        exact finGm [0, 1] (hres := by simp [GWorld.e, slI])
      | false =>
        by_cases h0 : v.2.1 = 0
        · by_cases h1 : 1073741824 < v.1
          · rw [if_pos (.inr (.inr h1))] at hrun
            have h1' : (1073741824 : Int) < v.1 := by omega
            simp [h0, h1, h1']
            rw [← hrun]
            simp
            refine finG_fz 4 _ ?_ (hi := hgs)
            simp [flat_sum GItem.e_len, imms_fz hits]
            refine finG_fz 5 _ ?_ (hi := hits)
            simp [flat_sum GItem.e_len, chunks_map GItem.e_len]
            exact finGm [0, 1] (hres := by simp [GWorld.e, slI])
          · rw [if_neg (by simp [h0, h1])] at hrun
            have h1' : ¬ (1073741824 : Int) < v.1 := by omega
            have hw2 : IntKind.i64.wrap (v.1 : Int) = v.1 := wrap_id (by omega) (by omega)
            have hb1 : (gs.length + 1) * 8 ≤ 140737488355328 := by omega
            have hb2 : gs.length + 1 ≤ maxLen := by simp only [maxLen]; omega
            simp [h0, h1, h1', hw2, hb1, hb2]
            refine calD [0, 1] (RGet_fn bs (v.2.2, false) 1 (by omega) hl hb hvp) ?_
            have h7 := rget_le (bs := bs) (s := (v.2.2, false)) (n := 1) hvp
            have hgs2 : (gs.map kI ++ [kI (v.1 : Int)]).all PV.immB = true := by simp
            obtain ⟨c, hc⟩ : ∃ c, rget bs (v.2.2, false) 1 = c := ⟨_, rfl⟩
            rw [hc] at h7 hrun ⊢
            by_cases hc1 : c.1 = 1
            · rw [if_pos hc1] at hrun
              have hC := RComps_fn bs c.2 ks hk hf hl hb h7
              have hCl := rcomps_le bs ks 0 [] c.2 h7
              obtain ⟨z, hz⟩ : ∃ z, rcomps bs 0 ks [] c.2 = z := ⟨_, rfl⟩
              rw [hz] at hC hCl hrun
              have hb3 : (its.length + 1) * 40 ≤ 140737488355328 := by omega
              have hb4 : its.length + 1 ≤ maxLen := by simp only [maxLen]; omega
              simp [hc1]
              refine awp_drawS follows_mix [(0, 0), (0, 0), (0, 0), (0, 0), (0, 0), (0, 0), (0, 0), (0, 0), (3, 0), (0, 0), (4, 8), (4, 9), (0, 0), (1, 0)] 8 10 [(0, 8), (0, 10), (1, 8), (1, 10), (2, 8), (3, 8), (4, 8), (5, 8)] (by kernel_rfl) rfl rfl ?_
              simp [hw2]
              refine gE_callW (.sl 2 (z.1.map GComp.e)) [0, 1] [(0, some (rdSt z.2 1)), (1, some (rSt bs z.2.1))] rfl (fun y => ?_) ?_
              · simp
                exact doD [0, 1] hC (hbox := by simp) (h2 := by simp)
              simp [hw2, hb3, hb4, hw1, -Bool.exists_bool]
              rw [hgl] at hrun
              have hit : [kI (i : Int), kI (v.1 : Int), PV.sl 2 (z.1.map GComp.e)].all PV.immB = true := rfl
              exact ⟨i + 1, gs ++ [(v.1 : Int)], its ++ [⟨⟨i, v.1⟩, z.1⟩], z.2.1, z.2.2, ⟨by omega, by simp; omega, by simp; omega, hCl, hrun⟩, by omega, entm [0, 1, 2, 3, 7, 9] (hB := by simp [GItem.e, imms_ren hits, imms_lt hits, imms_ren hgs2, imms_lt hgs2])⟩
            · rw [if_neg hc1] at hrun
              have hc1' : ¬ (c.1 : Int) = 1 := by omega
              simp [hc1, hc1', hw1, -Bool.exists_bool]
              exact ⟨i + 1, gs ++ [(v.1 : Int)], its, c.2.1, c.2.2, ⟨by omega, by simp; omega, by omega, h7, hrun⟩, by omega, entm [0, 1, 2, 3, 7, 5] (hB := by simp [imms_ren hits, imms_lt hits, imms_ren hgs2, imms_lt hgs2])⟩
        · rw [if_pos (.inr (.inl h0))] at hrun
          simp [h0]
          rw [← hrun]
          simp
          refine finG_fz 4 _ ?_ (hi := hgs)
          simp [flat_sum GItem.e_len, imms_fz hits]
          refine finG_fz 5 _ ?_ (hi := hits)
          simp [flat_sum GItem.e_len, chunks_map GItem.e_len]
          exact finGm [0, 1] (hres := by simp [GWorld.e, slI])
    · obtain rfl : i = g.1 := by omega
      rw [Nat.sub_self, ritems] at hrun
      rw [← hrun]
      refine awp_go ?_
      simp
      refine finG_fz 4 _ ?_ (hi := hgs)
      simp [flat_sum GItem.e_len, imms_fz hits]
      refine finG_fz 5 _ ?_ (hi := hits)
      simp [flat_sum GItem.e_len, chunks_map GItem.e_len]
      exact finGm [0, 1] (hres := by simp [GWorld.e, slI])
end Go.Proofs.Ytemlkbcfplkniaa.Am
/- Package save: Read. -/
namespace Go.Proofs.Ytemlkbcfplkniaa.Am
open Go Go.RowKit

theorem rcomps_fine (bs : List Int) : ∀ (r : List GKind) (i : Nat) (acc : List GComp) (s : RS), (∀ k ∈ r, k.Fields.length ≤ 8) → (∀ c ∈ acc, c.Vals.length ≤ 8) →
    (rcomps bs i r acc s).1.length ≤ acc.length + r.length ∧ ∀ c ∈ (rcomps bs i r acc s).1, c.Vals.length ≤ 8
  | [], _, acc, _, _, h => ⟨by simp [rcomps], h⟩
  | k :: r, i, acc, s, hk, h => by
    rw [rcomps]
    split
    · obtain ⟨h1, h2⟩ := rcomps_fine bs r (i + 1) acc (rget bs s 1).2 (fun k' hk' => hk k' (by simp [hk'])) h
      exact ⟨by simp; omega, h2⟩
    · obtain ⟨h1, h2⟩ := rcomps_fine bs r (i + 1) (acc ++ [⟨i, (rvals bs k.Fields [] (rget bs s 1).2).1⟩]) (rvals bs k.Fields [] (rget bs s 1).2).2 (fun k' hk' => hk k' (by simp [hk'])) (fun c hc => by
        rcases List.mem_append.1 hc with hc | hc
        · exact h c hc
        · obtain rfl := List.mem_singleton.1 hc
          have := rvals_len bs k.Fields [] (rget bs s 1).2
          have := hk k (by simp)
          simp only [List.length_nil] at *
          omega)
      exact ⟨by simp at h1; simp; omega, h2⟩
theorem ritems_fine (bs : List Int) (ks : List GKind) (hk : ∀ k ∈ ks, k.Fields.length ≤ 8) : ∀ (n : Nat) (gs : List Int) (its : List GItem) (s : RS), (∀ it ∈ its, it.Comps.length ≤ ks.length ∧ ∀ c ∈ it.Comps, c.Vals.length ≤ 8) →
    (ritems bs ks n gs its s).1.length ≤ gs.length + n ∧ (ritems bs ks n gs its s).2.1.length ≤ its.length + n ∧ ∀ it ∈ (ritems bs ks n gs its s).2.1, it.Comps.length ≤ ks.length ∧ ∀ c ∈ it.Comps, c.Vals.length ≤ 8
  | 0, gs, its, s, h => ⟨by simp [ritems], by simp [ritems], h⟩
  | n + 1, gs, its, s, h => by
    rw [ritems]
    split
    · exact ⟨by simp, by simp, h⟩
    · split
      · obtain ⟨c1, c2⟩ := rcomps_fine bs ks 0 [] (rget bs ((rnat bs s.1).2.2, false) 1).2 hk (by simp)
        obtain ⟨h1, h2, h3⟩ := ritems_fine bs ks hk n (gs ++ [((rnat bs s.1).1 : Int)]) (its ++ [⟨⟨gs.length, (rnat bs s.1).1⟩, (rcomps bs 0 ks [] (rget bs ((rnat bs s.1).2.2, false) 1).2).1⟩]) (rcomps bs 0 ks [] (rget bs ((rnat bs s.1).2.2, false) 1).2).2 (fun it hit => by
          rcases List.mem_append.1 hit with hit | hit
          · exact h it hit
          · obtain rfl := List.mem_singleton.1 hit
            exact ⟨by simpa using c1, c2⟩)
        exact ⟨by simp at h1; omega, by simp at h2; omega, h3⟩
      · obtain ⟨h1, h2, h3⟩ := ritems_fine bs ks hk n (gs ++ [((rnat bs s.1).1 : Int)]) its (rget bs ((rnat bs s.1).2.2, false) 1).2 h
        exact ⟨by simp at h1; omega, by omega, h3⟩

theorem ritemsM_fine (body : List Int) (ks : List GKind) (s : RS) (ce1 : ks.length ≤ 16) (ce2 : ∀ x ∈ ks, x.Fields.length ≤ 8) :
    Fine (ritemsM body ks s).1 ∧ ∀ it ∈ (ritemsM body ks s).1.Items, ∀ c ∈ it.Comps, c.Vals.length ≤ 1000 := by
  have hW : ritemsM body ks s = (⟨ks, (ritems body ks (rget body s 9).1 [] [] (rget body s 9).2).1, (ritems body ks (rget body s 9).1 [] [] (rget body s 9).2).2.1⟩, (ritems body ks (rget body s 9).1 [] [] (rget body s 9).2).2.2) := rfl
  have h9 := rget_lt body s 9
  obtain ⟨i1, i2, i3⟩ := ritems_fine body ks ce2 (rget body s 9).1 [] [] (rget body s 9).2 (by simp)
  rw [hW]
  simp only [List.length_nil] at i1 i2
  exact ⟨⟨by simp only; omega, fun x hx => by have := ce2 x hx; omega, by simp only; omega, by simp only; omega, fun it hit => by have := (i3 it hit).1; omega, fun it hit c hc => by have := (i3 it hit).2 c hc; omega⟩, fun it hit c hc => by have := (i3 it hit).2 c hc; omega⟩
theorem rkinds_ok (bs : List Int) (s : RS) (h : (rkinds bs s).2.2 = false) : checkE (rkinds bs s).1 = 0 := by
  have h' : ((rkindsGo bs (rget bs s 5).1 [] (rget bs s 5).2).2.2 || decide (checkE (rkindsGo bs (rget bs s 5).1 [] (rget bs s 5).2).1 ≠ 0)) = false := h
  rw [Bool.or_eq_false_iff] at h'
  show checkE (rkindsGo bs (rget bs s 5).1 [] (rget bs s 5).2).1 = 0
  exact Decidable.byContradiction fun e => by simp [e] at h'

def w00 : GWorld := ⟨[], [], []⟩
def readB (body b : List Int) : GWorld × Int :=
  if (rget body (0, false) 8).1 ≠ 1 ∨ (rget body (0, false) 8).2.2 = true then (w00, 3)
  else if (rkinds body (rget body (0, false) 8).2).2.2 = true then (w00, 3)
  else if (ritemsM body (rkinds body (rget body (0, false) 8).2).1 (rkinds body (rget body (0, false) 8).2).2).2.2 = true then (w00, 3)
  else if (writeM (ritemsM body (rkinds body (rget body (0, false) 8).2).1 (rkinds body (rget body (0, false) 8).2).2).1).2 ≠ 0 ∨ (writeM (ritemsM body (rkinds body (rget body (0, false) 8).2).1 (rkinds body (rget body (0, false) 8).2).2).1).1 ≠ b then (w00, 3)
  else ((ritemsM body (rkinds body (rget body (0, false) 8).2).1 (rkinds body (rget body (0, false) 8).2).2).1, 0)
def readM (b : List Int) : GWorld × Int :=
  if 65536 < b.length then (w00, 2) else if b.length < 8 then (w00, 14) else if sealB (b.take (b.length - 8)) ≠ b then (w00, 13) else readB (b.take (b.length - 8)) b

set_option maxRecDepth 20000 in
theorem New_fn (bs : List Int) (hl : bs.length ≤ 100000) : FnD Try.prog 45 [slB bs] [] (.ptr 0 0) [some (rSt bs 0)] := by
  have him : ∀ bs : List Int, (bs.map kU8).all PV.immB = true := fun bs => by simp
  refine fnd_go Try.func45 rfl ?_
  have h1 : bs.length ≤ 140737488355328 := by omega
  have h2 : bs.length ≤ maxLen := by simp only [maxLen]; omega
  simp [Try.ntmps45, h1, h2]
  rw [flatB]
  refine finG_fz 1 (bs.map kU8) ?_
  simp [chunks_b]
  exact finGm [2]

theorem sealB_ok {l : List Int} (h : BytesOk l) : BytesOk (sealB l) := fun c hc => by
  rcases List.mem_append.1 hc with hc | hc
  · exact h c hc
  · obtain ⟨i, _, rfl⟩ := List.mem_map.1 hc; omega
theorem writeM_ok (W : GWorld) : BytesOk (writeM W).1 := by
  unfold writeM
  split
  · intro c hc; simp at hc
  · split
    · intro c hc; simp at hc
    · exact sealB_ok (pack_ok _)
theorem ent_w00 {N k : Nat} {T : List (Nat × PV)} {σ : Boxes} : Ent ⟨N, T, some [kNil, kNil, kNil] :: σ, k⟩ ⟨N, T, some w00.e :: σ, k⟩ :=
  (ent_cell (s := ⟨N, T, some [kNil, kNil, kNil] :: σ, k⟩) (cs := [kNil, kNil, kNil]) 0 0 (tell_nil 2)).trans ((ent_cell (s := ⟨N, T, some [.sl 2 [], kNil, kNil] :: σ, k⟩) (cs := [.sl 2 [], kNil, kNil]) 0 1 (tell_nil 1)).trans (ent_cell (s := ⟨N, T, some [.sl 2 [], .sl 1 [], kNil] :: σ, k⟩) (cs := [.sl 2 [], .sl 1 [], kNil]) 0 2 (tell_nil 3)))

set_option maxRecDepth 20000 in
set_option maxHeartbeats 2000000 in
theorem Read_fn (b : List Int) (hb : BytesOk b) : Fn Try.prog 31 [slB b] (.tup [.agg (readM b).1.e, kI (readM b).2]) := by
  have him : ∀ bs : List Int, (bs.map kU8).all PV.immB = true := fun bs => by simp
  refine fn_go Try.func31 rfl ?_
  by_cases h1 : 65536 < b.length
  · have e : readM b = (w00, 2) := by simp [readM, h1]
    have h1' : (65536 : Int) < b.length := by omega
    rw [e]
    simp [Try.ntmps31, h1, h1']
    refine fin_ent ent_w00 ?_
    exact finm
  · by_cases h2 : b.length < 8
    · have e : readM b = (w00, 14) := by simp [readM, h1, h2]
      have h1' : ¬ (65536 : Int) < b.length := by omega
      have h2' : (b.length : Int) < 8 := by omega
      rw [e]
      simp [Try.ntmps31, h1, h1', h2, h2']
      refine fin_ent ent_w00 ?_
      exact finm
    · have h1' : ¬ (65536 : Int) < b.length := by omega
      have h2' : ¬ (b.length : Int) < 8 := by omega
      obtain ⟨m, hm⟩ : ∃ m, b.length - 8 = m := ⟨_, rfl⟩
      obtain ⟨body, hbody⟩ : ∃ body, b.take m = body := ⟨_, rfl⟩
      have hbl : body.length = m := by rw [← hbody]; simp; omega
      have hbb : BytesOk body := fun c hc => hb c (List.mem_of_mem_take (hbody ▸ hc))
      have hM : readM b = if sealB body ≠ b then (w00, 13) else readB body b := by simp [readM, h1, h2, hm, hbody]
      have hw1 : IntKind.i64.wrap ((b.length : Int) - 8) = m := by rw [wrap_id (by omega) (by omega)]; omega
      have hmb : (m : Int) ≤ b.length := by omega
      have hmin : min m b.length = m := by omega
      have hb1 : m ≤ 140737488355328 := by omega
      have hb2 : m ≤ maxLen := by simp only [maxLen]; omega
      rw [hM]
      simp [Try.ntmps31, h1, h1', h2, h2', hw1, hmb, hmin, hb1, hb2]
      rw [← List.map_take, hbody, flatB]
      have hS := Seal_fn body (by omega) hbb
      rw [hbl] at hS
      refine calD [2] hS ?_ (hbox := by simp [imms_ren (him _), imms_lt (him _)])
      have hsb : BytesOk (sealB body) := fun c hc => by
        rcases List.mem_append.1 hc with hc | hc
        · exact hbb c hc
        · obtain ⟨i, _, rfl⟩ := List.mem_map.1 hc; omega
      simp [imms_ren (him _), imms_lt (him _)]
      refine calS (Equal_fn (sealB body) b hsb hb) ?_ (hren := by simp [chunks_b])
      by_cases h3 : sealB body = b
      · rw [if_neg (by simpa using h3)]
        simp [h3]
        refine calD [] (New_fn body (by omega)) ?_ (hren := by simp)
        simp
        refine calD [5, 4] (RGet_fn body (0, false) 8 (by omega) (by omega) hbb (by omega)) ?_
        have q1 := rget_le (bs := body) (s := (0, false)) (n := 8) (by omega)
        have hB : readB body b = if (rget body (0, false) 8).1 ≠ 1 ∨ (rget body (0, false) 8).2.2 = true then (w00, 3)
          else if (rkinds body (rget body (0, false) 8).2).2.2 = true then (w00, 3)
          else if (ritemsM body (rkinds body (rget body (0, false) 8).2).1 (rkinds body (rget body (0, false) 8).2).2).2.2 = true then (w00, 3)
          else if (writeM (ritemsM body (rkinds body (rget body (0, false) 8).2).1 (rkinds body (rget body (0, false) 8).2).2).1).2 ≠ 0 ∨ (writeM (ritemsM body (rkinds body (rget body (0, false) 8).2).1 (rkinds body (rget body (0, false) 8).2).2).1).1 ≠ b then (w00, 3)
          else ((ritemsM body (rkinds body (rget body (0, false) 8).2).1 (rkinds body (rget body (0, false) 8).2).2).1, 0) := rfl
        obtain ⟨g, hg⟩ : ∃ g, rget body (0, false) 8 = g := ⟨_, rfl⟩
        rw [hg] at q1 hB ⊢
        by_cases h4 : g.1 = 1
        · by_cases h5 : g.2.2 = true
          · rw [if_pos (.inr h5)] at hB
            rw [hB]
            simp [h4, h5]
            refine fin_ent ent_w00 ?_
            exact finm
          · rw [if_neg (by simp [h4, h5])] at hB
            have h5' : g.2.2 = false := by simpa using h5
            simp [h4, h5']
            refine calD [5, 4] (RKinds_fn body g.2 (by omega) hbb q1) ?_ (hbox := by simp [h5'])
            have q2 : (rkinds body g.2).2.1 ≤ 8 * body.length := rkindsGo_le body _ _ _ (rget_le q1)
            have q3 := rkinds_ok body g.2
            obtain ⟨k, hk⟩ : ∃ k, rkinds body g.2 = k := ⟨_, rfl⟩
            rw [hk] at q2 q3 hB ⊢
            by_cases h6 : k.2.2 = true
            · rw [if_pos h6] at hB
              rw [hB]
              simp [h6]
              refine fin_ent ent_w00 ?_
              exact finm
            · have h6' : k.2.2 = false := by simpa using h6
              rw [if_neg h6] at hB
              have hce := q3 h6'
              obtain ⟨ce1, ce2⟩ := checkE_le hce
              have hone := checkE_one hce
              have hff : ∀ x ∈ k.1, x.Fields.length ≤ 8 ∧ ∀ f ∈ x.Fields, fieldB f = true := fun x hx => ⟨ce2 x hx, oneE_fields (hone x hx)⟩
              simp [h6']
              refine calD [5, 4] (RItems_fn body k.2 k.1 ce1 hff (by omega) hbb q2) ?_ (hbox := by simp [h6'])
              obtain ⟨hfi, hvl⟩ := ritemsM_fine body k.1 k.2 ce1 ce2
              obtain ⟨W, hWe⟩ : ∃ W, ritemsM body k.1 k.2 = W := ⟨_, rfl⟩
              rw [hWe] at hfi hvl hB ⊢
              by_cases h7 : W.2.2 = true
              · rw [if_pos h7] at hB
                rw [hB]
                simp [h7]
                refine fin_ent ent_w00 ?_
                exact finm
              · have h7' : W.2.2 = false := by simpa using h7
                rw [if_neg h7] at hB
                simp [h7']
                refine cal (Write_fn W.1 hfi hvl) ?_
                obtain ⟨c, hc⟩ : ∃ c, writeM W.1 = c := ⟨_, rfl⟩
                rw [hc] at hB ⊢
                by_cases h8 : c.2 = 0
                · have hcb : BytesOk c.1 := hc ▸ writeM_ok W.1
                  simp [h8]
                  refine cal (Equal_fn c.1 b hcb hb) ?_
                  by_cases h9 : c.1 = b
                  · rw [if_neg (by simp [h8, h9])] at hB
                    rw [hB]
                    simp [h9]
                    exact finm
                  · rw [if_pos (.inr h9)] at hB
                    rw [hB]
                    simp [h9]
                    refine fin_ent ent_w00 ?_
                    exact finm
                · rw [if_pos (.inl h8)] at hB
                  rw [hB]
                  simp [h8]
                  refine fin_ent ent_w00 ?_
                  exact finm
        · rw [if_pos (.inl h4)] at hB
          have h4' : ¬ (g.1 : Int) = 1 := by omega
          rw [hB]
          simp [h4, h4']
          refine fin_ent ent_w00 ?_
          exact finm
      · rw [if_pos h3]
        simp [h3]
        refine fin_ent ent_w00 ?_
        exact finm
end Go.Proofs.Ytemlkbcfplkniaa.Am
/- Package save: the small world written and read back. -/
namespace Go.Proofs.Ytemlkbcfplkniaa.Am
open Go Go.RowKit

theorem base_write : (writeM baseW).2 = 0 := by kernel_rfl
theorem base_wlen : decide (9 ≤ (writeM baseW).1.length ∧ (writeM baseW).1.length ≤ 100) = true := by kernel_rfl
theorem base_read : readM (writeM baseW).1 = (baseW, 0) := by kernel_rfl

theorem baseW_fine2 : Fine baseW := ⟨by decide, by decide, by decide, by decide, by decide, by decide⟩
set_option maxRecDepth 20000 in
theorem saved_fn : Fn Try.prog 29 [] (kB true) := by
  refine fn_go Try.func29 rfl ?_
  simp [Try.ntmps29]
  refine cal base_fn ?_
  simp
  refine cal (Write_fn baseW baseW_fine2 (by decide)) ?_
  have h1 := base_write
  have h2 := of_decide_eq_true base_wlen
  have h3 := base_read
  have h4 := writeM_ok baseW
  generalize writeM baseW = w at h1 h2 h3 h4 ⊢
  have h5 : ¬ (w.1.length : Int) < 9 := by omega
  simp [h1, h5]
  have hR := Read_fn w.1 h4
  rw [h3] at hR
  refine cal hR ?_
  simp
  refine awp_draw follows_mix [] [(0, [0]), (0, [0]), (0, [0]), (0, [0]), (2, [0]), (2, [0]), (0, [0]), (0, [0])] 0 (by kernel_rfl) rfl ?_
  simp
  refine gD_call (.agg baseW.e) ?_
  simp
  refine gD_call (kB true) ?_
  simp
  have hS := same_fn baseW baseW baseW_fine2
  rw [decide_eq_true rfl] at hS
  refine ⟨⟨calO base_fn, calO hS⟩, ?_⟩
  exact finm

def bytesM (l : List Int) : List Int := l.map fun n => n % 256
theorem bytesM_ok (l : List Int) : BytesOk (bytesM l) := fun c hc => by
  obtain ⟨n, _, rfl⟩ := List.mem_map.1 hc; omega
set_option maxRecDepth 20000 in
theorem Bytes_fn (l : List Int) (hl : l.length ≤ 140737488355328) : Fn Try.prog 30 [slI l] (slB (bytesM l)) := by
  have him : ∀ bs : List Int, (bs.map kU8).all PV.immB = true := fun bs => by simp
  refine fn_go Try.func30 rfl ?_
  simp [Try.ntmps30]
  refine awp_loop (fun i : Nat => ⟨19, [(3, .osl 0 1 0 i), (6, slI l), (7, kI l.length), (8, kI i)], [some ((bytesM (l.take i)).map kU8)], 0⟩) (fun i => i ≤ l.length) (fun i => l.length - i) 0 ?_ ?_ ?_
  · exact (ent_nil (t := 3) (z := 1) rfl).trans (entm [0] (hB := by simp [bytesM]))
  · simp
  · intro i hi
    refine awp_go ?_
    by_cases hlt : i < l.length
    · have hw1 : IntKind.i64.wrap ((i : Int) + 1) = ((i + 1 : Nat) : Int) := wrap_id (by omega) (by omega)
      have hb1 : i + 1 ≤ 140737488355328 := by omega
      have hb2 : i + 1 ≤ maxLen := by simp only [maxLen]; omega
      have hbl : (bytesM (l.take i)).length = i := by simp [bytesM]; omega
      have hsn : bytesM (l.take (i + 1)) = bytesM (l.take i) ++ [l[i] % 256] := by
        unfold bytesM; rw [List.take_add_one, List.getElem?_eq_getElem hlt]; exact List.map_append
      generalize bytesM (l.take i) = B at hbl hsn ⊢
      simp [hlt, hw1, hb1, hb2, hbl]
      rw [IntKind.wrap_u8]
      exact ⟨i + 1, by omega, by omega, entm [2] (hB := by simp [hsn, imms_ren (him _), imms_lt (him _)])⟩
    · obtain rfl : i = l.length := by omega
      rw [List.take_length]
      simp
      refine fin_fz 0 ((bytesM l).map kU8) ?_
      have hbl : (bytesM l).length = l.length := by simp [bytesM]
      have hch := chunks_b (bytesM l)
      rw [hbl] at hch
      simp [hbl, hch]
      exact finm
end Go.Proofs.Ytemlkbcfplkniaa.Am
/- The law SaveOnly. -/
namespace Go.Proofs.Ytemlkbcfplkniaa.Am
open Go Go.RowKit

set_option maxRecDepth 20000 in
theorem EqB_fn (a b : List Int) (ha : a.length ≤ 1000000000) : Fn Try.prog 33 [slB a, slB b] (kB (decide (a = b))) := by
  refine fn_go Try.func33 rfl ?_
  simp [Try.ntmps33]
  by_cases h : a.length = b.length
  · have h' : (a.length : Int) = b.length := by omega
    simp [h']
    refine awp_loop (fun i : Nat => ⟨26, [(0, slB a), (1, slB b), (12, kI b.length), (13, kI i)], [], 0⟩) (fun i => i ≤ a.length ∧ a.take i = b.take i) (fun i => a.length - i) 0 ?_ ?_ ?_
    · exact entm []
    · simp
    · intro i ⟨hi, hp⟩
      refine awp_go ?_
      by_cases hlt : i < b.length
      · have hla : i < a.length := by omega
        simp [hlt]
        refine awp_draw follows_mix [] [(0, [0]), (0, [0]), (0, [0]), (0, [0]), (0, [0]), (0, [0]), (0, [0]), (0, [0]), (0, [0])] 0 (by kernel_rfl) rfl ?_
        simp [hlt, hla]
        by_cases he : a[i] = b[i]
        · simp [he]
          rw [wrap_id (by omega) (by omega)]
          exact ⟨i + 1, ⟨by omega, take_extG hla hlt hp he⟩, by omega, entm []⟩
        · simp [he]
          have hne : a ≠ b := fun e => by subst e; exact he rfl
          exact finm (by simp [hne])
      · simp [hlt]
        have e1 : a.take i = a := List.take_of_length_le (by omega)
        have e2 : b.take i = b := List.take_of_length_le (by omega)
        exact finm (by simp [show a = b by rw [← e1, hp, e2]])
  · have h' : ¬ (a.length : Int) = b.length := by omega
    have hne : a ≠ b := fun e => h (by rw [e])
    simp [h']
    exact finm (by simp [hne])
theorem readM_len {b : List Int} (h : (readM b).2 = 0) : b.length ≤ 1000000000 := by
  unfold readM at h
  split at h
  · simp at h
  · omega

theorem readB_cases (body b : List Int) : readB body b = (w00, 3) ∨ ∃ W, readB body b = (W, 0) ∧ Fine W ∧ (∀ it ∈ W.Items, ∀ c ∈ it.Comps, c.Vals.length ≤ 1000) ∧ writeM W = (b, 0) := by
  unfold readB
  split
  · exact .inl rfl
  · split
    · exact .inl rfl
    · rename_i h6
      have hce := rkinds_ok body (rget body (0, false) 8).2 (by simpa using h6)
      obtain ⟨ce1, ce2⟩ := checkE_le hce
      obtain ⟨hfi, hvl⟩ := ritemsM_fine body (rkinds body (rget body (0, false) 8).2).1 (rkinds body (rget body (0, false) 8).2).2 ce1 ce2
      split
      · exact .inl rfl
      · split
        · exact .inl rfl
        · rename_i h9
          refine .inr ⟨_, rfl, hfi, hvl, ?_⟩
          have h1 := fun e => h9 (.inl e)
          have h2 := fun e => h9 (.inr e)
          exact Prod.ext (Decidable.byContradiction h2) (Decidable.byContradiction h1)
theorem readM_cases (b : List Int) : (readM b = (w00, 2) ∨ readM b = (w00, 14) ∨ readM b = (w00, 13) ∨ readM b = (w00, 3)) ∨ ∃ W, readM b = (W, 0) ∧ Fine W ∧ (∀ it ∈ W.Items, ∀ c ∈ it.Comps, c.Vals.length ≤ 1000) ∧ writeM W = (b, 0) := by
  unfold readM
  split
  · exact .inl (.inl rfl)
  · split
    · exact .inl (.inr (.inl rfl))
    · split
      · exact .inl (.inr (.inr (.inl rfl)))
      · rcases readB_cases (b.take (b.length - 8)) b with h | h
        · exact .inl (.inr (.inr (.inr h)))
        · exact .inr h

set_option maxRecDepth 20000 in
theorem SaveOnly_law (l : List Int) (hl : l.length * 8 ≤ 140737488351232) (hw : ∀ n ∈ l, (Lit.int .i64 n).wf = true) : Fn Try.prog 6 [slI l] (kB true) := by
  refine fn_go Try.func6 rfl ?_
  simp [Try.ntmps6]
  refine cal saved_fn ?_
  simp
  refine cal (Bytes_fn l (by omega)) ?_
  have hb := bytesM_ok l
  generalize bytesM l = b at hb ⊢
  simp
  have hR := Read_fn b hb
  refine cal hR ?_
  rcases readM_cases b with (h | h | h | h) | ⟨W, h, h1, h2, h3⟩
  · rw [h]; simp; exact finm
  · rw [h]; simp; exact finm
  · rw [h]; simp; exact finm
  · rw [h]; simp; exact finm
  · rw [h]
    simp
    have hW := Write_fn W h1 h2
    rw [h3] at hW
    refine cal hW ?_
    simp
    refine cal (EqB_fn b b (readM_len (by rw [h]))) ?_
    simp
    exact finm
end Go.Proofs.Ytemlkbcfplkniaa.Am
/- The writer puts the bits of a world. -/
namespace Go.Proofs.Ytemlkbcfplkniaa.Am
open Go Go.RowKit

def WPuts (f : WS → WS) (B : List Bool) : Prop := ∀ b : List Bool, b.length + B.length ≤ 524288 → f (b, 0) = (b ++ B, 0)
theorem WPuts.comp {f g : WS → WS} {A B : List Bool} (hf : WPuts f A) (hg : WPuts g B) : WPuts (fun w => g (f w)) (A ++ B) := fun b h => by
  rw [List.length_append] at h
  show g (f (b, 0)) = _
  rw [hf b (by omega), hg (b ++ A) (by rw [List.length_append]; omega), List.append_assoc]
theorem WPuts.id : WPuts (fun w => w) [] := fun b _ => by simp
theorem WPuts.fold {α : Type} {f : WS → α → WS} {B : α → List Bool} : ∀ {l : List α}, (∀ a ∈ l, WPuts (fun w => f w a) (B a)) → WPuts (fun w => l.foldl f w) (l.flatMap B)
  | [], _ => WPuts.id
  | a :: r, h => by
    rw [List.flatMap_cons]
    exact WPuts.comp (h a (by simp)) (WPuts.fold (l := r) fun x hx => h x (by simp [hx]))
theorem puts_put {v n : Int} (hn : 0 ≤ n) (hv : 0 ≤ v) (h : v < 2 ^ n.toNat) : WPuts (fun w => wput w v n) (bitsOf v n.toNat) := fun b hb => by
  rw [bitsOf_len] at hb
  show wput (b, 0) v n = _
  have e : v / 2 ^ n.toNat = 0 := Int.ediv_eq_zero_of_lt hv h
  simp only [wput, if_true, putM]
  rw [if_neg (by simp [e]), if_neg (by omega)]
theorem natBits_len (v : Nat) : (natBits v).length = 5 * gF 16 v := flat5 _ _
theorem puts_nat {v : Nat} : WPuts (fun w => wnat w v) (natBits v) := fun b hb => by
  rw [natBits_len] at hb
  show wnat (b, 0) v = _
  simp only [wnat, if_true, natM]
  rw [if_neg (by omega)]

def nameBits (s : Str) : List Bool := bitsOf s.size 5 ++ s.data.toList.flatMap fun c => bitsOf (IntKind.u64.wrap (letIdx c)) 6
def fieldBits (f : GField) : List Bool := nameBits f.Name ++ bitsOf (f.Bits - 1) 5 ++ natBits (zig f.Low)
def kindBits (k : GKind) : List Bool := nameBits k.Name ++ bitsOf k.Fields.length 4 ++ k.Fields.flatMap fieldBits
def kindsBits (ks : List GKind) : List Bool := bitsOf ks.length 5 ++ ks.flatMap kindBits
def valsBits : List GField → List Int → List Bool
  | f :: fs, v :: vs => bitsOf (v - f.Low) f.Bits.toNat ++ valsBits fs vs
  | _, _ => []
def compsBits : Nat → List GKind → List GComp → List Bool
  | _, [], _ => []
  | i, _ :: r, [] => bitsOf 0 1 ++ compsBits (i + 1) r []
  | i, k :: r, c :: l => if c.Kind = i then bitsOf 1 1 ++ valsBits k.Fields c.Vals ++ compsBits (i + 1) r l else bitsOf 0 1 ++ compsBits (i + 1) r (c :: l)
def itemsBits (ks : List GKind) : Nat → List Int → List GItem → List Bool
  | _, [], _ => []
  | n, g :: gs, [] => natBits g.toNat ++ bitsOf 0 1 ++ itemsBits ks (n + 1) gs []
  | n, g :: gs, it :: r => if it.Ent.N = n then natBits g.toNat ++ bitsOf 1 1 ++ compsBits 0 ks it.Comps ++ itemsBits ks (n + 1) gs r else natBits g.toNat ++ bitsOf 0 1 ++ itemsBits ks (n + 1) gs (it :: r)
def worldBits (W : GWorld) : List Bool := bitsOf 1 8 ++ kindsBits W.Kinds ++ bitsOf W.Gens.length 9 ++ itemsBits W.Kinds 0 W.Gens W.Items

theorem let_all : ∀ i : Fin 256, (lowC (UInt8.ofNat i.1) || digC (UInt8.ofNat i.1)) = true → 0 ≤ letIdx (UInt8.ofNat i.1) ∧ letIdx (UInt8.ofNat i.1) < 36 ∧ lettersL.getD (letIdx (UInt8.ofNat i.1)).toNat 0 = i.1 := by decide +kernel
theorem let_ok {c : UInt8} (h : (lowC c || digC c) = true) : 0 ≤ letIdx c ∧ letIdx c < 36 ∧ lettersL.getD (letIdx c).toNat 0 = c.toNat := by
  have := let_all ⟨c.toNat, c.toNat_lt⟩
  simp only [UInt8.ofNat_toNat] at this
  exact this h
theorem name_chars {s : Str} (h : nameB s = true) : 0 < s.size ∧ s.size ≤ 16 ∧ ∀ c ∈ s.data.toList, (lowC c || digC c) = true := by
  simp only [nameB, Bool.and_eq_true, decide_eq_true_eq] at h
  obtain ⟨⟨h1, h2⟩, h3⟩ := h
  refine ⟨h1, h2, fun c hc => ?_⟩
  obtain ⟨i, hi, rfl⟩ := List.mem_iff_getElem.1 hc
  have hs : i < s.size := by simpa using hi
  have := List.all_eq_true.1 h3 i (List.mem_range.2 hs)
  have e : s[i]? = some (s.data.toList[i]) := by
    rw [getElem?_pos s i hs]; rfl
  rw [okAt, e] at this
  simp only [Bool.or_eq_true, Bool.and_eq_true, decide_eq_true_eq] at this ⊢
  rcases this with h | h
  · exact .inl h
  · exact .inr h.2
theorem puts_name {s : Str} (h : nameB s = true) : WPuts (fun w => wname w s) (nameBits s) := by
  obtain ⟨h1, h2, h3⟩ := name_chars h
  refine WPuts.comp (f := fun w => wput w s.size 5) (puts_put (by omega) (by omega) (by have : (2 : Int) ^ (5 : Int).toNat = 32 := rfl; omega)) (WPuts.fold fun c hc => ?_)
  obtain ⟨c1, c2, _⟩ := let_ok (h3 c hc)
  have e : IntKind.u64.wrap (letIdx c) = letIdx c := by rw [wrapU]; omega
  have := puts_put (v := IntKind.u64.wrap (letIdx c)) (n := 6) (by omega) (by omega) (by have : (2 : Int) ^ (6 : Int).toNat = 64 := rfl; omega)
  exact this
theorem fieldB_iff {f : GField} : fieldB f = true ↔ nameB f.Name = true ∧ 1 ≤ f.Bits ∧ f.Bits ≤ 32 ∧ -4294967296 ≤ f.Low ∧ f.Low ≤ 4294967296 := by
  simp only [fieldB, Bool.and_eq_true, decide_eq_true_eq]
  constructor
  · rintro ⟨⟨⟨⟨a, b⟩, c⟩, d⟩, e⟩; exact ⟨a, b, c, d, e⟩
  · rintro ⟨a, b, c, d, e⟩; exact ⟨⟨⟨⟨a, b⟩, c⟩, d⟩, e⟩
theorem puts_field {f : GField} (h : fieldB f = true) : WPuts (fun w => wfield w f) (fieldBits f) := by
  obtain ⟨h1, h2, h3, h4, h5⟩ := fieldB_iff.1 h
  exact WPuts.comp (f := fun w => wput (wname w f.Name) (f.Bits - 1) 5) (WPuts.comp (f := fun w => wname w f.Name) (puts_name h1) (puts_put (by omega) (by omega) (by have : (2 : Int) ^ (5 : Int).toNat = 32 := rfl; omega))) puts_nat
theorem oneE_iff {k : GKind} (h : oneE k = 0) : nameB k.Name = true ∧ k.Fields.length ≤ 8 ∧ ∀ f ∈ k.Fields, fieldB f = true := by
  refine ⟨?_, oneE_le h, oneE_fields h⟩
  unfold oneE at h
  split at h
  · assumption
  · simp at h
theorem puts_kind {k : GKind} (h : oneE k = 0) : WPuts (fun w => wkind w k) (kindBits k) := by
  obtain ⟨h1, h2, h3⟩ := oneE_iff h
  exact WPuts.comp (f := fun w => wput (wname w k.Name) k.Fields.length 4) (WPuts.comp (f := fun w => wname w k.Name) (puts_name h1) (puts_put (by omega) (by omega) (by have : (2 : Int) ^ (4 : Int).toNat = 16 := rfl; omega))) (WPuts.fold fun f hf => puts_field (h3 f hf))
theorem puts_kinds {ks : List GKind} (h : checkE ks = 0) : WPuts (fun w => wkinds w ks) (kindsBits ks) := by
  obtain ⟨h1, h2⟩ := checkE_le h
  exact WPuts.comp (f := fun w => wput w ks.length 5) (puts_put (by omega) (by omega) (by have : (2 : Int) ^ (5 : Int).toNat = 32 := rfl; omega)) (WPuts.fold fun k hk => puts_kind (checkE_one h k hk))
theorem puts_vals : ∀ {fs : List GField} {vs : List Int}, (∀ f ∈ fs, fieldB f = true) → ValsOk fs vs → WPuts (fun w => wvals fs vs w) (valsBits fs vs)
  | [], _, _, _ => by simpa [wvals, valsBits] using WPuts.id
  | f :: fs, [], _, _ => by simpa [wvals, valsBits] using WPuts.id
  | f :: fs, v :: vs, hf, hv => by
    have h0 := hv.2 0 (by simp) (by simp)
    simp only [List.getElem_cons_zero] at h0
    have hfb := hf f (by simp)
    obtain ⟨_, h2, h3, _, _⟩ := fieldB_iff.1 hfb
    have h1 := h0.2
    simp only [highM, hfb, if_true] at h1
    exact WPuts.comp (f := fun w => wput w (v - f.Low) f.Bits) (puts_put (by omega) (by omega) (by omega)) (puts_vals (fs := fs) (vs := vs) (fun f hf' => hf f (by simp [hf'])) ⟨by simpa using hv.1, fun j a b => by
      have := hv.2 (j + 1) (by simpa using a) (by simpa using b)
      simpa using this⟩)
end Go.Proofs.Ytemlkbcfplkniaa.Am
/- The writer puts the bits of a world: components, items; how many bits. -/
namespace Go.Proofs.Ytemlkbcfplkniaa.Am
open Go Go.RowKit

def compsOk : Nat → List GKind → List GComp → Prop
  | _, [], l => l = []
  | _, _ :: _, [] => True
  | i, k :: r, c :: l => if c.Kind = i then (∀ f ∈ k.Fields, fieldB f = true) ∧ ValsOk k.Fields c.Vals ∧ compsOk (i + 1) r l else compsOk (i + 1) r (c :: l)
theorem comps_ok {ks : List GKind} : ∀ (r : List GKind) (i : Nat) (l : List GComp), ks.drop i = r → i ≤ ks.length → heldGo ks ((i : Int) - 1) l = true → compsOk i r l
  | [], i, [], _, _, _ => rfl
  | [], i, c :: l, hd, hi, h => by
    obtain ⟨g1, g2, _, _⟩ := held_cons.1 h
    have := List.drop_eq_nil_iff.1 hd
    omega
  | k :: r, i, [], _, _, _ => trivial
  | k :: r, i, c :: l, hd, hi, h => by
    obtain ⟨g1, g2, g3, g4⟩ := held_cons.1 h
    have hlt : i < ks.length := by
      rcases Nat.lt_or_ge i ks.length with h | h
      · exact h
      · rw [List.drop_eq_nil_of_le h] at hd; cases hd
    rw [List.drop_eq_getElem_cons hlt] at hd
    obtain ⟨hk, hr⟩ := List.cons.inj hd
    rw [compsOk]
    split
    · rename_i he
      have hkk : ks.getD c.Kind.toNat k0 = k := by rw [he]; simp [List.getD, hlt, hk]
      rw [hkk] at g3
      obtain ⟨v1, v2⟩ := vals_ok g3
      exact ⟨v1, v2, comps_ok r (i + 1) l hr (by omega) (by rw [he] at g4; rw [show (((i + 1 : Nat) : Int) - 1) = i by omega]; exact g4)⟩
    · exact comps_ok r (i + 1) (c :: l) hr (by omega) (held_cons.2 ⟨by omega, g2, g3, g4⟩)
theorem puts_comps : ∀ {ks : List GKind} {i : Nat} {l : List GComp}, compsOk i ks l → WPuts (fun w => wcomps i ks l w) (compsBits i ks l)
  | [], i, l, _ => by simpa [wcomps, compsBits] using WPuts.id
  | k :: r, i, [], h => by
    have h' : compsOk (i + 1) r [] := by cases r <;> simp [compsOk]
    simp only [wcomps, compsBits]
    exact WPuts.comp (f := fun w => wput w 0 1) (puts_put (by omega) (by omega) (by decide)) (puts_comps h')
  | k :: r, i, c :: l, h => by
    rw [compsOk] at h
    simp only [wcomps, compsBits]
    split
    · rename_i he
      rw [if_pos he] at h
      exact WPuts.comp (f := fun w => wvals k.Fields c.Vals (wput w 1 1)) (WPuts.comp (f := fun w => wput w 1 1) (puts_put (by omega) (by omega) (by decide)) (puts_vals h.1 h.2.1)) (puts_comps h.2.2)
    · rename_i he
      rw [if_neg he] at h
      exact WPuts.comp (f := fun w => wput w 0 1) (puts_put (by omega) (by omega) (by decide)) (puts_comps h)
theorem puts_items {ks : List GKind} : ∀ {gs : List Int} {n : Nat} {its : List GItem}, (∀ it ∈ its, compsOk 0 ks it.Comps) → WPuts (fun w => witems ks n gs its w) (itemsBits ks n gs its)
  | [], n, its, _ => by simpa [witems, itemsBits] using WPuts.id
  | g :: gs, n, [], h => by
    simp only [witems, itemsBits]
    exact WPuts.comp (f := fun w => wput (wnat w g.toNat) 0 1) (WPuts.comp (f := fun w => wnat w g.toNat) puts_nat (puts_put (by omega) (by omega) (by decide))) (puts_items h)
  | g :: gs, n, it :: r, h => by
    simp only [witems, itemsBits]
    split
    · exact WPuts.comp (f := fun w => wcomps 0 ks it.Comps (wput (wnat w g.toNat) 1 1)) (WPuts.comp (f := fun w => wput (wnat w g.toNat) 1 1) (WPuts.comp (f := fun w => wnat w g.toNat) puts_nat (puts_put (by omega) (by omega) (by decide))) (puts_comps (h it (by simp))))
        (puts_items fun x hx => h x (by simp [hx]))
    · exact WPuts.comp (f := fun w => wput (wnat w g.toNat) 0 1) (WPuts.comp (f := fun w => wnat w g.toNat) puts_nat (puts_put (by omega) (by omega) (by decide))) (puts_items h)
theorem puts_world {W : GWorld} (h : checkW W = 0) : WPuts (fun w => witems W.Kinds 0 W.Gens W.Items (wput (wkinds (wput w 1 8) W.Kinds) W.Gens.length 9)) (worldBits W) := by
  obtain ⟨h1, h2, h3, h4, h5⟩ := checkW_iff.1 h
  refine WPuts.comp (f := fun w => wput (wkinds (wput w 1 8) W.Kinds) W.Gens.length 9) (WPuts.comp (f := fun w => wkinds (wput w 1 8) W.Kinds) (WPuts.comp (f := fun w => wput w 1 8) (puts_put (by omega) (by omega) (by decide)) (puts_kinds h1)) (puts_put (by omega) (by omega) (by have : (2 : Int) ^ (9 : Int).toNat = 512 := rfl; omega)))
    (puts_items fun it hit => comps_ok W.Kinds 0 it.Comps rfl (by omega) (by simpa using items_held h5 it hit))

theorem flat_le {α β : Type} {f : α → List β} {K : Nat} : ∀ {l : List α}, (∀ a ∈ l, (f a).length ≤ K) → (l.flatMap f).length ≤ l.length * K
  | [], _ => by simp
  | a :: r, h => by
    have h1 := h a (by simp)
    have h2 := flat_le (f := f) (K := K) (l := r) fun x hx => h x (by simp [hx])
    rw [List.flatMap_cons, List.length_append, List.length_cons, Nat.add_mul]
    omega
theorem nat_le (v : Nat) : (natBits v).length ≤ 85 := by
  rw [natBits_len]
  have := (gF_pos 16 v).2
  omega
theorem name_le {s : Str} (h : nameB s = true) : (nameBits s).length ≤ 101 := by
  obtain ⟨h1, h2, h3⟩ := name_chars h
  have := flat_le (f := fun c : UInt8 => bitsOf (IntKind.u64.wrap (letIdx c)) 6) (K := 6) (l := s.data.toList) fun c _ => by simp
  have e : s.data.toList.length = s.size := by simp
  simp only [nameBits, List.length_append, bitsOf_len]
  omega
theorem field_le {f : GField} (h : fieldB f = true) : (fieldBits f).length ≤ 191 := by
  have := name_le (fieldB_iff.1 h).1
  have := nat_le (zig f.Low)
  simp only [fieldBits, List.length_append, bitsOf_len]
  omega
theorem kind_le {k : GKind} (h : oneE k = 0) : (kindBits k).length ≤ 1633 := by
  obtain ⟨h1, h2, h3⟩ := oneE_iff h
  have := name_le h1
  have := flat_le (f := fieldBits) (K := 191) (l := k.Fields) fun f hf => field_le (h3 f hf)
  simp only [kindBits, List.length_append, bitsOf_len]
  omega
theorem vals_le : ∀ {fs : List GField} {vs : List Int}, (∀ f ∈ fs, fieldB f = true) → (valsBits fs vs).length ≤ fs.length * 32
  | [], _, _ => by simp [valsBits]
  | f :: fs, [], _ => by simp [valsBits]
  | f :: fs, v :: vs, h => by
    have h1 := (fieldB_iff.1 (h f (by simp))).2.2.1
    have := vals_le (fs := fs) (vs := vs) fun x hx => h x (by simp [hx])
    simp only [valsBits, List.length_append, bitsOf_len, List.length_cons]
    omega
theorem comps_le : ∀ {ks : List GKind} {i : Nat} {l : List GComp}, (∀ k ∈ ks, oneE k = 0) → (compsBits i ks l).length ≤ ks.length * 257
  | [], i, l, _ => by simp [compsBits]
  | k :: r, i, [], h => by
    have := comps_le (ks := r) (i := i + 1) (l := []) fun x hx => h x (by simp [hx])
    simp only [compsBits, List.length_append, bitsOf_len, List.length_cons]
    omega
  | k :: r, i, c :: l, h => by
    obtain ⟨_, h2, h3⟩ := oneE_iff (h k (by simp))
    have h4 := vals_le (fs := k.Fields) (vs := c.Vals) h3
    rw [compsBits]
    split
    · have := comps_le (ks := r) (i := i + 1) (l := l) fun x hx => h x (by simp [hx])
      simp only [List.length_append, bitsOf_len, List.length_cons]
      omega
    · have := comps_le (ks := r) (i := i + 1) (l := c :: l) fun x hx => h x (by simp [hx])
      simp only [List.length_append, bitsOf_len, List.length_cons]
      omega
theorem items_le {ks : List GKind} (h : ∀ k ∈ ks, oneE k = 0) (hk : ks.length ≤ 4) : ∀ {gs : List Int} {n : Nat} {its : List GItem}, (itemsBits ks n gs its).length ≤ gs.length * 1114
  | [], n, its => by simp [itemsBits]
  | g :: gs, n, [] => by
    have := items_le h hk (gs := gs) (n := n + 1) (its := [])
    have := nat_le g.toNat
    simp only [itemsBits, List.length_append, bitsOf_len, List.length_cons]
    omega
  | g :: gs, n, it :: r => by
    have h0 := nat_le g.toNat
    have h1 := comps_le (ks := ks) (i := 0) (l := it.Comps) h
    rw [itemsBits]
    split
    · have := items_le h hk (gs := gs) (n := n + 1) (its := r)
      simp only [List.length_append, bitsOf_len, List.length_cons]
      omega
    · have := items_le h hk (gs := gs) (n := n + 1) (its := it :: r)
      simp only [List.length_append, bitsOf_len, List.length_cons]
      omega
theorem world_le {W : GWorld} (h : checkW W = 0) (hk : W.Kinds.length ≤ 4) : (worldBits W).length ≤ 300000 := by
  obtain ⟨h1, h2, h3, h4, h5⟩ := checkW_iff.1 h
  have := flat_le (f := kindBits) (K := 1633) (l := W.Kinds) fun f hf => kind_le (checkE_one h1 f hf)
  have := items_le (checkE_one h1) hk (gs := W.Gens) (n := 0) (its := W.Items)
  simp only [worldBits, kindsBits, List.length_append, bitsOf_len]
  omega
theorem writeM_good {W : GWorld} (h : checkW W = 0) (hk : W.Kinds.length ≤ 4) : writeM W = (sealB (packB (worldBits W)), 0) := by
  have hl := world_le h hk
  have hw : writeW W = (worldBits W, 0) := by
    have := puts_world h [] (by simp; omega)
    rw [List.nil_append] at this
    exact this
  unfold writeM
  rw [if_neg (by simp [h]), hw, if_neg]
  simp only [packB_len]
  omega
end Go.Proofs.Ytemlkbcfplkniaa.Am
/- The reader gets what the writer put. -/
namespace Go.Proofs.Ytemlkbcfplkniaa.Am
open Go Go.RowKit

def AtB (bs : List Int) (p : Nat) (B : List Bool) : Prop := p + B.length ≤ 8 * bs.length ∧ ∀ i (h : i < B.length), bitAt bs (p + i) = if B[i] = true then 1 else 0
theorem at_app {bs : List Int} {p : Nat} {A B : List Bool} (h : AtB bs p (A ++ B)) : AtB bs p A ∧ AtB bs (p + A.length) B := by
  obtain ⟨h1, h2⟩ := h
  rw [List.length_append] at h1
  refine ⟨⟨by omega, fun i hi => ?_⟩, ⟨by omega, fun i hi => ?_⟩⟩
  · have := h2 i (by rw [List.length_append]; omega)
    rwa [List.getElem_append_left hi] at this
  · have := h2 (A.length + i) (by rw [List.length_append]; omega)
    rw [List.getElem_append_right (by omega)] at this
    rw [Nat.add_assoc]
    simpa using this
def RGets {α : Type} (bs : List Int) (g : RS → α × RS) (B : List Bool) (x : α) : Prop := ∀ p, AtB bs p B → g (p, false) = (x, (p + B.length, false))
theorem RGets.then {α β : Type} {bs : List Int} {g : RS → α × RS} {A B : List Bool} {x : α} {f : α → RS → β × RS} {y : β} (hg : RGets bs g A x) (hf : RGets bs (f x) B y) : RGets bs (fun s => f (g s).1 (g s).2) (A ++ B) y := fun p h => by
  obtain ⟨h1, h2⟩ := at_app h
  show f (g (p, false)).1 (g (p, false)).2 = _
  rw [hg p h1]
  rw [hf _ h2, List.length_append, Nat.add_assoc]
theorem RGets.nil {α : Type} {bs : List Int} {x : α} : RGets bs (fun s => (x, s)) [] x := fun p _ => rfl

theorem val_bits (v : Nat) : ∀ n, (v : Int) / 2 ^ n % 2 = if (decide ((v : Int) / 2 ^ n % 2 = 1)) = true then 1 else 0 := fun n => by
  split <;> rename_i h <;> simp at h <;> omega
theorem getV_bits {bs : List Int} {p : Nat} (v : Nat) : ∀ n : Nat, (∀ i, i < n → bitAt bs (p + i) = v / 2 ^ i % 2) → getV bs p n = v % 2 ^ n
  | 0, _ => by simp [getV, Nat.mod_one]
  | n + 1, h => by
    rw [getV, getV_bits v n (fun i hi => h i (by omega)), h n (by omega), Nat.pow_succ, Nat.mod_mul, Nat.mul_comm]
theorem gets_get {bs : List Int} {v : Nat} {n : Nat} (h : v < 2 ^ n) : RGets bs (fun s => rget bs s n) (bitsOf v n) v := fun p ⟨h1, h2⟩ => by
  rw [bitsOf_len] at h1
  have hv : getV bs p n = v := by
    rw [getV_bits v n, Nat.mod_eq_of_lt h]
    intro i hi
    have := h2 i (by rw [bitsOf_len]; exact hi)
    rw [this]
    simp only [bitsOf, List.getElem_map, List.getElem_range, decide_eq_true_eq]
    have e : (v : Int) / 2 ^ i % 2 = ((v / 2 ^ i % 2 : Nat) : Int) := by push_cast; rfl
    rw [e]
    have := Nat.mod_lt (v / 2 ^ i) (show 0 < 2 by omega)
    split <;> omega
  show rget bs (p, false) n = _
  simp only [rget, getM]
  rw [if_neg (by omega), hv, bitsOf_len]
  simp
theorem gets_geti {bs : List Int} {v : Int} {n : Nat} (h0 : 0 ≤ v) (h : v < 2 ^ n) : RGets bs (fun s => rget bs s n) (bitsOf v n) v.toNat := by
  obtain ⟨m, rfl⟩ := Int.eq_ofNat_of_zero_le h0
  exact gets_get (by exact_mod_cast h)

def natRec : Nat → Nat → List Bool
  | 0, v => bitsOf ((v % 16 : Nat) : Int) 5
  | k + 1, v => if v < 16 then bitsOf ((v % 16 : Nat) : Int) 5 else bitsOf ((v % 16 + 16 : Nat) : Int) 5 ++ natRec k (v / 16)
theorem natRec_bits : ∀ (k v : Nat), ((List.range (gF k v)).flatMap fun i => bitsOf ((v / 16 ^ i % 16 + if i + 1 < gF k v then 16 else 0 : Nat) : Int) 5) = natRec k v
  | 0, v => by simp [gF, natRec]
  | k + 1, v => by
    rw [natRec]
    by_cases h : v < 16
    · simp [gF, h]
    · have hg : gF (k + 1) v = gF k (v / 16) + 1 := by rw [gF, if_neg h]
      have hp := (gF_pos k (v / 16)).1
      rw [if_neg h, hg, List.range_succ_eq_map, List.flatMap_cons, List.flatMap_map, ← natRec_bits k (v / 16)]
      congr 1
      · rw [if_pos (by omega)]; simp
      · congr 1
        funext i
        have e1 : v / 16 ^ (i + 1) = v / 16 / 16 ^ i := by rw [Nat.pow_succ, Nat.mul_comm, Nat.div_div_eq_div_mul]
        simp only [Nat.succ_eq_add_one, e1, Nat.add_lt_add_iff_right]
theorem rn_bits {bs : List Int} {was : Nat} : ∀ (k k' i acc v p : Nat), k' + i = 17 → v < 16 ^ (k + 1) → v < 16 ^ (16 - i) → i ≤ 15 → (0 < i → 0 < v) → AtB bs p (natRec k v) →
    rnGo bs was k' i acc p = (acc + v * 2 ^ (4 * i), 0, p + (natRec k v).length)
  | k, 0, i, acc, v, p, h1, _, _, h4, _, _ => by omega
  | 0, k' + 1, i, acc, v, p, h1, h2, h3, h4, h5, h => by
    have hv : v < 16 := by simpa using h2
    rw [natRec, Nat.mod_eq_of_lt hv] at h ⊢
    have hg := gets_get (bs := bs) (v := v) (n := 5) (by omega) p h
    simp only [rget, Prod.mk.injEq] at hg
    obtain ⟨g1, g2, g3⟩ := hg
    have g3' : (getM bs p 5).2.1 = 0 := by simpa using g3
    rw [rnGo, g1, g2, g3', if_neg (by simp), if_neg (by omega), if_pos hv, Nat.mod_eq_of_lt hv]
  | k + 1, k' + 1, i, acc, v, p, h1, h2, h3, h4, h5, h => by
    rw [natRec] at h ⊢
    by_cases hv : v < 16
    · rw [if_pos hv, Nat.mod_eq_of_lt hv] at h ⊢
      have hg := gets_get (bs := bs) (v := v) (n := 5) (by omega) p h
      simp only [rget, Prod.mk.injEq] at hg
      obtain ⟨g1, g2, g3⟩ := hg
      have g3' : (getM bs p 5).2.1 = 0 := by simpa using g3
      rw [rnGo, g1, g2, g3', if_neg (by simp), if_neg (by omega), if_pos hv, Nat.mod_eq_of_lt hv]
    · rw [if_neg hv] at h ⊢
      obtain ⟨ha, hb⟩ := at_app h
      have hg := gets_get (bs := bs) (v := v % 16 + 16) (n := 5) (by omega) p ha
      simp only [rget, Prod.mk.injEq] at hg
      obtain ⟨g1, g2, g3⟩ := hg
      have g3' : (getM bs p 5).2.1 = 0 := by simpa using g3
      have hi : i < 15 := by
        rcases Nat.lt_or_ge i 15 with h | h
        · exact h
        · have : 16 - i = 1 := by omega
          rw [this] at h3; omega
      have hd : v / 16 < 16 ^ (k + 1) := by rw [Nat.pow_succ] at h2; omega
      have hd2 : v / 16 < 16 ^ (16 - (i + 1)) := by
        have e : 16 - i = 16 - (i + 1) + 1 := by omega
        rw [e, Nat.pow_succ] at h3; omega
      have hrec := rn_bits (bs := bs) (was := was) k k' (i + 1) (acc + (v % 16 + 16) % 16 * 2 ^ (4 * i)) (v / 16) (p + (bitsOf ((v % 16 + 16 : Nat) : Int) 5).length) (by omega) hd hd2 (by omega) (by omega) hb
      rw [rnGo, g1, g2, g3', if_neg (by simp), if_neg (by omega), if_neg (by omega), hrec, List.length_append, Nat.add_assoc p]
      have e1 : (v % 16 + 16) % 16 = v % 16 := by omega
      have e2 : (2 : Nat) ^ (4 * (i + 1)) = 16 * 2 ^ (4 * i) := by rw [show 4 * (i + 1) = 4 * i + 4 by omega, Nat.pow_add, Nat.mul_comm]
      have e3 : v % 16 * 2 ^ (4 * i) + v / 16 * (16 * 2 ^ (4 * i)) = v * 2 ^ (4 * i) := by
        rw [← Nat.mul_assoc, ← Nat.add_mul]
        congr 1; omega
      rw [e1, e2, Nat.add_assoc, e3]
theorem rnat_bits {bs : List Int} {v p : Nat} (hv : v < 16 ^ 16) (h : AtB bs p (natBits v)) : rnat bs p = (v, 0, p + (natBits v).length) := by
  have e : natBits v = natRec 16 v := natRec_bits 16 v
  rw [e] at h ⊢
  have := rn_bits (bs := bs) (was := p) 16 17 0 0 v p rfl (Nat.lt_trans hv (by decide)) hv (by omega) (by omega) h
  rw [rnat, this]
  simp
theorem zag_zig (v : Int) : zag (zig v) = v := by
  unfold zag zig
  split <;> split <;> omega
theorem rint_bits {bs : List Int} {v : Int} {p : Nat} (h1 : -4611686018427387904 ≤ v) (h2 : v < 4611686018427387904) (h : AtB bs p (natBits (zig v))) : rint bs p = (v, 0, p + (natBits (zig v)).length) := by
  rw [rint, rnat_bits (zig_lt v h1 h2) h]
  simp [zag_zig]
end Go.Proofs.Ytemlkbcfplkniaa.Am
/- The reader gets what the writer put: kinds, components, items, worlds. -/
namespace Go.Proofs.Ytemlkbcfplkniaa.Am
open Go Go.RowKit

theorem gets0 {bs : List Int} : RGets bs (fun s => rget bs s 1) (bitsOf 0 1) 0 := gets_get (v := 0) (by decide)
theorem gets1 {bs : List Int} : RGets bs (fun s => rget bs s 1) (bitsOf 1 1) 1 := gets_get (v := 1) (by decide)
theorem strOf_nums (s : Str) : strOfNums (s.data.toList.map fun c => (c.toNat : Int)) = s := by
  have e : (s.data.toList.map fun c => (c.toNat : Int)).map (fun n => n.toNat.toUInt8) = s.data.toList := by
    rw [List.map_map]
    conv => rhs; rw [← List.map_id s.data.toList]
    congr 1
    funext c
    simp
  unfold strOfNums
  rw [e]
theorem name_go {bs : List Int} : ∀ (cs : List UInt8) (out : List Int) (p : Nat), (∀ c ∈ cs, (lowC c || digC c) = true) → AtB bs p (cs.flatMap fun c => bitsOf (IntKind.u64.wrap (letIdx c)) 6) →
    rnameGo bs cs.length out (p, false) = (out ++ cs.map (fun c => (c.toNat : Int)), (p + (cs.flatMap fun c => bitsOf (IntKind.u64.wrap (letIdx c)) 6).length, false))
  | [], out, p, _, _ => by simp [rnameGo]
  | c :: r, out, p, hc, h => by
    rw [List.flatMap_cons] at h ⊢
    obtain ⟨ha, hb⟩ := at_app h
    obtain ⟨c1, c2, c3⟩ := let_ok (hc c (by simp))
    have e : IntKind.u64.wrap (letIdx c) = letIdx c := by rw [wrapU]; omega
    have hg := gets_geti (bs := bs) (v := IntKind.u64.wrap (letIdx c)) (n := 6) (by omega) (by have : (2 : Int) ^ 6 = 64 := rfl; omega) p ha
    have hr := name_go (bs := bs) r (out ++ [(c.toNat : Int)]) _ (fun x hx => hc x (by simp [hx])) hb
    have hg' : rget bs (p, false) 6 = ((letIdx c).toNat, (p + (bitsOf (IntKind.u64.wrap (letIdx c)) 6).length, false)) := by rw [← e]; exact hg
    rw [List.length_cons, rnameGo, hg']
    simp only
    rw [if_pos (by omega), c3, hr, List.length_append, Nat.add_assoc]
    simp
theorem gets_name {bs : List Int} {s : Str} (hs : nameB s = true) : RGets bs (fun w => rname bs w) (nameBits s) s := fun p h => by
  obtain ⟨h1, h2, h3⟩ := name_chars hs
  obtain ⟨ha, hb⟩ := at_app h
  have hg : rget bs (p, false) 5 = (s.size, (p + (bitsOf (s.size : Int) 5).length, false)) := gets_get (bs := bs) (v := s.size) (n := 5) (by omega) p ha
  have hr := name_go (bs := bs) s.data.toList [] _ h3 hb
  have e : s.data.toList.length = s.size := by simp
  rw [e] at hr
  show rname bs (p, false) = _
  unfold rname
  rw [hg]
  simp only
  rw [hr, List.nil_append, strOf_nums, nameBits, List.length_append, Nat.add_assoc]
theorem gets_field {bs : List Int} {f : GField} (hf : fieldB f = true) : RGets bs (fun w => rfield bs w) (fieldBits f) f := fun p h => by
  obtain ⟨h1, h2, h3, h4, h5⟩ := fieldB_iff.1 hf
  obtain ⟨hab, hc⟩ := at_app h
  obtain ⟨ha, hb⟩ := at_app hab
  have g1 : rname bs (p, false) = _ := gets_name h1 p ha
  have g2 : rget bs (p + (nameBits f.Name).length, false) 5 = _ := gets_geti (bs := bs) (v := f.Bits - 1) (n := 5) (by omega) (by have : (2 : Int) ^ 5 = 32 := rfl; omega) _ hb
  rw [List.length_append, ← Nat.add_assoc] at hc
  have g3 := rint_bits (bs := bs) (by omega) (by omega) hc
  show rfield bs (p, false) = _
  unfold rfield
  rw [g1]
  simp only
  rw [g2]
  simp only
  rw [g3]
  have e : ((f.Bits - 1).toNat : Int) + 1 = f.Bits := by omega
  simp only [e, fieldBits, List.length_append, Nat.add_assoc]
  simp
theorem fields_go {bs : List Int} : ∀ (l acc : List GField) (p : Nat), (∀ f ∈ l, fieldB f = true) → AtB bs p (l.flatMap fieldBits) → rfields bs l.length acc (p, false) = (acc ++ l, (p + (l.flatMap fieldBits).length, false))
  | [], acc, p, _, _ => by simp [rfields]
  | f :: r, acc, p, hf, h => by
    rw [List.flatMap_cons] at h ⊢
    obtain ⟨ha, hb⟩ := at_app h
    have hg : rfield bs (p, false) = _ := gets_field (hf f (by simp)) p ha
    rw [List.length_cons, rfields, hg]
    simp only
    rw [fields_go r _ _ (fun x hx => hf x (by simp [hx])) hb, List.length_append, Nat.add_assoc]
    simp
theorem gets_kind {bs : List Int} {k : GKind} (hk : oneE k = 0) : RGets bs (fun w => rkind bs w) (kindBits k) k := fun p h => by
  obtain ⟨h1, h2, h3⟩ := oneE_iff hk
  obtain ⟨hab, hc⟩ := at_app h
  obtain ⟨ha, hb⟩ := at_app hab
  have g1 : rname bs (p, false) = _ := gets_name h1 p ha
  have g2 : rget bs (p + (nameBits k.Name).length, false) 4 = _ := gets_get (bs := bs) (v := k.Fields.length) (n := 4) (by omega) _ hb
  rw [List.length_append, ← Nat.add_assoc] at hc
  have g3 := fields_go (bs := bs) k.Fields [] _ h3 hc
  show rkind bs (p, false) = _
  unfold rkind
  rw [g1]
  simp only
  rw [g2]
  simp only
  rw [g3]
  simp only [kindBits, List.length_append, Nat.add_assoc, List.nil_append]
theorem kinds_go {bs : List Int} : ∀ (l acc : List GKind) (p : Nat), (∀ f ∈ l, oneE f = 0) → AtB bs p (l.flatMap kindBits) → rkindsGo bs l.length acc (p, false) = (acc ++ l, (p + (l.flatMap kindBits).length, false))
  | [], acc, p, _, _ => by simp [rkindsGo]
  | f :: r, acc, p, hf, h => by
    rw [List.flatMap_cons] at h ⊢
    obtain ⟨ha, hb⟩ := at_app h
    have hg : rkind bs (p, false) = _ := gets_kind (hf f (by simp)) p ha
    rw [List.length_cons, rkindsGo, hg]
    simp only
    rw [kinds_go r _ _ (fun x hx => hf x (by simp [hx])) hb, List.length_append, Nat.add_assoc]
    simp
theorem gets_kinds {bs : List Int} {ks : List GKind} (hk : checkE ks = 0) : RGets bs (fun w => rkinds bs w) (kindsBits ks) ks := fun p h => by
  obtain ⟨h1, h2⟩ := checkE_le hk
  obtain ⟨ha, hb⟩ := at_app h
  have g1 : rget bs (p, false) 5 = _ := gets_get (bs := bs) (v := ks.length) (n := 5) (by omega) p ha
  have g2 := kinds_go (bs := bs) ks [] _ (checkE_one hk) hb
  show rkinds bs (p, false) = _
  unfold rkinds
  rw [g1]
  simp only
  rw [g2]
  simp only [kindsBits, List.length_append, Nat.add_assoc, List.nil_append, hk]
  simp
theorem gets_fld {bs : List Int} {f : GField} {v : Int} (hf : fieldB f = true) (h1 : f.Low ≤ v) (h2 : v ≤ highM f) : RGets bs (fun s => rfld bs s f) (bitsOf (v - f.Low) f.Bits.toNat) v := fun p h => by
  have hg := gets_geti (bs := bs) (v := v - f.Low) (n := f.Bits.toNat) (by omega) (by simp only [highM, hf, if_true] at h2; omega) p h
  simp only [rget, Prod.mk.injEq] at hg
  obtain ⟨g1, g2, g3⟩ := hg
  have g3' : (getM bs p f.Bits.toNat).2.1 = 0 := by simpa using g3
  show rfld bs (p, false) f = _
  unfold rfld qget
  simp only
  rw [if_neg (by simp [g3']), g1, g2]
  simp only [ne_eq, not_true_eq_false, decide_false, Bool.or_false, Prod.mk.injEq, and_true]
  omega
theorem vals_go {bs : List Int} : ∀ (fs : List GField) (vs acc : List Int) (p : Nat), (∀ f ∈ fs, fieldB f = true) → ValsOk fs vs → AtB bs p (valsBits fs vs) → rvals bs fs acc (p, false) = (acc ++ vs, (p + (valsBits fs vs).length, false))
  | [], [], acc, p, _, _, _ => by simp [rvals, valsBits]
  | [], v :: vs, acc, p, _, hv, _ => by have := hv.1; simp at this
  | f :: fs, [], acc, p, _, hv, _ => by have := hv.1; simp at this
  | f :: fs, v :: vs, acc, p, hf, hv, h => by
    rw [valsBits] at h ⊢
    obtain ⟨ha, hb⟩ := at_app h
    have h0 := hv.2 0 (by simp) (by simp)
    simp only [List.getElem_cons_zero] at h0
    have hg : rfld bs (p, false) f = _ := gets_fld (hf f (by simp)) h0.1 h0.2 p ha
    rw [rvals, hg]
    simp only
    rw [vals_go fs vs _ _ (fun x hx => hf x (by simp [hx])) ⟨by simpa using hv.1, fun j a b => by
      have := hv.2 (j + 1) (by simpa using a) (by simpa using b)
      simpa using this⟩ hb, List.length_append, Nat.add_assoc]
    simp
theorem comps_go {bs : List Int} : ∀ (r : List GKind) (i : Nat) (l acc : List GComp) (p : Nat), compsOk i r l → AtB bs p (compsBits i r l) → rcomps bs i r acc (p, false) = (acc ++ l, (p + (compsBits i r l).length, false))
  | [], i, l, acc, p, hc, _ => by
    have : l = [] := hc
    subst this
    simp [rcomps, compsBits]
  | k :: r, i, [], acc, p, hc, h => by
    have hc' : compsOk (i + 1) r [] := by cases r <;> simp [compsOk]
    rw [compsBits] at h ⊢
    obtain ⟨ha, hb⟩ := at_app h
    have hg : rget bs (p, false) 1 = _ := gets0 p ha
    rw [rcomps, hg]
    simp only [if_true]
    rw [comps_go r (i + 1) [] acc _ hc' hb, List.length_append, Nat.add_assoc]
  | k :: r, i, c :: l, acc, p, hc, h => by
    rw [compsBits] at h ⊢
    rw [compsOk] at hc
    by_cases he : c.Kind = i
    · rw [if_pos he] at h hc ⊢
      obtain ⟨hab, hd⟩ := at_app h
      obtain ⟨ha, hb⟩ := at_app hab
      have hg : rget bs (p, false) 1 = _ := gets1 p ha
      rw [List.length_append, ← Nat.add_assoc] at hd
      have hv := vals_go (bs := bs) k.Fields c.Vals [] _ hc.1 hc.2.1 hb
      rw [rcomps, hg]
      simp only
      rw [if_neg (by decide), hv]
      simp only
      have hcc : (⟨(i : Int), [] ++ c.Vals⟩ : GComp) = c := by rw [List.nil_append, ← he]
      rw [hcc, comps_go r (i + 1) l _ _ hc.2.2 hd, List.length_append, List.length_append]
      simp [Nat.add_assoc]
    · rw [if_neg he] at h hc ⊢
      obtain ⟨ha, hb⟩ := at_app h
      have hg : rget bs (p, false) 1 = _ := gets0 p ha
      rw [rcomps, hg]
      simp only [if_true]
      rw [comps_go r (i + 1) (c :: l) acc _ hc hb, List.length_append, Nat.add_assoc]
/-- The items from slot n on: each has the slot's generation, and the slots go up. -/
def itemsOk (ks : List GKind) : Nat → List Int → List GItem → Prop
  | _, [], its => its = []
  | _, _ :: _, [] => True
  | n, g :: gs, it :: r => if it.Ent.N = n then it.Ent.Gen = g ∧ compsOk 0 ks it.Comps ∧ itemsOk ks (n + 1) gs r else itemsOk ks (n + 1) gs (it :: r)
theorem items_ok {ks : List GKind} {gs : List Int} : ∀ (r : List Int) (n : Nat) (its : List GItem), gs.drop n = r → n ≤ gs.length → itemsB ks gs ((n : Int) - 1) its = true → itemsOk ks n r its
  | [], n, [], _, _, _ => rfl
  | [], n, it :: r, hd, hn, h => by
    obtain ⟨g1, g2, _⟩ := items_cons.1 h
    have := List.drop_eq_nil_iff.1 hd
    omega
  | g :: gs', n, [], _, _, _ => trivial
  | g :: gs', n, it :: r, hd, hn, h => by
    obtain ⟨g1, g2, g3, g4, g5, g6⟩ := items_cons.1 h
    have hlt : n < gs.length := by
      rcases Nat.lt_or_ge n gs.length with h | h
      · exact h
      · rw [List.drop_eq_nil_of_le h] at hd; cases hd
    rw [List.drop_eq_getElem_cons hlt] at hd
    obtain ⟨hk, hr⟩ := List.cons.inj hd
    rw [itemsOk]
    split
    · rename_i he
      refine ⟨?_, comps_ok ks 0 it.Comps rfl (by omega) (by simpa using g5), items_ok gs' (n + 1) r hr (by omega) (by rw [he] at g6; rw [show (((n + 1 : Nat) : Int) - 1) = n by omega]; exact g6)⟩
      rw [g3, he]
      simp [List.getD, hlt, hk]
    · exact items_ok gs' (n + 1) (it :: r) hr (by omega) (items_cons.2 ⟨by omega, g2, g3, g4, g5, g6⟩)
theorem items_go {bs : List Int} {ks : List GKind} : ∀ (gs : List Int) (n : Nat) (its : List GItem) (ga : List Int) (ia : List GItem) (p : Nat), ga.length = n → (∀ g ∈ gs, 0 ≤ g ∧ g ≤ 1073741824) → itemsOk ks n gs its → AtB bs p (itemsBits ks n gs its) →
    ritems bs ks gs.length ga ia (p, false) = (ga ++ gs, ia ++ its, (p + (itemsBits ks n gs its).length, false))
  | [], n, its, ga, ia, p, _, _, hc, _ => by
    have : its = [] := hc
    subst this
    simp [ritems, itemsBits]
  | g :: gs, n, [], ga, ia, p, hn, hg, hc, h => by
    have hc' : itemsOk ks (n + 1) gs [] := by cases gs <;> simp [itemsOk]
    rw [itemsBits] at h ⊢
    obtain ⟨hab, hd⟩ := at_app h
    obtain ⟨ha, hb⟩ := at_app hab
    obtain ⟨b1, b2⟩ := hg g (by simp)
    have q1 := rnat_bits (bs := bs) (v := g.toNat) (Nat.lt_of_le_of_lt (m := 1073741824) (by omega) (by decide)) ha
    have q2 : rget bs (p + (natBits g.toNat).length, false) 1 = _ := gets0 _ hb
    rw [List.length_append, ← Nat.add_assoc] at hd
    have e : ((g.toNat : Nat) : Int) = g := by omega
    rw [List.length_cons, ritems]
    simp only [q1]
    rw [if_neg (by simp; omega), q2]
    simp only
    rw [if_neg (by decide), e, items_go gs (n + 1) [] (ga ++ [g]) ia _ (by simp [hn]) (fun x hx => hg x (by simp [hx])) hc' hd, List.length_append, List.length_append]
    simp [Nat.add_assoc]
  | g :: gs, n, it :: r, ga, ia, p, hn, hg, hc, h => by
    rw [itemsBits] at h ⊢
    rw [itemsOk] at hc
    obtain ⟨b1, b2⟩ := hg g (by simp)
    have e : ((g.toNat : Nat) : Int) = g := by omega
    by_cases he : it.Ent.N = n
    · rw [if_pos he] at h hc ⊢
      obtain ⟨habc, hd⟩ := at_app h
      obtain ⟨hab, hcc⟩ := at_app habc
      obtain ⟨ha, hb⟩ := at_app hab
      have q1 := rnat_bits (bs := bs) (v := g.toNat) (Nat.lt_of_le_of_lt (m := 1073741824) (by omega) (by decide)) ha
      have q2 : rget bs (p + (natBits g.toNat).length, false) 1 = _ := gets1 _ hb
      rw [List.length_append, ← Nat.add_assoc] at hcc
      have q3 := comps_go (bs := bs) ks 0 it.Comps [] _ hc.2.1 hcc
      rw [List.length_append, List.length_append, ← Nat.add_assoc, ← Nat.add_assoc] at hd
      rw [List.length_cons, ritems]
      simp only [q1]
      rw [if_neg (by simp; omega), q2]
      simp only
      rw [if_pos trivial, q3]
      simp only
      have hit : (⟨⟨(ga.length : Int), ((g.toNat : Nat) : Int)⟩, [] ++ it.Comps⟩ : GItem) = it := by
        rw [List.nil_append, e, hn, ← he, ← hc.1]
      rw [hit, e, items_go gs (n + 1) r (ga ++ [g]) (ia ++ [it]) _ (by simp [hn]) (fun x hx => hg x (by simp [hx])) hc.2.2 hd]
      simp [Nat.add_assoc]
    · rw [if_neg he] at h hc ⊢
      obtain ⟨hab, hd⟩ := at_app h
      obtain ⟨ha, hb⟩ := at_app hab
      have q1 := rnat_bits (bs := bs) (v := g.toNat) (Nat.lt_of_le_of_lt (m := 1073741824) (by omega) (by decide)) ha
      have q2 : rget bs (p + (natBits g.toNat).length, false) 1 = _ := gets0 _ hb
      rw [List.length_append, ← Nat.add_assoc] at hd
      rw [List.length_cons, ritems]
      simp only [q1]
      rw [if_neg (by simp; omega), q2]
      simp only
      rw [if_neg (by decide), e, items_go gs (n + 1) (it :: r) (ga ++ [g]) ia _ (by simp [hn]) (fun x hx => hg x (by simp [hx])) hc hd, List.length_append, List.length_append]
      simp [Nat.add_assoc]
end Go.Proofs.Ytemlkbcfplkniaa.Am
/- The law SaveBack. -/
namespace Go.Proofs.Ytemlkbcfplkniaa.Am
open Go Go.RowKit

theorem bitsVal_bit (f : Nat → Bool) : ∀ (k r : Nat), r < k → bitsVal f k / 2 ^ r % 2 = if f r = true then 1 else 0
  | k + 1, r, h => by
    rw [bitsVal]
    have hlt := bitsVal_lt f k
    by_cases hr : r = k
    · subst hr
      by_cases hf : f r = true
      · rw [if_pos hf, if_pos hf, Nat.add_div_right _ (Nat.pow_pos (by decide)), Nat.div_eq_of_lt hlt]
      · rw [if_neg hf, if_neg hf, Nat.add_zero, Nat.div_eq_of_lt hlt]
    · have ih := bitsVal_bit f k r (by omega)
      by_cases hf : f k = true
      · rw [if_pos hf, show (2 : Nat) ^ k = 2 ^ r * (2 * 2 ^ (k - r - 1)) by rw [← Nat.pow_succ', ← Nat.pow_add]; congr 1; omega, Nat.add_mul_div_left _ _ (Nat.pow_pos (by decide)), Nat.add_mul_mod_self_left]
        exact ih
      · rw [if_neg hf, Nat.add_zero]; exact ih
theorem at_pack (bl : List Bool) : AtB (packB bl) 0 bl := by
  refine ⟨by rw [packB_len]; omega, fun i hi => ?_⟩
  rw [Nat.zero_add]
  have hq : i / 8 < (bl.length + 7) / 8 := by omega
  have e : (packB bl).getD (i / 8) 0 = (byteAt bl (i / 8) : Int) := by
    simp [packB, bytesTo, List.getD, hq]
  have h1 := bitsVal_bit (fun j => bl.getD (8 * (i / 8) + j) false) 8 (i % 8) (by omega)
  have h2 : 8 * (i / 8) + i % 8 = i := by omega
  simp only [h2] at h1
  unfold bitAt
  rw [e]
  have e2 : ((byteAt bl (i / 8) : Int) / 2 ^ (i % 8) % 2).toNat = byteAt bl (i / 8) / 2 ^ (i % 8) % 2 := by
    have : ((byteAt bl (i / 8) : Int) / 2 ^ (i % 8) % 2) = ((byteAt bl (i / 8) / 2 ^ (i % 8) % 2 : Nat) : Int) := by push_cast; rfl
    rw [this]; rfl
  rw [e2]
  unfold byteAt
  rw [h1]
  simp [List.getD, hi]
theorem readM_back {W : GWorld} (h : checkW W = 0) (hk : W.Kinds.length ≤ 4) : readM (sealB (packB (worldBits W))) = (W, 0) := by
  have hwr := writeM_good h hk
  have hl := world_le h hk
  obtain ⟨h1, h2, h3, h4, h5⟩ := checkW_iff.1 h
  have hg : ∀ g ∈ W.Gens, 0 ≤ g ∧ g ≤ 1073741824 := fun g hg => by
    have := List.any_eq_false.1 h4 g hg
    simp at this; omega
  have hat := at_pack (worldBits W)
  have hpl : (packB (worldBits W)).length ≤ 40000 := by rw [packB_len]; omega
  generalize hbd : packB (worldBits W) = body at hwr hat hpl ⊢
  have hsl : (sealB body).length = body.length + 8 := by simp [sealB, tail8]
  have htk : (sealB body).take (body.length + 8 - 8) = body := by
    rw [Nat.add_sub_cancel]; simp [sealB]
  obtain ⟨habc, hd⟩ := at_app hat
  obtain ⟨hab, hc⟩ := at_app habc
  obtain ⟨ha, hb⟩ := at_app hab
  have g1 : rget body (0, false) 8 = _ := gets_get (bs := body) (v := 1) (n := 8) (by decide) 0 ha
  rw [Nat.zero_add] at g1 hb hc hd
  have g2 : rkinds body ((bitsOf ((1 : Nat) : Int) 8).length, false) = _ := gets_kinds h1 _ hb
  have hcl : (bitsOf 1 8 ++ kindsBits W.Kinds).length = (bitsOf ((1 : Nat) : Int) 8).length + (kindsBits W.Kinds).length := by rw [List.length_append]; simp
  rw [hcl] at hc
  have g3 : rget body ((bitsOf ((1 : Nat) : Int) 8).length + (kindsBits W.Kinds).length, false) 9 = _ := gets_get (bs := body) (v := W.Gens.length) (n := 9) (by omega) _ hc
  rw [List.length_append, hcl] at hd
  have g4 := items_go (bs := body) W.Gens 0 W.Items [] [] _ rfl hg (items_ok W.Gens 0 W.Items rfl (by omega) (by simpa using h5)) hd
  have hM : ritemsM body W.Kinds ((bitsOf ((1 : Nat) : Int) 8).length + (kindsBits W.Kinds).length, false) = (W, ((bitsOf ((1 : Nat) : Int) 8).length + (kindsBits W.Kinds).length + (bitsOf (W.Gens.length : Int) 9).length + (itemsBits W.Kinds 0 W.Gens W.Items).length, false)) := by
    unfold ritemsM
    rw [g3]
    simp only
    rw [g4]
    simp
  unfold readM
  rw [hsl, if_neg (by omega), if_neg (by omega), htk, if_neg (by simp)]
  unfold readB
  rw [g1]
  simp only
  rw [g2]
  simp only
  rw [hM, if_neg (by simp), if_neg (by simp), if_neg (by simp), if_neg]
  simp [hwr]

set_option maxRecDepth 20000 in
theorem Size_fn (W : GWorld) (hfi : Fine W) (hvl : ∀ it ∈ W.Items, ∀ c ∈ it.Comps, c.Vals.length ≤ 1000) : Fn Try.prog 34 [.agg W.e] (.tup [kI (writeM W).1.length, kI (writeM W).2]) := by
  refine fn_go Try.func34 rfl ?_
  simp [Try.ntmps34]
  refine cal (Write_fn W hfi hvl) ?_
  generalize writeM W = c
  simp
  exact finm

set_option maxRecDepth 20000 in
set_option maxHeartbeats 1000000 in
theorem SaveBack_law (l : List Int) (hw : ∀ n ∈ l, (Lit.int .i64 n).wf = true) : Fn Try.prog 7 [slI l] (kB true) := by
  have him : ∀ bs : List Int, (bs.map kU8).all PV.immB = true := fun bs => by simp
  have hv := worldM_valid l
  have hk4 : (worldM l).Kinds.length ≤ 4 := (kindsM_good l).1.1
  obtain ⟨hfi, hcc⟩ := checkW_fine hv
  have hvl : ∀ it ∈ (worldM l).Items, ∀ c ∈ it.Comps, c.Vals.length ≤ 1000 := fun it hit c hc => by have := ((hcc it hit).2 c hc).2.2.2; omega
  refine fn_go Try.func7 rfl ?_
  simp [Try.ntmps7]
  refine cal saved_fn ?_
  simp
  refine cal (World_fn l) ?_
  have hWl := World_fn l
  generalize worldM l = W at hv hk4 hfi hvl hWl ⊢
  simp
  have hW := Write_fn W hfi hvl
  have hS := Size_fn W hfi hvl
  have hbk := readM_back hv hk4
  rw [writeM_good hv hk4] at hW hS
  refine cal hW ?_
  have hpl := world_le hv hk4
  have hpb : BytesOk (packB (worldBits W)) := pack_ok _
  have hpz : (packB (worldBits W)).length ≤ 40000 := by rw [packB_len]; omega
  have hsl : (sealB (packB (worldBits W))).length ≤ 1000000 := by simp [sealB, tail8]; omega
  have hsb := sealB_ok hpb
  generalize sealB (packB (worldBits W)) = b at hsl hsb hbk hW hS ⊢
  simp
  refine cal hWl ?_
  simp
  refine cal hW ?_
  simp
  have hR := Read_fn b hsb
  rw [hbk] at hR
  refine cal hR ?_
  simp
  refine cal hS ?_
  simp
  refine cal (EqB_fn b b (by omega)) ?_
  simp
  have hE := same_fn W W hfi
  rw [decide_eq_true rfl] at hE
  refine cal hE ?_
  simp
  exact finm
end Go.Proofs.Ytemlkbcfplkniaa.Am
