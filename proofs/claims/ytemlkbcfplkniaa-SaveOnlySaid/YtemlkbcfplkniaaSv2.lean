/- Package bits: Writer.Put. -/
import Derived.Test.YtemlkbcfplkniaaSv1
import Derived.Test.YtemlkbcfplkniaaDig1
set_option linter.unusedVariables false
set_option linter.unusedSimpArgs false
namespace Go.Proofs.Ytemlkbcfplkniaa.Am
open Go Go.RowKit

/-- What Put does to the bits that are there, for 0 ≤ n < 64: the bits, and the error. -/
def putM (bl : List Bool) (v n : Int) : List Bool × Int :=
  if v / 2 ^ n.toNat ≠ 0 then (bl, 1) else if 524288 < (bl.length : Int) + n then (bl, 6) else (bl ++ bitsOf v n.toNat, 0)

theorem bit_and (y : Int) (hy : 0 ≤ y) : IntKind.u64.wrap ↑((y % 2 ^ IntKind.u64.bits).toNat &&& 1 % 2 ^ IntKind.u64.bits) = if y % 2 = 1 then 1 else 0 := by
  have h1 : (1 % 2 ^ IntKind.u64.bits : Nat) = 1 := by decide
  have h2 : (2 : Int) ^ IntKind.u64.bits = 18446744073709551616 := by decide
  rw [h1, Nat.and_one_is_mod, h2]
  have h3 : (y % 18446744073709551616).toNat % 2 = if y % 2 = 1 then 1 else 0 := by split <;> omega
  rw [h3]
  split <;> decide
theorem byte_or (x r : Nat) (y : Int) (hy : 0 ≤ y) (hr : r < 8) (hx : x < 2 ^ r) :
    IntKind.u8.wrap ↑(x % 2 ^ IntKind.u8.bits ||| ((IntKind.u8.wrap (IntKind.u8.wrap (IntKind.u64.wrap ↑((y % 2 ^ IntKind.u64.bits).toNat &&& 1 % 2 ^ IntKind.u64.bits)) * 2 ^ min r IntKind.u8.bits)) % 2 ^ IntKind.u8.bits).toNat)
      = ((x + if decide (y % 2 = 1) = true then 2 ^ r else 0 : Nat) : Int) := by
  rw [bit_and y hy]
  have h2 : (2 : Int) ^ IntKind.u8.bits = 256 := by decide
  have hx8 : x < 2 ^ 8 := Nat.lt_of_lt_of_le hx (Nat.pow_le_pow_right (by decide) (by omega))
  have hxr : x % 2 ^ IntKind.u8.bits = x := Nat.mod_eq_of_lt hx8
  have hw : ∀ z : Nat, z < 256 → IntKind.u8.wrap (z : Int) = z := fun z hz => by
    rw [IntKind.wrap_u8]
    omega
  rw [hxr]
  by_cases hb : y % 2 = 1
  · simp only [hb, if_true, decide_true]
    have e : ((IntKind.u8.wrap (IntKind.u8.wrap 1 * 2 ^ min r IntKind.u8.bits)) % 2 ^ IntKind.u8.bits).toNat = 2 ^ r := by
      have : r = 0 ∨ r = 1 ∨ r = 2 ∨ r = 3 ∨ r = 4 ∨ r = 5 ∨ r = 6 ∨ r = 7 := by omega
      rcases this with rfl | rfl | rfl | rfl | rfl | rfl | rfl | rfl <;> decide
    rw [e]
    have h3 := Nat.two_pow_add_eq_or_of_lt hx 1
    rw [Nat.mul_one] at h3
    rw [Nat.or_comm, ← h3, Nat.add_comm]
    have : x + 2 ^ r < 2 ^ (r + 1) := by rw [Nat.pow_succ]; omega
    have : 2 ^ (r + 1) ≤ 2 ^ 8 := Nat.pow_le_pow_right (by decide) (by omega)
    exact hw _ (by omega)
  · simp only [hb, if_false, decide_false]
    have e : ((IntKind.u8.wrap (IntKind.u8.wrap 0 * 2 ^ min r IntKind.u8.bits)) % 2 ^ IntKind.u8.bits).toNat = 0 := by
      have : IntKind.u8.wrap 0 = 0 := by decide
      rw [this, Int.zero_mul, this]; rfl
    rw [e]
    simp
    exact hw x (by omega)

def wSt (bl : List Bool) (e : Int) (b : Nat) : List PV := [.osl b 1 0 ((bl.length + 7) / 8), kI bl.length, kI e]

set_option maxRecDepth 20000 in
theorem Put_fn (bl : List Bool) (v n e : Int) (hv : 0 ≤ v) (hn : 0 ≤ n ∧ n ≤ 63) (hl : bl.length ≤ 524288) : FnD Try.prog 99 [.ptr 0 0, kU v, kI n] [wSt bl e 1, (packB bl).map kU8]
    (kI (putM bl v n).2) [some (wSt (putM bl v n).1 e 2), none, some ((packB (putM bl v n).1).map kU8)] := by
  have hb : ∀ bs : List Int, (bs.map kU8).all PV.immB = true := fun bs => by simp
  refine fng_of Try.func99 rfl (awp_ent (s' := ⟨82, [(0, .ptr 0 0), (1, kU v), (2, kI n)], [some (wSt bl e 2), none, some ((packB bl).map kU8)], 2⟩)
    ((ent_mb 1 ((packB bl).map kU8)).trans (entm [0, 1, 2] (hB := by simp [wSt, imms_ren (hb _), imms_lt (hb _)]))) (awp_go ?_))
  simp [Try.ntmps99, wSt]
  obtain ⟨m, rfl⟩ : ∃ m : Nat, n = m := ⟨n.toNat, by omega⟩
  have h1 : ¬ (m : Int) < 0 := by omega
  have h2 : ¬ 64 < (m : Int) := by omega
  have h3 : (m : Int) < 64 := by omega
  have hdiv : ∀ k : Nat, k ≤ 64 → v.fdiv (2 ^ min k IntKind.u64.bits) = v / 2 ^ k := fun k hk => by
    have : min k IntKind.u64.bits = k := Nat.min_eq_left hk
    rw [this]
    exact Int.fdiv_eq_ediv_of_nonneg _ (by exact Int.pow_nonneg (by omega))
  simp [h1, h2, h3, hdiv m (by omega)]
  by_cases h4 : v / 2 ^ m = 0
  · simp [h4]
    rw [wrap_id (by omega) (by omega)]
    by_cases h5 : 524288 < (bl.length : Int) + m
    · simp [h5]
      exact finGm [0, 1, 2] (hres := by simp [putM, h4, h5]) (hB := by simp [putM, h4, h5, wSt, imms_ren (hb _), imms_lt (hb _)])
    · simp [h5]
      refine awp_loop (fun x : Nat × List Bool => ⟨82, [(0, .ptr 0 0), (1, kU v), (31, kI m), (32, kI x.1)], [some (wSt x.2 e 2), none, some ((packB x.2).map kU8)], 2⟩)
        (fun x => x.1 ≤ m ∧ x.2 = bl ++ bitsOf v x.1) (fun x => m - x.1) (0, bl) ?_ ?_ ?_
      · exact entm [0, 1, 2] (hB := by simp [wSt, imms_ren (hb _), imms_lt (hb _)])
      · simp [bitsOf]
      · rintro ⟨i, xl⟩ ⟨hi, hxl⟩
        simp only at hi hxl
        refine awp_go ?_
        by_cases hlt : i < m
        · obtain ⟨q, hq0⟩ : ∃ q, xl.length / 8 = q := ⟨_, rfl⟩
          obtain ⟨r, hr0⟩ : ∃ r, xl.length % 8 = r := ⟨_, rfl⟩
          have hxlen : xl.length = bl.length + i := by rw [hxl]; simp
          have ht : (xl.length : Int).tmod 8 = r := by rw [Int.tmod_eq_emod_of_nonneg (by omega)]; omega
          have hq : (xl.length : Int).tdiv 8 = q := by rw [Int.tdiv_eq_ediv_of_nonneg (by omega)]; omega
          have ht2 : (xl.length : Int) % 8 = r := by omega
          have hq2 : (xl.length : Int) / 8 = q := by omega
          have hqw : IntKind.i64.wrap (q : Int) = q := wrap_id (by omega) (by omega)
          have hq3 : (q : Int) < (q : Int) + 1 := by omega
          have hi0 : ¬ (i : Int) < 0 := by omega
          have hr1 : ¬ (r : Int) < 0 := by omega
          have hsn := pack_snoc xl (decide (v / 2 ^ i % 2 = 1))
          have hbl := byteAt_last_lt xl
          have hroom := pack_room xl
          rw [hq0, hr0] at hsn hbl
          rw [hq0, hr0] at hroom
          have hb1 : q + 1 ≤ 140737488355328 := by omega
          have hb2 : q + 1 ≤ maxLen := by simp only [maxLen]; omega
          have hB : ((bytesTo xl (q + 1)).map kU8)[q]? = some (kU8 (byteAt xl q)) := by simp [bytesTo]
          have hBl : ((bytesTo xl (q + 1)).map kU8).length = q + 1 := by simp
          have hby : 0 ≤ v / 2 ^ i := Int.ediv_nonneg hv (Int.pow_nonneg (by omega))
          have hor := byte_or (byteAt xl q) r (v / 2 ^ i) hby (by omega) hbl
          have hw1 : IntKind.i64.wrap ((i : Int) + 1) = ((i + 1 : Nat) : Int) := wrap_id (by omega) (by omega)
          have hw2 : IntKind.i64.wrap ((xl.length : Int) + 1) = ((xl.length + 1 : Nat) : Int) := wrap_id (by omega) (by omega)
          have hl2 : (xl.length + 1 + 7) / 8 = q + 1 := by omega
          have hnext : xl ++ [decide (v / 2 ^ i % 2 = 1)] = bl ++ bitsOf v (i + 1) := by rw [bitsOf_succ, ← List.append_assoc, ← hxl]
          by_cases h8 : r = 0
          · have e : List.map kU8 (packB xl) ++ [.k (.int .u8 0)] = (bytesTo xl (q + 1)).map kU8 := by rw [hroom, if_pos h8]; simp
            have e' : (xl.length + 7) / 8 = q := by omega
            simp [hlt, wSt, ht, ht2, h8, e', hb1, hb2]
            rw [e]
            generalize hBe : (bytesTo xl (q + 1)).map kU8 = B at hB hBl ⊢
            have hBg : B[q]'(by omega) = kU8 (byteAt xl q) := (List.getElem?_eq_some_iff.1 hB).2
            refine awp_draw follows_mix [] [(0, [0]), (0, [0]), (0, [0]), (0, [0]), (0, [0]), (0, [0]), (0, [0]), (0, [0]), (0, [0]), (0, [0]), (0, [0]), (0, [0]), (0, [0]), (0, [0]), (0, [0]), (0, [0]), (0, [0]), (0, [0]), (0, [0]), (0, [0]), (0, [0]), (0, [0]), (0, [0]), (0, [0]), (1, [0])] 1 (by kernel_rfl) rfl ?_
            simp [hq, hq2, hqw, hq3, hi0, hr1, hBg, hBl, ht, ht2, hdiv i (by omega)]
            have hfin : List.take q B ++ kU8 ((byteAt xl q + if decide (v / 2 ^ i % 2 = 1) = true then 2 ^ r else 0 : Nat) : Int) :: List.drop (q + 1) B = (packB (xl ++ [decide (v / 2 ^ i % 2 = 1)])).map kU8 := by
              have hqB : q < B.length := by omega
              rw [hsn, List.map_set, hBe, List.set_eq_take_append_cons_drop]
              simp [hqB]
            simp only [hor, hw1, hw2]
            simp only [kU8] at hfin
            rw [hfin]
            exact ⟨i + 1, xl ++ [decide (v / 2 ^ i % 2 = 1)], ⟨by omega, hnext⟩, by omega, entm [0, 1, 4] (hB := by simp [wSt, hl2, imms_ren (hb _), imms_lt (hb _)])⟩
          · have h8' : ¬ (xl.length : Int) % 8 = 0 := by omega
            have e : List.map kU8 (packB xl) = (bytesTo xl (q + 1)).map kU8 := by rw [hroom, if_neg h8]
            have e' : (xl.length + 7) / 8 = q + 1 := by omega
            simp [hlt, wSt, ht, ht2, h8, h8', e']
            rw [e]
            generalize hBe : (bytesTo xl (q + 1)).map kU8 = B at hB hBl ⊢
            have hBg : B[q]'(by omega) = kU8 (byteAt xl q) := (List.getElem?_eq_some_iff.1 hB).2
            refine awp_draw follows_mix [] [(0, [0]), (0, [0]), (0, [0]), (0, [0]), (0, [0]), (0, [0]), (0, [0]), (0, [0]), (0, [0]), (0, [0]), (0, [0]), (0, [0]), (0, [0]), (0, [0]), (0, [0]), (0, [0]), (0, [0]), (0, [0]), (0, [0]), (0, [0]), (0, [0]), (0, [0]), (0, [0]), (0, [0]), (1, [0])] 1 (by kernel_rfl) rfl ?_
            simp [hq, hq2, hqw, hq3, hi0, hr1, hBg, hBl, ht, ht2, hdiv i (by omega)]
            have hfin : List.take q B ++ kU8 ((byteAt xl q + if decide (v / 2 ^ i % 2 = 1) = true then 2 ^ r else 0 : Nat) : Int) :: List.drop (q + 1) B = (packB (xl ++ [decide (v / 2 ^ i % 2 = 1)])).map kU8 := by
              have hqB : q < B.length := by omega
              rw [hsn, List.map_set, hBe, List.set_eq_take_append_cons_drop]
              simp [hqB]
            simp only [hor, hw1, hw2]
            simp only [kU8] at hfin
            rw [hfin]
            exact ⟨i + 1, xl ++ [decide (v / 2 ^ i % 2 = 1)], ⟨by omega, hnext⟩, by omega, entm [0, 1, 2] (hB := by simp [wSt, hl2, imms_ren (hb _), imms_lt (hb _)])⟩
        · obtain rfl : i = m := by omega
          simp [wSt]
          have e1 : (putM bl v i).1 = xl := by simp [putM, h4, h5, hxl]
          have e2 : (putM bl v i).2 = 0 := by simp [putM, h4, h5]
          rw [e1, e2]
          exact finGm [0, 1, 2] (hB := by simp [imms_ren (hb _), imms_lt (hb _)])
  · simp [h4]
    exact finGm [0, 1, 2] (hres := by simp [putM, h4]) (hB := by simp [putM, h4, wSt, imms_ren (hb _), imms_lt (hb _)])
end Go.Proofs.Ytemlkbcfplkniaa.Am
