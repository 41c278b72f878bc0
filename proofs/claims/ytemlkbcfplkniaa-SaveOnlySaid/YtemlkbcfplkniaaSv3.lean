/- Package bits: Writer.Nat, Writer.Int, Writer.Bytes. -/
import Derived.Test.YtemlkbcfplkniaaSv2
set_option linter.unusedVariables false
set_option linter.unusedSimpArgs false
namespace Go.Proofs.Ytemlkbcfplkniaa.Am
open Go Go.RowKit

/-- How many groups of four bits. -/
def gF : Nat → Nat → Nat
  | 0, _ => 1
  | k + 1, v => if v < 16 then 1 else gF k (v / 16) + 1
theorem gF_pos : ∀ k v, 1 ≤ gF k v ∧ gF k v ≤ k + 1
  | 0, v => by simp [gF]
  | k + 1, v => by
    have := gF_pos k (v / 16)
    unfold gF; split <;> omega
theorem u64_sz : IntKind.u64.bits = 64 := rfl
theorem shr4 (v : Nat) : ((v : Int)).fdiv (2 ^ min 4 IntKind.u64.bits) = ((v / 16 : Nat) : Int) := by
  rw [Int.fdiv_eq_ediv_of_nonneg _ (by decide)]; rfl

set_option maxRecDepth 20000 in
theorem groups_fn (v : Nat) (hv : v < 16 ^ 16) : Fn Try.prog 191 [kU v] (kI (gF 16 v)) := by
  refine fn_go Try.func191 rfl ?_
  simp [Try.ntmps191]
  rw [show (v : Int).fdiv (2 ^ min 4 IntKind.u64.bits) = ((v / 16 : Nat) : Int) from shr4 v]
  refine awp_loop (fun x : Nat × Nat => ⟨13, [(0, kU ((x.2 / 16 : Nat) : Int)), (3, kI x.1)], [], 0⟩) (fun x => 1 ≤ x.1 ∧ x.1 ≤ 17 ∧ x.2 < 16 ^ (17 - x.1) ∧ x.1 - 1 + gF (17 - x.1) x.2 = gF 16 v) (fun x => x.2) (1, v) ?_ ?_ ?_
  · exact entm []
  · simpa using hv
  · rintro ⟨n, y⟩ ⟨h1, h2, h3, h4⟩
    simp only at h1 h2 h3 h4
    refine awp_go ?_
    by_cases hy : y < 16
    · have e : y / 16 = 0 := by omega
      have hg : gF (17 - n) y = 1 := by
        cases h : 17 - n with
        | zero => rfl
        | succ k => rw [gF, if_pos hy]
      simp [e]
      exact finm (by simp; omega)
    · have e : 0 < y / 16 := by omega
      obtain ⟨k, hk⟩ : ∃ k, 17 - n = k + 1 := by
        cases h : 17 - n with
        | zero => rw [h] at h3; simp at h3; omega
        | succ k => exact ⟨k, rfl⟩
      rw [hk] at h3 h4
      rw [gF, if_neg hy] at h4
      have e2 : (0 : Int) < ((y / 16 : Nat) : Int) := by omega
      have hs := shr4 (y / 16)
      have hw : IntKind.i64.wrap ((n : Int) + 1) = ((n + 1 : Nat) : Int) := wrap_id (by omega) (by omega)
      generalize hz : y / 16 = z at e e2 hs h4 ⊢
      simp [e, e2, hs, hw]
      refine ⟨n + 1, z, ⟨by omega, by omega, ?_, ?_⟩, by omega, entm []⟩
      · rw [show 17 - (n + 1) = k by omega]
        rw [Nat.pow_succ] at h3; omega
      · rw [show 17 - (n + 1) = k by omega]; omega

def natG (v : Nat) (i : Nat) : Nat := v / 16 ^ i % 16 + if i + 1 < gF 16 v then 16 else 0
def natBits (v : Nat) : List Bool := (List.range (gF 16 v)).flatMap fun i => bitsOf (natG v i) 5
def natM (bl : List Bool) (v : Nat) : List Bool × Int := if 524288 < bl.length + 5 * gF 16 v then (bl, 6) else (bl ++ natBits v, 0)
theorem natG_lt (v i : Nat) : natG v i < 32 := by unfold natG; split <;> omega
theorem flat5 (f : Nat → Nat) (n : Nat) : ((List.range n).flatMap fun i => bitsOf (f i) 5).length = 5 * n := by
  induction n with
  | zero => rfl
  | succ n ih => rw [List.range_succ, List.flatMap_append, List.length_append, ih]; simp; omega

theorem shr4i (v i : Nat) (hi : i ≤ 16) : (v : Int).fdiv (2 ^ min (4 * (i : Int)).toNat IntKind.u64.bits) = ((v / 16 ^ i : Nat) : Int) := by
  have h1 : min (4 * (i : Int)).toNat IntKind.u64.bits = 4 * i := by
    have : IntKind.u64.bits = 64 := rfl
    omega
  rw [h1, Int.fdiv_eq_ediv_of_nonneg _ (by exact Int.pow_nonneg (by omega))]
  have : (2 : Int) ^ (4 * i) = ((16 ^ i : Nat) : Int) := by rw [Int.pow_mul]; norm_cast
  rw [this]; rfl

theorem wrapU (n : Int) : IntKind.u64.wrap n = n % 18446744073709551616 := by simp [IntKind.wrap, IntKind.bits, IntKind.signed]
theorem and15 (y : Int) (hy : 0 ≤ y) : IntKind.u64.wrap ↑((y % 2 ^ IntKind.u64.bits).toNat &&& 15 % 2 ^ IntKind.u64.bits) = y % 16 := by
  have h1 : (15 % 2 ^ IntKind.u64.bits : Nat) = 2 ^ 4 - 1 := by decide
  have h2 : (2 : Int) ^ IntKind.u64.bits = 18446744073709551616 := by decide
  rw [h1, Nat.and_two_pow_sub_one_eq_mod, h2, wrapU]
  omega
theorem or16 (y : Int) (hy : 0 ≤ y) : IntKind.u64.wrap ↑((IntKind.u64.wrap ↑((y % 2 ^ IntKind.u64.bits).toNat &&& 15 % 2 ^ IntKind.u64.bits) % 2 ^ IntKind.u64.bits).toNat ||| 16 % 2 ^ IntKind.u64.bits) = y % 16 + 16 := by
  rw [and15 y hy]
  have h1 : (16 % 2 ^ IntKind.u64.bits : Nat) = 2 ^ 4 := by decide
  have h2 : (2 : Int) ^ IntKind.u64.bits = 18446744073709551616 := by decide
  have h3 : (y % 16 % 18446744073709551616).toNat < 2 ^ 4 := by omega
  have h4 := Nat.two_pow_add_eq_or_of_lt h3 1
  rw [Nat.mul_one] at h4
  rw [h1, h2, Nat.or_comm, ← h4, wrapU]
  omega
theorem or0 (y : Int) (hy : 0 ≤ y) : IntKind.u64.wrap (max (IntKind.u64.wrap ↑((y % 2 ^ IntKind.u64.bits).toNat &&& 15 % 2 ^ IntKind.u64.bits) % 2 ^ IntKind.u64.bits) 0) = y % 16 := by
  rw [and15 y hy]
  have h2 : (2 : Int) ^ IntKind.u64.bits = 18446744073709551616 := by decide
  rw [h2, wrapU]
  omega

set_option maxRecDepth 20000 in
theorem Nat_fn (bl : List Bool) (v : Nat) (e : Int) (hv : v < 16 ^ 16) (hl : bl.length ≤ 524288) : FnD Try.prog 136 [.ptr 0 0, kU v] [wSt bl e 1, (packB bl).map kU8]
    (kI (natM bl v).2) [some (wSt (natM bl v).1 e 2), none, some ((packB (natM bl v).1).map kU8)] := by
  have hb : ∀ bs : List Int, (bs.map kU8).all PV.immB = true := fun bs => by simp
  have hg := gF_pos 16 v
  refine fng_of Try.func136 rfl (awp_ent (s' := ⟨36, [(0, .ptr 0 0), (1, kU v)], [some (wSt bl e 2), none, some ((packB bl).map kU8)], 2⟩)
    ((ent_mb 1 ((packB bl).map kU8)).trans (entm [0, 1, 2] (hB := by simp [wSt, imms_ren (hb _), imms_lt (hb _)]))) (awp_go ?_))
  simp [Try.ntmps136]
  refine cal (groups_fn v hv) ?_
  have hw1 : IntKind.i64.wrap (5 * (gF 16 v : Int)) = ((5 * gF 16 v : Nat) : Int) := by rw [wrap_id (by omega) (by omega)]; omega
  have hw2 : IntKind.i64.wrap ((bl.length : Int) + ((5 * gF 16 v : Nat) : Int)) = ((bl.length + 5 * gF 16 v : Nat) : Int) := by rw [wrap_id (by omega) (by omega)]; omega
  obtain ⟨g, hgv⟩ : ∃ g, gF 16 v = g := ⟨_, rfl⟩
  rw [hgv] at hg hw1 hw2 ⊢
  have hw3 : IntKind.i64.wrap ((bl.length : Int) + 5 * (g : Int)) = ((bl.length + 5 * g : Nat) : Int) := by rw [wrap_id (by omega) (by omega)]; omega
  simp [wSt, hw1]
  rw [hw3]
  by_cases h5 : 524288 < bl.length + 5 * g
  · have h5' : (524288 : Int) < ((bl.length + 5 * g : Nat) : Int) := by omega
    have e1 : natM bl v = (bl, 6) := by unfold natM; rw [hgv, if_pos h5]
    simp only [h5', decide_true]
    simp [e1]
    exact finGm [0, 1, 2] (hB := by simp [wSt, imms_ren (hb _), imms_lt (hb _)])
  · have h5' : ¬ (524288 : Int) < ((bl.length + 5 * g : Nat) : Int) := by omega
    have e1 : natM bl v = (bl ++ natBits v, 0) := by unfold natM; rw [hgv, if_neg h5]
    simp only [h5', decide_false]
    simp
    refine awp_loop (fun x : Nat × List Bool => ⟨36, [(0, .ptr 0 0), (1, kU v), (5, kI g), (18, kI g), (19, kI x.1)], [some (wSt x.2 e 2), none, some ((packB x.2).map kU8)], 2⟩)
      (fun x => x.1 ≤ g ∧ x.2 = bl ++ (List.range x.1).flatMap fun i => bitsOf (natG v i) 5) (fun x => g - x.1) (0, bl) ?_ ?_ ?_
    · exact entm [0, 1, 2] (hB := by simp [wSt, imms_ren (hb _), imms_lt (hb _)])
    · simp
    · rintro ⟨i, xl⟩ ⟨hi, hxl⟩
      simp only at hi hxl
      refine awp_go ?_
      by_cases hlt : i < g
      · have hxlen : xl.length = bl.length + 5 * i := by rw [hxl, List.length_append, flat5]
        have hwi : IntKind.i64.wrap ((i : Int) + 1) = ((i + 1 : Nat) : Int) := wrap_id (by omega) (by omega)
        have hput : putM xl (natG v i) 5 = (xl ++ bitsOf (natG v i) 5, 0) := by
          have h1 := natG_lt v i
          have h2 : ¬ (524288 : Int) < xl.length + 5 := by omega
          have h3 : ((natG v i : Nat) : Int) / 2 ^ (5 : Int).toNat = 0 := by
            rw [show (2 : Int) ^ (5 : Int).toNat = 32 from rfl]; omega
          unfold putM
          rw [if_neg (by simpa using h3), if_neg h2]; rfl
        have hP := Put_fn xl (natG v i) 5 e (by omega) (by omega) (by omega)
        rw [hput] at hP
        have hnx : xl ++ bitsOf (natG v i) 5 = bl ++ (List.range (i + 1)).flatMap fun i => bitsOf (natG v i) 5 := by
          rw [hxl, List.range_succ, List.flatMap_append, List.append_assoc]; simp
        have hy0 : (0 : Int) ≤ (v : Int) / 16 ^ i := Int.ediv_nonneg (by omega) (Int.pow_nonneg (by omega))
        have h40 : ¬ 4 * (i : Int) < 0 := by omega
        have hsh := shr4i v i (by omega)
        have hw4 : IntKind.i64.wrap (4 * (i : Int)) = ((4 * i : Nat) : Int) := by rw [wrap_id (by omega) (by omega)]; omega
        by_cases hm : i + 1 < g
        · have hm' : (i : Int) + 1 < g := by omega
          simp [hlt, wSt, hwi, hm', hw4, h40, hsh]
          rw [or16 _ hy0, ← show ((natG v i : Nat) : Int) = (v : Int) / 16 ^ i % 16 + 16 by unfold natG; rw [hgv, if_pos hm]; push_cast; rfl]
          refine calD [0, 2] hP ?_ (hbox := by simp [wSt, imms_ren (hb _), imms_lt (hb _)])
          simp [wSt, hwi, imms_ren (hb _), imms_lt (hb _)]
          exact ⟨i + 1, xl ++ bitsOf (natG v i) 5, ⟨by omega, hnx⟩, by omega, entm [0, 1, 3] (hB := by simp [wSt, imms_ren (hb _), imms_lt (hb _)])⟩
        · have hm' : ¬ (i : Int) + 1 < g := by omega
          simp [hlt, wSt, hwi, hm', hw4, h40, hsh]
          rw [or0 _ hy0, ← show ((natG v i : Nat) : Int) = (v : Int) / 16 ^ i % 16 by unfold natG; rw [hgv, if_neg hm]; push_cast; omega]
          refine calD [0, 2] hP ?_ (hbox := by simp [wSt, imms_ren (hb _), imms_lt (hb _)])
          simp [wSt, hwi, imms_ren (hb _), imms_lt (hb _)]
          exact ⟨i + 1, xl ++ bitsOf (natG v i) 5, ⟨by omega, hnx⟩, by omega, entm [0, 1, 3] (hB := by simp [wSt, imms_ren (hb _), imms_lt (hb _)])⟩
      · obtain rfl : i = g := by omega
        simp [wSt]
        have e2 : xl = bl ++ natBits v := by rw [hxl]; unfold natBits; rw [hgv]
        rw [e1, e2]
        exact finGm [0, 1, 2] (hB := by simp [imms_ren (hb _), imms_lt (hb _)])
end Go.Proofs.Ytemlkbcfplkniaa.Am
