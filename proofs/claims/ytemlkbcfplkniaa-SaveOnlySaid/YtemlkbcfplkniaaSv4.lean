/- Package bits: Writer.Int, Writer.Bytes; package quant. -/
import Derived.Test.YtemlkbcfplkniaaSv3
import Derived.Test.YtemlkbcfplkniaaKind5
set_option linter.unusedVariables false
set_option linter.unusedSimpArgs false
namespace Go.Proofs.Ytemlkbcfplkniaa.Am
open Go Go.RowKit

def zig (v : Int) : Nat := if 0 ≤ v then (2 * v).toNat else (-2 * v - 1).toNat

theorem xor_ones (a : Nat) (h : a < 2 ^ 64) : a ^^^ (2 ^ 64 - 1) = 2 ^ 64 - 1 - a := by
  have h1 := BitVec.xor_allOnes (x := BitVec.ofNat 64 a)
  have h2 := congrArg BitVec.toNat h1
  rw [BitVec.toNat_xor, BitVec.toNat_not, BitVec.toNat_ofNat, Nat.mod_eq_of_lt h] at h2
  simpa using h2
theorem zig_op (v : Int) (h1 : -4611686018427387904 ≤ v) (h2 : v < 4611686018427387904) :
    IntKind.u64.wrap ↑((IntKind.u64.wrap (IntKind.u64.wrap v * 2 ^ min 1 IntKind.u64.bits) % 2 ^ IntKind.u64.bits).toNat ^^^ (IntKind.u64.wrap (v.fdiv (2 ^ min 63 IntKind.i64.bits)) % 2 ^ IntKind.u64.bits).toNat) = (zig v : Int) := by
  have e1 : (2 : Int) ^ min 1 IntKind.u64.bits = 2 := by decide
  have e2 : (2 : Int) ^ IntKind.u64.bits = 18446744073709551616 := by decide
  have e3 : (2 : Int) ^ min 63 IntKind.i64.bits = 9223372036854775808 := by decide
  rw [e1, e2, e3, Int.fdiv_eq_ediv_of_nonneg _ (by decide)]
  simp only [wrapU]
  unfold zig
  by_cases h0 : 0 ≤ v
  · rw [if_pos h0]
    have a1 : (v % 18446744073709551616 * 2 % 18446744073709551616 % 18446744073709551616).toNat = (2 * v).toNat := by omega
    have a2 : (v / 9223372036854775808 % 18446744073709551616 % 18446744073709551616).toNat = 0 := by omega
    rw [a1, a2, Nat.xor_zero]; omega
  · rw [if_neg h0]
    have a1 : (v % 18446744073709551616 * 2 % 18446744073709551616 % 18446744073709551616).toNat = (18446744073709551616 + 2 * v).toNat := by omega
    have a2 : (v / 9223372036854775808 % 18446744073709551616 % 18446744073709551616).toNat = 2 ^ 64 - 1 := by omega
    rw [a1, a2, xor_ones _ (by omega)]; omega
theorem zig_lt (v : Int) (h1 : -4611686018427387904 ≤ v) (h2 : v < 4611686018427387904) : zig v < 16 ^ 16 := by unfold zig; split <;> omega

set_option maxRecDepth 20000 in
theorem WInt_fn (bl : List Bool) (v e : Int) (h1 : -4611686018427387904 ≤ v) (h2 : v < 4611686018427387904) (hl : bl.length ≤ 524288) : FnD Try.prog 135 [.ptr 0 0, kI v] [wSt bl e 1, (packB bl).map kU8]
    (kI (natM bl (zig v)).2) [some (wSt (natM bl (zig v)).1 e 2), none, some ((packB (natM bl (zig v)).1).map kU8)] := by
  have hb : ∀ bs : List Int, (bs.map kU8).all PV.immB = true := fun bs => by simp
  refine fng_of Try.func135 rfl (awp_ent (s' := ⟨14, [(0, .ptr 0 0), (1, kI v)], [some (wSt bl e 2), none, some ((packB bl).map kU8)], 2⟩)
    ((ent_mb 1 ((packB bl).map kU8)).trans (entm [0, 1, 2] (hB := by simp [wSt, imms_ren (hb _), imms_lt (hb _)]))) (awp_go ?_))
  simp [Try.ntmps135]
  rw [zig_op v h1 h2]
  refine calD [0, 2] (Nat_fn bl (zig v) e (zig_lt v h1 h2) hl) ?_ (hbox := by simp [wSt, imms_ren (hb _), imms_lt (hb _)])
  simp [wSt, imms_ren (hb _), imms_lt (hb _)]
  exact finGm [0, 1, 3] (hB := by simp [wSt, imms_ren (hb _), imms_lt (hb _)])

set_option maxRecDepth 20000 in
theorem WBytes_fn (bl : List Bool) (e : Int) (b : List Int) (hl : bl.length ≤ 524288) : FnD Try.prog 46 [.ptr 0 0] [wSt bl e 1, (packB bl).map kU8]
    (.osl 2 1 0 ((bl.length + 7) / 8)) [some (wSt bl e 1), some ((packB bl).map kU8), some ((packB bl).map kU8)] := by
  have hb : ∀ bs : List Int, (bs.map kU8).all PV.immB = true := fun bs => by simp
  refine fnd_go Try.func46 rfl ?_
  have h1 : (bl.length + 7) / 8 ≤ 140737488355328 := by omega
  have h2 : (bl.length + 7) / 8 ≤ maxLen := by simp only [maxLen]; omega
  have h3 : List.take ((bl.length + 7) / 8) ((packB bl).map kU8) = (packB bl).map kU8 := List.take_of_length_le (by simp)
  simp [Try.ntmps46, wSt, h1, h2]
  rw [h3]
  exact finGm [0, 1, 3] (hB := by simp [imms_ren (hb _), imms_lt (hb _)])
end Go.Proofs.Ytemlkbcfplkniaa.Am
