/- Package quant: values of valid fields. -/
import Derived.Test.YtemlkbcfplkniaaSv4
import Derived.Test.YtemlkbcfplkniaaKLaw2
set_option linter.unusedVariables false
set_option linter.unusedSimpArgs false
namespace Go.Proofs.Ytemlkbcfplkniaa.Am
open Go Go.RowKit

theorem Clamp_fn (a : Int) (h1 : -1099511627776 ≤ a) (h2 : a ≤ 1099511627776) : Fn Try.prog 91 [kI a] (kI a) := by
  refine fn_go Try.func91 rfl ?_
  simp [Try.ntmps91]
  exact finm (by simp; omega)

theorem field_in {f : GField} (h : fieldB f = true) : 1 ≤ f.Bits ∧ f.Bits ≤ 32 ∧ -4294967296 ≤ f.Low ∧ f.Low ≤ 4294967296 := by
  simp only [fieldB, Bool.and_eq_true, decide_eq_true_eq] at h
  omega

set_option maxRecDepth 20000 in
theorem QCheck_fn (f : GField) (hf : fieldB f = true) : Fn Try.prog 98 [.agg f.e] (kI 0) := by
  obtain ⟨h1, h2, h3, h4⟩ := field_in hf
  refine fn_go Try.func98 rfl ?_
  have a1 : ¬ f.Bits < 0 := by omega
  have a2 : ¬ 32 < f.Bits := by omega
  simp [Try.ntmps98, GField.e]
  refine awp_draw follows_mix [] [(0, [0]), (0, [0]), (0, [0]), (0, [0]), (0, [0]), (0, [0]), (0, [0]), (0, [0]), (0, [0]), (0, [0]), (0, [0]), (0, [0]), (0, [0]), (2, [0]), (0, [0]), (0, [0])] 0 (by kernel_rfl) rfl ?_
  simp [a1, a2]
  refine gD_call (kI f.Low) ?_
  simp [a1, a2]
  refine ⟨calO (Clamp_fn f.Low (by omega) (by omega)), ?_⟩
  exact finm

set_option maxRecDepth 20000 in
theorem QFit_fn (f : GField) (v : Int) (hf : fieldB f = true) (h5 : f.Low ≤ v) (h6 : v ≤ highM f) : Fn Try.prog 37 [.agg f.e, kI v] (kI v) := by
  obtain ⟨h1, h2, h3, h4⟩ := field_in hf
  refine fn_go Try.func37 rfl ?_
  simp [Try.ntmps37, GField.e]
  refine cal (Clamp_fn f.Low (by omega) (by omega)) ?_
  have hp := pow_le32 (n := f.Bits.toNat) (by omega)
  have hb : max f.Bits 0 = f.Bits := by omega
  have hb2 : min f.Bits 32 = f.Bits := by omega
  have hb3 : ¬ f.Bits < 0 := by omega
  have hb4 : min f.Bits.toNat IntKind.i64.bits = f.Bits.toNat := Nat.min_eq_left (by show f.Bits.toNat ≤ 64; omega)
  have hh : highM f = f.Low + (2 ^ f.Bits.toNat - 1) := by simp [highM, hf]
  rw [hh] at h6
  have hb5 : ¬ 32 < f.Bits := by omega
  have w1 : IntKind.i64.wrap (2 ^ f.Bits.toNat) = 2 ^ f.Bits.toNat := wrap_id (by omega) (by omega)
  simp [hb3, hb4, hb5, w1]
  generalize (2 : Int) ^ f.Bits.toNat = P at hp h6 ⊢
  have c1 : ¬ v < f.Low := by omega
  have c2 : ¬ f.Low + P - 1 < v := by omega
  rw [wrap_id (x := f.Low + P) (by omega) (by omega), wrap_id (x := f.Low + P - 1) (by omega) (by omega)]
  simp [c1, c2]
  exact finm (by simp)

theorem putM_len (bl : List Bool) (v n : Int) : (putM bl v n).1.length ≤ bl.length + n.toNat := by
  unfold putM; split
  · simp
  · split <;> simp

set_option maxRecDepth 20000 in
theorem QPut_fn (bl : List Bool) (f : GField) (v e : Int) (hf : fieldB f = true) (h5 : f.Low ≤ v) (h6 : v ≤ highM f) (hl : bl.length ≤ 524288) : FnD Try.prog 42 [.ptr 0 0, .agg f.e, kI v] [wSt bl e 1, (packB bl).map kU8]
    (kI (putM bl (v - f.Low) f.Bits).2) [some (wSt (putM bl (v - f.Low) f.Bits).1 e 2), none, some ((packB (putM bl (v - f.Low) f.Bits).1).map kU8)] := by
  obtain ⟨h1, h2, h3, h4⟩ := field_in hf
  have hb : ∀ bs : List Int, (bs.map kU8).all PV.immB = true := fun bs => by simp
  have hp := pow_le32 (n := f.Bits.toNat) (by omega)
  have hh : highM f = f.Low + (2 ^ f.Bits.toNat - 1) := by simp [highM, hf]
  refine fng_of Try.func42 rfl (awp_ent (s' := ⟨27, [(0, .ptr 0 0), (1, .agg f.e), (2, kI v)], [some (wSt bl e 2), none, some ((packB bl).map kU8)], 2⟩)
    ((ent_mb 1 ((packB bl).map kU8)).trans (entm [0, 1, 2] (hB := by simp [wSt, imms_ren (hb _), imms_lt (hb _)]))) (awp_go ?_))
  simp [Try.ntmps42]
  refine cal (QCheck_fn f hf) ?_
  simp
  refine cal (QFit_fn f v hf h5 h6) ?_
  rw [hh] at h6
  have w1 : IntKind.i64.wrap (v - f.Low) = v - f.Low := wrap_id (by omega) (by omega)
  have w2 : IntKind.u64.wrap (v - f.Low) = v - f.Low := by rw [wrapU]; omega
  simp [GField.e, w1, w2]
  refine calD [0, 2] (Put_fn bl (v - f.Low) f.Bits e (by omega) (by omega) hl) ?_ (hbox := by simp [wSt, imms_ren (hb _), imms_lt (hb _)])
  simp [wSt, imms_ren (hb _), imms_lt (hb _)]
  exact finGm [0, 1, 4] (hB := by simp [wSt, imms_ren (hb _), imms_lt (hb _)])
end Go.Proofs.Ytemlkbcfplkniaa.Am
