/- Package kind: the greatest value of a field, the nearest one. -/
import Derived.Test.YtidhdlhblhbahaaGreatKind2
set_option linter.unusedVariables false
set_option linter.unusedSimpArgs false
namespace Go.Proofs.YtidhdlhblhbahaaGreat.Am
open Go Go.RowKit

def highM (f : GField) : Int := if fieldB f = true then f.Low + (2 ^ f.Bits.toNat - 1) else 0
def nearM (f : GField) (v : Int) : Int := if fieldB f = true then (if f.Low < (if highM f < v then highM f else v) then (if highM f < v then highM f else v) else f.Low) else 0

theorem pow_le32 {n : Nat} (h : n ≤ 32) : (2 : Int) ^ n ≤ 4294967296 ∧ 0 < (2 : Int) ^ n := by
  have h1 : (2 : Nat) ^ n ≤ 2 ^ 32 := Nat.pow_le_pow_right (by decide) h
  have h2 : 0 < (2 : Nat) ^ n := Nat.pow_pos (by decide)
  have e : (2 : Int) ^ n = ((2 ^ n : Nat) : Int) := by simp
  rw [e]
  constructor
  · exact Int.ofNat_le.2 h1
  · exact Int.ofNat_lt.2 h2

theorem High_fn (f : GField) : Fn Tryz.prog 240 [.agg f.e] (kI (highM f)) := by
  refine fn_go Tryz.func240 rfl ?_
  simp [Tryz.ntmps240]
  refine ops_fn (field_fn f) rfl rfl rfl (by simp) en_220 rfl (by simp) (by simp) (by simp) ?_
  simp
  by_cases h : fieldB f = true
  · have h0 : fieldE f = 0 := by simp [fieldE, h]
    have hh : highM f = f.Low + (2 ^ f.Bits.toNat - 1) := by simp [highM, h]
    simp only [fieldB, Bool.and_eq_true, decide_eq_true_eq] at h
    obtain ⟨⟨⟨⟨_, hb1⟩, hb2⟩, hl1⟩, hl2⟩ := h
    simp [h0]
    refine awp_draw follows_mix [] [(0, [0]), (0, [0]), (0, [0]), (0, [0]), (0, [0]), (0, [0]), (0, [0]), (0, [0])] 0 (by kernel_rfl) rfl ?_
    have hnb : ¬ f.Bits < 0 := by omega
    have hmin : min f.Bits.toNat 64 = f.Bits.toNat := by omega
    have hp := pow_le32 (n := f.Bits.toNat) (by omega)
    have hw1 : IntKind.i64.wrap ((2 : Int) ^ f.Bits.toNat) = 2 ^ f.Bits.toNat := wrap_id (by omega) (by omega)
    have hw2 : IntKind.i64.wrap ((2 : Int) ^ f.Bits.toNat - 1) = 2 ^ f.Bits.toNat - 1 := wrap_id (by omega) (by omega)
    have hw3 : IntKind.i64.wrap (f.Low + ((2 : Int) ^ f.Bits.toNat - 1)) = f.Low + (2 ^ f.Bits.toNat - 1) := wrap_id (by omega) (by omega)
    simp [hnb, hmin, hw1, hw2, hw3, IntKind.bits]
    exact fin_now (by simp [hh]) rfl rfl
  · have h0 : fieldE f = 3 := by simp [fieldE, h]
    simp [h0]
    exact fin_now (by simp [highM, h]) rfl rfl

theorem Near_fn (f : GField) (v : Int) : Fn Tryz.prog 173 [.agg f.e, kI v] (kI (nearM f v)) := by
  refine fn_go Tryz.func173 rfl ?_
  simp [Tryz.ntmps173]
  refine ops_fn (field_fn f) rfl rfl rfl (by simp) en_220 rfl (by simp) (by simp) (by simp) ?_
  simp
  by_cases h : fieldB f = true
  · have h0 : fieldE f = 0 := by simp [fieldE, h]
    simp [h0]
    refine awp_draw follows_mix [] [(0, [0]), (0, [0]), (0, [0]), (0, [0]), (2, [0]), (0, [0]), (0, [0]), (0, [0])] 0 (by kernel_rfl) rfl ?_
    simp
    refine gD_call (kI (highM f)) ?_
    simp
    refine ⟨callOk_fn (High_fn f) rfl en_240 (fun _ => rfl) (fun _ => rfl) (fun _ => rfl) (by simp) (by simp) (by simp), ?_⟩
    exact fin_now (by simp [nearM, h]) rfl rfl
  · have h0 : fieldE f = 3 := by simp [fieldE, h]
    simp [h0]
    exact fin_now (by simp [nearM, h]) rfl rfl
end Go.Proofs.YtidhdlhblhbahaaGreat.Am
