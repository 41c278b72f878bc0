/- Package rnd: Of. -/
import Derived.Test.YtccebflmbnpheaaRnd1
set_option linter.unusedVariables false
set_option linter.unusedSimpArgs false
namespace Go.Proofs.Ytccebflmbnpheaa.Am
open Go Go.RowKit

def xU (a b : Int) : Int := IntKind.u64.wrap ↑((a % 2 ^ IntKind.u64.bits).toNat ^^^ (b % 2 ^ IntKind.u64.bits).toNat)
def ofStep (s n : Int) : Int := xU (mixM (IntKind.u64.wrap (s + 11400714819323198485))) (IntKind.u64.wrap n)
def ofS (l : List Int) : Int := mixM (IntKind.u64.wrap (l.foldl ofStep l.length + 11400714819323198485))
def ofG (l : List Int) : Int := IntKind.u64.wrap ↑((mixM (IntKind.u64.wrap (ofS l + 11400714819323198485)) % 2 ^ IntKind.u64.bits).toNat ||| 1 % 2 ^ IntKind.u64.bits)
theorem ofS_in (l : List Int) : In64 (ofS l) := mixM_in _
theorem ofG_in (l : List Int) : In64 (ofG l) := in64_wrap _
theorem ofG_odd (l : List Int) : ofG l % 2 = 1 := by
  unfold ofG
  have e1 : (1 % 2 ^ IntKind.u64.bits : Nat) = 1 := by decide
  rw [e1, wrapU]
  generalize (mixM (IntKind.u64.wrap (ofS l + 11400714819323198485)) % 2 ^ IntKind.u64.bits).toNat = x
  have h : (x ||| 1) % 2 = 1 := by
    have h1 := Nat.testBit_or x 1 0
    rw [Nat.testBit_zero, Nat.testBit_zero, Nat.testBit_zero] at h1
    have h2 : decide (1 % 2 = 1) = true := rfl
    rw [h2, Bool.or_true] at h1
    exact of_decide_eq_true h1
  omega
set_option maxRecDepth 20000 in
theorem Of_fn (l : List Int) (hl : l.length ≤ 1000000) : Fn Try.prog 8 [slI l] (rE (ofS l) (ofG l)) := by
  refine fn_go Try.func8 rfl ?_
  have e0 : IntKind.u64.wrap (l.length : Int) = l.length := by rw [wrapU]; omega
  simp [Try.ntmps8, e0]
  refine awp_loop (fun x : Nat × Int => ⟨31, [(2, .ptr 0 0), (3, kU x.2), (9, slI l), (10, kI l.length), (11, kI x.1)], [some [kU 0, kU 0]], 0⟩)
    (fun x => x.1 ≤ l.length ∧ (l.drop x.1).foldl ofStep x.2 = l.foldl ofStep l.length) (fun x => l.length - x.1) (0, (l.length : Int)) ?_ ?_ ?_
  · exact entm [0]
  · simp
  · rintro ⟨i, s⟩ ⟨hi, hrun⟩
    simp only at hi hrun
    refine awp_go ?_
    by_cases hlt : i < l.length
    · rw [List.drop_eq_getElem_cons hlt, List.foldl_cons] at hrun
      simp [hlt]
      refine cal (Mix_fn _) ?_ (hren := by rfl)
      simp
      have hw : IntKind.i64.wrap ((i : Int) + 1) = (i : Int) + 1 := wrap_id (by omega) (by omega)
      exact ⟨i + 1, ofStep s l[i], ⟨by omega, hrun⟩, by omega, entm [0] (hT := by simp [ofStep, xU, hw])⟩
    · obtain rfl : i = l.length := by omega
      rw [List.drop_length, List.foldl_nil] at hrun
      simp
      refine cal (Mix_fn _) ?_ (hren := by rfl)
      simp
      refine cal (Mix_fn _) ?_ (hren := by rfl)
      simp
      exact finm (by simp [ofS, ofG, hrun])
end Go.Proofs.Ytccebflmbnpheaa.Am
