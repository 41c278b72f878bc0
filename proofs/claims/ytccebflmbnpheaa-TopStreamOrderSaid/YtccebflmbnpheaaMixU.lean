/- rnd.Mix, and numbers of 64 bits. -/
import Derived.Test.YtccebflmbnpheaaDat
import Derived.Test.YtccebflmbnpheaaAmC
set_option linter.unusedVariables false
set_option linter.unusedSimpArgs false
namespace Go.Proofs.Ytccebflmbnpheaa.Am
open Go Go.RowKit

abbrev kU (x : Int) : PV := .k (.int .u64 x)
def mixA (k : Nat) (x : Int) : Int := IntKind.u64.wrap ↑((x % 2 ^ IntKind.u64.bits).toNat ^^^ (x.fdiv (2 ^ min k IntKind.u64.bits) % 2 ^ IntKind.u64.bits).toNat)
def mixM (x : Int) : Int := mixA 30 (IntKind.u64.wrap (mixA 27 (IntKind.u64.wrap (mixA 31 x * 7640891576956012809)) * 13503953896175478587))
set_option maxRecDepth 20000 in
theorem Mix_fn (x : Int) : Fn Try.prog 21 [kU x] (kU (mixM x)) := by
  refine fn_go Try.func21 rfl ?_
  simp [Try.ntmps21]
  exact finm (by rfl)
theorem wrapU (n : Int) : IntKind.u64.wrap n = n % 18446744073709551616 := by simp [IntKind.wrap, IntKind.bits, IntKind.signed]
def In64 (x : Int) : Prop := 0 ≤ x ∧ x < 18446744073709551616
theorem in64_wrap (x : Int) : In64 (IntKind.u64.wrap x) := by rw [wrapU]; exact ⟨by omega, by omega⟩
theorem wrap_in64 {x : Int} (h : In64 x) : IntKind.u64.wrap x = x := by rw [wrapU]; obtain ⟨h1, h2⟩ := h; omega
theorem mixA_in (k : Nat) (x : Int) : In64 (mixA k x) := in64_wrap _
theorem mixM_in (x : Int) : In64 (mixM x) := mixA_in _ _
end Go.Proofs.Ytccebflmbnpheaa.Am
