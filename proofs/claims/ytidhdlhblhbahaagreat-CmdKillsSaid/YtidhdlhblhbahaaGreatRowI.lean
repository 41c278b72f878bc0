/- The length of a slice of numbers that came in. -/
import Derived.Test.YtidhdlhblhbahaaGreatDat
import Derived.Deep.Slices
import Derived.Deep.Strs
import Derived.ChangeSame
import Derived.DataElems
import Derived.SizedLaws
namespace Go.Proofs.YtidhdlhblhbahaaGreat.Am
open Go Go.RowKit Go.Deep Go.ChangeShapes
set_option linter.unusedVariables false

section
variable {H : Type} {enc : TypeId × Value → H} {w : World} {base : Nat} {spare : Nat → Bool} {held : Bool}
theorem sized_ints {a : Option Addr} {len cap : Nat} {d : DataW H} {ps : List MemPlace} {ts : List TypeId} {ds : List (DataW H)} {j : Nat}
    (hsz : (DataW.weightsEach Tryz.prog ts ds).all (· ≤ reachBytes) = true) (ht : ts[j]? = some 22) (hd : ds[j]? = some d)
    (h : DataW.Trod enc Tryz.prog w base spare held 22 (.slice a len cap) d ps) : len * 8 ≤ 140737488351232 := by
  obtain ⟨fuel, hf⟩ := h
  rcases open_slice Tryz.underlying22 hf with ⟨hcs, _⟩ | ⟨x, l, c, m, n, D, Pl, hcs, _, hl, _, hm, hx, _⟩
  · simp [Value.cells] at hcs
    obtain ⟨rfl, rfl, rfl⟩ := hcs
    simp
  · simp [Value.cells] at hcs
    obtain ⟨rfl, rfl, rfl⟩ := hcs
    obtain ⟨hx, _⟩ := Prod.mk.inj hx
    subst hx
    have z := sized_slice hsz ht hd Tryz.underlying22
    have hb : Tryz.prog.bytesOf 3 = 8 := by kernel_rfl
    rw [hb] at z
    simp [reachBytes] at z
    omega
end
end Go.Proofs.YtidhdlhblhbahaaGreat.Am
