/- KindTwice: the law. -/
import Derived.Test.YtmkgechjbbekmaaTwice
import Derived.Test.YtmkgechjbbekmaaKLaw
set_option linter.unusedVariables false
namespace Go.Proofs.Ytmkgechjbbekmaa.Am
open Go Go.RowKit

theorem KindTwice_law (l : List Int) (n : Int) (hw : ∀ x ∈ l, (Lit.int .i64 x).wf = true) (hn : (Lit.int .i64 n).wf = true) : Fn Try.prog 5 [slI l, kI n] (kB true) := by
  obtain ⟨hg, hp⟩ := kindsM_good l
  have hl4 := hg.1
  have h1 := Int.emod_nonneg n (b := ((kindsM l).1.length : Int)) (by omega)
  have h2 := Int.emod_lt_of_pos n (b := ((kindsM l).1.length : Int)) (by omega)
  obtain ⟨i, hi⟩ : ∃ i : Nat, n % ((kindsM l).1.length : Int) = i := ⟨(n % ((kindsM l).1.length : Int)).toNat, by omega⟩
  have hil : i < (kindsM l).1.length := by omega
  exact KindTwice_fn l n (kindsM l).1 i rfl hl4 hp hi (fun x hx => by
    obtain ⟨j, hj, rfl⟩ := List.getElem_of_mem hx
    exact (hg.2 j _ (List.getElem?_eq_getElem hj)).2.1.1) hil (checkE_twice hg hil) (checkE_good hg) (findK_good hg hil)
end Go.Proofs.Ytmkgechjbbekmaa.Am
