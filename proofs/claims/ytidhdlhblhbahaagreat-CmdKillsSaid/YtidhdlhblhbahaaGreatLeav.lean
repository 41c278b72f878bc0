/- A call that starts no goroutine, in a program that can. -/
import Derived.Conc.Holds
namespace Go.Proofs.YtidhdlhblhbahaaGreat.Am
open Go

theorem quiet_leaving {P : Program} {m : Machine} (h : m.quiet) : m.OnlyLeaving P :=
  ⟨fun g hg => ⟨0, by
    have h1 := h.1
    unfold Machine.othersDone at h1
    have := List.all_eq_true.1 h1 g hg
    exact eq_of_beq this⟩, h.2⟩
theorem handed_leaving {a : Assume} {C : Checked} {os : Os} {f : FuncId} {r : Reach} {Pre : World → Array Value → Prop} {Post : World → Array Value → Value → World → Prop}
    (h : ReturnsInHanded a C os f r Pre Post) : ReturnsInLeavingWide a C os f r Pre Post := fun enter => by
  obtain ⟨h1, h2, h3, h4, h5⟩ := h enter
  refine ⟨h1, h2, h3, h4, fun w tape i hf => ?_⟩
  obtain ⟨n, v, w', a1, a2, a3, a4, ⟨j, last, b1, b2, b3⟩, a6⟩ := h5 w tape i hf
  exact ⟨n, v, w', a1, a2, a3, a4, ⟨j, last, b1, b2, b3.2.1, quiet_leaving b3.1, b3.2.2⟩, a6⟩
end Go.Proofs.YtidhdlhblhbahaaGreat.Am
