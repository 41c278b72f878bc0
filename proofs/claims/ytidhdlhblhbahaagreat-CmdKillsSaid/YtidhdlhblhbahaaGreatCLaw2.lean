/- What a valid world is, item by item. -/
import Derived.Test.YtidhdlhblhbahaaGreatCLaw
set_option linter.unusedVariables false
set_option linter.unusedSimpArgs false
namespace Go.Proofs.YtidhdlhblhbahaaGreat.Am
open Go Go.RowKit

def ItemOk (ks : List GKind) (gs : List Int) (it : GItem) : Prop := it.Ent.N < gs.length ∧ it.Ent.Gen = gs.getD it.Ent.N.toNat 0 ∧ it.Ent.Gen ≠ 1073741824 ∧ heldGo ks (-1) it.Comps = true
theorem items_iff {ks : List GKind} {gs : List Int} : ∀ {its : List GItem} {last : Int}, itemsB ks gs last its = true ↔ its.Pairwise (fun a b => a.Ent.N < b.Ent.N) ∧ ∀ it ∈ its, last < it.Ent.N ∧ ItemOk ks gs it
  | [], last => by simp [itemsB]
  | c :: r, last => by
    rw [items_cons, items_iff (its := r) (last := c.Ent.N), List.pairwise_cons]
    constructor
    · rintro ⟨h1, h2, h3, h4, h5, h6, h7⟩
      exact ⟨⟨fun x hx => (h7 x hx).1, h6⟩, fun x hx => by
        rcases List.mem_cons.1 hx with e | hx
        · subst e; exact ⟨h1, h2, h3, h4, h5⟩
        · have := h7 x hx; exact ⟨by omega, this.2⟩⟩
    · rintro ⟨⟨h1, h2⟩, h3⟩
      obtain ⟨hc, g1, g2, g3, g4⟩ := h3 c (List.mem_cons_self ..)
      exact ⟨hc, g1, g2, g3, g4, h2, fun x hx => ⟨h1 x hx, (h3 x (List.mem_cons_of_mem _ hx)).2⟩⟩
theorem items_len {ks : List GKind} {gs : List Int} : ∀ {its : List GItem} {last : Int}, last < gs.length → itemsB ks gs last its = true → (its.length : Int) ≤ gs.length - 1 - last
  | [], _, hl, _ => by simp; omega
  | x :: r, last, hl, h => by
    obtain ⟨h1, h2, _, _, _, h6⟩ := items_cons.1 h
    have := items_len h2 h6
    simp only [List.length_cons]; omega
end Go.Proofs.YtidhdlhblhbahaaGreat.Am
