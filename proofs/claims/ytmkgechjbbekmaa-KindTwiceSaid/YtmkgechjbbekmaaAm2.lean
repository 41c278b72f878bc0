/- The machine of values: code, and operations that only compute. -/
import Derived.Test.YtmkgechjbbekmaaAm1
set_option linter.unusedVariables false
set_option linter.unusedSimpArgs false
namespace Go.Proofs.Ytmkgechjbbekmaa.Am
open Go Go.RowKit

/-! ### Code -/
def AWp (P : Program) (c : Code) (s : St) (Q : Exit → St → Prop) : Prop :=
  ∀ ctx ι S a w, Rel ctx ι S s a w → ∀ QQ : Exit → Act → World → Prop, (∀ e ι' S' s' a' w', Rel ctx ι' S' s' a' w' → Q e s' → QQ e a' w') → c.wp P QQ a w

def thenA (next : St → Prop) (Q : Exit → St → Prop) : Exit → St → Prop
  | .normal, s => next s
  | e, s => Q e s

def inBlockA (id : Nat) (Q : Exit → St → Prop) : Exit → St → Prop
  | .exit id', s => if id' = id then Q .normal s else Q (.exit id') s
  | e, s => Q e s

section
variable {P : Program} {s : St} {Q : Exit → St → Prop}

theorem awp_mono {c : Code} {Q' : Exit → St → Prop} (h : AWp P c s Q) (hq : ∀ e s', Q e s' → Q' e s') : AWp P c s Q' :=
  fun ctx ι S a w hr QQ hQ => h ctx ι S a w hr QQ fun e ι' S' s' a' w' hr' hq' => hQ e ι' S' s' a' w' hr' (hq e s' hq')

theorem awp_skip (h : Q .normal s) : AWp P .skip s Q := fun _ _ _ _ _ hr _ hQ => wp_skip (hQ _ _ _ _ _ _ hr h)
theorem awp_ret (h : Q .ret s) : AWp P .ret s Q := fun _ _ _ _ _ hr _ hQ => wp_ret (hQ _ _ _ _ _ _ hr h)
theorem awp_exit {id : Nat} (h : Q (.exit id) s) : AWp P (.exit id) s Q := fun _ _ _ _ _ hr _ hQ => wp_exit (hQ _ _ _ _ _ _ hr h)

theorem awp_seq {x y : Code} (h : AWp P x s (thenA (fun s' => AWp P y s' Q) Q)) : AWp P (.seq x y) s Q :=
  fun ctx ι S a w hr QQ hQ => wp_seq (h ctx ι S a w hr _ fun e ι' S' s' a' w' hr' hq => by
    cases e with
    | normal => exact hq ctx ι' S' a' w' hr' QQ hQ
    | _ => exact hQ _ _ _ _ _ _ hr' hq)

theorem awp_block {id : Nat} {c : Code} (h : AWp P c s (inBlockA id Q)) : AWp P (.block id c) s Q :=
  fun ctx ι S a w hr QQ hQ => wp_block (h ctx ι S a w hr _ fun e ι' S' s' a' w' hr' hq => by
    cases e with
    | exit id' =>
      simp only [inBlockA] at hq
      simp only [Exit.inBlock]
      split
      · rename_i hh; rw [if_pos hh] at hq; exact hQ _ _ _ _ _ _ hr' hq
      · rename_i hh; rw [if_neg hh] at hq; exact hQ _ _ _ _ _ _ hr' hq
    | _ => exact hQ _ _ _ _ _ _ hr' hq)

/-- One state follows from another. -/
def Ent (s s' : St) : Prop := ∀ ctx ι S a w, Rel ctx ι S s a w → ∃ ι' S', Rel ctx ι' S' s' a w

theorem Ent.refl (s : St) : Ent s s := fun _ ι S _ _ h => ⟨ι, S, h⟩

theorem awp_ent {c : Code} {s' : St} (he : Ent s s') (h : AWp P c s' Q) : AWp P c s Q := fun ctx ι S a w hr QQ hQ => by
  obtain ⟨ι', S', hr'⟩ := he ctx ι S a w hr
  exact h ctx ι' S' a w hr' QQ hQ

theorem awp_loopJ {c : Code} (J : Nat → St → Prop) (n0 : Nat) (h0 : J n0 s)
    (round : ∀ n s, J n s → AWp P c s (thenA (fun s' => ∃ m, m < n ∧ ∃ s'', Ent s' s'' ∧ J m s'') Q)) : AWp P (.loop c) s Q := by
  intro ctx ι S a w hr QQ hQ
  have key : ∀ n : Nat, ∀ s, J n s → ∀ ι S a w, Rel ctx ι S s a w → ∀ b k cs, ∃ e a' w', QQ e a' w' ∧ Arrives P (lone (b.at a (.code c :: .inLoop c :: k)) cs w) b k cs e a' w' := by
    intro n
    induction n using Nat.strongRecOn with
    | _ n ih =>
      intro s hJ ι S a w hr b k cs
      obtain ⟨e, a₁, w₁, hq, harr⟩ := round n s hJ ctx ι S a w hr (fun e a' w' => (e = .normal ∧ ∃ m s'' ι' S', J m s'' ∧ m < n ∧ Rel ctx ι' S' s'' a' w') ∨ (e ≠ .normal ∧ QQ e a' w')) (fun e ι' S' s' a' w' hr' hq => by
        cases e with
        | normal =>
          obtain ⟨m, hlt, s'', he, hJm⟩ := hq
          obtain ⟨ι2, S2, hr2⟩ := he _ _ _ _ _ hr'
          exact .inl ⟨rfl, m, s'', ι2, S2, hJm, hlt, hr2⟩
        | _ => exact .inr ⟨by simp, hQ _ _ _ _ _ _ hr' hq⟩) b (.inLoop c :: k) cs
      rcases hq with ⟨rfl, m, s'', ι', S', hJm, hlt, hr'⟩ | ⟨hne, hq⟩
      · obtain ⟨e₂, a₂, w₂, hq₂, harr₂⟩ := ih m hlt s'' hJm ι' S' a₁ w₁ hr' b k cs
        exact ⟨e₂, a₂, w₂, hq₂, .of_steps (Steps.trans harr (.one step_inLoop)) harr₂⟩
      · exact ⟨e, a₁, w₁, hq, .pass (x := .inLoop c) rfl (fun _ _ => .inl hne) harr⟩
  intro b k cs
  obtain ⟨e, a', w', hq, harr⟩ := key n0 s h0 ι S a w hr b k cs
  exact ⟨e, a', w', hq, .of_steps (.one step_loop) harr⟩

theorem awp_loop {α : Type} {c : Code} (I : α → St) (J : α → Prop) (μ : α → Nat) (x0 : α) (h0 : Ent s (I x0)) (hJ : J x0)
    (round : ∀ x, J x → AWp P c (I x) (thenA (fun s' => ∃ y, J y ∧ μ y < μ x ∧ Ent s' (I y)) Q)) : AWp P (.loop c) s Q :=
  awp_ent h0 (awp_loopJ (fun n s => ∃ x, s = I x ∧ J x ∧ μ x = n) (μ x0) ⟨x0, rfl, hJ, rfl⟩ fun n s hx => by
    obtain ⟨x, rfl, hJx, rfl⟩ := hx
    refine awp_mono (round x hJx) fun e s' hq => ?_
    cases e with
    | normal =>
      obtain ⟨y, hy, hlt, he⟩ := hq
      exact ⟨μ y, hlt, I y, he, y, rfl, hy, rfl⟩
    | _ => exact hq)

/-- A loop of at most n rounds, round by round. -/
def Loops (P : Program) (c : Code) (Q : Exit → St → Prop) : Nat → St → Prop
  | 0, _ => False
  | n + 1, s => AWp P c s (thenA (fun s' => Loops P c Q n s') Q)

theorem awp_rounds {c : Code} (n : Nat) (h : Loops P c Q n s) : AWp P (.loop c) s Q :=
  awp_loopJ (Loops P c Q) n h fun n s hn => by
    cases n with
    | zero => exact hn.elim
    | succ n =>
      refine awp_mono hn fun e s' hq => ?_
      cases e with
      | normal => exact ⟨n, Nat.lt_succ_self n, s', Ent.refl _, hq⟩
      | _ => exact hq
end

end Go.Proofs.Ytmkgechjbbekmaa.Am
