/- Package world: what a valid world is. -/
import Derived.Test.YtidhdlhblhbahaaGreatFine
import Derived.Test.YtidhdlhblhbahaaGreatKLaw2
import Derived.Test.YtidhdlhblhbahaaGreatKind7h
set_option linter.unusedVariables false
set_option linter.unusedSimpArgs false
namespace Go.Proofs.YtidhdlhblhbahaaGreat.Am
open Go Go.RowKit

theorem calSkp {P : Program} {ops : Array Oper} {o : Oper} {N k : Nat} {T : List (Nat × PV)} (hw : ∀ σ, wantedA ⟨N, T, σ, k⟩ ops o = some false := by exact fun _ => rfl) : CallOk P ops o N k T (.tup []) := fun σ => .inr ⟨hw σ, rfl, rfl⟩

def heldGo (ks : List GKind) : Int → List GComp → Bool
  | _, [] => true
  | last, c :: r => if c.Kind ≤ last ∨ (ks.length : Int) ≤ c.Kind ∨ holdsB (ks.getD c.Kind.toNat k0) c.Vals = false then false else heldGo ks c.Kind r

set_option maxRecDepth 20000 in
theorem held_fn (ks : List GKind) (l : List GComp) (hk : ks.length ≤ 1000000) (hf : ∀ k ∈ ks, k.Fields.length ≤ 1000) (hl : l.length ≤ 1000000) (hv : ∀ c ∈ l, c.Vals.length ≤ 1000) :
    Fn Tryz.prog 108 [.sl 2 (ks.map GKind.e), .sl 2 (l.map GComp.e)] (kB (heldGo ks (-1) l)) := by
  refine fn_go Tryz.func108 rfl ?_
  simp [Tryz.ntmps108]
  refine awp_loop (fun x : Nat × Int => ⟨39, [(0, .sl 2 (ks.map GKind.e)), (5, kI x.2), (8, .sl 2 (l.map GComp.e)), (9, kI l.length), (10, kI x.1)], [], 0⟩)
    (fun x => x.1 ≤ l.length ∧ -1 ≤ x.2 ∧ heldGo ks x.2 (l.drop x.1) = heldGo ks (-1) l) (fun x => l.length - x.1) (0, -1) ?_ ?_ ?_
  · exact entm []
  · simp
  · rintro ⟨i, last⟩ ⟨hi, hla, hrun⟩
    simp only at hi hla hrun
    refine awp_go ?_
    by_cases hlt : i < l.length
    · rw [List.drop_eq_getElem_cons hlt, heldGo] at hrun
      have hvl := hv _ (List.getElem_mem hlt)
      obtain ⟨c, hc⟩ : ∃ c, l[i] = c := ⟨_, rfl⟩
      rw [hc] at hrun hvl
      simp [hlt, hc]
      refine awp_draw follows_mix [] [(0, [0]), (0, [0]), (0, [0]), (0, [0]), (0, [0]), (0, [0]), (0, [0]), (0, [0]), (0, [0]), (0, [0]), (0, [0]), (0, [0]), (0, [0]), (0, [0]), (0, [0]), (0, [0]), (0, [0]), (0, [0]), (0, [0]), (2, [0]), (0, [0]), (0, [0])] 0 (by kernel_rfl) rfl ?_
      by_cases h1 : c.Kind ≤ last
      · simp [h1]
        exact ⟨calSkp, finm (by simp [← hrun, h1])⟩
      · by_cases h2 : (ks.length : Int) ≤ c.Kind
        · simp [h1, h2]
          exact ⟨calSkp, finm (by simp [← hrun, h1, h2])⟩
        · obtain ⟨n, hn⟩ : ∃ n : Nat, c.Kind = n := ⟨c.Kind.toNat, by omega⟩
          obtain ⟨ck, cv⟩ := c
          simp only at hn
          subst hn
          simp only at h1 h2 hrun hvl ⊢
          have hnk : n < ks.length := by omega
          have h1' : last < n := by omega
          simp [h1, h2, hnk, h1']
          refine gD_call (kB (holdsB (ks[n]) cv)) ?_
          simp [hnk, h1']
          refine ⟨calO (Holds_fn _ _ (hf _ (List.getElem_mem hnk)) hvl), ?_⟩
          by_cases h3 : holdsB (ks[n]) cv = true
          · simp [h3]
            rw [wrap_id (by omega) (by omega)]
            exact ⟨i + 1, n, ⟨by omega, by omega, by rw [← hrun]; simp [hnk, h3]; omega⟩, by omega, entm []⟩
          · simp [h3]
            exact finm (by simp [← hrun, hnk, h3])
    · have : i = l.length := by omega
      subst this
      simp [heldGo] at hrun
      simp
      exact finm (by simp [← hrun])

def itemsB (ks : List GKind) (gs : List Int) : Int → List GItem → Bool
  | _, [] => true
  | last, it :: r => if it.Ent.N ≤ last ∨ (gs.length : Int) ≤ it.Ent.N ∨ it.Ent.Gen ≠ gs.getD it.Ent.N.toNat 0 ∨ it.Ent.Gen = 1073741824 ∨ heldGo ks (-1) it.Comps = false then false else itemsB ks gs it.Ent.N r
def checkW (w : GWorld) : Int :=
  if checkE w.Kinds ≠ 0 then checkE w.Kinds
  else if 256 < w.Gens.length ∨ w.Gens.length < w.Items.length then 2
  else if w.Gens.any (fun g => decide (g < 0) || decide (1073741824 < g)) = true then 3
  else if itemsB w.Kinds w.Gens (-1) w.Items = true then 0 else 3

set_option maxHeartbeats 2000000 in
set_option maxRecDepth 20000 in
theorem WCheck_fn (w : GWorld) (hw : Fine w) (hv : ∀ it ∈ w.Items, ∀ c ∈ it.Comps, c.Vals.length ≤ 1000) : Fn Tryz.prog 53 [.agg w.e] (kI (checkW w)) := by
  obtain ⟨hkl, hkf, hgl, hil, hic, hiv⟩ := hw
  obtain ⟨ks, gs, its⟩ := w
  simp only at hkl hkf hgl hil hic hiv hv ⊢
  refine fn_go Tryz.func53 rfl ?_
  simp [Tryz.ntmps53]
  refine cal (Check_fn ks (fun k hk => by have := hkf k hk; omega) (by omega)) ?_
  by_cases h1 : checkE ks = 0
  · simp [h1]
    obtain ⟨hk16, hk8⟩ := checkE_le h1
    by_cases h2 : (256 : Int) < (gs.length : Int)
    · simp [h2]
      exact finm (by have : 256 < gs.length := by omega
                     simp [checkW, h1, this])
    · by_cases h3 : (gs.length : Int) < (its.length : Int)
      · simp [h2, h3]
        exact finm (by have : gs.length < its.length := by omega
                       simp [checkW, h1, this])
      · simp [h2, h3]
        have hC : checkW ⟨ks, gs, its⟩ = if gs.any (fun g => decide (g < 0) || decide (1073741824 < g)) = true then 3 else if itemsB ks gs (-1) its = true then 0 else 3 := by
          have a1 : ¬ 256 < gs.length := by omega
          have a2 : ¬ gs.length < its.length := by omega
          simp [checkW, h1, a1, a2]
        refine awp_loop (fun i : Nat => ⟨94, [(1, .ptr 0 0), (29, slI gs), (30, kI gs.length), (31, kI i)], [some (GWorld.e ⟨ks, gs, its⟩)], 0⟩)
          (fun i => i ≤ gs.length ∧ (gs.drop i).any (fun g => decide (g < 0) || decide (1073741824 < g)) = gs.any (fun g => decide (g < 0) || decide (1073741824 < g))) (fun i => gs.length - i) 0 ?_ ?_ ?_
        · exact entm [0]
        · simp
        · intro i ⟨hi, hrun⟩
          refine awp_go ?_
          by_cases hlt : i < gs.length
          · rw [List.drop_eq_getElem_cons hlt, List.any_cons] at hrun
            by_cases h4 : gs[i] < 0
            · simp [hlt, h4]
              exact finm (by rw [hC, ← hrun]; simp [h4])
            · by_cases h5 : 1073741824 < gs[i]
              · simp [hlt, h4, h5]
                exact finm (by rw [hC, ← hrun]; simp [h5])
              · simp [hlt, h4, h5]
                rw [wrap_id (by omega) (by omega)]
                exact ⟨i + 1, ⟨by omega, by rw [← hrun]; simp [h4, h5]⟩, by omega, entm [0]⟩
          · have : i = gs.length := by omega
            subst this
            simp at hrun
            have hC2 : checkW ⟨ks, gs, its⟩ = if itemsB ks gs (-1) its = true then 0 else 3 := by rw [hC, if_neg]; simp; exact fun x hx => ⟨by have := hrun x hx; omega, by have := hrun x hx; omega⟩
            simp
            refine awp_loop (fun x : Nat × Int => ⟨94, [(1, .ptr 0 0), (6, kI x.2), (43, .sl 3 (its.map GItem.e)), (44, kI its.length), (45, kI x.1)], [some (GWorld.e ⟨ks, gs, its⟩)], 0⟩)
              (fun x => x.1 ≤ its.length ∧ -1 ≤ x.2 ∧ itemsB ks gs x.2 (its.drop x.1) = itemsB ks gs (-1) its) (fun x => its.length - x.1) (0, -1) ?_ ?_ ?_
            · exact entm [0]
            · simp
            · rintro ⟨i, last⟩ ⟨hi, hla, hrun⟩
              simp only at hi hla hrun
              refine awp_go ?_
              by_cases hlt : i < its.length
              · rw [List.drop_eq_getElem_cons hlt, itemsB] at hrun
                obtain ⟨x, hx⟩ : ∃ x, its[i] = x := ⟨_, rfl⟩
                have hm : x ∈ its := hx ▸ List.getElem_mem hlt
                rw [hx] at hrun
                simp [hlt, hx]
                refine awp_draw follows_mix [] [(0, [0]), (0, [0]), (0, [0]), (0, [0]), (0, [0]), (0, [0]), (0, [0]), (0, [0]), (0, [0]), (0, [0]), (0, [0]), (0, [0]), (0, [0]), (0, [0]), (0, [0]), (0, [0]), (0, [0]), (0, [0]), (0, [0]), (0, [0]), (0, [0]), (0, [0]), (0, [0]), (0, [0]), (0, [0]), (0, [0]), (0, [0]), (0, [0]), (0, [0]), (0, [0]), (0, [0]), (0, [0]), (0, [0]), (0, [0]), (0, [0]), (0, [0]), (0, [0]), (0, [0]), (2, [0]), (0, [0]), (0, [0])] 0 (by kernel_rfl) rfl ?_
                by_cases p1 : x.Ent.N ≤ last
                · simp [p1]
                  exact ⟨calSkp, finm (by rw [hC2, ← hrun]; simp [p1])⟩
                by_cases p2 : (gs.length : Int) ≤ x.Ent.N
                · simp [p1, p2]
                  exact ⟨calSkp, finm (by rw [hC2, ← hrun]; simp [p2])⟩
                obtain ⟨n, hn⟩ : ∃ n : Nat, x.Ent.N = n := ⟨x.Ent.N.toNat, by omega⟩
                obtain ⟨⟨xn, xg⟩, xc⟩ := x
                simp only at hn
                subst hn
                simp only at p1 p2 hrun ⊢
                have hng : n < gs.length := by omega
                have p1' : last < n := by omega
                by_cases p3 : xg = gs[n]
                · by_cases p4 : xg = 1073741824
                  · rw [p4] at p3
                    subst p4
                    simp [hng, p1, p1', p2, ← p3]
                    exact ⟨calSkp, finm (by rw [hC2, ← hrun]; simp [hng, p1', ← p3])⟩
                  · have p4' : ¬ gs[n] = 1073741824 := p3 ▸ p4
                    subst p3
                    simp [hng, p1, p1', p2, p4']
                    refine gD_call (kB (heldGo ks (-1) xc)) ?_
                    simp [hng, p1, p1', p2, p4']
                    refine ⟨calO (held_fn ks xc (by omega) (fun k hk => by have := hk8 k hk; omega) (hic _ hm) (hv _ hm)), ?_⟩
                    by_cases p5 : heldGo ks (-1) xc = true
                    · simp [p5]
                      rw [wrap_id (by omega) (by omega)]
                      exact ⟨i + 1, n, ⟨by omega, by omega, by rw [← hrun]; simp [hng, p1', p4', p5]⟩, by omega, entm [0]⟩
                    · simp [p5]
                      exact finm (by rw [hC2, ← hrun]; simp [hng, p1', p4', p5])
                · simp [hng, p1, p1', p2, p3]
                  exact ⟨calSkp, finm (by rw [hC2, ← hrun]; simp [hng, p1', p3])⟩
              · have : i = its.length := by omega
                subst this
                simp [itemsB] at hrun
                simp
                exact finm (by simp [hC2, ← hrun])
  · simp [h1]
    exact finm (by simp [checkW, h1])
end Go.Proofs.YtidhdlhblhbahaaGreat.Am
