/- Packages kind and world: equal worlds. -/
import Derived.Test.YtemlkbcfplkniaaWCopy
import Derived.Test.YtemlkbcfplkniaaSl7a
import Derived.Test.YtemlkbcfplkniaaKind7
set_option linter.unusedVariables false
set_option linter.unusedSimpArgs false
namespace Go.Proofs.Ytemlkbcfplkniaa.Am
open Go Go.RowKit

theorem kind_eq {x y : GKind} : x = y ↔ x.Name = y.Name ∧ x.Fields = y.Fields := GKind.ext_iff' x y
set_option maxRecDepth 20000 in
theorem KSame_fn (a b : List GKind) (ha : a.length ≤ 1000000) (hf : ∀ k ∈ a, k.Fields.length ≤ 1000000) : Fn Try.prog 94 [.sl 2 (a.map GKind.e), .sl 2 (b.map GKind.e)] (kB (decide (a = b))) := by
  refine fn_go Try.func94 rfl ?_
  simp [Try.ntmps94]
  by_cases h : a.length = b.length
  · have h' : (a.length : Int) = b.length := by omega
    simp [h']
    refine awp_loop (fun i : Nat => ⟨71, [(0, .sl 2 (a.map GKind.e)), (1, .sl 2 (b.map GKind.e)), (13, kI b.length), (14, kI i)], [], 0⟩) (fun i => i ≤ a.length ∧ a.take i = b.take i) (fun i => a.length - i) 0 ?_ ?_ ?_
    · exact entm []
    · simp
    · intro i ⟨hi, hp⟩
      refine awp_go ?_
      by_cases hlt : i < b.length
      · have hla : i < a.length := by omega
        have hfl := hf _ (List.getElem_mem hla)
        simp [hlt]
        refine awp_draw follows_mix [] [(0, [0]), (0, [0]), (0, [0]), (0, [0]), (0, [0]), (0, [0]), (0, [0]), (0, [0]), (0, [0]), (0, [0]), (0, [0]), (0, [0]), (0, [0]), (0, [0]), (0, [0]), (0, [0]), (0, [0]), (0, [0]), (0, [0]), (0, [0]), (0, [0]), (0, [0]), (0, [0]), (0, [0]), (0, [0]), (0, [0])] 0 (by kernel_rfl) rfl ?_
        by_cases e1 : a[i].Name = b[i].Name
        · by_cases e2 : a[i].Fields.length = b[i].Fields.length
          · have e2' : (a[i].Fields.length : Int) = b[i].Fields.length := by omega
            simp [hlt, hla, e1, e2']
            refine awp_loop (fun j : Nat => ⟨71, [(0, .sl 2 (a.map GKind.e)), (1, .sl 2 (b.map GKind.e)), (5, kI i), (13, kI b.length), (14, kI i), (48, kI b[i].Fields.length), (49, kI j)], [], 0⟩) (fun j => j ≤ a[i].Fields.length ∧ a[i].Fields.take j = b[i].Fields.take j) (fun j => a[i].Fields.length - j) 0 ?_ ?_ ?_
            · exact entm []
            · simp
            · intro j ⟨hj, hq⟩
              refine awp_go ?_
              by_cases hjt : j < b[i].Fields.length
              · have hja : j < a[i].Fields.length := by omega
                simp [hjt]
                refine awp_draw follows_mix [] [(0, [0]), (0, [0]), (0, [0]), (0, [0]), (0, [0]), (0, [0]), (0, [0]), (0, [0]), (0, [0]), (0, [0]), (0, [0]), (0, [0]), (0, [0]), (0, [0]), (0, [0]), (0, [0]), (0, [0])] 0 (by kernel_rfl) rfl ?_
                simp [hlt, hla, hjt, hja]
                by_cases he : a[i].Fields[j] = b[i].Fields[j]
                · simp [he]
                  rw [wrap_id (by omega) (by omega)]
                  exact ⟨j + 1, ⟨by omega, take_extG hja hjt hq he⟩, by omega, entm []⟩
                · simp [he]
                  have hne : a ≠ b := fun e => by subst e; exact he rfl
                  exact finm (by simp [hne])
              · simp [hjt]
                have hab : a[i].Fields = b[i].Fields := by
                  have g1 : a[i].Fields.take j = a[i].Fields := List.take_of_length_le (by omega)
                  have g2 : b[i].Fields.take j = b[i].Fields := List.take_of_length_le (by omega)
                  rw [← g1, ← g2]; exact hq
                rw [wrap_id (by omega) (by omega)]
                exact ⟨i + 1, ⟨by omega, take_extG hla hlt hp (kind_eq.2 ⟨e1, hab⟩)⟩, by omega, entm []⟩
          · have e2' : ¬ (a[i].Fields.length : Int) = b[i].Fields.length := by omega
            simp [hlt, hla, e1, e2']
            have hne : a ≠ b := fun e => by subst e; exact e2 rfl
            exact finm (by simp [hne])
        · simp [hlt, hla, e1]
          have hne : a ≠ b := fun e => by subst e; exact e1 rfl
          exact finm (by simp [hne])
      · simp [hlt]
        have hab : a = b := by
          have e1 : a.take i = a := List.take_of_length_le (by omega)
          have e2 : b.take i = b := List.take_of_length_le (by omega)
          rw [← e1, ← e2]; exact hp
        exact finm (by simp [hab])
  · have h' : ¬ ((a.length : Int) = b.length) := by omega
    simp [h']
    have hne : a ≠ b := fun e => by subst e; exact h rfl
    exact finm (by simp [hne])

set_option maxRecDepth 20000 in
theorem WSameComps1_fn (x y : GComp) (hx : x.Vals.length ≤ 1000000000) : Fn Try.prog 148 [.agg x.e, .agg y.e] (kB (decide (x = y))) := by
  refine fn_go Try.func148 rfl ?_
  simp [Try.ntmps148]
  by_cases h1 : x.Kind = y.Kind
  · simp [h1]
    refine cal (EqualI_fn x.Vals y.Vals hx) ?_
    simp
    exact finm (by simp [GComp.ext_iff', h1])
  · simp [h1]
    exact finm (by simp [GComp.ext_iff', h1])
theorem WSameComps_fn (a b : List GComp) (ha : a.length ≤ 1000000000) (hv : ∀ c ∈ a, c.Vals.length ≤ 1000000000) : Fn Try.prog 97 [.sl 2 (a.map GComp.e), .sl 2 (b.map GComp.e)] (kB (decide (a = b))) := by
  refine fn_go Try.func97 rfl ?_
  simp [Try.ntmps97]
  refine cal (EqualFuncC_fn a b 148 [] ha en_148 rfl (fun x hx y _ => WSameComps1_fn x y (hv x hx))) ?_
  simp
  exact finm (by simp)
set_option maxRecDepth 20000 in
theorem WSame1_fn (x y : GItem) (hx : x.Comps.length ≤ 1000000000) (hv : ∀ c ∈ x.Comps, c.Vals.length ≤ 1000000000) : Fn Try.prog 96 [.agg x.e, .agg y.e] (kB (decide (x = y))) := by
  refine fn_go Try.func96 rfl ?_
  simp [Try.ntmps96]
  by_cases h1 : x.Ent = y.Ent
  · simp [h1]
    refine cal (WSameComps_fn x.Comps y.Comps hx hv) ?_
    simp
    exact finm (by simp [GItem.ext_iff', h1])
  · simp [h1]
    exact finm (by simp [GItem.ext_iff', h1])
set_option maxRecDepth 20000 in
theorem WSame_fn (x y : GWorld) (hx : Fine x) : Fn Try.prog 40 [.agg x.e, .agg y.e] (kB (decide (x = y))) := by
  refine fn_go Try.func40 rfl ?_
  simp [Try.ntmps40]
  refine cal (KSame_fn x.Kinds y.Kinds hx.kl hx.kf) ?_
  by_cases h1 : x.Kinds = y.Kinds
  · simp [h1]
    refine cal (EqualI_fn x.Gens y.Gens (by have := hx.gl; omega)) ?_
    by_cases h2 : x.Gens = y.Gens
    · simp [h2]
      refine cal (EqualFuncIt_fn x.Items y.Items 96 [] (by have := hx.il; omega) en_96 rfl (fun a ha b _ => WSame1_fn a b (by have := hx.ic a ha; omega) (fun c hc => by have := hx.iv a ha c hc; omega))) ?_
      simp
      exact finm (by simp [GWorld.ext_iff', h1, h2])
    · simp [h2]
      exact finm (by simp [GWorld.ext_iff', h1, h2])
  · simp [h1]
    exact finm (by simp [GWorld.ext_iff', h1])
end Go.Proofs.Ytemlkbcfplkniaa.Am
