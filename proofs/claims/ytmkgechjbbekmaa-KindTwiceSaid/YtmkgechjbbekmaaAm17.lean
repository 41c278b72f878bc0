/- The machine of values: from a contract to a law's call. -/
import Derived.Test.YtmkgechjbbekmaaAm16
set_option linter.unusedVariables false
set_option linter.unusedSimpArgs false
namespace Go.Proofs.Ytmkgechjbbekmaa.Am
open Go Go.RowKit

theorem fn_law {P : Program} {f : FuncId} {args : List PV} (h : Fn P f args (.k (.bool true))) {w : World} {vals : List Value} (hl : vals.length = args.length)
    (hv : ∀ (j : Nat) (p : PV), args[j]? = some p → ∃ v, vals[j]? = some v ∧ IRel (fun b => b < w.heap.size) w v p) :
    Calls P f vals.toArray w fun e w' => e = .returned (.bool true) ∧ Below w.heap.size w w' := by
  have hst : Store (cx w (fun _ => none) (fun b => b < w.heap.size) ([] : List (List PV)).length) (fun _ => none) (fun b => b < w.heap.size) (([] : List (List PV)).map some) w :=
    ⟨rfl, rfl, rfl, Nat.le_refl _, fun _ _ _ => rfl, fun _ _ h => h, fun i cs hi => by simp [box] at hi, fun i cs b hi => by simp [box] at hi, fun i cs b hi => by simp [box] at hi, fun i j ci cj b hi => by simp [box] at hi, fun _ h => h, fun _ h => h, fun _ h => .inl h, by simp [cx], fun _ _ => rfl⟩
  refine (h _ _ w vals hst hl (fun j p hj => by obtain ⟨v, h1, h2⟩ := hv j p hj; exact ⟨v, h1, .imm h2⟩)).mono ?_
  rintro e w' ⟨v, p, σ', ι', S', rfl, ⟨rfl, rfl⟩, hst', hvp⟩
  refine ⟨by rw [hvp.k_inv.1], hst'.os, hst'.tape, hst'.output, hst'.size, fun k hk => hst'.old k hk (fun ⟨i, hi, _⟩ => by simp at hi)⟩

/-- A slice of whole numbers that came in. -/
theorem ints_rel {w : World} {k : IntKind} {a : Option Addr} {len cap : Nat} {z : List Int}
    (h : (a = none ∧ len = 0 ∧ cap = 0 ∧ z = []) ∨ ∃ x : Addr, a = some x ∧ len ≤ cap ∧ cap ≤ maxLen ∧ z.length = cap ∧ (∀ i, i < z.length → w.cell? (x.add i) = some (.int k (z.getD i 0))) ∧ ∀ n ∈ z, (Lit.int k n).wf = true) :
    IRel (fun b => b < w.heap.size) w (.slice a len cap) (.sl 1 ((z.take len).map fun x => [.k (.int k x)])) ∧ (z.take len).length = len ∧ ∀ n ∈ z.take len, (Lit.int k n).wf = true := by
  rcases h with ⟨rfl, rfl, rfl, rfl⟩ | ⟨x, rfl, h1, h2, h3, h4, h5⟩
  · exact ⟨.nil_sl, rfl, by simp⟩
  · have hlen : (z.take len).length = len := by simp; omega
    refine ⟨.sl (fun j => .int k (z.getD j 0)) (by simp; omega) h1 h2 (fun r hr => ?_) (fun r hr p hp => ?_) (fun h => by simp at h) (fun hn => ?_) (fun j p hj => ?_), hlen, fun n hn => h5 n (List.mem_of_mem_take hn)⟩
    · simp only [List.mem_map] at hr; obtain ⟨y, _, rfl⟩ := hr; rfl
    · simp only [List.mem_map] at hr; obtain ⟨y, _, rfl⟩ := hr; simp at hp; subst hp; rfl
    · have h0 := h4 0 (by omega)
      have hx0 : x.add 0 = x := by simp [Addr.add]
      rw [hx0] at h0
      have hsp : x.spot = none := by
        cases hs : x.spot with
        | none => rfl
        | some q => simp [World.cell?, hs] at h0; split at h0 <;> simp at h0
      obtain ⟨b, o, sp⟩ := x
      simp at hsp; subst hsp
      refine ⟨b, o, rfl, World.block_lt_of_cell? w _ h0, fun j hj => ?_⟩
      have := h4 j (by omega)
      rwa [add_at] at this
    · have e : ((z.take len).map fun x => [PV.k (.int k x)]).flatten = (z.take len).map fun x => PV.k (.int k x) := by
        generalize z.take len = l
        induction l with
        | nil => rfl
        | cons y l ih => simp [ih]
      rw [e] at hj
      simp only [List.getElem?_map, Option.map_eq_some_iff] at hj
      obtain ⟨y, hy, rfl⟩ := hj
      have hjl := (List.getElem?_eq_some_iff.1 hy).1
      rw [hlen] at hjl
      rw [List.getElem?_take_of_lt hjl] at hy
      have : z.getD j 0 = y := by simp [List.getD, hy]
      rw [this]
      exact .k rfl

end Go.Proofs.Ytmkgechjbbekmaa.Am
