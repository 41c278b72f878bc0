/- world.CopyComps, the values of each component still to be written. -/
import Derived.Test.YtidhdlhblhbahaaGreatDrawD
import Derived.Test.YtidhdlhblhbahaaGreatCopy1
set_option linter.unusedVariables false
set_option linter.unusedSimpArgs false
namespace Go.Proofs.YtidhdlhblhbahaaGreat.Am
open Go Go.RowKit

theorem box_snoc_len (σ : Boxes) (x : Option (List PV)) : box (σ ++ [x]) σ.length = x := by simp [box]
theorem box_snoc_lt {σ : Boxes} {x : Option (List PV)} {i : Nat} {cs : List PV} (h : box σ i = some cs) : box (σ ++ [x]) i = some cs := by
  have := box_lt h
  rw [box_app1 _ _ _ this]; exact h
theorem box_set_eq {σ : Boxes} {b : Nat} {x : Option (List PV)} (hb : b < σ.length) : box (σ.set b x) b = x := by rw [box_set hb, if_pos rfl]
theorem box_set_old {σ : Boxes} {b i : Nat} {x : Option (List PV)} {cs : List PV} (hne : i ≠ b) (h : box σ i = some cs) : box (σ.set b x) i = some cs := by
  by_cases hb : b < σ.length
  · rw [box_set hb, if_neg hne]; exact h
  · rw [List.set_eq_of_length_le (by omega)]; exact h
theorem box_get {σ : Boxes} {i : Nat} {cs : List PV} (h : box σ i = some cs) : σ[i]? = some (some cs) := by
  unfold box at h
  cases hσ : σ[i]? with
  | none => rw [hσ] at h; simp at h
  | some x => rw [hσ] at h; simp at h; rw [h]

/-- The cells of components whose values lie in the boxes ps. -/
def cellsD : List GComp → List Nat → List PV
  | c :: l, b :: ps => kI c.Kind :: .osl b 1 0 c.Vals.length :: cellsD l ps
  | _, _ => []
theorem cellsD_len : ∀ (l : List GComp) (ps : List Nat), l.length = ps.length → (cellsD l ps).length = l.length * 2
  | [], [], _ => rfl
  | c :: l, b :: ps, h => by simp [cellsD, cellsD_len l ps (by simpa using h)]; omega
  | [], _ :: _, h => by simp at h
  | _ :: _, [], h => by simp at h
theorem cellsD_snoc : ∀ (l : List GComp) (ps : List Nat) (c : GComp) (b : Nat), l.length = ps.length → cellsD (l ++ [c]) (ps ++ [b]) = cellsD l ps ++ [kI c.Kind, .osl b 1 0 c.Vals.length]
  | [], [], c, b, _ => rfl
  | d :: l, e :: ps, c, b, h => by simp [cellsD, cellsD_snoc l ps c b (by simpa using h)]
  | [], _ :: _, _, _, h => by simp at h
  | _ :: _, [], _, _, h => by simp at h
/-- Each component's values lie in a box of their own. -/
def valsIn (σ : Boxes) : List GComp → List Nat → Prop
  | c :: l, b :: ps => box σ b = some (c.Vals.map kI) ∧ valsIn σ l ps
  | [], [] => True
  | _, _ => False
theorem valsIn_len {σ : Boxes} : ∀ {l : List GComp} {ps : List Nat}, valsIn σ l ps → l.length = ps.length
  | [], [], _ => rfl
  | _ :: _, _ :: _, h => by simp [valsIn_len h.2]
theorem valsIn_mono {σ σ' : Boxes} : ∀ {l : List GComp} {ps : List Nat}, (∀ b ∈ ps, ∀ cs, box σ b = some cs → box σ' b = some cs) → valsIn σ l ps → valsIn σ' l ps
  | [], [], _, _ => trivial
  | c :: l, b :: ps, h, hv => ⟨h b (by simp) _ hv.1, valsIn_mono (fun x hx => h x (by simp [hx])) hv.2⟩
theorem valsIn_snoc {σ : Boxes} : ∀ {l : List GComp} {ps : List Nat} {c : GComp} {b : Nat}, valsIn σ l ps → box σ b = some (c.Vals.map kI) → valsIn σ (l ++ [c]) (ps ++ [b])
  | [], [], _, _, _, h => ⟨h, trivial⟩
  | _ :: _, _ :: _, _, _, hv, h => ⟨hv.1, valsIn_snoc hv.2 h⟩
theorem valsIn_lt {σ : Boxes} : ∀ {l : List GComp} {ps : List Nat}, valsIn σ l ps → ∀ b ∈ ps, b < σ.length
  | [], [], _, b, hb => by simp at hb
  | _ :: _, _ :: _, hv, b, hb => by
    rcases List.mem_cons.1 hb with rfl | hb
    · exact box_lt hv.1
    · exact valsIn_lt hv.2 b hb

def deepB (l : List GComp) (i : Nat) (ps : List Nat) : List PV := cellsD (l.take i) ps ++ (List.replicate (l.length - i) [kI 0, kNil]).flatten
theorem entB_all {s : St} {θ : Nat → Nat} {n : Nat} : ∀ (σ : Boxes) (i0 : Nat), (∀ (i : Nat) (cs : List PV), σ[i]? = some (some cs) → box s.σ (θ (i0 + i)) = some (renL θ cs) ∧ ltL n cs = true) → EntB s θ n i0 σ
  | [], _, _ => trivial
  | none :: r, i0, h => entB_all r (i0 + 1) fun i cs hi => by have := h (i + 1) cs (by simpa using hi); rwa [show i0 + (i + 1) = i0 + 1 + i by omega] at this
  | some c :: r, i0, h => ⟨h 0 c rfl, entB_all r (i0 + 1) fun i cs hi => by have := h (i + 1) cs (by simpa using hi); rwa [show i0 + (i + 1) = i0 + 1 + i by omega] at this⟩
theorem renL_cellsD (θ : Nat → Nat) : ∀ (l : List GComp) (ps : List Nat), renL θ (cellsD l ps) = cellsD l (ps.map θ)
  | [], _ => by simp [cellsD]
  | _ :: _, [] => by simp [cellsD]
  | c :: l, b :: ps => by simp [cellsD, renL_cellsD θ l ps]
theorem ltL_cellsD {n : Nat} : ∀ (l : List GComp) (ps : List Nat), (∀ b ∈ ps, b < n) → ltL n (cellsD l ps) = true
  | [], _, _ => by simp [cellsD]
  | _ :: _, [], _ => by simp [cellsD]
  | c :: l, b :: ps, h => by simp [cellsD, ltL_cellsD l ps (fun x hx => h x (by simp [hx])), h b (by simp)]
theorem valsIn_get {σ : Boxes} : ∀ {l : List GComp} {ps : List Nat}, valsIn σ l ps → ∀ (i : Nat) (c : GComp), l[i]? = some c → ∃ b, ps[i]? = some b ∧ box σ b = some (c.Vals.map kI)
  | [], [], _, i, c, h => by simp at h
  | d :: l, b :: ps, hv, 0, c, h => by
    obtain rfl : d = c := by simpa using h
    exact ⟨b, rfl, hv.1⟩
  | d :: l, b :: ps, hv, i + 1, c, h => valsIn_get hv.2 i c (by simpa using h)
/-- The boxes of components that may be written: the components first, the values of each behind them. -/
def deepX (b : Nat) (l : List GComp) : List (List PV) := cellsD l (List.range' (b + 1) l.length) :: l.map fun c => c.Vals.map kI
structure DeepJ (l : List GComp) (i : Nat) (σ : Boxes) (ps : List Nat) : Prop where
  hb : box σ 0 = some (deepB l i ps)
  hv : valsIn σ (l.take i) ps
  nd : (0 :: ps).Nodup
theorem deepB_len {l : List GComp} {i : Nat} {ps : List Nat} (hi : i ≤ l.length) (h : (l.take i).length = ps.length) : (deepB l i ps).length = l.length * 2 := by
  unfold deepB
  rw [List.length_append, cellsD_len _ _ h]; simp; omega
theorem deepB_step {l : List GComp} {i : Nat} {ps : List Nat} {b : Nat} (hi : i < l.length) (h : (l.take i).length = ps.length) :
    (deepB l i ps).take (i * 2) ++ kI l[i].Kind :: .osl b 1 0 l[i].Vals.length :: (deepB l i ps).drop (i * 2 + 2) = deepB l (i + 1) (ps ++ [b]) := by
  have hc := cellsD_len _ _ h
  have hcl : (cellsD (l.take i) ps).length = i * 2 := by rw [hc]; simp; omega
  have hr : List.replicate (l.length - i) [kI 0, kNil] = [kI 0, kNil] :: List.replicate (l.length - (i + 1)) [kI 0, kNil] := by
    rw [show l.length - i = (l.length - (i + 1)) + 1 by omega, List.replicate_succ]
  unfold deepB
  rw [List.take_left' hcl, hr, List.flatten_cons]
  have ht : l.take (i + 1) = l.take i ++ [l[i]] := by rw [List.take_add_one, List.getElem?_eq_getElem hi]; rfl
  rw [ht, cellsD_snoc _ _ _ _ h, List.drop_append, hcl, List.drop_of_length_le (by omega)]
  simp [show i * 2 + 2 - i * 2 = 2 by omega]
set_option maxRecDepth 20000 in
set_option maxHeartbeats 1000000 in
theorem CopyComps_deep (l : List GComp) (hl : l.length ≤ 1000000) (hv : ∀ c ∈ l, c.Vals.length ≤ 1000000) : FnD Tryz.prog 66 [.sl 2 (l.map GComp.e)] []
    (.osl 0 2 0 l.length) ((deepX 0 l).map some) := by
  refine fnd_go Tryz.func66 rfl ?_
  simp [Tryz.ntmps66]
  have h1 : 32 * (l.length : Int) ≤ 281474976710656 := by omega
  have h2 : (l.length : Int) ≤ 9223372036854775807 := by omega
  simp [h1, h2]
  refine awp_loop (fun x : Nat × Boxes × List Nat => ⟨27, [(3, .osl 0 2 0 l.length), (9, .sl 2 (l.map GComp.e)), (10, kI l.length), (11, kI x.1)], x.2.1, 0⟩)
    (fun x => x.1 ≤ l.length ∧ DeepJ l x.1 x.2.1 x.2.2) (fun x => l.length - x.1) (0, [some (List.replicate l.length [kI 0, kNil]).flatten], []) ?_ ?_ ?_
  · exact Ent.refl _ |>.trans (ent_T [(3, .osl 0 2 0 l.length), (9, .sl 2 (l.map GComp.e)), (10, kI l.length), (11, kI 0)])
  · exact ⟨by simp, by simp [box, cellsD, deepB], trivial, by simp⟩
  · rintro ⟨i, σ, ps⟩ ⟨hi, hJ⟩
    simp only at hi hJ
    obtain ⟨hb, hvi, hnd⟩ := hJ
    have hpl := valsIn_len hvi
    refine awp_go ?_
    by_cases hlt : i < l.length
    · obtain ⟨c, hc⟩ : ∃ c, l[i] = c := ⟨_, rfl⟩
      have h0 := box_lt hb
      have hg := box_get hb
      have hst := fun b => deepB_step (b := b) hlt hpl
      have hBl := deepB_len hi hpl
      rw [hc] at hst
      obtain ⟨B, hB⟩ : ∃ B, deepB l i ps = B := ⟨_, rfl⟩
      rw [hB] at hb hg hst hBl
      simp [hlt, hc]
      refine awp_draw follows_mix [6] [(0, [0, 1]), (0, [0, 1]), (0, [0, 1]), (0, [0, 1]), (0, [0]), (0, [0]), (3, [0]), (0, [1]), (0, [1]), (1, [1])] 2 (by kernel_rfl) rfl ?_
      simp [hlt, hc]
      obtain ⟨τ, hτ⟩ : ∃ τ, σ ++ [some c.e, some (c.Vals.map kI)] = τ := ⟨_, rfl⟩
      refine gD_callW (.osl (σ.length + 1) 1 0 c.Vals.length) τ ?_
      have hh0 : τ[0]? = some (some B) := by rw [← hτ, List.getElem?_append_left h0]; exact hg
      have hq : i * 2 + 2 ≤ l.length * 2 := by omega
      have hh1 : τ[σ.length]? = some (some c.e) := by rw [← hτ, List.getElem?_append_right (by omega)]; simp
      have hτl : τ.length = σ.length + 2 := by rw [← hτ]; simp
      have hcv := hv c (hc ▸ List.getElem_mem hlt)
      simp [hlt, hc, hh0, hh1, hBl, hq, hst]
      refine ⟨.inl ⟨rfl, doD [] (CloneI_own c.Vals (by omega)) (h2 := by simp [← hτ]) (hr2 := by simp)⟩, ?_⟩
      have hbτ : ∀ b cs, box σ b = some cs → box τ b = some cs := fun b cs h => by
        rw [← hτ, box_app1 _ _ _ (box_lt h)]; exact h
      have hbn : box τ (σ.length + 1) = some (c.Vals.map kI) := by rw [← hτ, box_app2]; simp [box]
      refine ⟨i + 1, τ.set 0 (some (deepB l (i + 1) (ps ++ [σ.length + 1]))), ⟨by omega, ps ++ [σ.length + 1], ⟨?_, ?_, ?_⟩⟩, by omega, ?_⟩
      · exact box_set_eq (by omega)
      · have ht : l.take (i + 1) = l.take i ++ [c] := by rw [List.take_add_one, List.getElem?_eq_getElem hlt, hc]; rfl
        rw [ht]
        refine valsIn_snoc (valsIn_mono (fun b hbp cs h => box_set_old (fun e => ?_) (hbτ b cs h)) hvi) (box_set_old (by omega) hbn)
        subst e
        exact (List.nodup_cons.1 hnd).1 hbp
      · have h1 := valsIn_lt hvi
        rw [← List.cons_append]
        refine List.nodup_append.2 ⟨hnd, by simp, fun a ha b hb e => ?_⟩
        obtain rfl := List.mem_singleton.1 hb
        rcases List.mem_cons.1 ha with rfl | ha
        · omega
        · have := h1 a ha; omega
      · rw [wrap_id (by omega) (by omega)]
        exact ent_T [(3, .osl 0 2 0 l.length), (9, .sl 2 (l.map GComp.e)), (10, kI l.length), (11, kI (i + 1 : Nat))]
    · obtain rfl : i = l.length := by omega
      simp
      rw [List.take_length] at hvi hpl
      have hb' : box σ 0 = some (cellsD l ps) := by rw [hb]; simp [deepB]
      refine finG_mk (p2 := .osl 0 2 0 l.length) (0 :: ps) ((deepX 0 l).map some) rfl (by simp) (by simp [deepX]) (by simp [deepX, hpl]) (by simp) (by simp) hnd (entB_all _ _ fun i cs hi => ?_) ⟨rfl, rfl⟩
      rw [Nat.zero_add, List.getElem?_map] at *
      have hn : ((deepX 0 l).map some).length = l.length + 1 := by simp [deepX]
      cases i with
      | zero =>
        have : cs = cellsD l (List.range' 1 l.length) := by simpa [deepX] using hi.symm
        subst this
        refine ⟨?_, ltL_cellsD _ _ fun b hb => by have := List.mem_range'_1.1 hb; omega⟩
        rw [renL_cellsD]
        have e : (List.range' 1 l.length).map (fun i => (0 :: ps).getD i 0) = ps := by
          refine List.ext_getElem (by simp [hpl]) fun j h1 h2 => ?_
          simp [List.getD, Nat.add_comm 1 j, h2]
        rw [e]
        exact hb'
      | succ i =>
        have hi' : (l.map fun c => c.Vals.map kI)[i]? = some cs := by simpa [deepX] using hi
        rw [List.getElem?_map] at hi'
        obtain ⟨c, hc, rfl⟩ := Option.map_eq_some_iff.1 hi'
        obtain ⟨b, h1, h2⟩ := valsIn_get hvi i c hc
        refine ⟨?_, by simp⟩
        have : (0 :: ps).getD (i + 1) 0 = b := by simp [List.getD, h1]
        rw [this]
        simpa using h2
end Go.Proofs.YtidhdlhblhbahaaGreat.Am
