/- Several texts in one. -/
import Derived.Test.YtfojnhceiabbhaaGreatDrawD
import Derived.Test.YtfojnhceiabbhaaGreatCopy1
import Derived.Test.YtfojnhceiabbhaaGreatMixU
import Derived.Test.YtfojnhceiabbhaaGreatSort1
import Derived.Test.YtfojnhceiabbhaaGreatClampF
import Derived.Test.YtfojnhceiabbhaaGreatKind5
import Derived.Test.YtfojnhceiabbhaaGreatKind6
import Derived.Test.YtfojnhceiabbhaaGreatFit1
import Derived.Test.YtfojnhceiabbhaaGreatCLaw
import Derived.Test.YtfojnhceiabbhaaGreatQuery2
import Derived.Test.YtfojnhceiabbhaaGreatSl2
import Derived.Test.YtfojnhceiabbhaaGreatKind4
import Derived.Test.YtfojnhceiabbhaaGreatQuery3
import Derived.Test.YtfojnhceiabbhaaGreatWChk1
import Derived.Test.YtfojnhceiabbhaaGreatBaseW
import Derived.Test.YtfojnhceiabbhaaGreatEvE
import Derived.Test.YtfojnhceiabbhaaGreatMake8
import Derived.Test.YtfojnhceiabbhaaGreatWLaw1
import Derived.Test.YtfojnhceiabbhaaGreatCLaw2
import Derived.Test.YtfojnhceiabbhaaGreatSl3a
import Derived.Test.YtfojnhceiabbhaaGreatMake5
import Derived.Test.YtfojnhceiabbhaaGreatMake1
import Derived.Test.YtfojnhceiabbhaaGreatSame1
set_option linter.unusedVariables false
set_option linter.unusedSimpArgs false
/- world.CopyComps, the values of each component still to be written. -/
namespace Go.Proofs.YtfojnhceiabbhaaGreat.Am
open Go Go.RowKit

theorem box_snoc_len (σ : Boxes) (x : Option (List PV)) : box (σ ++ [x]) σ.length = x := by simp [box]
theorem box_snoc_lt {σ : Boxes} {x : Option (List PV)} {i : Nat} {cs : List PV} (h : box σ i = some cs) : box (σ ++ [x]) i = some cs := by
  have := box_lt h
  rw [box_app1 _ _ _ this]; exact h
theorem box_set_eq {σ : Boxes} {b : Nat} {x : Option (List PV)} (hb : b < σ.length) : box (σ.set b x) b = x := by rw [box_set hb, if_pos rfl]
theorem box_set_old {σ : Boxes} {b i : Nat} {x : Option (List PV)} {cs : List PV} (hne : i ≠ b) (h : box σ i = some cs) : box (σ.set b x) i = some cs := by
  by_cases hb : b < σ.length
  · rw [box_set hb, if_neg hne]; exact h
  · rw [List.set_eq_of_length_le (by omega)]; exact h
theorem box_get {σ : Boxes} {i : Nat} {cs : List PV} (h : box σ i = some cs) : σ[i]? = some (some cs) := by
  unfold box at h
  cases hσ : σ[i]? with
  | none => rw [hσ] at h; simp at h
  | some x => rw [hσ] at h; simp at h; rw [h]

/-- The cells of components whose values lie in the boxes ps. -/
def cellsD : List GComp → List Nat → List PV
  | c :: l, b :: ps => kI c.Kind :: .osl b 1 0 c.Vals.length :: cellsD l ps
  | _, _ => []
theorem cellsD_len : ∀ (l : List GComp) (ps : List Nat), l.length = ps.length → (cellsD l ps).length = l.length * 2
  | [], [], _ => rfl
  | c :: l, b :: ps, h => by simp [cellsD, cellsD_len l ps (by simpa using h)]; omega
  | [], _ :: _, h => by simp at h
  | _ :: _, [], h => by simp at h
theorem cellsD_snoc : ∀ (l : List GComp) (ps : List Nat) (c : GComp) (b : Nat), l.length = ps.length → cellsD (l ++ [c]) (ps ++ [b]) = cellsD l ps ++ [kI c.Kind, .osl b 1 0 c.Vals.length]
  | [], [], c, b, _ => rfl
  | d :: l, e :: ps, c, b, h => by simp [cellsD, cellsD_snoc l ps c b (by simpa using h)]
  | [], _ :: _, _, _, h => by simp at h
  | _ :: _, [], _, _, h => by simp at h
/-- Each component's values lie in a box of their own. -/
def valsIn (σ : Boxes) : List GComp → List Nat → Prop
  | c :: l, b :: ps => box σ b = some (c.Vals.map kI) ∧ valsIn σ l ps
  | [], [] => True
  | _, _ => False
theorem valsIn_len {σ : Boxes} : ∀ {l : List GComp} {ps : List Nat}, valsIn σ l ps → l.length = ps.length
  | [], [], _ => rfl
  | _ :: _, _ :: _, h => by simp [valsIn_len h.2]
theorem valsIn_mono {σ σ' : Boxes} : ∀ {l : List GComp} {ps : List Nat}, (∀ b ∈ ps, ∀ cs, box σ b = some cs → box σ' b = some cs) → valsIn σ l ps → valsIn σ' l ps
  | [], [], _, _ => trivial
  | c :: l, b :: ps, h, hv => ⟨h b (by simp) _ hv.1, valsIn_mono (fun x hx => h x (by simp [hx])) hv.2⟩
theorem valsIn_snoc {σ : Boxes} : ∀ {l : List GComp} {ps : List Nat} {c : GComp} {b : Nat}, valsIn σ l ps → box σ b = some (c.Vals.map kI) → valsIn σ (l ++ [c]) (ps ++ [b])
  | [], [], _, _, _, h => ⟨h, trivial⟩
  | _ :: _, _ :: _, _, _, hv, h => ⟨hv.1, valsIn_snoc hv.2 h⟩
theorem valsIn_lt {σ : Boxes} : ∀ {l : List GComp} {ps : List Nat}, valsIn σ l ps → ∀ b ∈ ps, b < σ.length
  | [], [], _, b, hb => by simp at hb
  | _ :: _, _ :: _, hv, b, hb => by
    rcases List.mem_cons.1 hb with rfl | hb
    · exact box_lt hv.1
    · exact valsIn_lt hv.2 b hb

def deepB (l : List GComp) (i : Nat) (ps : List Nat) : List PV := cellsD (l.take i) ps ++ (List.replicate (l.length - i) [kI 0, kNil]).flatten
theorem entB_all {s : St} {θ : Nat → Nat} {n : Nat} : ∀ (σ : Boxes) (i0 : Nat), (∀ (i : Nat) (cs : List PV), σ[i]? = some (some cs) → box s.σ (θ (i0 + i)) = some (renL θ cs) ∧ ltL n cs = true) → EntB s θ n i0 σ
  | [], _, _ => trivial
  | none :: r, i0, h => entB_all r (i0 + 1) fun i cs hi => by have := h (i + 1) cs (by simpa using hi); rwa [show i0 + (i + 1) = i0 + 1 + i by omega] at this
  | some c :: r, i0, h => ⟨h 0 c rfl, entB_all r (i0 + 1) fun i cs hi => by have := h (i + 1) cs (by simpa using hi); rwa [show i0 + (i + 1) = i0 + 1 + i by omega] at this⟩
theorem renL_cellsD (θ : Nat → Nat) : ∀ (l : List GComp) (ps : List Nat), renL θ (cellsD l ps) = cellsD l (ps.map θ)
  | [], _ => by simp [cellsD]
  | _ :: _, [] => by simp [cellsD]
  | c :: l, b :: ps => by simp [cellsD, renL_cellsD θ l ps]
theorem ltL_cellsD {n : Nat} : ∀ (l : List GComp) (ps : List Nat), (∀ b ∈ ps, b < n) → ltL n (cellsD l ps) = true
  | [], _, _ => by simp [cellsD]
  | _ :: _, [], _ => by simp [cellsD]
  | c :: l, b :: ps, h => by simp [cellsD, ltL_cellsD l ps (fun x hx => h x (by simp [hx])), h b (by simp)]
theorem valsIn_get {σ : Boxes} : ∀ {l : List GComp} {ps : List Nat}, valsIn σ l ps → ∀ (i : Nat) (c : GComp), l[i]? = some c → ∃ b, ps[i]? = some b ∧ box σ b = some (c.Vals.map kI)
  | [], [], _, i, c, h => by simp at h
  | d :: l, b :: ps, hv, 0, c, h => by
    obtain rfl : d = c := by simpa using h
    exact ⟨b, rfl, hv.1⟩
  | d :: l, b :: ps, hv, i + 1, c, h => valsIn_get hv.2 i c (by simpa using h)
/-- The boxes of components that may be written: the components first, the values of each behind them. -/
def deepX (b : Nat) (l : List GComp) : List (List PV) := cellsD l (List.range' (b + 1) l.length) :: l.map fun c => c.Vals.map kI
structure DeepJ (l : List GComp) (i : Nat) (σ : Boxes) (ps : List Nat) : Prop where
  hb : box σ 0 = some (deepB l i ps)
  hv : valsIn σ (l.take i) ps
  nd : (0 :: ps).Nodup
theorem deepB_len {l : List GComp} {i : Nat} {ps : List Nat} (hi : i ≤ l.length) (h : (l.take i).length = ps.length) : (deepB l i ps).length = l.length * 2 := by
  unfold deepB
  rw [List.length_append, cellsD_len _ _ h]; simp; omega
theorem deepB_step {l : List GComp} {i : Nat} {ps : List Nat} {b : Nat} (hi : i < l.length) (h : (l.take i).length = ps.length) :
    (deepB l i ps).take (i * 2) ++ kI l[i].Kind :: .osl b 1 0 l[i].Vals.length :: (deepB l i ps).drop (i * 2 + 2) = deepB l (i + 1) (ps ++ [b]) := by
  have hc := cellsD_len _ _ h
  have hcl : (cellsD (l.take i) ps).length = i * 2 := by rw [hc]; simp; omega
  have hr : List.replicate (l.length - i) [kI 0, kNil] = [kI 0, kNil] :: List.replicate (l.length - (i + 1)) [kI 0, kNil] := by
    rw [show l.length - i = (l.length - (i + 1)) + 1 by omega, List.replicate_succ]
  unfold deepB
  rw [List.take_left' hcl, hr, List.flatten_cons]
  have ht : l.take (i + 1) = l.take i ++ [l[i]] := by rw [List.take_add_one, List.getElem?_eq_getElem hi]; rfl
  rw [ht, cellsD_snoc _ _ _ _ h, List.drop_append, hcl, List.drop_of_length_le (by omega)]
  simp [show i * 2 + 2 - i * 2 = 2 by omega]
set_option maxRecDepth 20000 in
set_option maxHeartbeats 1000000 in
theorem CopyComps_deep (l : List GComp) (hl : l.length ≤ 1000000) (hv : ∀ c ∈ l, c.Vals.length ≤ 1000000) : FnD Tryz.prog 54 [.sl 2 (l.map GComp.e)] []
    (.osl 0 2 0 l.length) ((deepX 0 l).map some) := by
  refine fnd_go Tryz.func54 rfl ?_
  simp [Tryz.ntmps54]
  have h1 : 32 * (l.length : Int) ≤ 281474976710656 := by omega
  have h2 : (l.length : Int) ≤ 9223372036854775807 := by omega
  simp [h1, h2]
  refine awp_loop (fun x : Nat × Boxes × List Nat => ⟨27, [(3, .osl 0 2 0 l.length), (9, .sl 2 (l.map GComp.e)), (10, kI l.length), (11, kI x.1)], x.2.1, 0⟩)
    (fun x => x.1 ≤ l.length ∧ DeepJ l x.1 x.2.1 x.2.2) (fun x => l.length - x.1) (0, [some (List.replicate l.length [kI 0, kNil]).flatten], []) ?_ ?_ ?_
  · exact Ent.refl _ |>.trans (ent_T [(3, .osl 0 2 0 l.length), (9, .sl 2 (l.map GComp.e)), (10, kI l.length), (11, kI 0)])
  · exact ⟨by simp, by simp [box, cellsD, deepB], trivial, by simp⟩
  · rintro ⟨i, σ, ps⟩ ⟨hi, hJ⟩
    simp only at hi hJ
    obtain ⟨hb, hvi, hnd⟩ := hJ
    have hpl := valsIn_len hvi
    refine awp_go ?_
    by_cases hlt : i < l.length
    · obtain ⟨c, hc⟩ : ∃ c, l[i] = c := ⟨_, rfl⟩
      have h0 := box_lt hb
      have hg := box_get hb
      have hst := fun b => deepB_step (b := b) hlt hpl
      have hBl := deepB_len hi hpl
      rw [hc] at hst
      obtain ⟨B, hB⟩ : ∃ B, deepB l i ps = B := ⟨_, rfl⟩
      rw [hB] at hb hg hst hBl
      simp [hlt, hc]
      refine awp_draw follows_mix [6] [(0, [0, 1]), (0, [0, 1]), (0, [0, 1]), (0, [0, 1]), (0, [0]), (0, [0]), (3, [0]), (0, [1]), (0, [1]), (1, [1])] 2 (by kernel_rfl) rfl ?_
      simp [hlt, hc]
      obtain ⟨τ, hτ⟩ : ∃ τ, σ ++ [some c.e, some (c.Vals.map kI)] = τ := ⟨_, rfl⟩
      refine gD_callW (.osl (σ.length + 1) 1 0 c.Vals.length) τ ?_
      have hh0 : τ[0]? = some (some B) := by rw [← hτ, List.getElem?_append_left h0]; exact hg
      have hq : i * 2 + 2 ≤ l.length * 2 := by omega
      have hh1 : τ[σ.length]? = some (some c.e) := by rw [← hτ, List.getElem?_append_right (by omega)]; simp
      have hτl : τ.length = σ.length + 2 := by rw [← hτ]; simp
      have hcv := hv c (hc ▸ List.getElem_mem hlt)
      simp [hlt, hc, hh0, hh1, hBl, hq, hst]
      refine ⟨.inl ⟨rfl, doD [] (CloneI_own c.Vals (by omega)) (h2 := by simp [← hτ]) (hr2 := by simp)⟩, ?_⟩
      have hbτ : ∀ b cs, box σ b = some cs → box τ b = some cs := fun b cs h => by
        rw [← hτ, box_app1 _ _ _ (box_lt h)]; exact h
      have hbn : box τ (σ.length + 1) = some (c.Vals.map kI) := by rw [← hτ, box_app2]; simp [box]
      refine ⟨i + 1, τ.set 0 (some (deepB l (i + 1) (ps ++ [σ.length + 1]))), ⟨by omega, ps ++ [σ.length + 1], ⟨?_, ?_, ?_⟩⟩, by omega, ?_⟩
      · exact box_set_eq (by omega)
      · have ht : l.take (i + 1) = l.take i ++ [c] := by rw [List.take_add_one, List.getElem?_eq_getElem hlt, hc]; rfl
        rw [ht]
        refine valsIn_snoc (valsIn_mono (fun b hbp cs h => box_set_old (fun e => ?_) (hbτ b cs h)) hvi) (box_set_old (by omega) hbn)
        subst e
        exact (List.nodup_cons.1 hnd).1 hbp
      · have h1 := valsIn_lt hvi
        rw [← List.cons_append]
        refine List.nodup_append.2 ⟨hnd, by simp, fun a ha b hb e => ?_⟩
        obtain rfl := List.mem_singleton.1 hb
        rcases List.mem_cons.1 ha with rfl | ha
        · omega
        · have := h1 a ha; omega
      · rw [wrap_id (by omega) (by omega)]
        exact ent_T [(3, .osl 0 2 0 l.length), (9, .sl 2 (l.map GComp.e)), (10, kI l.length), (11, kI (i + 1 : Nat))]
    · obtain rfl : i = l.length := by omega
      simp
      rw [List.take_length] at hvi hpl
      have hb' : box σ 0 = some (cellsD l ps) := by rw [hb]; simp [deepB]
      refine finG_mk (p2 := .osl 0 2 0 l.length) (0 :: ps) ((deepX 0 l).map some) rfl (by simp) (by simp [deepX]) (by simp [deepX, hpl]) (by simp) (by simp) hnd (entB_all _ _ fun i cs hi => ?_) ⟨rfl, rfl⟩
      rw [Nat.zero_add, List.getElem?_map] at *
      have hn : ((deepX 0 l).map some).length = l.length + 1 := by simp [deepX]
      cases i with
      | zero =>
        have : cs = cellsD l (List.range' 1 l.length) := by simpa [deepX] using hi.symm
        subst this
        refine ⟨?_, ltL_cellsD _ _ fun b hb => by have := List.mem_range'_1.1 hb; omega⟩
        rw [renL_cellsD]
        have e : (List.range' 1 l.length).map (fun i => (0 :: ps).getD i 0) = ps := by
          refine List.ext_getElem (by simp [hpl]) fun j h1 h2 => ?_
          simp [List.getD, Nat.add_comm 1 j, h2]
        rw [e]
        exact hb'
      | succ i =>
        have hi' : (l.map fun c => c.Vals.map kI)[i]? = some cs := by simpa [deepX] using hi
        rw [List.getElem?_map] at hi'
        obtain ⟨c, hc, rfl⟩ := Option.map_eq_some_iff.1 hi'
        obtain ⟨b, h1, h2⟩ := valsIn_get hvi i c hc
        refine ⟨?_, by simp⟩
        have : (0 :: ps).getD (i + 1) 0 = b := by simp [List.getD, h1]
        rw [this]
        simpa using h2
end Go.Proofs.YtfojnhceiabbhaaGreat.Am
/- Calls that get all boxes as they lie, and ends at which they lie so. -/
namespace Go.Proofs.YtfojnhceiabbhaaGreat.Am
open Go Go.RowKit

mutual
theorem ren_idn {n : Nat} {θ : Nat → Nat} (hθ : ∀ b, b < n → θ b = b) : (p : PV) → p.lt n = true → p.ren θ = p
  | .k _, _ | .sl _ _, _ | .eptr _, _ => rfl
  | .osl b _ _ _, h => by simp [PV.lt] at h; simp [PV.ren, hθ b h]
  | .osc b _ _ _ _, h => by simp [PV.lt] at h; simp [PV.ren, hθ b h]
  | .ptr b _, h => by simp [PV.lt] at h; simp [PV.ren, hθ b h]
  | .mref b, h => by simp [PV.lt] at h; simp [PV.ren, hθ b h]
  | .clo fn caps, h => by simp only [PV.ren]; rw [renL_idn hθ caps (by simpa [PV.lt] using h)]
  | .agg cs, h => by simp only [PV.ren]; rw [renL_idn hθ cs (by simpa [PV.lt] using h)]
  | .tup ps, h => by simp only [PV.ren]; rw [renL_idn hθ ps (by simpa [PV.lt] using h)]
theorem renL_idn {n : Nat} {θ : Nat → Nat} (hθ : ∀ b, b < n → θ b = b) : (ps : List PV) → ltL n ps = true → renL θ ps = ps
  | [], _ => rfl
  | p :: ps, h => by
    have h2 : p.lt n = true ∧ ltL n ps = true := by simpa [ltL] using h
    simp only [renL]
    rw [ren_idn hθ p h2.1, renL_idn hθ ps h2.2]
end
theorem thF_range {n m b : Nat} (h : b < n) : thF (List.range n) m b = b := by
  unfold thF
  rw [if_pos (by simpa using h)]
  simp [List.getD, h]
theorem range_getD {n b : Nat} (h : b < n) : (List.range n).getD b 0 = b := by simp [List.getD, h]

/-- All boxes point to boxes of their own. -/
def ltB (n : Nat) (σ : Boxes) : Prop := ∀ (i : Nat) (cs : List PV), σ[i]? = some (some cs) → ltL n cs = true

/-- The end, the boxes as they lie. -/
theorem finI {P : Program} {rs : List ResultVar} {r : PV} {σ' : Boxes} {s : St} (ext : Boxes) (hσ : s.σ = σ' ++ ext) (hres : resPV P s rs = some r) (hlt : r.lt σ'.length = true) (hk : s.k ≤ σ'.length) (hB : ltB σ'.length σ') : FinG P rs (fun p σ2 => p = r ∧ σ2 = σ') s := by
  refine finG_mk (p2 := r) (List.range σ'.length) σ' hres (ren_idn (fun b hb => range_getD hb) r hlt).symm hlt (by simp) hk ?_ List.nodup_range (entB_all _ _ fun i cs hi => ?_) ⟨rfl, rfl⟩
  · rw [List.take_range, Nat.min_eq_left hk]
  · rw [Nat.zero_add]
    have h1 := hB i cs hi
    have hil := (List.getElem?_eq_some_iff.1 hi).1
    refine ⟨?_, h1⟩
    rw [renL_idn (fun b hb => range_getD hb) cs h1, range_getD hil, hσ]
    have hx : (σ' ++ ext)[i]? = some (some cs) := by rw [List.getElem?_append_left hil]; exact hi
    simp [box, hx]

theorem setAll_same (θ : Nat → Nat) : ∀ (σ' pre ext : Boxes), (∀ x ∈ σ', ∀ cs, x = some cs → renL θ cs = cs) → ∀ (σ1 : Boxes), σ1.length = σ'.length → setAll (pre ++ σ1 ++ ext) θ (List.range' pre.length σ'.length) σ' = pre ++ σ' ++ ext
  | [], pre, ext, _, σ1, hl => by
    obtain rfl := List.length_eq_zero_iff.1 hl
    simp [setAll]
  | x :: σ', pre, ext, h, σ1, hl => by
    cases σ1 with
    | nil => simp at hl
    | cons y σ1 =>
      have hx : x.map (renL θ) = x := by
        cases x with
        | none => rfl
        | some cs => simp only [Option.map_some]; rw [h _ (by simp) cs rfl]
      rw [List.length_cons, List.range'_succ, setAll, hx]
      have e : (pre ++ (y :: σ1) ++ ext).set pre.length x = (pre ++ [x]) ++ σ1 ++ ext := by
        rw [List.append_assoc, List.set_append_right _ _ (Nat.le_refl _)]; simp
      rw [e]
      have := setAll_same θ σ' (pre ++ [x]) ext (fun z hz => h z (by simp [hz])) σ1 (by simpa using hl)
      simpa using this
theorem merge_same {σ1 σ' ext : Boxes} (hl : σ1.length = σ'.length) (h : ltB σ'.length σ') : merge (σ1 ++ ext) (List.range σ'.length) σ' = σ' ++ ext := by
  unfold merge
  have hθ : ∀ b, b < σ'.length → thF (List.range σ'.length) (σ1 ++ ext).length b = b := fun b hb => thF_range hb
  have := setAll_same (thF (List.range σ'.length) (σ1 ++ ext).length) σ' [] ext (fun x hx cs e => by
    subst e
    obtain ⟨i, hi, hx⟩ := List.getElem_of_mem hx
    exact renL_idn hθ cs (h i cs (by rw [List.getElem?_eq_getElem hi, hx]))) σ1 hl
  rw [show List.range σ'.length = List.range' 0 σ'.length from List.range_eq_range']
  rw [show List.range σ'.length = List.range' 0 σ'.length from List.range_eq_range'] at this
  simp only [List.nil_append, List.length_nil] at this
  rw [this]
  simp
theorem hbox_same {σc : List (List PV)} {σ : Boxes} {θ : Nat → Nat} {n : Nat} (hθ : ∀ b, b < n → θ b = b) : ∀ (l : List (List PV)) (i0 : Nat), (∀ (i : Nat) (cs : List PV), l[i]? = some cs → σ[i0 + i]? = some (some cs) ∧ ltL n cs = true) → hboxL σ θ n (List.range' i0 l.length) l
  | [], _, _ => by simp
  | cs :: l, i0, h => by
    rw [List.length_cons, List.range'_succ]
    obtain ⟨h1, h2⟩ := h 0 cs rfl
    refine ⟨⟨?_, h2⟩, hbox_same (σc := σc) hθ l (i0 + 1) fun i c hi => ?_⟩
    · rw [renL_idn hθ cs h2]
      rw [Nat.add_zero] at h1
      simp [box, h1]
    · have := h (i + 1) c (by simpa using hi)
      rwa [show i0 + (i + 1) = i0 + 1 + i by omega] at this

section
variable {P : Program} {ops : Array Oper} {rest : List Oper} {Q : St → Prop} {s : St} {o : Oper} {f : Operand} {args : Array Operand} {ts : Array TypeId} {g : FuncId} {caps ps args' : List PV} {r : PV}
/-- A call that gets the first boxes as they lie. -/
theorem doI {σc : List (List PV)} {σ' ext : Boxes} (hc : FnD P g args' σc r σ') (hσ : s.σ = σc.map some ++ ext) (hlen : σ'.length = σc.length) (h1 : ltB σc.length (σc.map some)) (h2 : ltB σc.length σ')
    (ho : o.op = .call { callee := .value f, args := args, argTypes := ts } := by exact rfl) (hcal : calleePV s f = some (g, caps) := by first | exact rfl | simp) (hargs : opds s args.toList = some ps := by first | exact rfl | simp)
    (he : enterable P g = true := by simp) (hren : ps ++ caps = args' := by simp) (hlt : ltL σc.length args' = true := by simp) (hr : r.lt σc.length = true := by simp) : Does P o s (σ' ++ ext) r := by
  have hθ : ∀ b, b < σc.length → thF (List.range σc.length) s.σ.length b = b := fun b hb => thF_range hb
  refine does_fnd (List.range σc.length) hc ho hcal hargs he (by simp) List.nodup_range ?_ (by simpa using hlt) ?_ ?_ ?_
  · rw [renL_idn hθ args' hlt]; exact hren
  · rw [List.length_range, List.range_eq_range', ← List.range_eq_range']
    have := hbox_same (σc := σc) (σ := s.σ) hθ σc 0 fun i cs hi => by
      have hil := (List.getElem?_eq_some_iff.1 hi).1
      have hx : (σc.map some)[i]? = some (some cs) := by rw [List.getElem?_map, hi]; rfl
      refine ⟨?_, h1 i cs hx⟩
      rw [Nat.zero_add, hσ, List.getElem?_append_left (by simpa using hil), hx]
    rwa [← List.range_eq_range'] at this
  · rw [hσ, ← hlen]
    exact merge_same (by simp [hlen]) (by rw [hlen]; exact h2)
  · exact ren_idn hθ r hr
theorem calI {σc : List (List PV)} {σ' ext : Boxes} (hc : FnD P g args' σc r σ') (hσ : s.σ = σc.map some ++ ext) (hlen : σ'.length = σc.length) (h1 : ltB σc.length (σc.map some)) (h2 : ltB σc.length σ')
    (h : @gOps (St.put { s with σ := σ' ++ ext } o.dst r) ⟨P, ops, rest, Q⟩)
    (ho : o.op = .call { callee := .value f, args := args, argTypes := ts } := by exact rfl) (hcal : calleePV s f = some (g, caps) := by first | exact rfl | simp) (hargs : opds s args.toList = some ps := by first | exact rfl | simp) (hw : wantedA s ops o = some true := by simp)
    (he : enterable P g = true := by simp) (hd : dstOk o.dst s.N = true := by first | exact rfl | simp) (hren : ps ++ caps = args' := by simp) (hlt : ltL σc.length args' = true := by simp) (hr : r.lt σc.length = true := by simp) : OpsOk P ops (o :: rest) s Q :=
  ops_step hw fun c ι S a w hrl K QQ hK =>
    doI hc hσ hlen h1 h2 ho hcal hargs he hren hlt hr c ι S a w hrl K QQ fun ι' S' v w' k1 k2 k3 _ => hK ι' S' _ _ w' (Rel.next hrl k1 k2 hd k3) (ops_goH h)
end
end Go.Proofs.YtfojnhceiabbhaaGreat.Am
/- Package rnd: Next, Below, Of. -/
namespace Go.Proofs.YtfojnhceiabbhaaGreat.Am
open Go Go.RowKit

abbrev rE (s g : Int) : PV := .agg [kU s, kU g]
set_option maxRecDepth 20000 in
theorem RNext_fn (s g : Int) : Fn Tryz.prog 98 [rE s g] (.tup [kU (mixM (IntKind.u64.wrap (s + g))), rE (IntKind.u64.wrap (s + g)) g]) := by
  refine fn_go Tryz.func98 rfl ?_
  simp [Tryz.ntmps98]
  refine awp_drawS follows_mix [(0, 0), (0, 0), (2, 0), (0, 0), (0, 0), (1, 0)] 2 2 [] (by kernel_rfl) rfl rfl ?_
  simp
  refine gE_call (kU (mixM (IntKind.u64.wrap (s + g)))) ?_ ?_
  · simp
    exact calO (Mix_fn _)
  simp
  exact finm

theorem odd_inv (g : Int) (h : g % 2 = 1) : ∀ m : Nat, ∃ i q : Int, g * i - 1 = 2 ^ m * q
  | 0 => ⟨0, -1, by simp⟩
  | m + 1 => by
    obtain ⟨i, q, hq⟩ := odd_inv g h m
    by_cases h2 : q % 2 = 0
    · exact ⟨i, q / 2, by rw [hq, Int.pow_succ, Int.mul_assoc]; congr 1; omega⟩
    · refine ⟨i + 2 ^ m, (q + g) / 2, ?_⟩
      have e1 : g * (i + 2 ^ m) - 1 = (g * i - 1) + 2 ^ m * g := by rw [Int.mul_add, Int.mul_comm g (2 ^ m)]; omega
      rw [e1, hq, ← Int.mul_add, Int.pow_succ, Int.mul_assoc]
      congr 1; omega
theorem steps_zero (s g : Int) (h : g % 2 = 1) : ∃ k : Nat, 1 ≤ k ∧ (s + k * g) % 18446744073709551616 = 0 := by
  obtain ⟨i, q, hq⟩ := odd_inv g h 64
  have hp : (2 : Int) ^ 64 = 18446744073709551616 := by decide
  rw [hp] at hq
  obtain ⟨m, hm⟩ : ∃ m : Int, m = (-(s * i)) % 18446744073709551616 := ⟨_, rfl⟩
  have hm0 : 0 ≤ m := by rw [hm]; exact Int.emod_nonneg _ (by decide)
  obtain ⟨t, ht⟩ : ∃ t : Int, m = -(s * i) + 18446744073709551616 * t := by
    refine ⟨-((-(s * i)) / 18446744073709551616), ?_⟩
    rw [hm]
    generalize s * i = X
    omega
  refine ⟨m.toNat + 18446744073709551616, by omega, ?_⟩
  have e0 : ((m.toNat + 18446744073709551616 : Nat) : Int) = m + 18446744073709551616 := by omega
  rw [e0]
  have e1 : s + (m + 18446744073709551616) * g = 18446744073709551616 * (t * g + g - s * q) := by
    have h1 : g * i = 1 + 18446744073709551616 * q := by omega
    have h2 : (s * i) * g = s + 18446744073709551616 * (s * q) := by
      rw [Int.mul_assoc, Int.mul_comm i g, h1, Int.mul_add, Int.mul_one, Int.mul_left_comm]
    rw [ht, Int.add_mul, Int.add_mul, Int.neg_mul, h2, Int.mul_assoc, Int.mul_sub, Int.mul_add]
    omega
  rw [e1]
  exact Int.mul_emod_right _ _
def belowGo (g n lim : Int) : Nat → Int → Int × Int
  | 0, s => (0, s)
  | k + 1, s => if mixM (IntKind.u64.wrap (s + g)) ≤ lim then (mixM (IntKind.u64.wrap (s + g)) % n, IntKind.u64.wrap (s + g)) else belowGo g n lim k (IntKind.u64.wrap (s + g))
noncomputable def belowK (s g : Int) : Nat := open Classical in if h : ∃ k : Nat, 1 ≤ k ∧ (s + k * g) % 18446744073709551616 = 0 then h.choose else 0
noncomputable def belowM (s g n : Int) : Int × Int := belowGo g n (18446744073709551615 - (18446744073709551615 % n + 1) % n) (belowK s g) s
theorem belowK_spec {s g : Int} (h : g % 2 = 1) : 1 ≤ belowK s g ∧ (s + belowK s g * g) % 18446744073709551616 = 0 := by
  have hh := steps_zero s g h
  unfold belowK
  rw [dif_pos hh]
  exact hh.choose_spec
theorem mix_zero : mixM 0 = 0 := by kernel_rfl
theorem belowGo_lt {g n lim : Int} (hn : 0 < n) : ∀ (k : Nat) (s : Int), 0 ≤ (belowGo g n lim k s).1 ∧ (belowGo g n lim k s).1 < n
  | 0, s => ⟨Int.le_refl _, hn⟩
  | k + 1, s => by
    rw [belowGo]
    split
    · exact ⟨Int.emod_nonneg _ (by omega), Int.emod_lt_of_pos _ hn⟩
    · exact belowGo_lt hn k _
theorem belowGo_in {g n lim : Int} : ∀ (k : Nat) (s : Int), In64 s → In64 (belowGo g n lim k s).2
  | 0, s, h => h
  | k + 1, s, h => by
    rw [belowGo]
    split
    · exact in64_wrap _
    · exact belowGo_in k _ (in64_wrap _)
set_option maxRecDepth 20000 in
set_option maxHeartbeats 1000000 in
theorem RBelow_fn (s g n : Int) (hs : In64 s) (hg : In64 g) (ho : g % 2 = 1) (hn : 1 ≤ n) (hn2 : n ≤ 9223372036854775807) : Fn Tryz.prog 92 [rE s g, kI n] (.tup [kI (belowM s g n).1, rE (belowM s g n).2 g, kI 0]) := by
  obtain ⟨g1, g2⟩ := hg
  refine fn_go Tryz.func92 rfl ?_
  have h1 : ¬ n < 1 := by omega
  have hn0 : ¬ n = 0 := by omega
  have e0 : IntKind.u64.wrap n = n := by rw [wrapU]; omega
  have e1 : g.tmod 2 = 1 := by rw [Int.tmod_eq_emod_of_nonneg g1]; exact ho
  have e2 : Int.tmod 18446744073709551615 n = 18446744073709551615 % n := Int.tmod_eq_emod_of_nonneg (by omega)
  obtain ⟨p, hp⟩ : ∃ p, 18446744073709551615 % n = p := ⟨_, rfl⟩
  have hp0 := Int.emod_nonneg 18446744073709551615 (show n ≠ 0 by omega)
  have hp1 := Int.emod_lt_of_pos 18446744073709551615 (show 0 < n by omega)
  rw [hp] at hp0 hp1 e2
  have e3 : IntKind.u64.wrap (p + 1) = p + 1 := by rw [wrapU]; omega
  have e4 : Int.tmod (p + 1) n = (p + 1) % n := Int.tmod_eq_emod_of_nonneg (by omega)
  obtain ⟨q, hq⟩ : ∃ q, (p + 1) % n = q := ⟨_, rfl⟩
  have hq0 := Int.emod_nonneg (p + 1) (show n ≠ 0 by omega)
  have hq1 := Int.emod_lt_of_pos (p + 1) (show 0 < n by omega)
  rw [hq] at hq0 hq1 e4
  have e5 : IntKind.u64.wrap (18446744073709551615 - q) = 18446744073709551615 - q := by rw [wrapU]; omega
  obtain ⟨hk1, hk2⟩ := belowK_spec (s := s) ho
  have hM : belowM s g n = belowGo g n (18446744073709551615 - q) (belowK s g) s := by unfold belowM; rw [hp, hq]
  rw [hM]
  simp [Tryz.ntmps92, h1, e0, e1, e2, e3, e4, hn0]
  refine awp_loop (fun x : Nat × Int => ⟨40, [(2, .ptr 0 0), (5, .ptr 1 0), (7, kU n), (8, kU q)], [some [kU x.2, kU g], some [kU 0, kU 0]], 0⟩)
    (fun x => 1 ≤ x.1 ∧ In64 x.2 ∧ (x.2 + x.1 * g) % 18446744073709551616 = 0 ∧ belowGo g n (18446744073709551615 - q) x.1 x.2 = belowGo g n (18446744073709551615 - q) (belowK s g) s) (fun x => x.1) (belowK s g, s) ?_ ?_ ?_
  · exact entm [0, 1]
  · exact ⟨hk1, hs, hk2, rfl⟩
  · rintro ⟨k, t⟩ ⟨hk, ht, hz, hrun⟩
    simp only at hk ht hz hrun
    obtain ⟨j, rfl⟩ : ∃ j, k = j + 1 := ⟨k - 1, by omega⟩
    refine awp_go ?_
    rw [belowGo] at hrun
    simp
    refine cal (RNext_fn t g) ?_
    obtain ⟨t', ht'⟩ : ∃ t', IntKind.u64.wrap (t + g) = t' := ⟨_, rfl⟩
    have htm : t' = (t + g) % 18446744073709551616 := by rw [← ht', wrapU]
    have hti : In64 t' := ht' ▸ in64_wrap _
    have hmi := mixM_in t'
    rw [ht'] at hrun ⊢
    by_cases hle : mixM t' ≤ 18446744073709551615 - q
    · rw [if_pos hle] at hrun
      have hm1 : Int.tmod (mixM t') n = mixM t' % n := Int.tmod_eq_emod_of_nonneg hmi.1
      have hm2 := Int.emod_nonneg (mixM t') (show n ≠ 0 by omega)
      have hm3 := Int.emod_lt_of_pos (mixM t') (show 0 < n by omega)
      rw [← hrun]
      generalize mixM t' = x at hle hm1 hm2 hm3 ⊢
      have hm4 : IntKind.i64.wrap (x % n) = x % n := wrap_id (by omega) (by omega)
      simp [e5, hle]
      refine awp_drawS follows_mix [(0, 0), (0, 0), (0, 0), (0, 0), (0, 0), (0, 0), (1, 0), (0, 0)] 2 2 [] (by kernel_rfl) rfl rfl ?_
      simp [hm1, hm4, hn0]
      exact finm
    · rw [if_neg hle] at hrun
      have hj : 1 ≤ j := by
        rcases Nat.eq_zero_or_pos j with h0 | h0
        · subst h0
          have e : t' = 0 := by rw [htm, ← hz]; simp
          rw [e, mix_zero] at hle
          omega
        · exact h0
      simp [e5, hle]
      refine ⟨j, t', ⟨hj, hti, ?_, hrun⟩, by omega, entm [0, 1]⟩
      have e6 : ((j + 1 : Nat) : Int) * g = j * g + g := by push_cast; rw [Int.add_mul, Int.one_mul]
      rw [e6] at hz
      rw [htm]
      generalize (j : Int) * g = Y at hz ⊢
      omega
end Go.Proofs.YtfojnhceiabbhaaGreat.Am
/- Package rnd: Of. -/
namespace Go.Proofs.YtfojnhceiabbhaaGreat.Am
open Go Go.RowKit

def xU (a b : Int) : Int := IntKind.u64.wrap ↑((a % 2 ^ IntKind.u64.bits).toNat ^^^ (b % 2 ^ IntKind.u64.bits).toNat)
def ofStep (s n : Int) : Int := xU (mixM (IntKind.u64.wrap (s + 11400714819323198485))) (IntKind.u64.wrap n)
def ofS (l : List Int) : Int := mixM (IntKind.u64.wrap (l.foldl ofStep l.length + 11400714819323198485))
def ofG (l : List Int) : Int := IntKind.u64.wrap ↑((mixM (IntKind.u64.wrap (ofS l + 11400714819323198485)) % 2 ^ IntKind.u64.bits).toNat ||| 1 % 2 ^ IntKind.u64.bits)
theorem ofS_in (l : List Int) : In64 (ofS l) := mixM_in _
theorem ofG_in (l : List Int) : In64 (ofG l) := in64_wrap _
theorem ofG_odd (l : List Int) : ofG l % 2 = 1 := by
  unfold ofG
  have e1 : (1 % 2 ^ IntKind.u64.bits : Nat) = 1 := by decide
  rw [e1, wrapU]
  generalize (mixM (IntKind.u64.wrap (ofS l + 11400714819323198485)) % 2 ^ IntKind.u64.bits).toNat = x
  have h : (x ||| 1) % 2 = 1 := by
    have h1 := Nat.testBit_or x 1 0
    rw [Nat.testBit_zero, Nat.testBit_zero, Nat.testBit_zero] at h1
    have h2 : decide (1 % 2 = 1) = true := rfl
    rw [h2, Bool.or_true] at h1
    exact of_decide_eq_true h1
  omega
set_option maxRecDepth 20000 in
theorem Of_fn (l : List Int) (hl : l.length ≤ 1000000) : Fn Tryz.prog 26 [slI l] (rE (ofS l) (ofG l)) := by
  refine fn_go Tryz.func26 rfl ?_
  have e0 : IntKind.u64.wrap (l.length : Int) = l.length := by rw [wrapU]; omega
  simp [Tryz.ntmps26, e0]
  refine awp_loop (fun x : Nat × Int => ⟨31, [(2, .ptr 0 0), (3, kU x.2), (9, slI l), (10, kI l.length), (11, kI x.1)], [some [kU 0, kU 0]], 0⟩)
    (fun x => x.1 ≤ l.length ∧ (l.drop x.1).foldl ofStep x.2 = l.foldl ofStep l.length) (fun x => l.length - x.1) (0, (l.length : Int)) ?_ ?_ ?_
  · exact entm [0]
  · simp
  · rintro ⟨i, s⟩ ⟨hi, hrun⟩
    simp only at hi hrun
    refine awp_go ?_
    by_cases hlt : i < l.length
    · rw [List.drop_eq_getElem_cons hlt, List.foldl_cons] at hrun
      simp [hlt]
      refine cal (Mix_fn _) ?_ (hren := by rfl)
      simp
      have hw : IntKind.i64.wrap ((i : Int) + 1) = (i : Int) + 1 := wrap_id (by omega) (by omega)
      exact ⟨i + 1, ofStep s l[i], ⟨by omega, hrun⟩, by omega, entm [0] (hT := by simp [ofStep, xU, hw])⟩
    · obtain rfl : i = l.length := by omega
      rw [List.drop_length, List.foldl_nil] at hrun
      simp
      refine cal (Mix_fn _) ?_ (hren := by rfl)
      simp
      refine cal (Mix_fn _) ?_ (hren := by rfl)
      simp
      exact finm (by simp [ofS, ofG, hrun])
end Go.Proofs.YtfojnhceiabbhaaGreat.Am
/- Package fix: Mul. -/
namespace Go.Proofs.YtfojnhceiabbhaaGreat.Am
open Go Go.RowKit

set_option maxRecDepth 20000 in
theorem Mul64_ex (x y : Int) : ∃ hi lo, In64 hi ∧ In64 lo ∧ Fn Tryz.prog 111 [kU x, kU y] (.tup [kU hi, kU lo]) := by
  apply Exists.intro
  apply Exists.intro
  apply And.intro ?h1
  apply And.intro ?h2
  case h.h =>
    refine fn_go Tryz.func111 rfl ?_
    simp [Tryz.ntmps111]
    refine finm (h := ?_)
    simp
    exact ⟨rfl, rfl⟩
  · exact in64_wrap _
  · exact in64_wrap _

set_option maxRecDepth 20000 in
theorem Len64_k : Fn Tryz.prog 108 [kU 65536] (kI 17) := by
  refine fn_go Tryz.func108 rfl ?_
  simp [Tryz.ntmps108, IntKind.bits]
  have hw : IntKind.u8.wrap 1 = 1 := by decide
  rw [hw]
  simp [ba_get]
  exact finm (by simp [IntKind.wrap_i64])
set_option maxRecDepth 20000 in
theorem Lead_k : Fn Tryz.prog 118 [kU 65536] (kI 47) := by
  refine fn_go Tryz.func118 rfl ?_
  simp [Tryz.ntmps118]
  refine cal Len64_k ?_
  simp
  exact finm (by simp [IntKind.wrap_i64])
set_option maxRecDepth 20000 in
set_option maxHeartbeats 1000000 in
theorem Div64_ex (hi lo : Int) (h1 : In64 hi) (h2 : In64 lo) (h3 : hi < 65536) : ∃ q r, In64 q ∧ In64 r ∧ Fn Tryz.prog 112 [kU hi, kU lo, kU 65536] (.tup [kU q, kU r]) := by
  obtain ⟨a1, a2⟩ := h1
  obtain ⟨b1, b2⟩ := h2
  have hle : ¬ (65536 : Int) ≤ hi := by omega
  by_cases hz : hi = 0
  · subst hz
    have e1 : Int.tdiv lo 65536 = lo / 65536 := Int.tdiv_eq_ediv_of_nonneg b1
    have e2 : Int.tmod lo 65536 = lo % 65536 := Int.tmod_eq_emod_of_nonneg b1
    have e3 : IntKind.u64.wrap (lo / 65536) = lo / 65536 := wrap_in64 ⟨by omega, by omega⟩
    have e4 : IntKind.u64.wrap (lo % 65536) = lo % 65536 := wrap_in64 ⟨by omega, by omega⟩
    refine ⟨lo / 65536, lo % 65536, ⟨by omega, by omega⟩, ⟨by omega, by omega⟩, ?_⟩
    refine fn_go Tryz.func112 rfl ?_
    simp [Tryz.ntmps112]
    refine awp_draw follows_mix [] [(0, [0]), (0, [0]), (0, [0]), (0, [0]), (0, [0]), (0, [0]), (0, [0]), (0, [0])] 0 (by kernel_rfl) rfl ?_
    simp [e1, e2, e3, e4]
    exact finm
  · have w0 : IntKind.u64.wrap 0 = 0 := by decide
    have m47 : min 47 IntKind.u64.bits = 47 := by decide
    have m17 : min 17 IntKind.u64.bits = 17 := by decide
    have m32 : min 32 IntKind.u64.bits = 32 := by decide
    have wz : IntKind.u64.wrap ((9223372036854775808 % 2 ^ IntKind.u64.bits &&& 4294967295 % 2 ^ IntKind.u64.bits : Nat) : Int) = 0 := by decide +kernel
    have w47 : IntKind.u64.wrap 47 = 47 := by decide
    have w63 : IntKind.u64.wrap 9223372036854775808 = 9223372036854775808 := by decide
    have w17 : IntKind.u64.wrap 17 = 17 := by decide
    have eL : lo.fdiv 131072 = lo / 131072 := Int.fdiv_eq_ediv_of_nonneg _ (by decide)
    have eH : IntKind.u64.wrap (hi * 140737488355328) = hi * 140737488355328 := wrap_in64 ⟨by omega, by omega⟩
    obtain ⟨U, hU⟩ : ∃ U, IntKind.u64.wrap ↑((hi * 140737488355328 % 2 ^ IntKind.u64.bits).toNat ||| (lo / 131072 % 2 ^ IntKind.u64.bits).toNat) = U := ⟨_, rfl⟩
    have hU1 : 0 ≤ U ∧ U < 9223372036854775808 := by
      have e0 : (2 : Int) ^ IntKind.u64.bits = 18446744073709551616 := by decide
      have e1 : (hi * 140737488355328 % 18446744073709551616).toNat = (hi * 140737488355328).toNat := by omega
      have e2 : (lo / 131072 % 18446744073709551616).toNat = (lo / 131072).toNat := by omega
      have e3 := Nat.or_lt_two_pow (x := (hi * 140737488355328).toNat) (y := (lo / 131072).toNat) (n := 63) (by omega) (by omega)
      rw [e0, e1, e2] at hU
      generalize (hi * 140737488355328).toNat ||| (lo / 131072).toNat = Z at hU e3
      rw [← hU, wrapU]; omega
    obtain ⟨Q, hQ⟩ : ∃ Q, U / 2147483648 = Q := ⟨_, rfl⟩
    have eQ : U.tdiv 2147483648 = Q := by rw [Int.tdiv_eq_ediv_of_nonneg hU1.1, hQ]
    have eQ2 : IntKind.u64.wrap Q = Q := wrap_in64 ⟨by omega, by omega⟩
    have eQ3 : IntKind.u64.wrap (Q * 2147483648) = Q * 2147483648 := wrap_in64 ⟨by omega, by omega⟩
    obtain ⟨R, hR⟩ : ∃ R, U - Q * 2147483648 = R := ⟨_, rfl⟩
    have eR : IntKind.u64.wrap R = R := wrap_in64 ⟨by omega, by omega⟩
    obtain ⟨M, hM⟩ : ∃ M, IntKind.u64.wrap (lo * 140737488355328) = M := ⟨_, rfl⟩
    have hM1 := in64_wrap (lo * 140737488355328)
    rw [hM] at hM1
    have eM : M.fdiv 4294967296 = M / 4294967296 := Int.fdiv_eq_ediv_of_nonneg _ (by decide)
    obtain ⟨A, hA⟩ : ∃ A, IntKind.u64.wrap ↑((M % 2 ^ IntKind.u64.bits).toNat &&& 4294967295 % 2 ^ IntKind.u64.bits) = A := ⟨_, rfl⟩
    have hq1 : ¬ (4294967296 : Int) ≤ Q := by omega
    have hn1 := in64_wrap (IntKind.u64.wrap (4294967296 * R) + M / 4294967296)
    have hq2 : ¬ IntKind.u64.wrap (IntKind.u64.wrap (4294967296 * R) + M / 4294967296) < 0 := by obtain ⟨h, _⟩ := hn1; omega
    have hS : IntKind.u64.wrap (IntKind.u64.wrap (IntKind.u64.wrap (U * 4294967296) + M / 4294967296) - IntKind.u64.wrap (Q * 9223372036854775808)) = R * 4294967296 + M / 4294967296 := by
      obtain ⟨m1, m2⟩ := hM1
      simp only [wrapU]; omega
    obtain ⟨S, hSd⟩ : ∃ S, R * 4294967296 + M / 4294967296 = S := ⟨_, rfl⟩
    rw [hSd] at hS
    have hS1 : 0 ≤ S ∧ S < 9223372036854775808 := by obtain ⟨m1, m2⟩ := hM1; omega
    obtain ⟨q2, hq2d⟩ : ∃ q2, S / 2147483648 = q2 := ⟨_, rfl⟩
    have f1 : S.tdiv 2147483648 = q2 := by rw [Int.tdiv_eq_ediv_of_nonneg hS1.1, hq2d]
    have f2 : IntKind.u64.wrap q2 = q2 := wrap_in64 ⟨by omega, by omega⟩
    have f3 : ¬ (4294967296 : Int) ≤ q2 := by omega
    have hn3 := in64_wrap (IntKind.u64.wrap (4294967296 * IntKind.u64.wrap (S - IntKind.u64.wrap (q2 * 2147483648))) + A)
    have hq4 : ¬ IntKind.u64.wrap (IntKind.u64.wrap (4294967296 * IntKind.u64.wrap (S - IntKind.u64.wrap (q2 * 2147483648))) + A) < 0 := by obtain ⟨h, _⟩ := hn3; omega
    apply Exists.intro
    apply Exists.intro
    apply And.intro ?h1
    apply And.intro ?h2
    case h.h =>
      refine fn_go Tryz.func112 rfl ?_
      simp [Tryz.ntmps112, hle, hz]
      refine cal Lead_k ?_
      simp [m47, m17, m32, w47, w63, w17, wz, eL, eH, hU, eQ, eQ2, eQ3, hR, eR, hM, eM, hA]
      refine awp_loop (fun x : Nat => ⟨135, [(2, kU 9223372036854775808), (8, kU 47), (9, kU 2147483648), (10, kU 0), (11, kU U), (13, kU (M / 4294967296)), (14, kU A), (15, kU Q), (16, kU R)], [], 0⟩) (fun _ => True) (fun x => x) 0 ?_ ?_ ?_
      · exact entm [] 
      · trivial
      · intro _ _
        refine awp_go ?_
        simp [hq1, hq2, w0, hS, f1, f2]
        refine awp_loop (fun x : Nat => ⟨135, [(2, kU 9223372036854775808), (8, kU 47), (9, kU 2147483648), (10, kU 0), (14, kU A), (15, kU Q), (16, kU (IntKind.u64.wrap (S - IntKind.u64.wrap (q2 * 2147483648)))), (17, kU S), (18, kU q2)], [], 0⟩) (fun _ => True) (fun x => x) 0 ?_ ?_ ?_
        · exact entm []
        · trivial
        · intro _ _
          refine awp_go ?_
          simp [f3, hq4, w0, m47]
          refine finm (h := ?_)
          simp
          exact ⟨rfl, rfl⟩
    · have hX := in64_wrap (IntKind.u64.wrap (IntKind.u64.wrap (S * 4294967296) + A) - IntKind.u64.wrap (q2 * 9223372036854775808))
      generalize IntKind.u64.wrap (IntKind.u64.wrap (IntKind.u64.wrap (S * 4294967296) + A) - IntKind.u64.wrap (q2 * 9223372036854775808)) = X at hX ⊢
      obtain ⟨x1, x2⟩ := hX
      rw [Int.fdiv_eq_ediv_of_nonneg _ (by decide)]
      exact ⟨by omega, by omega⟩
    · exact in64_wrap _

set_option maxRecDepth 20000 in
theorem Clamp_any (a : Int) : ∃ b, -1099511627776 ≤ b ∧ b ≤ 1099511627776 ∧ Fn Tryz.prog 109 [kI a] (kI b) := by
  by_cases h1 : a < -1099511627776
  · refine ⟨-1099511627776, by omega, by omega, fn_go Tryz.func109 rfl ?_⟩
    have h2 : ¬ (-1099511627776 : Int) < a := by omega
    simp [Tryz.ntmps109, h1, h2]
    exact finm
  · by_cases h3 : a ≤ 1099511627776
    · exact ⟨a, by omega, h3, Clamp_fn a (by omega) h3⟩
    · refine ⟨1099511627776, by omega, by omega, fn_go Tryz.func109 rfl ?_⟩
      have h2 : (-1099511627776 : Int) < a := by omega
      have h4 : ¬ a < 1099511627776 := by omega
      have h5 : (1099511627776 : Int) < a := by omega
      simp [Tryz.ntmps109, h1, h2, h4, h5]
      exact finm
set_option maxRecDepth 20000 in
theorem mag_fn (a : Int) (h1 : -1099511627776 ≤ a) (h2 : a ≤ 1099511627776) : Fn Tryz.prog 110 [kI a] (kU (if a < 0 then -a else a)) := by
  refine fn_go Tryz.func110 rfl ?_
  by_cases h : a < 0
  · have e1 : IntKind.i64.wrap (-a) = -a := wrap_id (by omega) (by omega)
    have e2 : IntKind.u64.wrap (-a) = -a := wrap_in64 ⟨by omega, by omega⟩
    simp [Tryz.ntmps110, h, e1, e2]
    exact finm
  · have e2 : IntKind.u64.wrap a = a := wrap_in64 ⟨by omega, by omega⟩
    simp [Tryz.ntmps110, h, e2]
    exact finm

set_option maxRecDepth 20000 in
set_option maxHeartbeats 1000000 in
theorem MulDiv_ex (a b : Int) : ∃ r, Fn Tryz.prog 97 [kI a, kI b, kI 65536] (kI r) := by
  obtain ⟨a', a1, a2, hA⟩ := Clamp_any a
  obtain ⟨b', b1, b2, hB⟩ := Clamp_any b
  have hC := Clamp_fn 65536 (by omega) (by omega)
  have hma := mag_fn a' a1 a2
  have hmb := mag_fn b' b1 b2
  have hmc := mag_fn 65536 (by omega) (by omega)
  rw [if_neg (by omega)] at hmc
  obtain ⟨x, hx⟩ : ∃ x, (if a' < 0 then -a' else a') = x := ⟨_, rfl⟩
  obtain ⟨y, hy⟩ : ∃ y, (if b' < 0 then -b' else b') = y := ⟨_, rfl⟩
  rw [hx] at hma
  rw [hy] at hmb
  obtain ⟨hi, lo, hhi, hlo, hMul⟩ := Mul64_ex x y
  have h65 : IntKind.u64.wrap 1099511627777 = 1099511627777 := by decide
  by_cases hge : 65536 ≤ hi
  · by_cases hb : b' < 0 <;> by_cases ha : a' < 0
    all_goals
      apply Exists.intro
      refine fn_go Tryz.func97 rfl ?_
      simp [Tryz.ntmps97]
      refine cal hA ?_
      simp
      refine cal hB ?_
      simp
      refine cal hC ?_
      simp [ha, hb]
      refine cal hmc ?_
      simp
      refine cal hma ?_
      simp
      refine cal hmb ?_
      simp
      refine cal hMul ?_
      simp [hge]
      exact finm (h := by simp; rfl)
  · obtain ⟨q, r, hqi, hri, hDiv⟩ := Div64_ex hi lo hhi hlo (by omega)
    by_cases hq : 1099511627776 < q
    · obtain ⟨k1, _, _, hK1⟩ := Clamp_any 1099511627777
      obtain ⟨k3, _, _, hK3⟩ := Clamp_any (-1099511627777)
      have v1 : IntKind.i64.wrap 1099511627777 = 1099511627777 := by decide
      have v2 : IntKind.i64.wrap (-1099511627777) = -1099511627777 := by decide
      have v3 : IntKind.u64.wrap 65536 = 65536 := by decide
      by_cases hb : b' < 0
      · by_cases ha : a' < 0
        · skip
          apply Exists.intro
          refine fn_go Tryz.func97 rfl ?_
          simp [Tryz.ntmps97]
          refine cal hA ?_
          simp
          refine cal hB ?_
          simp
          refine cal hC ?_
          simp [ha, hb]
          refine cal hmc ?_
          simp
          refine cal hma ?_
          simp
          refine cal hmb ?_
          simp
          refine cal hMul ?_
          simp [hge]
          refine cal hDiv ?_
          simp [hq, v1, v2, v3]
          refine cal hK1 ?_
          simp
          exact finm (h := by simp; rfl)
        · skip
          apply Exists.intro
          refine fn_go Tryz.func97 rfl ?_
          simp [Tryz.ntmps97]
          refine cal hA ?_
          simp
          refine cal hB ?_
          simp
          refine cal hC ?_
          simp [ha, hb]
          refine cal hmc ?_
          simp
          refine cal hma ?_
          simp
          refine cal hmb ?_
          simp
          refine cal hMul ?_
          simp [hge]
          refine cal hDiv ?_
          simp [hq, v1, v2, v3]
          refine cal hK3 ?_
          simp
          exact finm (h := by simp; rfl)
      · by_cases ha : a' < 0
        · skip
          apply Exists.intro
          refine fn_go Tryz.func97 rfl ?_
          simp [Tryz.ntmps97]
          refine cal hA ?_
          simp
          refine cal hB ?_
          simp
          refine cal hC ?_
          simp [ha, hb]
          refine cal hmc ?_
          simp
          refine cal hma ?_
          simp
          refine cal hmb ?_
          simp
          refine cal hMul ?_
          simp [hge]
          refine cal hDiv ?_
          simp [hq, v1, v2, v3]
          refine cal hK3 ?_
          simp
          exact finm (h := by simp; rfl)
        · skip
          apply Exists.intro
          refine fn_go Tryz.func97 rfl ?_
          simp [Tryz.ntmps97]
          refine cal hA ?_
          simp
          refine cal hB ?_
          simp
          refine cal hC ?_
          simp [ha, hb]
          refine cal hmc ?_
          simp
          refine cal hma ?_
          simp
          refine cal hmb ?_
          simp
          refine cal hMul ?_
          simp [hge]
          refine cal hDiv ?_
          simp [hq, v1, v2, v3]
          refine cal hK1 ?_
          simp
          exact finm (h := by simp; rfl)
    · have hnb : 0 ≤ q ∧ q ≤ 1099511627776 := by
        obtain ⟨q1, q2⟩ := hqi
        omega
      have w1 : IntKind.i64.wrap q = q := wrap_id (by omega) (by omega)
      have w2 : IntKind.i64.wrap (q + 1) = q + 1 := wrap_id (by omega) (by omega)
      have w3 : IntKind.i64.wrap (-q) = -q := wrap_id (by omega) (by omega)
      obtain ⟨k1, _, _, hK1⟩ := Clamp_any q
      obtain ⟨k2, _, _, hK2⟩ := Clamp_any (q + 1)
      obtain ⟨k3, _, _, hK3⟩ := Clamp_any (-q)
      obtain ⟨k4, _, _, hK4⟩ := Clamp_any (IntKind.i64.wrap (-(q + 1)))
      by_cases hb : b' < 0
      · by_cases ha : a' < 0
        · by_cases c1 : IntKind.u64.wrap (65536 - r) ≤ r
          · skip
            apply Exists.intro
            refine fn_go Tryz.func97 rfl ?_
            simp [Tryz.ntmps97]
            refine cal hA ?_
            simp
            refine cal hB ?_
            simp
            refine cal hC ?_
            simp [ha, hb]
            refine cal hmc ?_
            simp
            refine cal hma ?_
            simp
            refine cal hmb ?_
            simp
            refine cal hMul ?_
            simp [hge]
            refine cal hDiv ?_
            simp [hq, c1, w1, w2, w3]
            refine cal hK2 ?_
            simp
            exact finm (h := by simp; rfl)
          · skip
            apply Exists.intro
            refine fn_go Tryz.func97 rfl ?_
            simp [Tryz.ntmps97]
            refine cal hA ?_
            simp
            refine cal hB ?_
            simp
            refine cal hC ?_
            simp [ha, hb]
            refine cal hmc ?_
            simp
            refine cal hma ?_
            simp
            refine cal hmb ?_
            simp
            refine cal hMul ?_
            simp [hge]
            refine cal hDiv ?_
            simp [hq, c1, w1, w2, w3]
            refine cal hK1 ?_
            simp
            exact finm (h := by simp; rfl)
        · by_cases c2 : IntKind.u64.wrap (65536 - r) < r
          · skip
            apply Exists.intro
            refine fn_go Tryz.func97 rfl ?_
            simp [Tryz.ntmps97]
            refine cal hA ?_
            simp
            refine cal hB ?_
            simp
            refine cal hC ?_
            simp [ha, hb]
            refine cal hmc ?_
            simp
            refine cal hma ?_
            simp
            refine cal hmb ?_
            simp
            refine cal hMul ?_
            simp [hge]
            refine cal hDiv ?_
            simp [hq, c2, w1, w2, w3]
            refine cal hK4 ?_
            simp
            exact finm (h := by simp; rfl)
          · skip
            apply Exists.intro
            refine fn_go Tryz.func97 rfl ?_
            simp [Tryz.ntmps97]
            refine cal hA ?_
            simp
            refine cal hB ?_
            simp
            refine cal hC ?_
            simp [ha, hb]
            refine cal hmc ?_
            simp
            refine cal hma ?_
            simp
            refine cal hmb ?_
            simp
            refine cal hMul ?_
            simp [hge]
            refine cal hDiv ?_
            simp [hq, c2, w1, w2, w3]
            refine cal hK3 ?_
            simp
            exact finm (h := by simp; rfl)
      · by_cases ha : a' < 0
        · by_cases c2 : IntKind.u64.wrap (65536 - r) < r
          · skip
            apply Exists.intro
            refine fn_go Tryz.func97 rfl ?_
            simp [Tryz.ntmps97]
            refine cal hA ?_
            simp
            refine cal hB ?_
            simp
            refine cal hC ?_
            simp [ha, hb]
            refine cal hmc ?_
            simp
            refine cal hma ?_
            simp
            refine cal hmb ?_
            simp
            refine cal hMul ?_
            simp [hge]
            refine cal hDiv ?_
            simp [hq, c2, w1, w2, w3]
            refine cal hK4 ?_
            simp
            exact finm (h := by simp; rfl)
          · skip
            apply Exists.intro
            refine fn_go Tryz.func97 rfl ?_
            simp [Tryz.ntmps97]
            refine cal hA ?_
            simp
            refine cal hB ?_
            simp
            refine cal hC ?_
            simp [ha, hb]
            refine cal hmc ?_
            simp
            refine cal hma ?_
            simp
            refine cal hmb ?_
            simp
            refine cal hMul ?_
            simp [hge]
            refine cal hDiv ?_
            simp [hq, c2, w1, w2, w3]
            refine cal hK3 ?_
            simp
            exact finm (h := by simp; rfl)
        · by_cases c1 : IntKind.u64.wrap (65536 - r) ≤ r
          · skip
            apply Exists.intro
            refine fn_go Tryz.func97 rfl ?_
            simp [Tryz.ntmps97]
            refine cal hA ?_
            simp
            refine cal hB ?_
            simp
            refine cal hC ?_
            simp [ha, hb]
            refine cal hmc ?_
            simp
            refine cal hma ?_
            simp
            refine cal hmb ?_
            simp
            refine cal hMul ?_
            simp [hge]
            refine cal hDiv ?_
            simp [hq, c1, w1, w2, w3]
            refine cal hK2 ?_
            simp
            exact finm (h := by simp; rfl)
          · skip
            apply Exists.intro
            refine fn_go Tryz.func97 rfl ?_
            simp [Tryz.ntmps97]
            refine cal hA ?_
            simp
            refine cal hB ?_
            simp
            refine cal hC ?_
            simp [ha, hb]
            refine cal hmc ?_
            simp
            refine cal hma ?_
            simp
            refine cal hmb ?_
            simp
            refine cal hMul ?_
            simp [hge]
            refine cal hDiv ?_
            simp [hq, c1, w1, w2, w3]
            refine cal hK1 ?_
            simp
            exact finm (h := by simp; rfl)
set_option maxRecDepth 20000 in
theorem Mul_ex (a b : Int) : ∃ r, Fn Tryz.prog 91 [kI a, kI b] (kI r) := by
  obtain ⟨r, hr⟩ := MulDiv_ex a b
  refine ⟨r, fn_go Tryz.func91 rfl ?_⟩
  simp [Tryz.ntmps91]
  refine cal hr ?_
  simp
  exact finm
noncomputable def mulF (a b : Int) : Int := (Mul_ex a b).choose
theorem Mul_fn (a b : Int) : Fn Tryz.prog 91 [kI a, kI b] (kI (mulF a b)) := (Mul_ex a b).choose_spec
end Go.Proofs.YtfojnhceiabbhaaGreat.Am
/- Package system: vals, arg. -/
namespace Go.Proofs.YtfojnhceiabbhaaGreat.Am
open Go Go.RowKit

/-- What a runner has that does not change in a round. -/
structure RC where
  ks : List GKind
  s : GSystem
  N : Int
  G : Int
  idx : Int
/-- What changes. -/
structure RS where
  comps : List GComp
  rs : Int
  rg : Int
  cmds : List GCmd
  evs : List GEvent
abbrev runC (c : RC) (cp : PV) (s g : Int) (cm ev : PV) : List PV :=
  [.sl 2 (c.ks.map GKind.e), kS c.s.Name, slI c.s.With, slI c.s.Without, slI c.s.Reads, slI c.s.Writes, .sl 11 (c.s.Ops.map GOp.e), .sl 2 (c.s.Spawn.map GComp.e), kI c.N, kI c.G, cp, kU s, kU g, cm, ev, kI c.idx]

theorem cellsD_k : ∀ (l : List GComp) (ps : List Nat), l.length = ps.length → ∀ (i : Nat) (hi : i < l.length), (cellsD l ps)[i * 2]? = some (kI l[i].Kind)
  | [], _, _, i, hi => by simp at hi
  | c :: l, [], h, i, hi => by simp at h
  | c :: l, b :: ps, h, 0, hi => rfl
  | c :: l, b :: ps, h, i + 1, hi => by
    rw [show (i + 1) * 2 = i * 2 + 1 + 1 by omega]
    simp only [cellsD, List.getElem?_cons_succ, List.getElem_cons_succ]
    exact cellsD_k l ps (by simpa using h) i (by simpa using hi)
theorem cellsD_v : ∀ (l : List GComp) (ps : List Nat), l.length = ps.length → ∀ (i : Nat) (hi : i < l.length), (cellsD l ps)[i * 2 + 1]? = some (.osl (ps.getD i 0) 1 0 l[i].Vals.length)
  | [], _, _, i, hi => by simp at hi
  | c :: l, [], h, i, hi => by simp at h
  | c :: l, b :: ps, h, 0, hi => rfl
  | c :: l, b :: ps, h, i + 1, hi => by
    rw [show (i + 1) * 2 + 1 = i * 2 + 1 + 1 + 1 by omega]
    simp only [cellsD, List.getElem?_cons_succ, List.getElem_cons_succ]
    exact cellsD_v l ps (by simpa using h) i (by simpa using hi)

/-- The place of the component of a kind. -/
def atK (l : List GComp) (k : Int) : Nat := l.findIdx fun c => decide (c.Kind = k)
theorem atK_spec {l : List GComp} {k : Int} (h : atK l k < l.length) : (l[atK l k]).Kind = k ∧ ∀ j (hj : j < atK l k), (l[j]'(by omega)).Kind ≠ k := by
  have h1 := List.findIdx_getElem (xs := l) (p := fun c : GComp => decide (c.Kind = k)) (w := h)
  refine ⟨of_decide_eq_true h1, fun j hj => ?_⟩
  have := List.not_of_lt_findIdx (xs := l) (p := fun c : GComp => decide (c.Kind = k)) hj
  exact of_decide_eq_false (by simpa using this)

set_option maxRecDepth 20000 in
theorem vals_fn (c : RC) (l : List GComp) (cm ev : PV) (s g k : Int) (σc : List (List PV)) (h0 : σc[0]? = some (runC c (.osl 1 2 0 l.length) s g cm ev)) (h1 : σc[1]? = some (cellsD l (List.range' 4 l.length))) (hB : ltB σc.length (σc.map some))
    (hl : l.length ≤ 1000000) (hat : atK l k < l.length) (h4 : 4 + l.length ≤ σc.length) : FnD Tryz.prog 62 [.ptr 0 0, kI k] σc (.osl (4 + atK l k) 1 0 (l[atK l k]).Vals.length) (σc.map some) := by
  have hk := cellsD_k l (List.range' 4 l.length) (by simp)
  have hv := cellsD_v l (List.range' 4 l.length) (by simp)
  have hcl := cellsD_len l (List.range' 4 l.length) (by simp)
  generalize cellsD l (List.range' 4 l.length) = C at *
  obtain ⟨hat1, hat2⟩ := atK_spec hat
  refine fnd_go Tryz.func62 rfl ?_
  simp [Tryz.ntmps62, h0]
  refine awp_loop (fun i : Nat => ⟨36, [(0, .ptr 0 0), (1, kI k), (11, kI l.length), (12, kI i)], σc.map some, σc.length⟩) (fun i => i ≤ atK l k) (fun i => l.length - i) 0 ?_ ?_ ?_
  · exact Ent.refl _ |>.trans (ent_T [(0, .ptr 0 0), (1, kI k), (11, kI l.length), (12, kI 0)])
  · simp
  · intro i hi
    have hlt : i < l.length := by omega
    have hki := hk i hlt
    refine awp_go ?_
    obtain ⟨hkl, hki⟩ := List.getElem?_eq_some_iff.1 hki
    simp [hlt, h0, h1, hcl, hki]
    by_cases he : (l[i]).Kind = k
    · have hia : i = atK l k := by
        rcases Nat.lt_or_ge i (atK l k) with h | h
        · exact absurd he (hat2 i h)
        · omega
      have hvi := hv i hlt
      have hgd : (List.range' 4 l.length).getD i 0 = 4 + i := by simp [List.getD, hlt]
      rw [hgd] at hvi
      obtain ⟨hvl, hvj⟩ := List.getElem?_eq_some_iff.1 hvi
      simp [he, h0, h1, hcl, hvi, hvj, hlt]
      subst hia
      refine finI (σ' := σc.map some) (r := .osl (4 + atK l k) 1 0 (l[atK l k]).Vals.length) [] (by simp) ?_ ?_ ?_ ?_
      · simp
      · simp; omega
      · simp
      · simpa using hB
    · have hil : i + 1 ≤ atK l k := by
        rcases Nat.lt_or_ge i (atK l k) with h | h
        · exact h
        · have : i = atK l k := by omega
          subst this
          exact absurd hat1 he
      simp [he]
      rw [wrap_id (by omega) (by omega)]
      exact ⟨i + 1, by omega, by omega, ent_T [(0, .ptr 0 0), (1, kI k), (11, kI l.length), (12, kI (i + 1 : Nat))]⟩
end Go.Proofs.YtfojnhceiabbhaaGreat.Am
/- Package system: arg, sets, two, value. -/
namespace Go.Proofs.YtfojnhceiabbhaaGreat.Am
open Go Go.RowKit

/-- The values of the component of a kind. -/
def valsK (l : List GComp) (k : Int) : List Int := if h : atK l k < l.length then (l[atK l k]).Vals else []
def argV (l : List GComp) (a : GArg) : Int := if a.Has = true then (valsK l a.Ref.Kind).getD a.Ref.Field.toNat 0 else a.N
/-- There is such an argument. -/
def ArgOk (l : List GComp) (a : GArg) : Prop := a.Has = true → ∃ h : atK l a.Ref.Kind < l.length, 0 ≤ a.Ref.Field ∧ a.Ref.Field < (l[atK l a.Ref.Kind]).Vals.length
/-- All boxes of a runner. -/
structure RunB (c : RC) (l : List GComp) (s g : Int) (cm ev : PV) (σc : List (List PV)) : Prop where
  h0 : σc[0]? = some (runC c (.osl 1 2 0 l.length) s g cm ev)
  h1 : σc[1]? = some (cellsD l (List.range' 4 l.length))
  hv : ∀ i (h : i < l.length), σc[4 + i]? = some ((l[i]).Vals.map kI)
  hB : ltB σc.length (σc.map some)
  h4 : 4 + l.length ≤ σc.length

set_option maxRecDepth 20000 in
theorem arg_fn (c : RC) (l : List GComp) (cm ev : PV) (s g : Int) (a : GArg) (σc : List (List PV)) (hR : RunB c l s g cm ev σc) (hl : l.length ≤ 1000000) (ha : ArgOk l a) :
    FnD Tryz.prog 58 [.ptr 0 0, .agg a.e] σc (kI (argV l a)) (σc.map some) := by
  obtain ⟨h0, h1, hv, hB, h4⟩ := hR
  refine fnd_go Tryz.func58 rfl ?_
  by_cases hh : a.Has = true
  · obtain ⟨hat, hf0, hf1⟩ := ha hh
    have hV := vals_fn c l cm ev s g a.Ref.Kind σc h0 h1 hB hl hat h4
    have hvi := hv _ hat
    obtain ⟨f, hf⟩ : ∃ f : Nat, a.Ref.Field = f := ⟨a.Ref.Field.toNat, by omega⟩
    have hr : argV l a = (l[atK l a.Ref.Kind]).Vals.getD f 0 := by
      have hfl : f < (l[atK l a.Ref.Kind]).Vals.length := by omega
      simp [argV, hh, valsK, hat, hf]
    have hfl : f < (l[atK l a.Ref.Kind]).Vals.length := by omega
    rw [hr]
    generalize (l[atK l a.Ref.Kind]).Vals = V at *
    have hgd : V.getD f 0 = V[f] := by simp [List.getD, hfl]
    rw [hgd]
    simp [Tryz.ntmps58, hh]
    refine awp_draw follows_mix [4] [(0, [0]), (0, [0]), (0, [0]), (0, [0]), (3, [0]), (0, [0, 1]), (0, [0, 1]), (0, [0, 1]), (0, [1]), (0, [1]), (0, [1])] 1 (by kernel_rfl) rfl ?_
    have hn : (σc.map some ++ [some a.e])[σc.length]? = some (some a.e) := by rw [List.getElem?_append_right (by simp)]; simp
    have hn2 : (σc.map some ++ [some a.e])[4 + atK l a.Ref.Kind]? = some (some (V.map kI)) := by rw [List.getElem?_append_left (by simp; omega), List.getElem?_map, hvi]; rfl
    simp [hn, hh, hf]
    refine gD_callW (.osl (4 + atK l a.Ref.Kind) 1 0 V.length) (σc.map some ++ [some a.e]) ?_
    simp [hn, hn2, hh, hf, hfl]
    refine ⟨.inl ⟨rfl, doI hV rfl (by simp) hB hB (hlt := by simp; omega) (hr := by simp; omega)⟩, ?_⟩
    exact finI (σ' := σc.map some) (r := kI V[f]) _ rfl (by simp) (by simp) (by simp) (by simpa using hB)
  · simp [Tryz.ntmps58, hh]
    exact finI (σ' := σc.map some) (r := kI (argV l a)) _ rfl (by simp [argV, hh]) (by simp) (by simp) (by simpa using hB)

theorem sets_fn (d : Int) : Fn Tryz.prog 59 [kI d] (kB (decide (0 ≤ d ∧ d ≤ 7))) := by
  refine fn_go Tryz.func59 rfl ?_
  by_cases h1 : 0 ≤ d
  · simp [Tryz.ntmps59, h1]
    exact finm (by simp [h1])
  · simp [Tryz.ntmps59, h1]
    exact finm (by simp [h1])

noncomputable def valueM (d a b s g : Int) : Int × Int :=
  if d = 1 then (IntKind.i64.wrap (a + b), s) else if d = 2 then (IntKind.i64.wrap (a - b), s) else if d = 3 then (mulF a b, s)
  else if d = 4 then (if b < a then b else a, s) else if d = 5 then (if a < b then b else a, s) else if d = 6 then (if a < b then 1 else 0, s)
  else if d = 7 then (if a < 1 then (0, s) else belowM s g a) else (a, s)
end Go.Proofs.YtfojnhceiabbhaaGreat.Am
/- Package system: value. -/
namespace Go.Proofs.YtfojnhceiabbhaaGreat.Am
open Go Go.RowKit

theorem set_self {α : Type} {l : List α} {i : Nat} {x : α} (h : l[i]? = some x) : l.set i x = l := by
  refine List.ext_getElem? fun j => ?_
  by_cases hj : i = j
  · subst hj
    have hl := (List.getElem?_eq_some_iff.1 h).1
    rw [List.getElem?_set_self hl, h]
  · rw [List.getElem?_set_ne hj]
set_option maxRecDepth 20000 in
set_option maxHeartbeats 1000000 in
theorem value_fn (c : RC) (l : List GComp) (cm ev : PV) (s g d a b : Int) (σc : List (List PV)) (hR : RunB c l s g cm ev σc) (hs : In64 s) (hg : In64 g) (ho : g % 2 = 1) (ha : a ≤ 9223372036854775807)
    (hB2 : ∀ s' : Int, ltL σc.length (runC c (.osl 1 2 0 l.length) s' g cm ev) = true) :
    FnD Tryz.prog 61 [.ptr 0 0, kI d, kI a, kI b] σc (kI (valueM d a b s g).1) ((σc.map some).set 0 (some (runC c (.osl 1 2 0 l.length) (valueM d a b s g).2 g cm ev))) := by
  obtain ⟨h0, h1, hv, hB, h4⟩ := hR
  have hself : (σc.map some).set 0 (some (runC c (.osl 1 2 0 l.length) s g cm ev)) = σc.map some := set_self (by rw [List.getElem?_map, h0]; rfl)
  refine fnd_go Tryz.func61 rfl ?_
  by_cases e1 : d = 1
  · simp [Tryz.ntmps61, e1, valueM, hself]
    exact finI (σ' := σc.map some) (r := kI _) [] (by simp) (by simp) (by simp) (by simp) (by simpa using hB)
  by_cases e2 : d = 2
  · simp [Tryz.ntmps61, e2, valueM, hself]
    exact finI (σ' := σc.map some) (r := kI _) [] (by simp) (by simp) (by simp) (by simp) (by simpa using hB)
  by_cases e3 : d = 3
  · have hV : valueM d a b s g = (mulF a b, s) := by simp [valueM, e3]
    rw [hV, hself]
    simp [Tryz.ntmps61, e3, valueM, hself]
    refine cal (Mul_fn a b) ?_
    simp
    exact finI (σ' := σc.map some) (r := kI _) [] (by simp) (by simp) (by simp) (by simp) (by simpa using hB)
  by_cases e4 : d = 4
  · simp [Tryz.ntmps61, e4, valueM, hself]
    by_cases h : b < a
    all_goals
      simp [h]
      exact finI (σ' := σc.map some) (r := kI _) [] (by simp) (by simp [h]) (by simp) (by simp) (by simpa using hB)
  by_cases e5 : d = 5
  · simp [Tryz.ntmps61, e5, valueM, hself]
    by_cases h : a < b
    all_goals
      simp [h]
      exact finI (σ' := σc.map some) (r := kI _) [] (by simp) (by simp [h]) (by simp) (by simp) (by simpa using hB)
  by_cases e6 : d = 6
  · by_cases h : a < b
    all_goals
      simp [Tryz.ntmps61, e6, valueM, hself, h]
      exact finI (σ' := σc.map some) (r := kI _) [] (by simp) (by simp [h]) (by simp) (by simp) (by simpa using hB)
  by_cases e7 : d = 7
  · by_cases h : a < 1
    · simp [Tryz.ntmps61, e7, valueM, hself, h]
      exact finI (σ' := σc.map some) (r := kI _) [] (by simp) (by simp [h]) (by simp) (by simp) (by simpa using hB)
    · have hV : valueM d a b s g = belowM s g a := by simp [valueM, e7, h]
      rw [hV]
      simp [Tryz.ntmps61, e7, h, h0]
      refine cal (RBelow_fn s g a hs hg ho (by omega) ha) ?_
      have hn : ∀ (x : Option (List PV)), (σc.map some ++ [x])[σc.length]? = some x := fun x => by rw [List.getElem?_append_right (by simp)]; simp
      have hn0 : ∀ (x : Option (List PV)), (σc.map some ++ [x])[0]? = some (some (runC c (.osl 1 2 0 l.length) s g cm ev)) := fun x => by rw [List.getElem?_append_left (by simp; omega), List.getElem?_map, h0]; rfl
      have hn1 : ∀ (x : Option (List PV)) (h : 0 < (σc.map some ++ [x]).length), (σc.map some ++ [x])[0]'h = some (runC c (.osl 1 2 0 l.length) s g cm ev) := fun x h => (List.getElem?_eq_some_iff.1 (hn0 x)).2
      simp [hn, hn0, hn1]
      refine finI (σ' := (σc.map some).set 0 (some (runC c (.osl 1 2 0 l.length) (belowM s g a).2 g cm ev))) (r := kI (belowM s g a).1) [some [kU (belowM s g a).2, kU g]] ?_ (by simp) (by simp) (by simp) ?_
      · rw [List.set_append_left _ _ (by simp; omega)]
      · intro i cs hi
        rw [List.length_set, List.length_map]
        by_cases hi0 : i = 0
        · subst hi0
          rw [List.getElem?_set_self (by simp; omega)] at hi
          simp only [Option.some.injEq] at hi
          subst hi
          exact hB2 _
        · rw [List.getElem?_set_ne (by omega)] at hi
          exact hB i cs hi
  · simp [Tryz.ntmps61, e1, e2, e3, e4, e5, e6, e7, valueM, hself]
    exact finI (σ' := σc.map some) (r := kI _) [] (by simp) (by simp) (by simp) (by simp) (by simpa using hB)
end Go.Proofs.YtfojnhceiabbhaaGreat.Am
/- kind.Default. -/
namespace Go.Proofs.YtfojnhceiabbhaaGreat.Am
open Go Go.RowKit


set_option maxRecDepth 20000 in
theorem Fit_box (k : GKind) (v : List Int) (hk : k.Fields.length ≤ 1000) (hvl : v.length = k.Fields.length) : FnD Tryz.prog 80 [.agg k.e, .osl 0 1 0 v.length] [v.map kI] (.tup [slI (fitV k v), kI (fitE k v)]) [some (v.map kI)] := by
  refine fnd_go Tryz.func80 rfl ?_
  simp [Tryz.ntmps80]
  refine cal (One_fn k (by omega)) ?_
  simp
  by_cases h1 : oneE k = 0
  · have hb1 : 8 * (k.Fields.length : Int) ≤ 281474976710656 := by omega
    have hb2 : (k.Fields.length : Int) ≤ 9223372036854775807 := by omega
    simp [h1, hvl, hb1, hb2]
    have hZ : (fitZ k v).length = k.Fields.length := by simp [fitZ, hvl]
    refine awp_loop (fun x : Nat × List Int => ⟨43, [(1, .osl 0 1 0 v.length), (7, .osl 2 1 0 k.Fields.length), (25, .sl 3 (k.Fields.map GField.e)), (26, kI k.Fields.length), (27, kI x.1)], [some (v.map kI), some k.e, some (x.2.map kI)], 1⟩)
      (fun x => x.1 ≤ k.Fields.length ∧ x.2 = (fitZ k v).take x.1 ++ List.replicate (k.Fields.length - x.1) 0) (fun x => k.Fields.length - x.1) (0, List.replicate k.Fields.length 0) ?_ ?_ ?_
    · exact entm [0, 1, 2] (hT := by simp [hvl])
    · simp
    · rintro ⟨i, B⟩ ⟨hi, hB⟩
      simp only at hi hB
      have hBl : B.length = k.Fields.length := by rw [hB]; simp; omega
      refine awp_go ?_
      by_cases hlt : i < k.Fields.length
      · have hiv : i < v.length := by omega
        have hz : (fitZ k v)[i] = nearM k.Fields[i] v[i] := by simp [fitZ]
        have hB2 : B.set i (nearM k.Fields[i] v[i]) = (fitZ k v).take (i + 1) ++ List.replicate (k.Fields.length - (i + 1)) 0 := by
          rw [← hz]; subst hB; exact fill_set hZ hlt
        have hib : i + 1 ≤ B.length := by omega
        simp [hlt]
        refine awp_draw follows_mix [] [(0, [0]), (0, [0]), (0, [0]), (0, [0]), (0, [0]), (0, [0]), (0, [0]), (2, [0]), (0, [0]), (1, [0])] 1 (by kernel_rfl) rfl ?_
        simp [hlt, hiv]
        refine gD_call (kI (nearM k.Fields[i] v[i])) ?_
        simp [hlt, hiv, hib]
        refine ⟨calO (Near_fn k.Fields[i] v[i]), ?_⟩
        rw [wrap_id (by omega) (by omega)]
        refine ⟨i + 1, B.set i (nearM k.Fields[i] v[i]), ⟨by omega, hB2⟩, by omega, entm [0, 1, 2] (hB := ?_)⟩
        rw [← set_ints (by omega)]
        simp
      · have hin : i = k.Fields.length := by omega
        subst hin
        simp
        have hB3 : B = fitZ k v := by rw [hB]; simp [← hZ]
        have hch := chunks_ints B
        rw [hBl, hB3] at hch
        refine finG_fz 2 (B.map kI) ?_
        simp [hBl, hB3, hch, hZ]
        exact finGm [0] (hres := by simp [fitV, fitE, h1, hvl, hZ, hch, slI_def])
  · simp [h1]
    exact finG_ent (ent_nilsl (t := 4) (z := 1) rfl) (finGm [0] (hres := by simp [fitV, fitE, h1, slI_def]))
def defaultM (k : GKind) : List Int := fitV k (List.replicate k.Fields.length 0)
set_option maxRecDepth 20000 in
theorem Default_fn (k : GKind) (hk : k.Fields.length ≤ 1000) : Fn Tryz.prog 63 [.agg k.e] (slI (defaultM k)) := by
  refine fn_go Tryz.func63 rfl ?_
  simp [Tryz.ntmps63]
  refine awp_drawS follows_mix [(0, 0), (0, 0), (0, 0), (0, 0), (4, 1), (3, 0), (0, 0), (0, 0), (0, 0), (0, 0), (0, 0)] 1 2 [(0, 4), (1, 4)] (by kernel_rfl) rfl rfl ?_
  simp
  have h1 : 8 * (k.Fields.length : Int) ≤ 281474976710656 := by omega
  have h2 : (k.Fields.length : Int) ≤ 9223372036854775807 := by omega
  simp [h1, h2]
  refine gE_callW (.tup [slI (defaultM k), kI (fitE k (List.replicate k.Fields.length 0))]) [1] [(1, some (List.replicate k.Fields.length (kI 0)))] rfl (fun y => ?_) ?_
  · simp
    have hF := Fit_box k (List.replicate k.Fields.length 0) hk (by simp)
    exact doD [1] hF (hren := by simp) (hbox := by simp) (h2 := by simp)
  simp
  exact finm
end Go.Proofs.YtfojnhceiabbhaaGreat.Am
/- Package system: do. -/
namespace Go.Proofs.YtfojnhceiabbhaaGreat.Am
open Go Go.RowKit

def kindOf (ks : List GKind) (k : Int) : GKind := ks.getD k.toNat ⟨ByteArray.empty, []⟩
def fieldR (ks : List GKind) (r : GRef) : GField := (kindOf ks r.Kind).Fields.getD r.Field.toNat ⟨ByteArray.empty, 0, 0⟩
def setK (l : List GComp) (i f : Nat) (v : Int) : List GComp := l.set i ⟨(l.getD i ⟨0, []⟩).Kind, (l.getD i ⟨0, []⟩).Vals.set f v⟩
noncomputable def doM (c : RC) (x : RS) (o : GOp) : RS :=
  if 0 ≤ o.Do ∧ o.Do ≤ 7 then
    { x with comps := setK x.comps (atK x.comps o.To.Kind) o.To.Field.toNat (nearM (fieldR c.ks o.To) (valueM o.Do (argV x.comps o.A) (argV x.comps o.B) x.rs x.rg).1), rs := (valueM o.Do (argV x.comps o.A) (argV x.comps o.B) x.rs x.rg).2 }
  else if argV x.comps o.A = 0 then x
  else if o.Do = 8 then { x with cmds := x.cmds ++ [⟨0, ⟨c.N, c.G⟩, 0, [⟨o.To.Kind, defaultM (kindOf c.ks o.To.Kind)⟩]⟩] }
  else if o.Do = 9 then { x with cmds := x.cmds ++ [⟨1, ⟨c.N, c.G⟩, o.To.Kind, []⟩] }
  else if o.Do = 10 then { x with cmds := x.cmds ++ [⟨2, ⟨c.N, c.G⟩, 0, []⟩] }
  else if o.Do = 11 then { x with cmds := x.cmds ++ [⟨3, ⟨0, 0⟩, 0, (fitC c.ks c.s.Spawn).1⟩] }
  else { x with evs := x.evs ++ [⟨c.idx, ⟨c.N, c.G⟩, argV x.comps o.B⟩] }

def RB (c : RC) (x : RS) : List (List PV) :=
  runC c (.osl 1 2 0 x.comps.length) x.rs x.rg (.osl 2 5 0 x.cmds.length) (.osl 3 4 0 x.evs.length) :: cellsD x.comps (List.range' 4 x.comps.length) :: (x.cmds.map GCmd.e).flatten :: (x.evs.map GEvent.e).flatten :: x.comps.map fun c => c.Vals.map kI
theorem RB_len (c : RC) (x : RS) : (RB c x).length = 4 + x.comps.length := by simp [RB]; omega
theorem RB_lt (c : RC) (x : RS) (n : Nat) (h : 4 + x.comps.length ≤ n) : ltB n ((RB c x).map some) := by
  intro i cs hi
  rw [List.getElem?_map] at hi
  obtain ⟨cs', hi, e⟩ := Option.map_eq_some_iff.1 hi
  obtain rfl : cs' = cs := by simpa using e
  match i, hi with
  | 0, hi => simp [RB] at hi; subst hi; simp; omega
  | 1, hi =>
    simp [RB] at hi; subst hi
    exact ltL_cellsD _ _ fun b hb => by have := List.mem_range'_1.1 hb; omega
  | 2, hi => simp [RB] at hi; subst hi; simp
  | 3, hi => simp [RB] at hi; subst hi; simp
  | i + 4, hi =>
    simp [RB] at hi
    obtain ⟨a, _, rfl⟩ := hi
    simp
theorem RB_run (c : RC) (x : RS) : RunB c x.comps x.rs x.rg (.osl 2 5 0 x.cmds.length) (.osl 3 4 0 x.evs.length) (RB c x) := by
  refine ⟨rfl, rfl, fun i h => ?_, ?_, ?_⟩
  · rw [Nat.add_comm]; simp [RB, h]
  · exact RB_lt c x _ (by rw [RB_len]; omega)
  · rw [RB_len]; omega

/-- What lies where after an operation. -/
structure RunR (c : RC) (x : RS) (mb eb : Nat) (σ : Boxes) : Prop where
  h0 : σ[0]? = some (some (runC c (.osl 1 2 0 x.comps.length) x.rs x.rg (.osl mb 5 0 x.cmds.length) (.osl eb 4 0 x.evs.length)))
  h1 : σ[1]? = some (some (cellsD x.comps (List.range' 4 x.comps.length)))
  hm : σ[mb]? = some (some (x.cmds.map GCmd.e).flatten)
  he : σ[eb]? = some (some (x.evs.map GEvent.e).flatten)
  hv : ∀ i (h : i < x.comps.length), σ[4 + i]? = some (some ((x.comps[i]).Vals.map kI))
  hB : ltB σ.length σ
  hmb : mb = 2 ∨ 4 + x.comps.length ≤ mb
  heb : eb = 3 ∨ 4 + x.comps.length ≤ eb
  hne : mb ≠ eb
theorem RB_R (c : RC) (x : RS) : RunR c x 2 3 ((RB c x).map some) := by
  obtain ⟨h0, h1, hv, hB, h4⟩ := RB_run c x
  refine ⟨by rw [List.getElem?_map, h0]; rfl, by rw [List.getElem?_map, h1]; rfl, rfl, rfl, fun i h => by rw [List.getElem?_map, hv i h]; rfl, ?_, .inl rfl, .inl rfl, by decide⟩
  rw [List.length_map]; exact hB

theorem setK_cells : ∀ (l : List GComp) (ps : List Nat) (i f : Nat) (v : Int), cellsD (setK l i f v) ps = cellsD l ps
  | [], ps, i, f, v => by simp [setK]
  | c :: l, [], i, f, v => by cases h : setK (c :: l) i f v <;> simp [cellsD]
  | c :: l, b :: ps, 0, f, v => by simp [setK, cellsD]
  | c :: l, b :: ps, i + 1, f, v => by
    have := setK_cells l ps i f v
    unfold setK at this ⊢
    simp only [List.set_cons_succ, cellsD, List.getD_cons_succ]
    rw [this]
theorem setK_len (l : List GComp) (i f : Nat) (v : Int) : (setK l i f v).length = l.length := by simp [setK]

/-- What an operation needs. -/
structure OpFine (c : RC) (x : RS) (o : GOp) : Prop where
  a : ArgOk x.comps o.A
  b : ArgOk x.comps o.B
  set : 0 ≤ o.Do ∧ o.Do ≤ 7 → ∃ (h : atK x.comps o.To.Kind < x.comps.length) (hk : o.To.Kind.toNat < c.ks.length), 0 ≤ o.To.Kind ∧ 0 ≤ o.To.Field ∧ o.To.Field.toNat < (x.comps[atK x.comps o.To.Kind]).Vals.length ∧ o.To.Field.toNat < (c.ks[o.To.Kind.toNat]).Fields.length
  put : o.Do = 8 → 0 ≤ o.To.Kind ∧ o.To.Kind.toNat < c.ks.length
  am : argV x.comps o.A ≤ 9223372036854775807
  ll : x.comps.length ≤ 1000000
  rs : In64 x.rs
  rg : In64 x.rg
  ro : x.rg % 2 = 1

set_option maxRecDepth 20000 in
set_option maxHeartbeats 2000000 in
theorem do_set (c : RC) (x : RS) (o : GOp) (hO : OpFine c x o) (hd : 0 ≤ o.Do ∧ o.Do ≤ 7) : ∃ σ', FnD Tryz.prog 27 [.ptr 0 0, .agg o.e] (RB c x) (.tup []) σ' ∧ RunR c (doM c x o) 2 3 σ' ∧ σ'.length = (RB c x).length := by
  obtain ⟨hA, hB, hset, hput, ham, hll, hrs, hrg, hro⟩ := hO
  obtain ⟨hat, hk, hk0, hf0, hfv, hff⟩ := hset hd
  have hR := RB_run c x
  have hA' := arg_fn c x.comps _ _ _ _ o.A _ hR hll hA
  have hB' := arg_fn c x.comps _ _ _ _ o.B _ hR hll hB
  have hV' := vals_fn c x.comps _ _ _ _ o.To.Kind _ hR.h0 hR.h1 hR.hB hll hat hR.h4
  have hW := value_fn c x.comps _ _ _ _ o.Do (argV x.comps o.A) (argV x.comps o.B) _ hR hrs hrg hro ham (fun s' => by rw [RB_len]; simp; omega)
  have hRR := RB_R c x
  have hlen := RB_len c x
  obtain ⟨σc, hσ⟩ : ∃ σc, RB c x = σc := ⟨_, rfl⟩
  rw [hσ] at hA' hB' hV' hW hR hRR hlen ⊢
  obtain ⟨h0, h1, hv, hB, h4⟩ := hR
  obtain ⟨i, hi⟩ : ∃ i, atK x.comps o.To.Kind = i := ⟨_, rfl⟩
  have hat' : i < x.comps.length := hi ▸ hat
  obtain ⟨f, hf⟩ : ∃ f : Nat, o.To.Field = f := ⟨o.To.Field.toNat, by omega⟩
  obtain ⟨kk, hkk⟩ : ∃ kk : Nat, o.To.Kind = kk := ⟨o.To.Kind.toNat, by omega⟩
  have hf' : o.To.Field.toNat = f := by omega
  have hkk' : o.To.Kind.toNat = kk := by omega
  simp only [hi, hf', hkk'] at hV' hfv hff hk
  obtain ⟨V, hVd⟩ : ∃ V, (x.comps[i]).Vals = V := ⟨_, rfl⟩
  have hvi := hv i hat'
  rw [hVd] at hV' hfv hvi
  obtain ⟨a, haa⟩ : ∃ a, argV x.comps o.A = a := ⟨_, rfl⟩
  obtain ⟨b, hbb⟩ : ∃ b, argV x.comps o.B = b := ⟨_, rfl⟩
  rw [haa] at hA' hW
  rw [hbb] at hB' hW
  obtain ⟨s', hs'⟩ : ∃ s', (valueM o.Do a b x.rs x.rg).2 = s' := ⟨_, rfl⟩
  obtain ⟨u, hu⟩ : ∃ u, (valueM o.Do a b x.rs x.rg).1 = u := ⟨_, rfl⟩
  rw [hs', hu] at hW
  have hfr : fieldR c.ks o.To = (c.ks[kk]).Fields[f] := by
    simp [fieldR, kindOf, hkk', hf', List.getD, hk, hff]
  obtain ⟨nv, hnv⟩ : ∃ nv, nearM (fieldR c.ks o.To) u = nv := ⟨_, rfl⟩
  have hdo : doM c x o = { x with comps := setK x.comps i f nv, rs := s' } := by
    unfold doM
    rw [if_pos hd, haa, hbb, hs', hu, hi, hf', hnv]
  rw [hfr] at hnv
  obtain ⟨R', hR'⟩ : ∃ R', runC c (.osl 1 2 0 x.comps.length) s' x.rg (.osl 2 5 0 x.cmds.length) (.osl 3 4 0 x.evs.length) = R' := ⟨_, rfl⟩
  obtain ⟨τ, hτ⟩ : ∃ τ, (σc.map some).set 0 (some R') = τ := ⟨_, rfl⟩
  rw [hR', hτ] at hW
  have hτl : τ.length = σc.length := by rw [← hτ]; simp
  have hτB : ltB σc.length τ := by
    intro j cs hj
    rw [← hτ] at hj
    by_cases hj0 : j = 0
    · subst hj0
      rw [List.getElem?_set_self (by simp; omega)] at hj
      simp only [Option.some.injEq] at hj
      subst hj
      rw [← hR']
      simp; omega
    · rw [List.getElem?_set_ne (by omega)] at hj
      exact hB j cs hj
  refine ⟨τ.set (4 + i) (some ((V.set f nv).map kI)), ?_, ?_, by simp [hτl]⟩
  · refine fnd_go Tryz.func27 rfl ?_
    simp [Tryz.ntmps27]
    have hn : (σc.map some ++ [some o.e])[σc.length]? = some (some o.e) := by rw [List.getElem?_append_right (by simp)]; simp
    have hm0 : (σc.map some ++ [some o.e])[0]? = some (some (runC c (.osl 1 2 0 x.comps.length) x.rs x.rg (.osl 2 5 0 x.cmds.length) (.osl 3 4 0 x.evs.length))) := by rw [List.getElem?_append_left (by simp; omega), List.getElem?_map, h0]; rfl
    have hm1 : ∀ h, (σc.map some ++ [some o.e])[0]'h = some (runC c (.osl 1 2 0 x.comps.length) x.rs x.rg (.osl 2 5 0 x.cmds.length) (.osl 3 4 0 x.evs.length)) := fun h => (List.getElem?_eq_some_iff.1 hm0).2
    have ht0 : (τ ++ [some o.e])[0]? = some (some R') := by rw [List.getElem?_append_left (by omega), ← hτ, List.getElem?_set_self (by simp; omega)]
    have ht1 : ∀ h, (τ ++ [some o.e])[0]'h = some R' := fun h => (List.getElem?_eq_some_iff.1 ht0).2
    have htn : (τ ++ [some o.e])[σc.length]? = some (some o.e) := by rw [List.getElem?_append_right (by omega)]; simp [hτl]
    have htv : (τ ++ [some o.e])[4 + i]? = some (some (V.map kI)) := by rw [List.getElem?_append_left (by omega), ← hτ, List.getElem?_set_ne (by omega), List.getElem?_map, hvi]; rfl
    rw [← hR'] at ht0 ht1
    refine awp_draw follows_mix [3, 7] [(0, [0]), (0, [0]), (0, [0]), (3, [0]), (0, [0, 1]), (0, [0, 1]), (0, [0, 1]), (3, [1]), (0, [2]), (0, [2])] 2 (by kernel_rfl) rfl ?_
    simp [hn]
    refine gD_callW (kI a) (σc.map some ++ [some o.e]) ?_
    simp [hn]
    refine gD_callW (kI b) (σc.map some ++ [some o.e]) ?_
    simp [hn]
    refine ⟨⟨.inl ⟨rfl, doI hA' rfl (by simp) hB hB (hlt := by simp; omega)⟩, .inl ⟨rfl, doI hB' rfl (by simp) hB hB (hlt := by simp; omega)⟩⟩, ?_⟩
    refine cal (sets_fn o.Do) ?_
    simp [hd]
    refine awp_draw follows_mix [4, 28] [(0, [0]), (0, [0]), (0, [0]), (0, [0]), (3, [0]), (0, [0, 1, 2]), (0, [0, 1, 2]), (0, [0, 1, 2]), (0, [0, 1, 2]), (0, [0, 1, 2]), (0, [0, 1, 2]), (0, [0, 1, 2]), (0, [0, 1, 2]), (0, [0, 1, 2]), (0, [0, 1, 2]), (0, [0, 1, 2]), (0, [0, 1, 2]), (0, [0, 1, 2]), (0, [0, 1, 2]), (0, [0, 1, 2]), (0, [0, 1, 2]), (0, [0, 1, 2]), (0, [0, 1, 2]), (0, [0, 1]), (0, [0, 1]), (0, [0, 1]), (0, [0, 1]), (0, [0, 1]), (3, [1]), (2, [2]), (0, [2]), (1, [2])] 3 (by kernel_rfl) rfl ?_
    simp [hn, hm0, hm1, hf, hkk]
    refine gD_callW (.osl (4 + i) 1 0 V.length) (σc.map some ++ [some o.e]) ?_
    simp [hn, hm0, hm1, hf, hkk, hk, hff]
    refine gD_callW (kI u) (τ ++ [some o.e]) ?_
    simp [hn, htn, ht0, ht1, hm0, hm1, hf, hkk, hk, hff]
    refine gD_call (kI nv) ?_
    have hfv1 : f + 1 ≤ V.length := by omega
    simp [htv, hfv, htn, hfv1, hkk, hf, hm1, ht1, hk, hff]
    refine ⟨⟨.inl ⟨rfl, doI hV' rfl (by simp) hB hB (hren := by simp [hkk]) (hlt := by simp; omega) (hr := by simp; omega)⟩, .inl ⟨rfl, doI hW rfl hτl hB hτB (hlt := by simp; omega)⟩, ?_⟩, ?_⟩
    · rw [← hnv]
      exact calO (Near_fn _ _)
    · have hV2 : (V.map kI).set f (kI nv) = (V.set f nv).map kI := by rw [List.map_set]
      refine finI (σ' := τ.set (4 + i) (some ((V.map kI).set f (kI nv)))) (r := .tup []) [some o.e] ?_ (by simp) (by simp) (by simp [hτl]) ?_
      · rw [set_ints hfv, hV2]
        exact List.set_append_left _ _ (by omega)
      · intro j cs hj
        rw [List.length_set, hτl]
        by_cases hji : j = 4 + i
        · subst hji
          rw [List.getElem?_set_self (by omega)] at hj
          simp only [Option.some.injEq] at hj
          subst hj
          rw [hV2]; exact ints_lt _ _
        · rw [List.getElem?_set_ne (by omega)] at hj
          exact hτB j cs hj
  · rw [hdo]
    have hcl : (setK x.comps i f nv).length = x.comps.length := setK_len _ _ _ _
    refine ⟨?_, ?_, ?_, ?_, fun j hj => ?_, ?_, .inl rfl, .inl rfl, by decide⟩
    · rw [List.getElem?_set_ne (by omega), ← hτ, List.getElem?_set_self (by simp; omega), ← hR', hcl]
    · rw [List.getElem?_set_ne (by omega), ← hτ, List.getElem?_set_ne (by omega), hcl, setK_cells]; exact hRR.h1
    · rw [List.getElem?_set_ne (by omega), ← hτ, List.getElem?_set_ne (by omega)]; exact hRR.hm
    · rw [List.getElem?_set_ne (by omega), ← hτ, List.getElem?_set_ne (by omega)]; exact hRR.he
    · by_cases hji : j = i
      · subst hji
        rw [List.getElem?_set_self (by omega)]
        simp [setK, hat', hVd]
      · have hj' : j < x.comps.length := by rw [← hcl]; exact hj
        rw [List.getElem?_set_ne (by omega), ← hτ, List.getElem?_set_ne (by omega), List.getElem?_map, hv j hj']
        have : (setK x.comps i f nv)[j]'hj = x.comps[j] := by unfold setK; exact List.getElem_set_ne (by omega) _
        simp only [this]; rfl
    · intro j cs hj
      rw [List.length_set, hτl]
      by_cases hji : j = 4 + i
      · subst hji
        rw [List.getElem?_set_self (by omega)] at hj
        simp only [Option.some.injEq] at hj
        subst hj
        exact ints_lt _ _
      · rw [List.getElem?_set_ne (by omega)] at hj
        exact hτB j cs hj
end Go.Proofs.YtfojnhceiabbhaaGreat.Am
/- Regions in which some writes change nothing. -/
namespace Go.Proofs.YtfojnhceiabbhaaGreat.Am
open Go Go.RowKit

/-- Operations pc write nothing new: they count as readers. -/
def wrX (pc wc : List Nat) (l : List Oper) (j : Nat) : Bool := !pc.contains j && wrAt wc l j
def loX (pc wc : List Nat) (l : List Oper) (R : List (List Nat)) (i : Nat) : Nat := (List.range l.length).countP fun j => wrX pc wc l j && (R.getD i []).contains j
def hiX (pc wc : List Nat) (l : List Oper) (R : List (List Nat)) (i : Nat) : Nat := (List.range l.length).countP fun j => wrX pc wc l j && (decide (j ≠ i) && !(R.getD j []).contains i)
def clsX (pc wc : List Nat) (l : List Oper) (i : Nat) : Nat := if pc.contains i then 0 else clsAt wc l i
def planX (pc wc : List Nat) (l : List Oper) : Option (List (Nat × List Nat)) :=
  if drawOk l (clos l []) = true ∧ readOk l (clos l []) = true then
    some ((List.range l.length).map fun i => (clsX pc wc l i, (List.range (hiX pc wc l (clos l []) i + 1)).filter (loX pc wc l (clos l []) i ≤ ·)))
  else none
def planWX (pc wc : List Nat) (l : List Oper) : Option (List (Nat × List Nat) × Nat) := (planX pc wc l).map fun rg => (rg, (List.range l.length).countP (wrX pc wc l))

theorem draw_TX {P : Program} {pc wc : List Nat} {l : List Oper} {R : List (List Nat)} {s : St} {Q : St → Prop} {ps : List PV} {σs : Nat → Boxes}
    (hok : drawOk l R = true) (hrd : readOk l R = true) (hσ0 : σs 0 = s.σ) (hlen : ps.length = l.length) (hdst : ∀ o ∈ l, dstOk o.dst s.N = true)
    (H : ∀ i o p, l[i]? = some o → ps[i]? = some p → ∀ m, loX pc wc l R i ≤ m → m ≤ hiX pc wc l R i →
      ∃ T', (∀ t q, look T' t = some q → t ∈ o.looksAt l.toArray ∧ look (TA (fun _ => true) 0 l ps s.T) t = some q) ∧
        StepD P l.toArray o ⟨s.N, T', σs m, s.k⟩ (σs (m + if wrX pc wc l i = true then 1 else 0)) p)
    (hQ : Q ⟨s.N, TA (fun _ => true) 0 l ps s.T, σs ((List.range l.length).countP (wrX pc wc l)), s.k⟩) : DrawW P l s Q := by
  intro c ι S a w hr QQ hQQ
  have key : ∀ (fuel : Nat) (listed : Array Bool) (a : Act) (w : World) (ι : Nat → Option Nat) (S : Nat → Prop), listed.size = l.length → (List.range l.length).countP (fun j => !listed.getD j false) = fuel →
      (∀ (i : Nat) (o : Oper), l[i]? = some o → listed.getD i false = true → ∀ e ∈ edgesOf o, listed.getD e false = true) →
      Rel c ι S ⟨s.N, TA (fun j => listed.getD j false) 0 l ps s.T, σs ((List.range l.length).countP fun j => wrX pc wc l j && listed.getD j false), s.k⟩ a w →
      wpAnyIn (wideR c.ro) 0 P .any l.toArray QQ fuel listed a w := by
    intro fuel
    induction fuel with
    | zero =>
      intro listed a w ι S hsz hcnt hcl hr
      have hall : ∀ i, i < l.length → listed.getD i false = true := fun i hi => by
        have := List.countP_eq_zero.1 hcnt i (by simpa using hi)
        simpa using this
      refine ⟨?_, hQQ ι S ⟨s.N, TA (fun _ => true) 0 l ps s.T, σs ((List.range l.length).countP (wrX pc wc l)), s.k⟩ a w (hr.temps_of rfl ?_ rfl ?_) hQ⟩
      · rw [List.eq_nil_iff_forall_not_mem]
        intro j hj
        obtain ⟨h1, o, ho, _⟩ := mem_ready.1 hj
        have hjl : j < l.length := by simpa using (Array.getElem?_eq_some_iff.1 ho).1
        have := hall j hjl
        rw [Array.getD_eq_getD_getElem?, Array.getElem?_eq_getElem (by omega)] at h1 this
        simp at h1 this
        rw [this] at h1; cases h1
      · refine congrArg σs (List.countP_congr fun j hj => ?_)
        simp only [hall j (by simpa using hj), Bool.and_true]
      · intro t p ht
        rw [← ht]
        exact look_TA_congr l ps 0 _ _ rfl fun j o ho _ => by simpa using hall j (List.getElem?_eq_some_iff.1 ho).1
    | succ fuel ih =>
      intro listed a w ι S hsz hcnt hcl hr
      refine ⟨fun hnil => ?_, fun i hi => ?_⟩
      · exfalso
        have hall : ∀ i, i < l.length → listed.getD i false = true := by
          intro i
          induction i using Nat.strongRecOn with
          | _ i ihi =>
            intro hi
            cases hli : listed.getD i false with
            | true => rfl
            | false =>
              exfalso
              have hoi : l[i]? = some l[i] := List.getElem?_eq_getElem hi
              have hmem : i ∈ Region.ready .any l.toArray listed := mem_ready.2 ⟨by
                rw [Array.getD_eq_getD_getElem?, Array.getElem?_eq_getElem (by omega)] at hli ⊢
                simpa using hli, l[i], by simp [hi], fun e he hb => by
                have hedge := edges_mem.2 ⟨e, he, hb, rfl⟩
                have := (drawOk_spec hok hoi).1 _ hedge
                exact ihi _ this (by omega)⟩
              rw [hnil] at hmem
              simp at hmem
        have : (List.range l.length).countP (fun j => !listed.getD j false) = 0 := List.countP_eq_zero.2 fun j hj => by simp [hall j (by simpa using hj)]
        omega
      · obtain ⟨h1, o, ho', hed⟩ := mem_ready.1 hi
        have hil : i < l.length := by simpa using (Array.getElem?_eq_some_iff.1 ho').1
        have ho : l[i]? = some o := by simpa using ho'
        have hAi : listed.getD i false = false := by
          rw [Array.getD_eq_getD_getElem?, Array.getElem?_eq_getElem (by omega)] at h1 ⊢
          simpa using h1
        have hedges : ∀ e ∈ edgesOf o, listed.getD e false = true := fun e he => by
          obtain ⟨x, hx, hb, rfl⟩ := edges_mem.1 he
          exact hed x hx hb
        have hin := clos_in hok hcl i o ho hedges
        obtain ⟨p, hp⟩ : ∃ p, ps[i]? = some p := ⟨_, List.getElem?_eq_getElem (by omega)⟩
        obtain ⟨T', hT', hstep⟩ := H i o p ho hp ((List.range l.length).countP fun j => wrX pc wc l j && listed.getD j false)
          (List.countP_mono_left fun j _ h => by
            simp only [Bool.and_eq_true, List.contains_iff_mem] at h ⊢
            exact ⟨h.1, hin j h.2⟩)
          (List.countP_mono_left fun j hj h => by
            simp only [Bool.and_eq_true, decide_eq_true_eq, Bool.not_eq_true'] at h ⊢
            refine ⟨h.1, fun e => ?_, ?_⟩
            · subst e; rw [hAi] at h; simp at h
            · cases hc : (R.getD j []).contains i with
              | false => rfl
              | true =>
                exfalso
                have hjl : j < l.length := by simpa using hj
                have hoj : l[j]? = some l[j] := List.getElem?_eq_getElem hjl
                have := clos_in hok hcl j _ hoj (hcl j _ hoj h.2) i (by simpa using hc)
                rw [hAi] at this; cases this)
        have hrT : Rel c ι S ⟨s.N, T', σs ((List.range l.length).countP fun j => wrX pc wc l j && listed.getD j false), s.k⟩ a w := hr.temps_of rfl rfl rfl fun t q ht => by
          obtain ⟨g1, g2⟩ := hT' t q ht
          rw [← g2]
          exact look_TA_congr l ps 0 _ _ rfl fun j o' hj hd => by
            simpa using hin j (readOk_spec hrd ho t g1 j o' hj hd)
        have hnext : ∀ ι' S' v w', Store c ι' S' (σs ((List.range l.length).countP (fun j => wrX pc wc l j && listed.getD j false) + if wrX pc wc l i = true then 1 else 0)) w' →
            (∀ v p, VRel (σs ((List.range l.length).countP fun j => wrX pc wc l j && listed.getD j false)).length ι S w v p → VRel (σs ((List.range l.length).countP (fun j => wrX pc wc l j && listed.getD j false) + if wrX pc wc l i = true then 1 else 0)).length ι' S' w' v p) →
            VRel (σs ((List.range l.length).countP (fun j => wrX pc wc l j && listed.getD j false) + if wrX pc wc l i = true then 1 else 0)).length ι' S' w' v p →
            wpAnyIn (wideR c.ro) 0 P .any l.toArray QQ fuel (listed.setIfInBounds i true) (a.put o.dst v) w' := fun ι' S' v w' hst hmono hv => by
          have hset := listed_set (listed := listed) (i := i) (by omega)
          have hset' : ∀ j, (listed.setIfInBounds i true).getD j false = (listed.getD j false || decide (j = i)) := fun j => congrFun hset j
          have hrn := Rel.next hr hst hmono (hdst o (List.mem_of_getElem? ho)) hv
          refine ih _ _ _ ι' S' (by simpa using hsz) ?_ ?_ ?_
          · have h3 := countP_one (f := fun _ => true) (A := fun j => listed.getD j false) hAi (List.range l.length) List.nodup_range (by simpa using hil)
            simp only [Bool.true_and, if_true] at h3
            have h4 := List.length_eq_countP_add_countP (fun j => listed.getD j false) (l := List.range l.length)
            have h5 := List.length_eq_countP_add_countP (fun j => listed.getD j false || decide (j = i)) (l := List.range l.length)
            have e1 : (List.range l.length).countP (fun j => !(listed.setIfInBounds i true).getD j false) = (List.range l.length).countP (fun a => decide ¬(fun j => listed.getD j false || decide (j = i)) a = true) := by
              refine List.countP_congr fun j _ => ?_
              rw [hset' j]; simp
            have e2 : (List.range l.length).countP (fun j => !listed.getD j false) = (List.range l.length).countP (fun a => decide ¬(fun j => listed.getD j false) a = true) := by
              refine List.countP_congr fun j _ => ?_
              simp
            rw [e1]
            rw [e2] at hcnt
            try simp only [] at h4 h5 hcnt ⊢
            generalize (List.range l.length).countP (fun a => decide ¬(fun j => listed.getD j false || decide (j = i)) a = true) = x1 at *
            try simp only [] at h4 h5 hcnt h3 ⊢
            omega
          · intro j oj hj hlj e he
            rw [hset' j] at hlj
            rw [hset' e]
            simp only [Bool.or_eq_true, decide_eq_true_eq] at hlj ⊢
            rcases hlj with g | rfl
            · exact .inl (hcl j oj hj g e he)
            · rw [ho] at hj; simp at hj; subst hj; exact .inl (hedges e he)
          · rw [hset]
            have hc1 := countP_one (f := wrX pc wc l) (A := fun j => listed.getD j false) hAi (List.range l.length) List.nodup_range (by simpa using hil)
            simp only [hset', hc1]
            refine hrn.temps_of (by cases o.dst <;> rfl) (by cases o.dst <;> rfl) (by cases o.dst <;> rfl) fun t q ht => ?_
            rw [← ht]
            have hcongr : o.dst ≠ some t → look (TA (fun j => listed.getD j false) 0 l ps s.T) t = look (TA (fun j => listed.getD j false || decide (j = i)) 0 l ps s.T) t := fun hne =>
              look_TA_congr l ps 0 _ _ rfl fun j o' hj hd => by
                have : j ≠ i := fun e => by subst e; rw [ho] at hj; simp at hj; subst hj; exact hne hd
                simp [this]
            cases hd : o.dst with
            | none => exact hcongr (by rw [hd]; simp)
            | some d =>
              by_cases e : t = d
              · subst e
                rw [look_TA_at l ps 0 s.T i ho hp hd (by simp) fun j' o' hj hne => (drawOk_spec hok ho).2.2.2 t hd j' o' hj hne]
                simp [St.put, look]
              · simp only [St.put, look, if_neg e]
                exact hcongr (by rw [hd]; simpa using fun h => e h.symm)
        unfold wpOpIn
        rw [ho']
        simp only
        rcases hstep with ⟨hw, hdoes⟩ | ⟨hw, hs', rfl⟩
        · rw [if_pos (wanted_rel hrT hw)]
          exact (hdoes c ι S a w hrT _ QQ fun ι' S' v w' h1 h2 h3 _ => hnext ι' S' v w' h1 h2 h3)
        · rw [wanted_rel hrT hw]
          simp only [Bool.false_eq_true, if_false]
          refine ⟨fun _ _ => trivial, ?_⟩
          refine hnext ι S undef w (by rw [hs']; exact hr.st) (fun v p h => by rw [hs']; exact h) (.imm (IRel.und _ _))
  have hA0 : ∀ j, (Array.replicate l.length false).getD j false = false := fun j => by
    rw [Array.getD_eq_getD_getElem?]
    by_cases h : j < l.length <;> simp [h]
  have hsize : l.toArray.size = l.length := by simp
  rw [hsize]
  refine key l.length (Array.replicate l.length false) a _ ι S (by simp) ?_ (fun i o _ h => by rw [hA0] at h; cases h) ?_
  · simp [hA0]
  · have e1 : TA (fun j => (Array.replicate l.length false).getD j false) 0 l ps s.T = s.T := TA_none l ps 0 s.T hA0
    have e2 : (List.range l.length).countP (fun j => wrX pc wc l j && (Array.replicate l.length false).getD j false) = 0 := List.countP_eq_zero.2 fun j _ => by rw [hA0]; simp
    rw [e1, e2, hσ0]
    exact ⟨hr.st.drew, hr.ck, hr.tsz, hr.defers, fun t p ht => (hr.temps t p ht).drew⟩

theorem draw_DX {P : Program} {l : List Oper} {s : St} {Q : St → Prop} (pc wc : List Nat) (rg : List (Nat × List Nat)) (W : Nat) (hp : planWX pc wc l = some (rg, W))
    (hdst : l.all (fun o => dstOk o.dst s.N) = true)
    (h : @gD s [] [s.σ] ⟨P, l.toArray, l, rg, fun s' ps σs => (chkD P l.toArray s.N s.k s'.T σs l rg ps ∧ σs.getD 0 [] = s.σ ∧ s'.σ = σs.getD W []) ∧ Q s'⟩) : DrawW P l s Q := by
  simp only [planWX, Option.map_eq_some_iff, Prod.mk.injEq] at hp
  obtain ⟨rg', hplan, rfl, rfl⟩ := hp
  unfold planX at hplan
  split at hplan
  · rename_i hok2
    obtain ⟨hok, hrd⟩ := hok2
    obtain ⟨ps, σs, s', ⟨⟨hchk, hσ0, hσ⟩, hQ⟩, hN, hk, hT⟩ := goD_spec 0 rfl rfl h
    rw [List.nil_append] at hchk
    replace hT : s'.T = TA (fun _ => true) 0 l ps s.T := hT
    obtain ⟨hlen, hall⟩ := chkD_spec hchk
    refine draw_TX (pc := pc) (wc := wc) (ps := ps) (σs := fun m => σs.getD m []) hok hrd hσ0 hlen (fun o ho => List.all_eq_true.1 hdst o ho) (fun i o p ho hp m hlo hhi => ?_) ?_
    · refine ⟨seen l.toArray o s'.T, fun t q hq => ?_, ?_⟩
      · obtain ⟨h1, h2⟩ := look_seen hq
        exact ⟨h1, by rw [← hT]; exact h2⟩
      · have hil := (List.getElem?_eq_some_iff.1 ho).1
        simp only [Option.some.injEq] at hplan
        have hrg : rg'[i]? = some (clsX pc wc l i, (List.range (hiX pc wc l (clos l []) i + 1)).filter (loX pc wc l (clos l []) i ≤ ·)) := by
          rw [← hplan]
          simp [hil]
        have := hall i o p _ _ ho hp hrg m (by simp; omega)
        have hw : wrN (clsX pc wc l i) = if wrX pc wc l i = true then 1 else 0 := by
          have h3 : clsOf o.op ≠ 3 := clsOf_ne o.op
          by_cases hpc : i ∈ pc
          · simp [clsX, wrX, hpc, wrN]
          · by_cases hc : i ∈ wc
            · simp [clsX, wrX, wrN, clsAt, wrAt, ho, hpc, hc]
            · simp [clsX, wrX, wrN, clsAt, wrAt, ho, hpc, hc, h3]
        rw [← hw]; exact this
    · have : (⟨s.N, TA (fun _ => true) 0 l ps s.T, σs.getD ((List.range l.length).countP (wrX pc wc l)) [], s.k⟩ : St) = s' := by
        rw [← hT, ← hσ, ← hN, ← hk]
      rw [this]; exact hQ
  · simp at hplan

theorem awp_drawX {P : Program} (hm : P.follows .mixedOrders = true) {id : Nat} {l : List Oper} {s : St} {Q : Exit → St → Prop} (pc wc : List Nat) (rg : List (Nat × List Nat)) (W : Nat) (hp : planWX pc wc l = some (rg, W))
    (hdst : l.all (fun o => dstOk o.dst s.N) = true)
    (h : @gD s [] [s.σ] ⟨P, l.toArray, l, rg, fun s' ps σs => (chkD P l.toArray s.N s.k s'.T σs l rg ps ∧ σs.getD 0 [] = s.σ ∧ s'.σ = σs.getD W []) ∧ Q .normal s'⟩) : AWp P (.region id l.toArray true) s Q :=
  awp_of_draw hm (draw_DX pc wc rg W hp hdst h)
end Go.Proofs.YtfojnhceiabbhaaGreat.Am
/- Package system: do, the operations that record. -/
namespace Go.Proofs.YtfojnhceiabbhaaGreat.Am
open Go Go.RowKit

/-- Boxes of which less is told. -/
def subB : Boxes → Boxes → Prop
  | [], _ => True
  | none :: r, _ :: t => subB r t
  | some c :: r, some d :: t => c = d ∧ subB r t
  | _, _ => False
theorem subB_get : ∀ {σ' σ : Boxes}, subB σ' σ → ∀ (i : Nat) (cs : List PV), σ'[i]? = some (some cs) → σ[i]? = some (some cs)
  | [], _, _, i, cs, h => by simp at h
  | none :: r, _ :: t, hs, 0, cs, h => by simp at h
  | none :: r, _ :: t, hs, i + 1, cs, h => subB_get (σ' := r) (σ := t) hs i cs (by simpa using h)
  | none :: r, [], hs, i, cs, h => by simp [subB] at hs
  | some c :: r, some d :: t, hs, 0, cs, h => by
    obtain rfl : c = cs := by simpa using h
    rw [hs.1]; rfl
  | some c :: r, some d :: t, hs, i + 1, cs, h => subB_get (σ' := r) (σ := t) hs.2 i cs (by simpa using h)
  | some c :: r, none :: t, hs, i, cs, h => by simp [subB] at hs
  | some c :: r, [], hs, i, cs, h => by simp [subB] at hs
theorem subB_app (V : List (List PV)) (a b : Boxes) : subB (V.map some ++ a) (V.map some ++ b) = subB a b := by
  induction V with
  | nil => rfl
  | cons x V ih => simp [subB, ih]
/-- The end, the boxes as they lie, some forgotten. -/
theorem finJ {P : Program} {rs : List ResultVar} {r : PV} {σ' : Boxes} {s : St} (hσ : subB σ' s.σ) (hres : resPV P s rs = some r) (hlt : r.lt σ'.length = true) (hk : s.k ≤ σ'.length) (hB : ltB σ'.length σ') : FinG P rs (fun p σ2 => p = r ∧ σ2 = σ') s := by
  refine finG_mk (p2 := r) (List.range σ'.length) σ' hres (ren_idn (fun b hb => range_getD hb) r hlt).symm hlt (by simp) hk ?_ List.nodup_range (entB_all _ _ fun i cs hi => ?_) ⟨rfl, rfl⟩
  · rw [List.take_range, Nat.min_eq_left hk]
  · rw [Nat.zero_add]
    have h1 := hB i cs hi
    have hil := (List.getElem?_eq_some_iff.1 hi).1
    refine ⟨?_, h1⟩
    rw [renL_idn (fun b hb => range_getD hb) cs h1, range_getD hil]
    simp [box, subB_get hσ i cs hi]
theorem ltB_cons {n : Nat} {x : Option (List PV)} {σ : Boxes} (h : ∀ cs, x = some cs → ltL n cs = true) (h2 : ltB n σ) : ltB n (x :: σ) := fun i cs hi => by
  cases i with
  | zero => exact h cs (by simpa using hi)
  | succ i => exact h2 i cs (by simpa using hi)
theorem ltB_nil (n : Nat) : ltB n [] := fun i cs hi => by simp at hi
theorem ltB_app {n : Nat} {σ τ : Boxes} (h : ltB n σ) (h2 : ltB n τ) : ltB n (σ ++ τ) := fun i cs hi => by
  by_cases hl : i < σ.length
  · rw [List.getElem?_append_left hl] at hi; exact h i cs hi
  · rw [List.getElem?_append_right (by omega)] at hi; exact h2 _ cs hi
/-- The boxes after an operation that records a command, or an event. -/
abbrev cmdB (c : RC) (x : RS) (y : GCmd) : Boxes :=
  some (runC c (.osl 1 2 0 x.comps.length) x.rs x.rg (.osl (x.comps.length + 7) 5 0 (x.cmds.length + 1)) (.osl 3 4 0 x.evs.length)) :: some (cellsD x.comps (List.range' 4 x.comps.length)) :: none :: some (x.evs.map GEvent.e).flatten ::
    ((x.comps.map fun c => c.Vals.map kI).map some ++ [none, none, none, some ((x.cmds.map GCmd.e).flatten ++ y.e)])
abbrev evB (c : RC) (x : RS) (y : GEvent) : Boxes :=
  some (runC c (.osl 1 2 0 x.comps.length) x.rs x.rg (.osl 2 5 0 x.cmds.length) (.osl (x.comps.length + 7) 4 0 (x.evs.length + 1))) :: some (cellsD x.comps (List.range' 4 x.comps.length)) :: some (x.cmds.map GCmd.e).flatten :: none ::
    ((x.comps.map fun c => c.Vals.map kI).map some ++ [none, none, none, some ((x.evs.map GEvent.e).flatten ++ y.e)])
theorem vals_ltB (l : List GComp) (n : Nat) : ltB n ((l.map fun c => c.Vals.map kI).map some) := fun i cs hi => by
  simp at hi
  obtain ⟨a, _, rfl⟩ := hi
  exact ints_lt _ _
theorem cmdB_lt (c : RC) (x : RS) (y : GCmd) : ltB (cmdB c x y).length (cmdB c x y) := by
  refine ltB_cons (fun cs h => ?_) (ltB_cons (fun cs h => ?_) (ltB_cons (fun cs h => by simp at h) (ltB_cons (fun cs h => ?_) (ltB_app (vals_ltB _ _) (ltB_cons (fun cs h => by simp at h) (ltB_cons (fun cs h => by simp at h) (ltB_cons (fun cs h => by simp at h) (ltB_cons (fun cs h => ?_) (ltB_nil _)))))))))
  · simp only [Option.some.injEq] at h; subst h; simp
  · simp only [Option.some.injEq] at h; subst h
    exact ltL_cellsD _ _ fun b hb => by have := List.mem_range'_1.1 hb; simp; omega
  · simp only [Option.some.injEq] at h; subst h; simp
  · simp only [Option.some.injEq] at h; subst h
    have e : (x.cmds.map GCmd.e).flatten ++ y.e = ((x.cmds ++ [y]).map GCmd.e).flatten := by simp
    rw [e]; exact GCmd.ltl _ _
theorem evB_lt (c : RC) (x : RS) (y : GEvent) : ltB (evB c x y).length (evB c x y) := by
  refine ltB_cons (fun cs h => ?_) (ltB_cons (fun cs h => ?_) (ltB_cons (fun cs h => ?_) (ltB_cons (fun cs h => by simp at h) (ltB_app (vals_ltB _ _) (ltB_cons (fun cs h => by simp at h) (ltB_cons (fun cs h => by simp at h) (ltB_cons (fun cs h => by simp at h) (ltB_cons (fun cs h => ?_) (ltB_nil _)))))))))
  · simp only [Option.some.injEq] at h; subst h; simp
  · simp only [Option.some.injEq] at h; subst h
    exact ltL_cellsD _ _ fun b hb => by have := List.mem_range'_1.1 hb; simp; omega
  · simp only [Option.some.injEq] at h; subst h; simp
  · simp only [Option.some.injEq] at h; subst h
    have e : (x.evs.map GEvent.e).flatten ++ y.e = ((x.evs ++ [y]).map GEvent.e).flatten := by simp
    rw [e]; exact GEvent.ltl _ _
theorem vals_at (l : List GComp) (ext : Boxes) (i : Nat) (h : i < l.length) : ((l.map fun c => c.Vals.map kI).map some ++ ext)[i]? = some (some ((l[i]).Vals.map kI)) := by
  rw [List.getElem?_append_left (by simpa using h)]; simp [h]
theorem vals_end (l : List GComp) (a b c d : Option (List PV)) : ((l.map fun c => c.Vals.map kI).map some ++ [a, b, c, d])[l.length + 3]? = some d := by
  rw [List.getElem?_append_right (by simp)]; simp
theorem cmdB_R (c : RC) (x : RS) (y : GCmd) : RunR c { x with cmds := x.cmds ++ [y] } (x.comps.length + 7) 3 (cmdB c x y) := by
  refine ⟨by simp [cmdB], rfl, ?_, rfl, fun i h => ?_, cmdB_lt c x y, .inr (by simp only; omega), .inl rfl, by omega⟩
  · show ((x.comps.map fun c => c.Vals.map kI).map some ++ [none, none, none, _])[x.comps.length + 3]? = _
    rw [vals_end]; simp
  · rw [show 4 + i = i + 4 by omega]
    exact vals_at _ _ i h
theorem evB_R (c : RC) (x : RS) (y : GEvent) : RunR c { x with evs := x.evs ++ [y] } 2 (x.comps.length + 7) (evB c x y) := by
  refine ⟨by simp [evB], rfl, rfl, ?_, fun i h => ?_, evB_lt c x y, .inl rfl, .inr (by simp only; omega), by omega⟩
  · show ((x.comps.map fun c => c.Vals.map kI).map some ++ [none, none, none, _])[x.comps.length + 3]? = _
    rw [vals_end]; simp
  · rw [show 4 + i = i + 4 by omega]
    exact vals_at _ _ i h

theorem subB_refl : ∀ (σ : Boxes), subB σ σ
  | [] => trivial
  | none :: r => subB_refl r
  | some c :: r => ⟨rfl, subB_refl r⟩
theorem cmd_end {P : Program} {s : St} (c : RC) (x : RS) (y : GCmd) (e1 e2 e3 : Option (List PV))
    (hσ : s.σ = some (runC c (.osl 1 2 0 x.comps.length) x.rs x.rg (.osl (x.comps.length + 7) 5 0 (x.cmds.length + 1)) (.osl 3 4 0 x.evs.length)) :: some (cellsD x.comps (List.range' 4 x.comps.length)) :: none :: some (x.evs.map GEvent.e).flatten ::
      ((x.comps.map fun c => c.Vals.map kI).map some ++ [e1, e2, e3, some ((x.cmds.map GCmd.e).flatten ++ y.e)])) (hk : s.k = x.comps.length + 4) : FinG P [] (fun p σ2 => p = .tup [] ∧ σ2 = cmdB c x y) s := by
  refine finJ (σ' := cmdB c x y) ?_ rfl rfl (by simp; omega) (cmdB_lt c x y)
  rw [hσ]
  exact ⟨rfl, rfl, rfl, by rw [subB_app]; simp [subB]⟩
theorem cmd_end0 {P : Program} {s : St} (c : RC) (x : RS) (y : GCmd) (e1 e2 e3 : Option (List PV)) (hy : y.Comps = [])
    (hσ : s.σ = some (runC c (.osl 1 2 0 x.comps.length) x.rs x.rg (.osl (x.comps.length + 7) 5 0 (x.cmds.length + 1)) (.osl 3 4 0 x.evs.length)) :: some (cellsD x.comps (List.range' 4 x.comps.length)) :: none :: some (x.evs.map GEvent.e).flatten ::
      ((x.comps.map fun c => c.Vals.map kI).map some ++ [e1, e2, e3, some ((x.cmds.map GCmd.e).flatten ++ [kI y.Do, kI y.Ent.N, kI y.Ent.Gen, kI y.Kind, kNil])])) (hk : s.k = x.comps.length + 4) : FinG P [] (fun p σ2 => p = .tup [] ∧ σ2 = cmdB c x y) s := by
  have hM : (x.cmds.map GCmd.e).flatten.length = x.cmds.length * 5 := flat_len GCmd.e_len _
  have hVl : ((x.comps.map fun c => c.Vals.map kI).map some).length = x.comps.length := by simp
  refine finG_ent (ent_cell (x.comps.length + 7) (x.cmds.length * 5 + 4) (tell_nil 2) rfl (cs := (x.cmds.map GCmd.e).flatten ++ [kI y.Do, kI y.Ent.N, kI y.Ent.Gen, kI y.Kind, kNil]) ?_ ?_) (cmd_end c x y e1 e2 e3 ?_ hk)
  · rw [hσ]
    simp only [box]
    rw [show ∀ (a b c d : Option (List PV)) (l : Boxes), (a :: b :: c :: d :: l)[x.comps.length + 7]? = l[x.comps.length + 3]? from fun _ _ _ _ _ => rfl, vals_end]
    rfl
  · rw [List.getElem?_append_right (by omega), hM]
    simp
  · simp only
    rw [hσ]
    generalize (x.comps.map fun c => c.Vals.map kI).map some = V at hVl ⊢
    generalize (x.cmds.map GCmd.e).flatten = M at hM ⊢
    have e : (M ++ [kI y.Do, kI y.Ent.N, kI y.Ent.Gen, kI y.Kind, kNil]).set (x.cmds.length * 5 + 4) (.sl 2 []) = M ++ y.e := by
      rw [List.set_append_right _ _ (by omega), hM]
      simp [GCmd.e, hy]
    rw [e]
    simp only [List.set_cons_succ]
    rw [List.set_append_right _ _ (by omega), hVl]
    simp





abbrev cmdB4 (c : RC) (x : RS) (y : GCmd) : Boxes :=
  some (runC c (.osl 1 2 0 x.comps.length) x.rs x.rg (.osl (x.comps.length + 8) 5 0 (x.cmds.length + 1)) (.osl 3 4 0 x.evs.length)) :: some (cellsD x.comps (List.range' 4 x.comps.length)) :: none :: some (x.evs.map GEvent.e).flatten ::
    ((x.comps.map fun c => c.Vals.map kI).map some ++ [none, none, none, none, some ((x.cmds.map GCmd.e).flatten ++ y.e)])
theorem cmdB4_lt (c : RC) (x : RS) (y : GCmd) : ltB (cmdB4 c x y).length (cmdB4 c x y) := by
  refine ltB_cons (fun cs h => ?_) (ltB_cons (fun cs h => ?_) (ltB_cons (fun cs h => by simp at h) (ltB_cons (fun cs h => ?_) (ltB_app (vals_ltB _ _) (ltB_cons (fun cs h => by simp at h) (ltB_cons (fun cs h => by simp at h) (ltB_cons (fun cs h => by simp at h) (ltB_cons (fun cs h => by simp at h) (ltB_cons (fun cs h => ?_) (ltB_nil _))))))))))
  · simp only [Option.some.injEq] at h; subst h; simp
  · simp only [Option.some.injEq] at h; subst h
    exact ltL_cellsD _ _ fun b hb => by have := List.mem_range'_1.1 hb; simp; omega
  · simp only [Option.some.injEq] at h; subst h; simp
  · simp only [Option.some.injEq] at h; subst h
    have e : (x.cmds.map GCmd.e).flatten ++ y.e = ((x.cmds ++ [y]).map GCmd.e).flatten := by simp
    rw [e]; exact GCmd.ltl _ _
theorem cmdB4_R (c : RC) (x : RS) (y : GCmd) : RunR c { x with cmds := x.cmds ++ [y] } (x.comps.length + 8) 3 (cmdB4 c x y) := by
  refine ⟨by simp [cmdB4], rfl, ?_, rfl, fun i h => ?_, cmdB4_lt c x y, .inr (by simp only; omega), .inl rfl, by omega⟩
  · show ((x.comps.map fun c => c.Vals.map kI).map some ++ [none, none, none, none, _])[x.comps.length + 4]? = _
    rw [List.getElem?_append_right (by simp)]; simp
  · rw [show 4 + i = i + 4 by omega]
    exact vals_at _ _ i h
mutual
theorem fz_ge {b n : Nat} (hb : n ≤ b) (cs : List PV) : (p : PV) → p.lt n = true → p.fz b cs = p
  | .k _, _ | .sl _ _, _ | .eptr _, _ => rfl
  | .osl b' z off len, h => by
    simp [PV.lt] at h
    have : b' ≠ b := by omega
    simp [PV.fz, this]
  | .osc b' _ _ _ _, h => rfl
  | .ptr b' off, h => by
    simp [PV.lt] at h
    have : b' ≠ b := by omega
    simp [PV.fz, this]
  | .mref b', h => rfl
  | .clo fn caps, h => by simp only [PV.fz]; rw [fzL_ge hb cs caps (by simpa [PV.lt] using h)]
  | .agg ps, h => by simp only [PV.fz]; rw [fzL_ge hb cs ps (by simpa [PV.lt] using h)]
  | .tup ps, h => by simp only [PV.fz]; rw [fzL_ge hb cs ps (by simpa [PV.lt] using h)]
theorem fzL_ge {b n : Nat} (hb : n ≤ b) (cs : List PV) : (ps : List PV) → ltL n ps = true → fzL b cs ps = ps
  | [], _ => rfl
  | p :: ps, h => by
    have h2 : p.lt n = true ∧ ltL n ps = true := by simpa [ltL] using h
    simp only [fzL]
    rw [fz_ge hb cs p h2.1, fzL_ge hb cs ps h2.2]
end
theorem cmd_end4 {P : Program} {s : St} (c : RC) (x : RS) (d : Int) (e : GEnt) (k : Int) (y : GComp) (e1 e2 e3 : Option (List PV))
    (hσ : s.σ = some (runC c (.osl 1 2 0 x.comps.length) x.rs x.rg (.osl (x.comps.length + 8) 5 0 (x.cmds.length + 1)) (.osl 3 4 0 x.evs.length)) :: some (cellsD x.comps (List.range' 4 x.comps.length)) :: none :: some (x.evs.map GEvent.e).flatten ::
      ((x.comps.map fun c => c.Vals.map kI).map some ++ [e1, e2, some y.e, e3, some ((x.cmds.map GCmd.e).flatten ++ [kI d, kI e.N, kI e.Gen, kI k, .osl (x.comps.length + 6) 2 0 1])])) (hk : s.k = x.comps.length + 4) :
    FinG P [] (fun p σ2 => p = .tup [] ∧ σ2 = cmdB4 c x ⟨d, e, k, [y]⟩) s := by
  refine finG_fz (x.comps.length + 6) y.e ?_ ?_ (by simp) (by omega)
  · refine finJ (σ' := cmdB4 c x ⟨d, e, k, [y]⟩) ?_ rfl rfl (by simp [St.fz]; omega) (cmdB4_lt c x _)
    have h1 : fzL (x.comps.length + 6) y.e (cellsD x.comps (List.range' 4 x.comps.length)) = cellsD x.comps (List.range' 4 x.comps.length) :=
      fzL_ge (n := x.comps.length + 6) (Nat.le_refl _) _ _ (ltL_cellsD _ _ fun b hb => by have := List.mem_range'_1.1 hb; omega)
    have h2 : List.map (fun z : Option (List PV) => z.map (fzL (x.comps.length + 6) y.e)) ((x.comps.map fun c => c.Vals.map kI).map some) = (x.comps.map fun c => c.Vals.map kI).map some := by
      rw [List.map_map]
      refine List.map_congr_left fun z hz => ?_
      obtain ⟨w, _, rfl⟩ := List.mem_map.1 hz
      simp only [Function.comp, Option.map_some]
      rw [imms_fz (ints_imm w.Vals)]
    have hV : ((x.comps.map fun c => c.Vals.map kI).map some).length = x.comps.length := by simp
    have hne : ¬ x.comps.length + 8 = x.comps.length + 6 := by omega
    simp only [St.fz, hσ, List.map_cons, List.map_append, h2, Option.map_some, h1, cmdB4]
    generalize (x.comps.map fun c => c.Vals.map kI).map some = V at hV ⊢
    simp only [List.set_cons_succ]
    rw [List.set_append_right _ _ (by omega), hV]
    refine ⟨by simp, rfl, by simp, ?_⟩
    have happ : ∀ (V a b : Boxes), (∀ q, subB q q → True) → subB a b → subB (V ++ a) (V ++ b) := fun V a b _ h => by
      induction V with
      | nil => exact h
      | cons z V ih => cases z with
        | none => exact ih
        | some z => exact ⟨rfl, ih⟩
    refine happ _ _ _ (fun _ _ => trivial) ?_
    simp [subB, GCmd.e, chunks, List.range, List.range.loop]
  · rw [hσ]
    simp only [box]
    rw [show ∀ (a b c d : Option (List PV)) (l : Boxes), (a :: b :: c :: d :: l)[x.comps.length + 6]? = l[x.comps.length + 2]? from fun _ _ _ _ _ => rfl, List.getElem?_append_right (by simp)]
    simp
theorem ev_end {P : Program} {s : St} (c : RC) (x : RS) (y : GEvent) (e1 e2 e3 : Option (List PV))
    (hσ : s.σ = some (runC c (.osl 1 2 0 x.comps.length) x.rs x.rg (.osl 2 5 0 x.cmds.length) (.osl (x.comps.length + 7) 4 0 (x.evs.length + 1))) :: some (cellsD x.comps (List.range' 4 x.comps.length)) :: some (x.cmds.map GCmd.e).flatten :: none ::
      ((x.comps.map fun c => c.Vals.map kI).map some ++ [e1, e2, e3, some ((x.evs.map GEvent.e).flatten ++ y.e)])) (hk : s.k = x.comps.length + 4) : FinG P [] (fun p σ2 => p = .tup [] ∧ σ2 = evB c x y) s := by
  refine finJ (σ' := evB c x y) ?_ rfl rfl (by simp; omega) (evB_lt c x y)
  rw [hσ]
  exact ⟨rfl, rfl, rfl, by show subB (_ ++ _) (_ ++ _); rw [subB_app]; simp [subB]⟩
set_option maxRecDepth 20000 in
set_option maxHeartbeats 4000000 in
theorem do_else (c : RC) (x : RS) (o : GOp) (hO : OpFine c x o) (hd : ¬ (0 ≤ o.Do ∧ o.Do ≤ 7)) (hc1 : x.cmds.length ≤ 1000000) (he1 : x.evs.length ≤ 1000000)
    (hkl : ∀ k ∈ c.ks, k.Fields.length ≤ 1000) (hsp : (RC.s c).Spawn.length ≤ 12) (hsv : ∀ d ∈ (RC.s c).Spawn, d.Vals.length ≤ 1000) (hkn : c.ks.length ≤ 1000000) :
    ∃ σ' mb eb, FnD Tryz.prog 27 [.ptr 0 0, .agg o.e] (RB c x) (.tup []) σ' ∧ RunR c (doM c x o) mb eb σ' ∧ (RB c x).length ≤ σ'.length := by
  obtain ⟨hA, hB, hset, hput, ham, hll, hrs, hrg, hro⟩ := hO
  have hR := RB_run c x
  have hA' := arg_fn c x.comps _ _ _ _ o.A _ hR hll hA
  have hB' := arg_fn c x.comps _ _ _ _ o.B _ hR hll hB
  have hRR := RB_R c x
  have hlen := RB_len c x
  obtain ⟨h0, h1, hv, hBB, h4⟩ := hR
  obtain ⟨C, hC⟩ : ∃ C, cellsD x.comps (List.range' 4 x.comps.length) = C := ⟨_, rfl⟩
  obtain ⟨M, hM⟩ : ∃ M, (x.cmds.map GCmd.e).flatten = M := ⟨_, rfl⟩
  obtain ⟨E, hE⟩ : ∃ E, (x.evs.map GEvent.e).flatten = E := ⟨_, rfl⟩
  obtain ⟨V, hV⟩ : ∃ V, (x.comps.map fun c => c.Vals.map kI) = V := ⟨_, rfl⟩
  have hVl : V.length = x.comps.length := by rw [← hV]; simp
  have hMl : M.length = x.cmds.length * 5 := by rw [← hM]; exact flat_len GCmd.e_len _
  have hEl : E.length = x.evs.length * 4 := by rw [← hE]; exact flat_len GEvent.e_len _
  have hσ : RB c x = runC c (.osl 1 2 0 x.comps.length) x.rs x.rg (.osl 2 5 0 x.cmds.length) (.osl 3 4 0 x.evs.length) :: C :: M :: E :: V := by rw [← hC, ← hM, ← hE, ← hV]; rfl
  rw [hσ] at hA' hB' hRR hlen hBB ⊢
  obtain ⟨a, haa⟩ : ∃ a, argV x.comps o.A = a := ⟨_, rfl⟩
  obtain ⟨b, hbb⟩ : ∃ b, argV x.comps o.B = b := ⟨_, rfl⟩
  rw [haa] at hA'
  rw [hbb] at hB'
  have hS : Fn Tryz.prog 59 [kI o.Do] (kB false) := by
    have := sets_fn o.Do
    rwa [decide_eq_false hd] at this
  have hn1 : ∀ (a b : Option (List PV)) (y : Boxes), (V.map some ++ a :: b :: y)[x.comps.length + 1]? = some b := fun a b y => by rw [List.getElem?_append_right (by simp [hVl])]; simp [hVl]
  have hn2 : ∀ (a b d : Option (List PV)) (y : Boxes), (V.map some ++ a :: b :: d :: y)[x.comps.length + 2]? = some d := fun a b d y => by rw [List.getElem?_append_right (by simp [hVl])]; simp [hVl]
  have hc2 : (x.cmds.length + 1) * 56 ≤ 140737488355328 := by omega
  have hc3 : x.cmds.length + 1 ≤ maxLen := by simp only [maxLen]; omega
  have he2 : (x.evs.length + 1) * 32 ≤ 140737488355328 := by omega
  have he3 : x.evs.length + 1 ≤ maxLen := by simp only [maxLen]; omega
  have hS : Fn Tryz.prog 59 [kI o.Do] (kB false) := by
    have := sets_fn o.Do
    rwa [decide_eq_false hd] at this
  have hn : ∀ y : Boxes, (V.map some ++ some o.e :: y)[x.comps.length]? = some (some o.e) := fun y => by rw [List.getElem?_append_right (by simp [hVl])]; simp [hVl]
  have hn' : ∀ y : Boxes, (V.map some ++ some o.e :: y)[V.length]? = some (some o.e) := fun y => by rw [hVl]; exact hn y
  by_cases ha0 : a = 0
  · have hdo : doM c x o = x := by unfold doM; rw [if_neg hd, haa, if_pos ha0]
    rw [hdo]
    refine ⟨_, 2, 3, ?_, hRR, by simp⟩
    refine fnd_go Tryz.func27 rfl ?_
    simp [Tryz.ntmps27]
    refine awp_draw follows_mix [3, 7] [(0, [0]), (0, [0]), (0, [0]), (3, [0]), (0, [0, 1]), (0, [0, 1]), (0, [0, 1]), (3, [1]), (0, [2]), (0, [2])] 2 (by kernel_rfl) rfl ?_
    simp [hn, hn']
    refine gD_callW (kI a) (some (runC c (.osl 1 2 0 x.comps.length) x.rs x.rg (.osl 2 5 0 x.cmds.length) (.osl 3 4 0 x.evs.length)) :: some C :: some M :: some E :: (V.map some ++ [some o.e])) ?_
    simp [hn, hn']
    refine gD_callW (kI b) (some (runC c (.osl 1 2 0 x.comps.length) x.rs x.rg (.osl 2 5 0 x.cmds.length) (.osl 3 4 0 x.evs.length)) :: some C :: some M :: some E :: (V.map some ++ [some o.e])) ?_
    simp [hn, hn']
    refine ⟨⟨.inl ⟨rfl, doI hA' (ext := [some o.e]) (by simp) (by simp) hBB hBB⟩, .inl ⟨rfl, doI hB' (ext := [some o.e]) (by simp) (by simp) hBB hBB⟩⟩, ?_⟩
    refine cal hS ?_
    simp [ha0]
    exact finI (σ' := some (runC c (.osl 1 2 0 x.comps.length) x.rs x.rg (.osl 2 5 0 x.cmds.length) (.osl 3 4 0 x.evs.length)) :: some C :: some M :: some E :: V.map some) (r := .tup []) [some o.e] (by simp) (by simp) (by simp) (by simp) (by simpa using hBB)
  by_cases h10 : o.Do = 10
  · have hdo : doM c x o = { x with cmds := x.cmds ++ [⟨2, ⟨c.N, c.G⟩, 0, []⟩] } := by unfold doM; rw [if_neg hd, haa, if_neg ha0]; simp [h10]
    rw [hdo]
    refine ⟨_, _, _, ?h, cmdB_R c x _, by rw [← hσ, RB_len]; simp; omega⟩
    case h =>
      simp only [cmdB, hC, hM, hE, hV]
      refine fnd_go Tryz.func27 rfl ?_
      simp [Tryz.ntmps27]
      refine awp_draw follows_mix [3, 7] [(0, [0]), (0, [0]), (0, [0]), (3, [0]), (0, [0, 1]), (0, [0, 1]), (0, [0, 1]), (3, [1]), (0, [2]), (0, [2])] 2 (by kernel_rfl) rfl ?_
      simp [hn, hn']
      refine gD_callW (kI a) (some (runC c (.osl 1 2 0 x.comps.length) x.rs x.rg (.osl 2 5 0 x.cmds.length) (.osl 3 4 0 x.evs.length)) :: some C :: some M :: some E :: (V.map some ++ [some o.e])) ?_
      simp [hn, hn']
      refine gD_callW (kI b) (some (runC c (.osl 1 2 0 x.comps.length) x.rs x.rg (.osl 2 5 0 x.cmds.length) (.osl 3 4 0 x.evs.length)) :: some C :: some M :: some E :: (V.map some ++ [some o.e])) ?_
      simp [hn, hn']
      refine ⟨⟨.inl ⟨rfl, doI hA' (ext := [some o.e]) (by simp) (by simp) hBB hBB⟩, .inl ⟨rfl, doI hB' (ext := [some o.e]) (by simp) (by simp) hBB hBB⟩⟩, ?_⟩
      refine cal hS ?_
      simp [ha0, h10]
      refine awp_draw follows_mix [] [(0, [0, 1, 2]), (0, [0, 1]), (0, [0, 1]), (0, [0, 1]), (0, [0, 1]), (0, [0]), (1, [0]), (1, [1]), (0, [2]), (0, [2]), (1, [2])] 3 (by kernel_rfl) rfl ?_
      simp [hMl, hc2, hc3]
      subst hC hM hE hV
      exact cmd_end0 c x _ _ _ _ rfl (by simp [GCmd.e]; exact ⟨rfl, rfl, rfl⟩) (by simp)
  by_cases h9 : o.Do = 9
  · have hdo : doM c x o = { x with cmds := x.cmds ++ [⟨1, ⟨c.N, c.G⟩, o.To.Kind, []⟩] } := by unfold doM; rw [if_neg hd, haa, if_neg ha0]; simp [h9]
    rw [hdo]
    refine ⟨_, _, _, ?h, cmdB_R c x _, by rw [← hσ, RB_len]; simp; omega⟩
    case h =>
      simp only [cmdB, hC, hM, hE, hV]
      refine fnd_go Tryz.func27 rfl ?_
      simp [Tryz.ntmps27]
      refine awp_draw follows_mix [3, 7] [(0, [0]), (0, [0]), (0, [0]), (3, [0]), (0, [0, 1]), (0, [0, 1]), (0, [0, 1]), (3, [1]), (0, [2]), (0, [2])] 2 (by kernel_rfl) rfl ?_
      simp [hn, hn']
      refine gD_callW (kI a) (some (runC c (.osl 1 2 0 x.comps.length) x.rs x.rg (.osl 2 5 0 x.cmds.length) (.osl 3 4 0 x.evs.length)) :: some C :: some M :: some E :: (V.map some ++ [some o.e])) ?_
      simp [hn, hn']
      refine gD_callW (kI b) (some (runC c (.osl 1 2 0 x.comps.length) x.rs x.rg (.osl 2 5 0 x.cmds.length) (.osl 3 4 0 x.evs.length)) :: some C :: some M :: some E :: (V.map some ++ [some o.e])) ?_
      simp [hn, hn']
      refine ⟨⟨.inl ⟨rfl, doI hA' (ext := [some o.e]) (by simp) (by simp) hBB hBB⟩, .inl ⟨rfl, doI hB' (ext := [some o.e]) (by simp) (by simp) hBB hBB⟩⟩, ?_⟩
      refine cal hS ?_
      simp [ha0, h9]
      refine awp_draw follows_mix [] [(0, [0, 1]), (0, [0, 1]), (0, [0, 1]), (0, [0]), (1, [0]), (0, [1]), (1, [1])] 2 (by kernel_rfl) rfl ?_
      simp [hn, hn', hVl]
      refine awp_draw follows_mix [] [(0, [0, 1, 2]), (0, [0, 1]), (0, [0, 1]), (0, [0, 1]), (0, [0, 1]), (0, [0]), (1, [0]), (1, [1]), (0, [2]), (0, [2]), (1, [2])] 3 (by kernel_rfl) rfl ?_
      simp [hMl, hc2, hc3, hn1, hVl]
      subst hC hM hE hV
      exact cmd_end0 c x _ _ _ _ rfl (by simp [GCmd.e]; exact ⟨rfl, rfl, rfl⟩) (by simp)
  by_cases h11 : o.Do = 11
  · have hdo : doM c x o = { x with cmds := x.cmds ++ [⟨3, ⟨0, 0⟩, 0, (fitC c.ks c.s.Spawn).1⟩] } := by unfold doM; rw [if_neg hd, haa, if_neg ha0]; simp [h11]
    rw [hdo]
    refine ⟨_, _, _, ?h, cmdB_R c x _, by rw [← hσ, RB_len]; simp; omega⟩
    case h =>
      simp only [cmdB, hC, hM, hE, hV]
      refine fnd_go Tryz.func27 rfl ?_
      simp [Tryz.ntmps27]
      refine awp_draw follows_mix [3, 7] [(0, [0]), (0, [0]), (0, [0]), (3, [0]), (0, [0, 1]), (0, [0, 1]), (0, [0, 1]), (3, [1]), (0, [2]), (0, [2])] 2 (by kernel_rfl) rfl ?_
      simp [hn, hn']
      refine gD_callW (kI a) (some (runC c (.osl 1 2 0 x.comps.length) x.rs x.rg (.osl 2 5 0 x.cmds.length) (.osl 3 4 0 x.evs.length)) :: some C :: some M :: some E :: (V.map some ++ [some o.e])) ?_
      simp [hn, hn']
      refine gD_callW (kI b) (some (runC c (.osl 1 2 0 x.comps.length) x.rs x.rg (.osl 2 5 0 x.cmds.length) (.osl 3 4 0 x.evs.length)) :: some C :: some M :: some E :: (V.map some ++ [some o.e])) ?_
      simp [hn, hn']
      refine ⟨⟨.inl ⟨rfl, doI hA' (ext := [some o.e]) (by simp) (by simp) hBB hBB⟩, .inl ⟨rfl, doI hB' (ext := [some o.e]) (by simp) (by simp) hBB hBB⟩⟩, ?_⟩
      refine cal hS ?_
      simp [ha0, h11]
      refine awp_draw follows_mix [] [(0, [0]), (0, [0]), (0, [0]), (0, [0]), (0, [0]), (0, [0]), (0, [0]), (0, [0]), (0, [0]), (2, [0]), (0, [0]), (0, [0]), (0, [0]), (0, [0]), (0, [0])] 0 (by kernel_rfl) rfl ?_
      simp
      refine gD_call (.tup [.sl 2 ((fitC c.ks c.s.Spawn).1.map GComp.e), kI (fitC c.ks c.s.Spawn).2]) ?_
      simp
      refine ⟨calO (WFit_fn c.ks c.s.Spawn hkn (fun k hk => by have := hkl k hk; omega) hsp hsv), ?_⟩
      refine awp_draw follows_mix [] [(0, [0, 1, 2]), (0, [0, 1]), (0, [0, 1]), (0, [0, 1]), (0, [0, 1]), (0, [0]), (1, [0]), (1, [1]), (0, [2]), (0, [2]), (1, [2])] 3 (by kernel_rfl) rfl ?_
      simp [hMl, hc2, hc3]
      subst hC hM hE hV
      exact cmd_end c x _ _ _ _ (by simp [GCmd.e]; exact ⟨rfl, rfl, rfl⟩) (by simp)
  by_cases h8 : o.Do = 8
  · have hdo : doM c x o = { x with cmds := x.cmds ++ [⟨0, ⟨c.N, c.G⟩, 0, [⟨o.To.Kind, defaultM (kindOf c.ks o.To.Kind)⟩]⟩] } := by unfold doM; rw [if_neg hd, haa, if_neg ha0]; simp [h8]
    rw [hdo]
    obtain ⟨hp0, hp1⟩ := hput h8
    obtain ⟨kk, hkk⟩ : ∃ kk : Nat, o.To.Kind = kk := ⟨o.To.Kind.toNat, by omega⟩
    have hkk' : kk < c.ks.length := by omega
    have hky : kindOf c.ks kk = c.ks[kk] := by simp [kindOf, List.getD, hkk']
    refine ⟨_, _, _, ?h, cmdB4_R c x _, by rw [← hσ, RB_len]; simp; omega⟩
    case h =>
      simp only [cmdB4, hC, hM, hE, hV]
      refine fnd_go Tryz.func27 rfl ?_
      simp [Tryz.ntmps27]
      refine awp_draw follows_mix [3, 7] [(0, [0]), (0, [0]), (0, [0]), (3, [0]), (0, [0, 1]), (0, [0, 1]), (0, [0, 1]), (3, [1]), (0, [2]), (0, [2])] 2 (by kernel_rfl) rfl ?_
      simp [hn, hn']
      refine gD_callW (kI a) (some (runC c (.osl 1 2 0 x.comps.length) x.rs x.rg (.osl 2 5 0 x.cmds.length) (.osl 3 4 0 x.evs.length)) :: some C :: some M :: some E :: (V.map some ++ [some o.e])) ?_
      simp [hn, hn']
      refine gD_callW (kI b) (some (runC c (.osl 1 2 0 x.comps.length) x.rs x.rg (.osl 2 5 0 x.cmds.length) (.osl 3 4 0 x.evs.length)) :: some C :: some M :: some E :: (V.map some ++ [some o.e])) ?_
      simp [hn, hn']
      refine ⟨⟨.inl ⟨rfl, doI hA' (ext := [some o.e]) (by simp) (by simp) hBB hBB⟩, .inl ⟨rfl, doI hB' (ext := [some o.e]) (by simp) (by simp) hBB hBB⟩⟩, ?_⟩
      refine cal hS ?_
      simp [ha0, h8]
      refine awp_drawX follows_mix [16] [] [(0, [0]), (0, [0]), (0, [0]), (0, [0]), (0, [0]), (0, [0]), (0, [0]), (0, [0]), (0, [0]), (0, [0]), (0, [0]), (0, [0]), (2, [0]), (0, [0]), (1, [0]), (0, [0, 1]), (0, [0, 1]), (0, [1]), (1, [1])] 2 (by kernel_rfl) rfl ?_
      simp [hn, hn', hVl, hkk, hkk']
      refine gD_call (slI (defaultM c.ks[kk])) ?_
      simp [hn, hn', hVl, hkk, hkk']
      refine ⟨calO (Default_fn _ (hkl _ (List.getElem_mem hkk'))), ?_⟩
      refine awp_draw follows_mix [] [(0, [0, 1, 2]), (0, [0, 1]), (0, [0, 1]), (0, [0, 1]), (0, [0, 1]), (0, [0]), (1, [0]), (1, [1]), (0, [2]), (0, [2]), (1, [2])] 3 (by kernel_rfl) rfl ?_
      simp [hMl, hc2, hc3, hn1, hVl, hn2]
      subst hC hM hE hV
      rw [hkk, hky]
      refine cmd_end4 c x 0 ⟨c.N, c.G⟩ 0 ⟨kk, defaultM c.ks[kk]⟩ (some o.e) (some [kI 0, kI c.N, kI c.G, kI 0, .osl (x.comps.length + 6) 2 0 1]) (some [kI 0, kI c.N, kI c.G, kI 0, .osl (x.comps.length + 6) 2 0 1]) ?_ ?_
      · simp [GComp.e]
      · simp
  have hdo : doM c x o = { x with evs := x.evs ++ [⟨c.idx, ⟨c.N, c.G⟩, b⟩] } := by unfold doM; rw [if_neg hd, haa, hbb, if_neg ha0, if_neg h8, if_neg h9, if_neg h10, if_neg h11]
  rw [hdo]
  refine ⟨_, _, _, ?h, evB_R c x _, by rw [← hσ, RB_len]; simp; omega⟩
  case h =>
    simp only [evB, hC, hM, hE, hV]
    refine fnd_go Tryz.func27 rfl ?_
    simp [Tryz.ntmps27]
    refine awp_draw follows_mix [3, 7] [(0, [0]), (0, [0]), (0, [0]), (3, [0]), (0, [0, 1]), (0, [0, 1]), (0, [0, 1]), (3, [1]), (0, [2]), (0, [2])] 2 (by kernel_rfl) rfl ?_
    simp [hn, hn']
    refine gD_callW (kI a) (some (runC c (.osl 1 2 0 x.comps.length) x.rs x.rg (.osl 2 5 0 x.cmds.length) (.osl 3 4 0 x.evs.length)) :: some C :: some M :: some E :: (V.map some ++ [some o.e])) ?_
    simp [hn, hn']
    refine gD_callW (kI b) (some (runC c (.osl 1 2 0 x.comps.length) x.rs x.rg (.osl 2 5 0 x.cmds.length) (.osl 3 4 0 x.evs.length)) :: some C :: some M :: some E :: (V.map some ++ [some o.e])) ?_
    simp [hn, hn']
    refine ⟨⟨.inl ⟨rfl, doI hA' (ext := [some o.e]) (by simp) (by simp) hBB hBB⟩, .inl ⟨rfl, doI hB' (ext := [some o.e]) (by simp) (by simp) hBB hBB⟩⟩, ?_⟩
    refine cal hS ?_
    simp [ha0, h8, h9, h10, h11]
    refine awp_draw follows_mix [] [(0, [0, 1, 2]), (0, [0, 1]), (0, [0, 1]), (0, [0, 1]), (0, [0, 1]), (0, [0]), (0, [0]), (0, [0]), (0, [0]), (0, [0]), (0, [0]), (0, [0]), (0, [0]), (0, [0]), (0, [0]), (0, [0]), (1, [0]), (1, [1]), (0, [2]), (0, [2]), (1, [2])] 3 (by kernel_rfl) rfl ?_
    simp [hEl, he2, he3]
    subst hC hM hE hV
    exact ev_end c x _ _ _ _ (by simp [GEvent.e]; exact ⟨rfl, rfl, rfl⟩) (by simp)
end Go.Proofs.YtfojnhceiabbhaaGreat.Am
/- Package system: do, called from a place where the boxes lie as they please. -/
namespace Go.Proofs.YtfojnhceiabbhaaGreat.Am
open Go Go.RowKit

/-- What a system's kinds and lists need. -/
structure CFine (c : RC) : Prop where
  kl : ∀ k ∈ c.ks, k.Fields.length ≤ 1000
  sp : (RC.s c).Spawn.length ≤ 12
  sv : ∀ d ∈ (RC.s c).Spawn, d.Vals.length ≤ 1000
  kn : c.ks.length ≤ 1000000

theorem do_fn (c : RC) (x : RS) (o : GOp) (hO : OpFine c x o) (hC : CFine c) (hc1 : x.cmds.length ≤ 1000000) (he1 : x.evs.length ≤ 1000000) :
    ∃ σ' mb eb, FnD Tryz.prog 27 [.ptr 0 0, .agg o.e] (RB c x) (.tup []) σ' ∧ RunR c (doM c x o) mb eb σ' ∧ (RB c x).length ≤ σ'.length := by
  by_cases hd : 0 ≤ o.Do ∧ o.Do ≤ 7
  · obtain ⟨σ', h1, h2, h3⟩ := do_set c x o hO hd
    exact ⟨σ', 2, 3, h1, h2, by omega⟩
  · exact do_else c x o hO hd hc1 he1 hC.kl hC.sp hC.sv hC.kn
theorem doM_len (c : RC) (x : RS) (o : GOp) : (doM c x o).comps.length = x.comps.length := by
  unfold doM
  split
  · simp [setK_len]
  · repeat' split
    all_goals rfl

/-- A runner among other boxes. -/
structure RunJ (c : RC) (x : RS) (rb cb mb eb : Nat) (σ : Boxes) : Prop where
  h0 : box σ rb = some (runC c (.osl cb 2 0 x.comps.length) x.rs x.rg (.osl mb 5 0 x.cmds.length) (.osl eb 4 0 x.evs.length))
  h1 : box σ cb = some (cellsD x.comps (List.range' (cb + 1) x.comps.length))
  hm : box σ mb = some (x.cmds.map GCmd.e).flatten
  he : box σ eb = some (x.evs.map GEvent.e).flatten
  hv : ∀ i (h : i < x.comps.length), box σ (cb + 1 + i) = some ((x.comps[i]).Vals.map kI)
  nd : ([rb, cb, mb, eb] ++ List.range' (cb + 1) x.comps.length).Nodup

/-- The boxes of a runner. -/
def runTh (rb cb mb eb n : Nat) : List Nat := [rb, cb, mb, eb] ++ List.range' (cb + 1) n
theorem runTh_len (rb cb mb eb n : Nat) : (runTh rb cb mb eb n).length = 4 + n := by simp [runTh]; omega
theorem runTh_tail (rb cb mb eb n i : Nat) (h : i < n) : (runTh rb cb mb eb n)[4 + i]? = some (cb + 1 + i) := by
  rw [Nat.add_comm]; simp [runTh, h]

theorem box_merge {σ σ' : Boxes} {th : List Nat} (hn : th.Nodup) (hl : ∀ t ∈ th, t < σ.length) (hle : th.length ≤ σ'.length) (i : Nat) :
    (∀ j, th[j]? = some i → box (merge σ th σ') i = (box σ' j).map (renL (thF th σ.length))) ∧ (i ∉ th → i < σ.length → box (merge σ th σ') i = box σ i) ∧
    (∀ j, i = σ.length + j → box (merge σ th σ') i = (box σ' (th.length + j)).map (renL (thF th σ.length))) := by
  obtain ⟨h1, h2⟩ := box_setAll (thF th σ.length) th σ' σ i hn hl hle
  have hlen := setAll_length (thF th σ.length) th σ' σ
  refine ⟨fun j hj => ?_, fun hi hil => ?_, fun j hj => ?_⟩
  · have := hl i (List.mem_of_getElem? hj)
    unfold merge
    rw [box_append, if_pos (by omega), h1 j hj]
  · unfold merge
    rw [box_append, if_pos (by omega), h2 hi]
  · unfold merge
    subst hj
    rw [box_append, if_neg (by omega), hlen, box_map, box_drop]
    congr 2; omega

theorem thF_at {th : List Nat} {m i t : Nat} (h : th[i]? = some t) : thF th m i = t := by
  have hl := (List.getElem?_eq_some_iff.1 h).1
  unfold thF
  rw [if_pos hl]
  simp [List.getD, h]
theorem thF_new {th : List Nat} {m i : Nat} (h : th.length ≤ i) : thF th m i = m + (i - th.length) := by
  unfold thF
  rw [if_neg (by omega)]
theorem box_of {σ : Boxes} {i : Nat} {cs : List PV} (h : σ[i]? = some (some cs)) : box σ i = some cs := by simp [box, h]

section
variable {P : Program} {ops : Array Oper} {rest : List Oper} {Q : St → Prop} {s : St} {o : Oper} {f : Operand} {args : Array Operand} {ts : Array TypeId}
set_option maxHeartbeats 1000000 in
theorem run_do {c : RC} {x : RS} {rb cb mb eb : Nat} {p : GOp} (hJ : RunJ c x rb cb mb eb s.σ) (hO : OpFine c x p) (hC : CFine c) (hc1 : x.cmds.length ≤ 1000000) (he1 : x.evs.length ≤ 1000000)
    (h : ∀ τ mb' eb', RunJ c (doM c x p) rb cb mb' eb' τ → (∀ j, j < s.σ.length → j ∉ runTh rb cb mb eb x.comps.length → box τ j = box s.σ j) → s.σ.length ≤ τ.length → (mb' = mb ∨ s.σ.length ≤ mb') → (eb' = eb ∨ s.σ.length ≤ eb') →
      @gOps (St.put { s with σ := τ } o.dst (.tup [])) ⟨Tryz.prog, ops, rest, Q⟩)
    (ho : o.op = .call { callee := .value f, args := args, argTypes := ts } := by exact rfl) (hcal : calleePV s f = some (27, []) := by first | exact rfl | simp) (hargs : opds s args.toList = some [.ptr rb 0, .agg p.e] := by first | exact rfl | simp) (hw : wantedA s ops o = some true := by simp)
    (hd : dstOk o.dst s.N = true := by first | exact rfl | simp) : OpsOk Tryz.prog ops (o :: rest) s Q := by
  obtain ⟨σ', m', e', hF, hR, hle⟩ := do_fn c x p hO hC hc1 he1
  obtain ⟨h0, h1, hm, he, hv, hnd⟩ := hJ
  have hlen := RB_len c x
  have hdl := doM_len c x p
  have hthl := runTh_len rb cb mb eb x.comps.length
  have hTl : ∀ t ∈ runTh rb cb mb eb x.comps.length, t < s.σ.length := fun t ht => by
    simp only [runTh, List.mem_append, List.mem_cons, List.not_mem_nil, or_false] at ht
    rcases ht with (rfl | rfl | rfl | rfl) | ht
    · exact box_lt h0
    · exact box_lt h1
    · exact box_lt hm
    · exact box_lt he
    · obtain ⟨i, hi, rfl⟩ := List.mem_range'.1 ht
      rw [Nat.one_mul]
      exact box_lt (hv i hi)
  have hnd' : (runTh rb cb mb eb x.comps.length).Nodup := hnd
  have hθ0 : thF (runTh rb cb mb eb x.comps.length) s.σ.length 0 = rb := thF_at rfl
  have hθ1 : thF (runTh rb cb mb eb x.comps.length) s.σ.length 1 = cb := thF_at rfl
  have hθ2 : thF (runTh rb cb mb eb x.comps.length) s.σ.length 2 = mb := thF_at rfl
  have hθ3 : thF (runTh rb cb mb eb x.comps.length) s.σ.length 3 = eb := thF_at rfl
  have hθv : ∀ i, i < x.comps.length → thF (runTh rb cb mb eb x.comps.length) s.σ.length (4 + i) = cb + 1 + i := fun i hi => thF_at (runTh_tail _ _ _ _ _ _ hi)
  have hrange : (List.range' 4 x.comps.length).map (thF (runTh rb cb mb eb x.comps.length) s.σ.length) = List.range' (cb + 1) x.comps.length := by
    refine List.ext_getElem (by simp) fun j h1 h2 => ?_
    simp only [List.getElem_map, List.getElem_range', Nat.one_mul]
    exact hθv j (by simpa using h1)
  obtain ⟨th, hth⟩ : ∃ th, runTh rb cb mb eb x.comps.length = th := ⟨_, rfl⟩
  have hg0 : th[0]? = some rb := hth ▸ rfl
  have hg1 : th[1]? = some cb := hth ▸ rfl
  have hg2 : th[2]? = some mb := hth ▸ rfl
  have hg3 : th[3]? = some eb := hth ▸ rfl
  have hgv : ∀ i, i < x.comps.length → th[4 + i]? = some (cb + 1 + i) := fun i hi => hth ▸ runTh_tail _ _ _ _ _ _ hi
  rw [hth] at hthl hTl hnd' hθ0 hθ1 hθ2 hθ3 hθv hrange h
  have hmg := box_merge (σ := s.σ) (σ' := σ') hnd' hTl (by omega)
  obtain ⟨θ, hθ⟩ : ∃ θ, thF th s.σ.length = θ := ⟨_, rfl⟩
  have hnew : ∀ j, θ (th.length + j) = s.σ.length + j := fun j => by rw [← hθ, thF_new (by omega)]; omega
  rw [hθ] at hθ0 hθ1 hθ2 hθ3 hθv hrange hmg
  refine ops_fnd (σ2 := merge s.σ th σ') (r2 := .tup []) th hF ho hcal hargs hw (by simp) hd (by omega) hnd' (by rw [hθ]; simp [hθ0]) (by rw [hthl]; simp; omega) ?_ rfl (by simp) ?_
  · rw [hθ, hthl, ← hth]
    refine ⟨⟨by rw [h0]; simp [hθ1, hθ2, hθ3], by simp; omega⟩, ⟨by rw [h1, renL_cellsD, hrange], ?_⟩, ⟨by rw [hm]; simp, by simp⟩, ⟨by rw [he]; simp, by simp⟩, ?_⟩
    · exact ltL_cellsD _ _ fun b hb => by have := List.mem_range'_1.1 hb; omega
    · have key : ∀ (l : List GComp) (i0 : Nat), (∀ i (h : i < l.length), box s.σ (i0 + i) = some ((l[i]).Vals.map kI)) → hboxL s.σ θ (4 + x.comps.length) (List.range' i0 l.length) (l.map fun c => c.Vals.map kI) := fun l => by
        induction l with
        | nil => intro i0 _; simp
        | cons y l ih =>
          intro i0 hl
          rw [List.length_cons, List.range'_succ, List.map_cons]
          refine ⟨⟨?_, ints_lt _ _⟩, ih (i0 + 1) fun i hi => ?_⟩
          · have := hl 0 (by simp)
            rw [ints_ren]
            simpa using this
          · have := hl (i + 1) (by simpa using hi)
            rwa [show i0 + (i + 1) = i0 + 1 + i by omega] at this
      exact key x.comps (cb + 1) hv
  · obtain ⟨r0, r1, rm, re, rv, rB, rmb, reb, rne⟩ := hR
    rw [hdl] at r0 rmb reb r1
    have hcase : ∀ (b b0 : Nat) (cs : List PV), σ'[b]? = some (some cs) → (b = b0 ∨ 4 + x.comps.length ≤ b) → (∀ t, th[b0]? = some t → box (merge s.σ th σ') (θ b) = some (renL θ cs) ∧ (θ b = t ∨ s.σ.length ≤ θ b)) ∨ (box (merge s.σ th σ') (θ b) = some (renL θ cs) ∧ s.σ.length ≤ θ b) := fun b b0 cs hb hc => by
      rcases hc with rfl | hc
      · refine .inl fun t ht => ?_
        have e : θ b = t := by rw [← hθ]; exact thF_at ht
        refine ⟨?_, .inl e⟩
        rw [e, (hmg t).1 b ht, box_of hb]; rfl
      · refine .inr ?_
        have e := hnew (b - th.length)
        rw [show th.length + (b - th.length) = b by omega] at e
        refine ⟨?_, by omega⟩
        rw [e, (hmg _).2.2 (b - th.length) rfl, show th.length + (b - th.length) = b by omega, box_of hb]; rfl
    have hM : box (merge s.σ th σ') (θ m') = some ((doM c x p).cmds.map GCmd.e).flatten ∧ (θ m' = mb ∨ s.σ.length ≤ θ m') := by
      rcases hcase m' 2 _ rm rmb with h | h
      · have := h mb hg2
        rw [GCmd.ren] at this; exact this
      · rw [GCmd.ren] at h; exact ⟨h.1, .inr h.2⟩
    have hE : box (merge s.σ th σ') (θ e') = some ((doM c x p).evs.map GEvent.e).flatten ∧ (θ e' = eb ∨ s.σ.length ≤ θ e') := by
      rcases hcase e' 3 _ re reb with h | h
      · have := h eb hg3
        rw [GEvent.ren] at this; exact this
      · rw [GEvent.ren] at h; exact ⟨h.1, .inr h.2⟩
    refine h (merge s.σ th σ') (θ m') (θ e') ⟨?_, ?_, hM.1, hE.1, fun i hi => ?_, ?_⟩ (fun j hj hnj => (hmg j).2.1 hnj hj) ?_ hM.2 hE.2
    · rw [(hmg rb).1 0 hg0, box_of r0, hdl]
      simp [hθ1]
    · rw [(hmg cb).1 1 hg1, box_of r1, hdl, Option.map_some, renL_cellsD, hrange]
    · have hi' : i < x.comps.length := by omega
      rw [(hmg _).1 (4 + i) (hgv i hi'), box_of (rv i hi), Option.map_some, ints_ren]
    · rw [hdl]
      have hmem : ∀ t, t ∈ th ↔ (t = rb ∨ t = cb ∨ t = mb ∨ t = eb) ∨ t ∈ List.range' (cb + 1) x.comps.length := fun t => by
        rw [← hth]; simp [runTh, or_assoc]
      have hne : θ m' ≠ θ e' := fun e => by
        have hinj : ∀ a b, a < σ'.length → b < σ'.length → θ a = θ b → a = b := fun a b ha hb e => by
          rcases Nat.lt_or_ge a th.length with h | h <;> rcases Nat.lt_or_ge b th.length with h' | h'
          · have ea : θ a = th[a] := by rw [← hθ]; exact thF_at (List.getElem?_eq_getElem h)
            have eb : θ b = th[b] := by rw [← hθ]; exact thF_at (List.getElem?_eq_getElem h')
            exact nodup_inj th hnd' a b (th[a]) (List.getElem?_eq_getElem h) (by rw [List.getElem?_eq_getElem h', ← eb, ← e, ea])
          · have ea : θ a = th[a] := by rw [← hθ]; exact thF_at (List.getElem?_eq_getElem h)
            have eb := hnew (b - th.length)
            rw [show th.length + (b - th.length) = b by omega] at eb
            have := hTl th[a] (List.getElem_mem h)
            omega
          · have ea : θ b = th[b] := by rw [← hθ]; exact thF_at (List.getElem?_eq_getElem h')
            have eb := hnew (a - th.length)
            rw [show th.length + (a - th.length) = a by omega] at eb
            have := hTl th[b] (List.getElem_mem h')
            omega
          · have ea := hnew (a - th.length)
            have eb := hnew (b - th.length)
            rw [show th.length + (a - th.length) = a by omega] at ea
            rw [show th.length + (b - th.length) = b by omega] at eb
            omega
        exact rne (hinj m' e' (List.getElem?_eq_some_iff.1 rm).1 (List.getElem?_eq_some_iff.1 re).1 e)
      have hrl := hTl rb ((hmem rb).2 (by simp))
      have hcl := hTl cb ((hmem cb).2 (by simp))
      have hml := hTl mb ((hmem mb).2 (by simp))
      have hel := hTl eb ((hmem eb).2 (by simp))
      have hvl : ∀ t ∈ List.range' (cb + 1) x.comps.length, t < s.σ.length := fun t ht => hTl t ((hmem t).2 (.inr ht))
      obtain ⟨M, hMd⟩ : ∃ M, θ m' = M := ⟨_, rfl⟩
      obtain ⟨E, hEd⟩ : ∃ E, θ e' = E := ⟨_, rfl⟩
      rw [hMd] at hM hne ⊢
      rw [hEd] at hE hne ⊢
      have hMn : M ∉ List.range' (cb + 1) x.comps.length ∧ M ≠ rb ∧ M ≠ cb := by
        simp only [List.cons_append, List.nil_append, List.nodup_cons, List.mem_cons, not_or] at hnd
        rcases hM.2 with rfl | h
        · exact ⟨hnd.2.2.1.2, fun e => hnd.1.2.1 e.symm, fun e => hnd.2.1.1 e.symm⟩
        · exact ⟨fun h' => by have := hvl _ h'; omega, by omega, by omega⟩
      have hEn : E ∉ List.range' (cb + 1) x.comps.length ∧ E ≠ rb ∧ E ≠ cb := by
        simp only [List.cons_append, List.nil_append, List.nodup_cons, List.mem_cons, not_or] at hnd
        rcases hE.2 with rfl | h
        · exact ⟨hnd.2.2.2.1, fun e => hnd.1.2.2.1 e.symm, fun e => hnd.2.1.2.1 e.symm⟩
        · exact ⟨fun h' => by have := hvl _ h'; omega, by omega, by omega⟩
      simp only [List.cons_append, List.nil_append, List.nodup_cons, List.mem_cons, not_or] at hnd ⊢
      exact ⟨⟨hnd.1.1, fun e => hMn.2.1 e.symm, fun e => hEn.2.1 e.symm, hnd.1.2.2.2⟩, ⟨fun e => hMn.2.2 e.symm, fun e => hEn.2.2 e.symm, hnd.2.1.2.2⟩, ⟨hne, hMn.1⟩, hEn.1, hnd.2.2.2.2⟩
    · unfold merge
      rw [List.length_append, setAll_length]; omega
end
end Go.Proofs.YtfojnhceiabbhaaGreat.Am
/- Boxes of components that are frozen at the end of a round; rnd.Of at a box. -/
namespace Go.Proofs.YtfojnhceiabbhaaGreat.Am
open Go Go.RowKit

/-- The cells of components, the first j of them frozen. -/
def mixC (l : List GComp) (b j : Nat) : List PV := ((l.take j).map GComp.e).flatten ++ cellsD (l.drop j) (List.range' (b + j) (l.length - j))
theorem mixC_0 (l : List GComp) (b : Nat) : mixC l b 0 = cellsD l (List.range' b l.length) := by simp [mixC]
theorem mixC_end (l : List GComp) (b : Nat) : mixC l b l.length = (l.map GComp.e).flatten := by simp [mixC, cellsD]
theorem fz_cellsD (b : Nat) (cs : List PV) : ∀ (l : List GComp) (ps : List Nat), b ∉ ps → fzL b cs (cellsD l ps) = cellsD l ps
  | [], _, _ => by simp [cellsD]
  | _ :: _, [], _ => by simp [cellsD]
  | c :: l, p :: ps, h => by
    have h2 : p ≠ b ∧ b ∉ ps := by
      simp only [List.mem_cons, not_or] at h
      exact ⟨fun e => h.1 e.symm, h.2⟩
    simp [cellsD, fz_cellsD b cs l ps h2.2, h2.1]
theorem mixC_fz (l : List GComp) (b j : Nat) (h : j < l.length) : fzL (b + j) ((l[j]).Vals.map kI) (mixC l b j) = mixC l b (j + 1) := by
  have e1 : l.drop j = l[j] :: l.drop (j + 1) := List.drop_eq_getElem_cons h
  have e2 : List.range' (b + j) (l.length - j) = (b + j) :: List.range' (b + (j + 1)) (l.length - (j + 1)) := by
    rw [show l.length - j = (l.length - (j + 1)) + 1 by omega, List.range'_succ]; congr 1
  have e3 : l.take (j + 1) = l.take j ++ [l[j]] := by rw [List.take_add_one, List.getElem?_eq_getElem h]; rfl
  unfold mixC
  rw [e1, e2, e3]
  have hn : b + j ∉ List.range' (b + (j + 1)) (l.length - (j + 1)) := fun hh => by have := List.mem_range'_1.1 hh; omega
  have hch := chunks_ints (l[j]).Vals
  rw [fzL_append, imms_fz (flat_imm GComp.e_imm _), List.map_append, List.flatten_append, List.append_assoc]
  congr 1
  simp [cellsD, fz_cellsD _ _ _ _ hn, hch, GComp.e, slI_def]

/-- No pointer into the boxes b..b+n-1. -/
def freeP (b n : Nat) (X : List PV) : Prop := ∀ j cs, j < n → fzL (b + j) cs X = X
theorem ent_deep {N k : Nat} {T : List (Nat × PV)} (l : List GComp) (cb : Nat) (hk : k ≤ cb) (hT : ∀ j cs, j < l.length → (T.map fun x => (x.1, x.2.fz (cb + 1 + j) cs)) = T) : ∀ (m j : Nat) (σ : Boxes), j + m = l.length →
    box σ cb = some (mixC l (cb + 1) j) → (∀ i (h : i < l.length), j ≤ i → box σ (cb + 1 + i) = some ((l[i]).Vals.map kI)) →
    ∃ τ, Ent ⟨N, T, σ, k⟩ ⟨N, T, τ, k⟩ ∧ box τ cb = some (l.map GComp.e).flatten ∧ ∀ i X, box σ i = some X → freeP (cb + 1) l.length X → (i ≤ cb ∨ cb + l.length < i) → i ≠ cb → box τ i = some X
  | 0, j, σ, hj, hb, hv => by
    obtain rfl : j = l.length := by omega
    rw [mixC_end] at hb
    exact ⟨σ, Ent.refl _, hb, fun i X h _ _ _ => h⟩
  | m + 1, j, σ, hj, hb, hv => by
    have hjl : j < l.length := by omega
    have hbj := hv j hjl (Nat.le_refl _)
    have hE := ent_fz (s := ⟨N, T, σ, k⟩) (cb + 1 + j) ((l[j]).Vals.map kI) hbj (by simp) (by simp only; omega)
    simp only [St.fz, hT j _ hjl] at hE
    obtain ⟨σ', hσ'⟩ : ∃ σ', (σ.map fun x => x.map (fzL (cb + 1 + j) ((l[j]).Vals.map kI))).set (cb + 1 + j) none = σ' := ⟨_, rfl⟩
    rw [hσ'] at hE
    have hbl : cb + 1 + j < (σ.map fun x => x.map (fzL (cb + 1 + j) ((l[j]).Vals.map kI))).length := by rw [List.length_map]; exact box_lt hbj
    have hbx : ∀ i, i ≠ cb + 1 + j → box σ' i = (box σ i).map (fzL (cb + 1 + j) ((l[j]).Vals.map kI)) := fun i hi => by
      rw [← hσ', box_set hbl, if_neg hi, box_map]
    obtain ⟨τ, h1, h2, h3⟩ := ent_deep l cb hk hT m (j + 1) σ' (by omega) (by rw [hbx cb (by omega), hb, Option.map_some, mixC_fz l (cb + 1) j hjl]) (fun i h hij => by
      rw [hbx _ (by omega), hv i h (by omega), Option.map_some, imms_fz (ints_imm _)])
    refine ⟨τ, hE.trans h1, h2, fun i X hX hf hi hne => h3 i X ?_ hf hi hne⟩
    rw [hbx i (by omega), hX, Option.map_some, hf j _ hjl]

set_option maxRecDepth 20000 in
theorem Of_box (l : List Int) (hl : l.length ≤ 1000000) : FnD Tryz.prog 26 [.osl 0 1 0 l.length] [l.map kI] (rE (ofS l) (ofG l)) [some (l.map kI)] := by
  refine fnd_go Tryz.func26 rfl ?_
  have e0 : IntKind.u64.wrap (l.length : Int) = l.length := by rw [wrapU]; omega
  simp [Tryz.ntmps26, e0]
  refine awp_loop (fun x : Nat × Int => ⟨31, [(2, .ptr 1 0), (3, kU x.2), (9, .osl 0 1 0 l.length), (10, kI l.length), (11, kI x.1)], [some (l.map kI), some [kU 0, kU 0]], 1⟩)
    (fun x => x.1 ≤ l.length ∧ (l.drop x.1).foldl ofStep x.2 = l.foldl ofStep l.length) (fun x => l.length - x.1) (0, (l.length : Int)) ?_ ?_ ?_
  · exact entm [0, 1]
  · simp
  · rintro ⟨i, s⟩ ⟨hi, hrun⟩
    simp only at hi hrun
    refine awp_go ?_
    by_cases hlt : i < l.length
    · rw [List.drop_eq_getElem_cons hlt, List.foldl_cons] at hrun
      simp [hlt]
      refine cal (Mix_fn _) ?_ (hren := by rfl)
      simp
      have hw : IntKind.i64.wrap ((i : Int) + 1) = (i : Int) + 1 := wrap_id (by omega) (by omega)
      exact ⟨i + 1, ofStep s l[i], ⟨by omega, hrun⟩, by omega, entm [0, 1] (hT := by simp [ofStep, xU, hw])⟩
    · obtain rfl : i = l.length := by omega
      rw [List.drop_length, List.foldl_nil] at hrun
      simp
      refine cal (Mix_fn _) ?_ (hren := by rfl)
      simp
      refine cal (Mix_fn _) ?_ (hren := by rfl)
      simp
      exact finGm [0] (hres := by simp [ofS, ofG, hrun])
end Go.Proofs.YtfojnhceiabbhaaGreat.Am
/- Systems: which are valid, and what a round keeps. -/
namespace Go.Proofs.YtfojnhceiabbhaaGreat.Am
open Go Go.RowKit

def isFieldP (ks : List GKind) (r : GRef) : Prop := 0 ≤ r.Kind ∧ r.Kind < ks.length ∧ 0 ≤ r.Field ∧ r.Field < ((kindOf ks r.Kind).Fields.length : Int)
structure ArgS (ks : List GKind) (s : GSystem) (a : GArg) : Prop where
  t : a.Has = true → isFieldP ks a.Ref ∧ a.N = 0 ∧ (a.Ref.Kind ∈ s.Reads ∨ a.Ref.Kind ∈ s.Writes)
  f : a.Has = false → -1099511627776 ≤ a.N ∧ a.N ≤ 1099511627776 ∧ a.Ref = ⟨0, 0⟩
structure OpS (ks : List GKind) (s : GSystem) (o : GOp) : Prop where
  d : 0 ≤ o.Do ∧ o.Do ≤ 12
  a : ArgS ks s o.A
  b : ArgS ks s o.B
  two : ¬ ((1 ≤ o.Do ∧ o.Do ≤ 6) ∨ o.Do = 12) → o.B = ⟨false, 0, ⟨0, 0⟩⟩
  none : 7 < o.Do → o.Do ≠ 8 → o.Do ≠ 9 → o.To = ⟨0, 0⟩
  ch : o.Do = 8 ∨ o.Do = 9 → o.To.Field = 0 ∧ 0 ≤ o.To.Kind ∧ o.To.Kind < ks.length
  set : o.Do ≤ 7 → isFieldP ks o.To ∧ o.To.Kind ∈ s.Writes
structure SetS (ks : List GKind) (l : List Int) : Prop where
  r : ∀ x ∈ l, 0 ≤ x ∧ x < (ks.length : Int)
  p : l.Pairwise (· < ·)
structure SysS (ks : List GKind) (s : GSystem) : Prop where
  kc : checkE ks = 0
  nm : nameB s.Name = true
  ol : s.Ops.length ≤ 20
  w : SetS ks s.With
  wo : SetS ks s.Without
  rd : SetS ks s.Reads
  wr : SetS ks s.Writes
  cl : ∀ x ∈ s.With, x ∉ s.Without
  rw : ∀ x, x ∈ s.Reads ∨ x ∈ s.Writes → x ∈ s.With
  fit : (fitC ks s.Spawn).2 = 0
  sp : s.Spawn.length ≤ 12
  sv : ∀ d ∈ s.Spawn, d.Vals.length ≤ 1000
  ops : ∀ o ∈ s.Ops, OpS ks s o

theorem SysS.fine {c : RC} (h : SysS c.ks c.s) : CFine c := by
  obtain ⟨h1, h2⟩ := checkE_le h.kc
  exact ⟨fun k hk => by have := h2 k hk; omega, h.sp, h.sv, by omega⟩

/-- What a round keeps. -/
structure RInv (c : RC) (x : RS) : Prop where
  held : heldGo c.ks (-1) x.comps = true
  wi : ∀ k ∈ (RC.s c).With, atK x.comps k < x.comps.length
  rs : In64 x.rs
  rg : In64 x.rg
  ro : x.rg % 2 = 1

theorem kindOf_getD (ks : List GKind) (k : Int) (h1 : k.toNat < ks.length) : kindOf ks k = ks[k.toNat] := by simp [kindOf, List.getD, h1]
theorem held_at {ks : List GKind} {l : List GComp} (h : heldGo ks (-1) l = true) {i : Nat} (hi : i < l.length) : 0 ≤ (l[i]).Kind ∧ (l[i]).Kind < ks.length ∧ oneE (kindOf ks (l[i]).Kind) = 0 ∧ (l[i]).Vals.length = (kindOf ks (l[i]).Kind).Fields.length ∧
    List.zipWith nearM (kindOf ks (l[i]).Kind).Fields (l[i]).Vals = (l[i]).Vals := by
  obtain ⟨h1, h2, h3⟩ := held_mem h l[i] (List.getElem_mem hi)
  have e : ks.getD (l[i]).Kind.toNat k0 = kindOf ks (l[i]).Kind := by
    have : (l[i]).Kind.toNat < ks.length := by omega
    simp [kindOf, List.getD, this]
  rw [e] at h3
  obtain ⟨g1, g2, g3⟩ := holds_iff.1 h3
  exact ⟨by omega, h2, g1, g2, g3⟩
theorem near_bound {f : GField} (h : fieldB f = true) (x : Int) : -4294967296 ≤ nearM f x ∧ nearM f x ≤ 8589934592 := by
  have h1 := nearLo h x
  have h2 := nearHi h x
  have h3 : 1 ≤ f.Bits ∧ f.Bits ≤ 32 ∧ -4294967296 ≤ f.Low ∧ f.Low ≤ 4294967296 := by
    simp only [fieldB, Bool.and_eq_true, decide_eq_true_eq] at h; omega
  have h4 : highM f = f.Low + (2 ^ f.Bits.toNat - 1) := by simp [highM, h]
  have h5 := pow_le32 (n := f.Bits.toNat) (by omega)
  omega
theorem val_bound {ks : List GKind} {l : List GComp} (h : heldGo ks (-1) l = true) {i : Nat} (hi : i < l.length) {f : Nat} (hf : f < (l[i]).Vals.length) : -4294967296 ≤ (l[i]).Vals[f] ∧ (l[i]).Vals[f] ≤ 8589934592 := by
  obtain ⟨_, _, h1, h2, h3⟩ := held_at h hi
  have hf2 : f < (kindOf ks (l[i]).Kind).Fields.length := by omega
  have := (zip_iff h2).1 h3 f hf2 hf
  rw [← this]
  exact near_bound (oneE_fields h1 _ (List.getElem_mem hf2)) _

theorem arg_ok {c : RC} {x : RS} (hS : SysS c.ks c.s) (hI : RInv c x) {a : GArg} (ha : ArgS c.ks c.s a) : ArgOk x.comps a ∧ -1099511627776 ≤ argV x.comps a ∧ argV x.comps a ≤ 1099511627776 := by
  by_cases hh : a.Has = true
  · obtain ⟨⟨h1, h2, h3, h4⟩, _, h5⟩ := ha.t hh
    have hw := hI.wi _ (hS.rw _ h5)
    obtain ⟨hk, _⟩ := atK_spec hw
    obtain ⟨_, _, _, g, _⟩ := held_at hI.held hw
    rw [hk] at g
    have hf : a.Ref.Field.toNat < (x.comps[atK x.comps a.Ref.Kind]).Vals.length := by omega
    have hb := val_bound hI.held hw hf
    refine ⟨fun _ => ⟨hw, h3, by omega⟩, ?_⟩
    have e : argV x.comps a = (x.comps[atK x.comps a.Ref.Kind]).Vals[a.Ref.Field.toNat] := by
      simp [argV, hh, valsK, hw, List.getD, hf]
    rw [e]; omega
  · have hh' : a.Has = false := by simpa using hh
    obtain ⟨h1, h2, _⟩ := ha.f hh'
    refine ⟨fun h => absurd h hh, ?_⟩
    simp only [argV, hh', if_neg (show ¬ (false = true) by decide)]
    exact ⟨h1, h2⟩

theorem held_lenle {ks : List GKind} (hc : checkE ks = 0) {l : List GComp} (h : heldGo ks (-1) l = true) : l.length ≤ 16 := by
  have h1 := (checkE_le hc).1
  have h2 := held_len (by omega) h
  omega
theorem op_fine {c : RC} {x : RS} (hS : SysS c.ks c.s) (hI : RInv c x) {o : GOp} (ho : OpS c.ks c.s o) : OpFine c x o := by
  have hA := arg_ok hS hI ho.a
  have hB := arg_ok hS hI ho.b
  have hl := held_lenle hS.kc hI.held
  refine ⟨hA.1, hB.1, fun hd => ?_, fun h8 => ?_, by omega, by omega, hI.rs, hI.rg, hI.ro⟩
  · obtain ⟨⟨h1, h2, h3, h4⟩, h5⟩ := ho.set hd.2
    have hw := hI.wi _ (hS.rw _ (.inr h5))
    obtain ⟨hk, _⟩ := atK_spec hw
    obtain ⟨_, _, _, g, _⟩ := held_at hI.held hw
    rw [hk] at g
    have hkn : o.To.Kind.toNat < c.ks.length := by omega
    rw [kindOf_getD _ _ hkn] at g h4
    exact ⟨hw, hkn, h1, h3, by omega, by omega⟩
  · obtain ⟨_, h1, h2⟩ := ho.ch (.inl h8)
    exact ⟨h1, by omega⟩

theorem setK_kind (l : List GComp) (i f : Nat) (v : Int) : (setK l i f v).map GComp.Kind = l.map GComp.Kind := by
  unfold setK
  rw [List.map_set]
  refine List.ext_getElem? fun j => ?_
  by_cases hj : i = j
  · subst hj
    by_cases hl : i < l.length
    · rw [List.getElem?_set_self (by simpa using hl)]; simp [List.getD, hl]
    · rw [List.set_eq_of_length_le (by simp; omega)]
  · rw [List.getElem?_set_ne hj]
theorem atK_map (l : List GComp) (k : Int) : atK l k = (l.map GComp.Kind).findIdx fun x => decide (x = k) := by
  unfold atK
  rw [List.findIdx_map]; rfl
theorem atK_setK (l : List GComp) (i f : Nat) (v k : Int) : atK (setK l i f v) k = atK l k := by rw [atK_map, atK_map, setK_kind]
theorem held_setK {ks : List GKind} : ∀ {l : List GComp} {last : Int} {i f : Nat} {v : Int} (hi : i < l.length), -1 ≤ last → heldGo ks last l = true → (∀ h : f < (kindOf ks (l[i]).Kind).Fields.length, ∃ u, v = nearM (kindOf ks (l[i]).Kind).Fields[f] u) →
    heldGo ks last (setK l i f v) = true
  | c :: l, last, 0, f, v, hi, hl, h, hv => by
    obtain ⟨h1, h2, h3, h4⟩ := held_cons.1 h
    have e : setK (c :: l) 0 f v = ⟨c.Kind, c.Vals.set f v⟩ :: l := by simp [setK]
    rw [e]
    have ek : ks.getD c.Kind.toNat k0 = kindOf ks c.Kind := by
      have : c.Kind.toNat < ks.length := by omega
      simp [kindOf, List.getD, this]
    refine held_cons.2 ⟨h1, h2, ?_, h4⟩
    rw [ek] at h3 ⊢
    obtain ⟨g1, g2, g3⟩ := holds_iff.1 h3
    have g2' : (c.Vals.set f v).length = (kindOf ks c.Kind).Fields.length := by simpa using g2
    refine holds_iff.2 ⟨g1, g2', (zip_iff g2').2 fun n n1 n2 => ?_⟩
    by_cases hn : f = n
    · subst hn
      obtain ⟨u, hu⟩ := hv n1
      simp only [List.getElem_cons_zero] at hu
      rw [List.getElem_set_self, hu]
      exact nearIdem (oneE_fields g1 _ (List.getElem_mem n1)) u
    · rw [List.getElem_set_ne hn]
      exact (zip_iff g2).1 g3 n n1 (by simpa using n2)
  | c :: l, last, i + 1, f, v, hi, hl, h, hv => by
    obtain ⟨h1, h2, h3, h4⟩ := held_cons.1 h
    have e : setK (c :: l) (i + 1) f v = c :: setK l i f v := by simp [setK]
    rw [e]
    exact held_cons.2 ⟨h1, h2, h3, held_setK (by simpa using hi) (by omega) h4 (by simpa using hv)⟩

theorem valueM_in {d a b s g : Int} (hs : In64 s) : In64 (valueM d a b s g).2 := by
  unfold valueM
  repeat' split
  all_goals first
    | exact hs
    | exact belowGo_in _ _ hs

theorem doM_inv {c : RC} {x : RS} (hS : SysS c.ks c.s) (hI : RInv c x) {o : GOp} (ho : OpS c.ks c.s o) : RInv c (doM c x o) := by
  unfold doM
  split
  · rename_i hd
    obtain ⟨⟨h1, h2, h3, h4⟩, h5⟩ := ho.set hd.2
    have hw := hI.wi _ (hS.rw _ (.inr h5))
    obtain ⟨hk, _⟩ := atK_spec hw
    refine ⟨?_, fun k hk => ?_, valueM_in hI.rs, hI.rg, hI.ro⟩
    · refine held_setK hw (by omega) hI.held fun h => ⟨(valueM o.Do (argV x.comps o.A) (argV x.comps o.B) x.rs x.rg).1, ?_⟩
      rw [hk] at h
      simp only [fieldR, hk]
      simp [List.getD, h]
    · simp only
      rw [atK_setK, setK_len]
      exact hI.wi k hk
  · obtain ⟨i1, i2, i3, i4, i5⟩ := hI
    repeat' split
    all_goals exact ⟨i1, i2, i3, i4, i5⟩
theorem doM_cl (c : RC) (x : RS) (o : GOp) : (doM c x o).cmds.length ≤ x.cmds.length + 1 ∧ (doM c x o).evs.length ≤ x.evs.length + 1 ∧ (doM c x o).rg = x.rg := by
  unfold doM
  repeat' split
  all_goals simp
end Go.Proofs.YtfojnhceiabbhaaGreat.Am
/- Package system: set, isField, two at valid arguments. -/
namespace Go.Proofs.YtfojnhceiabbhaaGreat.Am
open Go Go.RowKit

set_option maxRecDepth 20000 in
theorem isField_ok (ks : List GKind) (r : GRef) (h : isFieldP ks r) (hl : ks.length ≤ 1000000) (hf : ∀ k ∈ ks, k.Fields.length ≤ 1000) : Fn Tryz.prog 84 [.sl 2 (ks.map GKind.e), .agg r.e] (kB true) := by
  obtain ⟨h1, h2, h3, h4⟩ := h
  have hk : r.Kind.toNat < ks.length := by omega
  rw [kindOf_getD _ _ hk] at h4
  obtain ⟨k, hkk⟩ : ∃ k : Nat, r.Kind = k := ⟨r.Kind.toNat, by omega⟩
  have hk' : r.Kind.toNat = k := by omega
  simp only [hk'] at hk h4
  obtain ⟨f, hff⟩ : ∃ f : Nat, r.Field = f := ⟨r.Field.toNat, by omega⟩
  have hl2 : (k : Int) < ks.length := by omega
  have hl3 : (f : Int) < (ks[k]).Fields.length := by omega
  refine fn_go Tryz.func84 rfl ?_
  simp [Tryz.ntmps84]
  refine awp_draw follows_mix [] [(0, [0]), (0, [0]), (0, [0]), (0, [0]), (0, [0]), (0, [0]), (0, [0]), (0, [0]), (0, [0]), (0, [0]), (0, [0]), (0, [0]), (0, [0]), (0, [0]), (0, [0]), (0, [0]), (0, [0]), (0, [0]), (0, [0]), (0, [0]), (0, [0]), (0, [0]), (0, [0]), (0, [0]), (0, [0]), (0, [0]), (0, [0]), (0, [0])] 0 (by kernel_rfl) rfl ?_
  simp [hkk, hff, hk, hl2, hl3]
  exact finm

set_option maxRecDepth 20000 in
theorem set_ok (ks : List GKind) (l : List Int) (h : SetS ks l) (hl : ks.length ≤ 1000000) (hll : l.length ≤ 1000000) : Fn Tryz.prog 44 [.sl 2 (ks.map GKind.e), slI l] (kI 0) := by
  obtain ⟨h1, h2⟩ := h
  refine fn_go Tryz.func44 rfl ?_
  simp [Tryz.ntmps44]
  refine awp_loop (fun i : Nat => ⟨34, [(0, .sl 2 (ks.map GKind.e)), (1, slI l), (4, kI 0), (7, slI l), (8, kI l.length), (9, kI i)], [], 0⟩) (fun i => i ≤ l.length) (fun i => l.length - i) 0 ?_ ?_ ?_
  · exact entm []
  · simp
  · intro i hi
    refine awp_go ?_
    by_cases hlt : i < l.length
    · have hx := h1 l[i] (List.getElem_mem hlt)
      obtain ⟨v, hv⟩ : ∃ v, l[i] = v := ⟨_, rfl⟩
      have g1 : ¬ v < 0 := by omega
      have g2 : ¬ (ks.length : Int) ≤ v := by omega
      have hw : IntKind.i64.wrap ((i : Int) + 1) = (i : Int) + 1 := wrap_id (by omega) (by omega)
      by_cases h0 : 0 < i
      · have hlt2 : i - 1 < l.length := by omega
        have hp : l[i - 1] < l[i] := List.pairwise_iff_getElem.1 h2 (i - 1) i hlt2 hlt (by omega)
        have g3 : ¬ v ≤ l[i - 1] := by omega
        have hw2 : IntKind.i64.wrap ((i : Int) - 1) = ((i - 1 : Nat) : Int) := by rw [wrap_id (by omega) (by omega)]; omega
        simp [hlt, hv, g1, g2, h0, hw2, hlt2, g3, hw]
        exact ⟨i + 1, by omega, by omega, entm []⟩
      · have h00 : i = 0 := by omega
        subst h00
        simp [hlt, hv, g1, g2]
        exact ⟨1, by omega, by omega, entm []⟩
    · obtain rfl : i = l.length := by omega
      simp
      exact finm

theorem two_fn (d : Int) : Fn Tryz.prog 85 [kI d] (kB (decide ((1 ≤ d ∧ d ≤ 6) ∨ d = 12))) := by
  refine fn_go Tryz.func85 rfl ?_
  by_cases h1 : 1 ≤ d
  · by_cases h2 : d ≤ 6
    · simp [Tryz.ntmps85, h1, h2]
      exact finm (by simp [h1, h2])
    · simp [Tryz.ntmps85, h1, h2]
      exact finm (by simp [h1, h2])
  · simp [Tryz.ntmps85, h1]
    exact finm (by simp [h1])
end Go.Proofs.YtfojnhceiabbhaaGreat.Am
/- Package system: op at a valid operation. -/
namespace Go.Proofs.YtfojnhceiabbhaaGreat.Am
open Go Go.RowKit

set_option maxRecDepth 20000 in
set_option maxHeartbeats 4000000 in
theorem op_ok (ks : List GKind) (s : GSystem) (o : GOp) (hO : OpS ks s o) (hl : ks.length ≤ 1000000) (hf : ∀ k ∈ ks, k.Fields.length ≤ 1000) (hr : s.Reads.length ≤ 1000000) (hw : s.Writes.length ≤ 1000000) :
    Fn Tryz.prog 51 [.sl 2 (ks.map GKind.e), .agg s.e, .agg o.e] (kI 0) := by
  obtain ⟨⟨hd1, hd2⟩, hA, hB, h2, hn, hch, hset⟩ := hO
  have w2 : IntKind.i64.wrap 2 = 2 := by decide
  have g1 : ¬ o.Do < 0 := by omega
  have g2 : ¬ 12 < o.Do := by omega
  refine fn_go Tryz.func51 rfl ?_
  simp [Tryz.ntmps51, g1, g2, GArg.e]
  -- the fields of the arguments
  refine awp_loop (fun i : Nat => ⟨201, [(0, .sl 2 (ks.map GKind.e)), (4, .ptr 0 0), (5, .ptr 1 0), (6, kI 0), (27, .osl 2 4 0 2), (28, kI 2), (29, kI i)], [some s.e, some o.e, some [kB o.A.Has, kI o.A.N, kI o.A.Ref.Kind, kI o.A.Ref.Field, kB o.B.Has, kI o.B.N, kI o.B.Ref.Kind, kI o.B.Ref.Field]], 0⟩) (fun i => i ≤ 2) (fun i => 2 - i) 0 ?_ ?_ ?_
  · exact entm [0, 1, 2]
  · simp
  · intro i hi
    refine awp_go ?_
    have hi3 : i = 0 ∨ i = 1 ∨ i = 2 := by omega
    rcases hi3 with rfl | rfl | rfl
    · by_cases hh : o.A.Has = true
      · have hI := isField_ok ks o.A.Ref (hA.t hh).1 hl hf
        simp [hh]
        refine cal hI ?_ (hren := by simp [GRef.e])
        simp
        exact ⟨1, by omega, by omega, entm [0, 1, 2] (hB := by simp [hh])⟩
      · have hh' : o.A.Has = false := by simpa using hh
        obtain ⟨q1, q2, q3⟩ := hA.f hh'
        have q4 : ¬ o.A.N < -1099511627776 := by omega
        have q5 : ¬ 1099511627776 < o.A.N := by omega
        simp [hh', q4, q5]
        exact ⟨1, by omega, by omega, entm [0, 1, 2] (hB := by simp [hh'])⟩
    · by_cases hh : o.B.Has = true
      · have hI := isField_ok ks o.B.Ref (hB.t hh).1 hl hf
        simp [hh]
        refine cal hI ?_ (hren := by simp [GRef.e])
        simp
        exact ⟨2, by omega, by omega, entm [0, 1, 2] (hT := by simp [w2]) (hB := by simp [hh])⟩
      · have hh' : o.B.Has = false := by simpa using hh
        obtain ⟨q1, q2, q3⟩ := hB.f hh'
        have q4 : ¬ o.B.N < -1099511627776 := by omega
        have q5 : ¬ 1099511627776 < o.B.N := by omega
        simp [hh', q4, q5]
        exact ⟨2, by omega, by omega, entm [0, 1, 2] (hT := by simp [w2]) (hB := by simp [hh'])⟩
    · simp [GArg.e]
      refine awp_loop (fun i : Nat => ⟨201, [(0, .sl 2 (ks.map GKind.e)), (4, .ptr 0 0), (5, .ptr 1 0), (6, kI 0), (9, .ptr 3 0), (63, .osl 4 4 0 2), (64, kI 2), (65, kI i)], [some s.e, some o.e, none, some [kI 0, kI 0], some [kB o.A.Has, kI o.A.N, kI o.A.Ref.Kind, kI o.A.Ref.Field, kB o.B.Has, kI o.B.N, kI o.B.Ref.Kind, kI o.B.Ref.Field]], 0⟩) (fun i => i ≤ 2) (fun i => 2 - i) 0 ?_ ?_ ?_
      · exact entm [0, 1, 2, 3, 4]
      · simp
      · intro i hi
        refine awp_go ?_
        have hi3 : i = 0 ∨ i = 1 ∨ i = 2 := by omega
        rcases hi3 with rfl | rfl | rfl
        · by_cases hh : o.A.Has = true
          · have hN := (hA.t hh).2.1
            simp [hh, hN]
            exact ⟨1, by omega, by omega, entm [0, 1, 2, 3, 4] (hB := by simp [hh, hN])⟩
          · have hh' : o.A.Has = false := by simpa using hh
            have hR := (hA.f hh').2.2
            simp [hh', hR, GRef.e]
            exact ⟨1, by omega, by omega, entm [0, 1, 2, 3, 4] (hB := by simp [hh', hR])⟩
        · by_cases hh : o.B.Has = true
          · have hN := (hB.t hh).2.1
            simp [hh, hN]
            exact ⟨2, by omega, by omega, entm [0, 1, 2, 3, 4] (hT := by simp [w2]) (hB := by simp [hh, hN])⟩
          · have hh' : o.B.Has = false := by simpa using hh
            have hR := (hB.f hh').2.2
            simp [hh', hR, GRef.e]
            exact ⟨2, by omega, by omega, entm [0, 1, 2, 3, 4] (hT := by simp [w2]) (hB := by simp [hh', hR])⟩
        · have hcase : o.Do ≤ 7 ∨ o.Do = 8 ∨ o.Do = 9 ∨ (o.Do = 10 ∨ o.Do = 11) ∨ o.Do = 12 := by omega
          have hT2 := two_fn o.Do
          have hS2 := sets_fn o.Do
          rcases hcase with h7 | h8 | h9 | h10 | h12
          · have n8 : ¬ o.Do = 8 := by omega
            have n9 : ¬ o.Do = 9 := by omega
            obtain ⟨q1, q2⟩ := hset h7
            have hI := isField_ok ks o.To q1 hl hf
            rw [decide_eq_true (show 0 ≤ o.Do ∧ o.Do ≤ 7 by omega)] at hS2
            have hCo := ContainsI_fn s.Writes o.To.Kind (by omega)
            rw [decide_eq_true q2] at hCo
            simp [n8, n9]
            by_cases ht : (1 ≤ o.Do ∧ o.Do ≤ 6) ∨ o.Do = 12
            · rw [decide_eq_true ht] at hT2
              refine cal hT2 ?_
              simp
              refine cal hS2 ?_
              simp
              refine cal hS2 ?_
              simp
              refine cal hI ?_ (hren := by rfl)
              simp
              refine cal hS2 ?_
              simp
              refine cal hCo ?_
              simp [GArg.e]
              refine awp_loop (fun i : Nat => ⟨201, [(4, .ptr 0 0), (5, .ptr 1 0), (6, kI 0), (174, .osl 5 4 0 2), (175, kI 2), (176, kI i)], [some s.e, some o.e, none, some [kI 0, kI 0], none, some [kB o.A.Has, kI o.A.N, kI o.A.Ref.Kind, kI o.A.Ref.Field, kB o.B.Has, kI o.B.N, kI o.B.Ref.Kind, kI o.B.Ref.Field]], 0⟩) (fun i => i ≤ 2) (fun i => 2 - i) 0 ?_ ?_ ?_
              · exact entm [0, 1, 2, 3, 4, 5]
              · simp
              · intro i hi
                refine awp_go ?_
                have hi3 : i = 0 ∨ i = 1 ∨ i = 2 := by omega
                rcases hi3 with rfl | rfl | rfl
                · by_cases hh : o.A.Has = true
                  · have hC := ContainsI_fn s.Reads o.A.Ref.Kind (by omega)
                    by_cases hr : o.A.Ref.Kind ∈ s.Reads
                    · rw [decide_eq_true hr] at hC
                      simp [hh]
                      refine cal hC ?_
                      simp
                      exact ⟨1, by omega, by omega, entm [0, 1, 2, 3, 4, 5] (hB := by simp [hh])⟩
                    · have hC2 := ContainsI_fn s.Writes o.A.Ref.Kind (by omega)
                      rw [decide_eq_false hr] at hC
                      rw [decide_eq_true ((hA.t hh).2.2.resolve_left hr)] at hC2
                      simp [hh]
                      refine cal hC ?_
                      simp
                      refine cal hC2 ?_
                      simp
                      exact ⟨1, by omega, by omega, entm [0, 1, 2, 3, 4, 5] (hB := by simp [hh])⟩
                  · have hh' : o.A.Has = false := by simpa using hh
                    simp [hh']
                    exact ⟨1, by omega, by omega, entm [0, 1, 2, 3, 4, 5] (hB := by simp [hh'])⟩
                · by_cases hh : o.B.Has = true
                  · have hC := ContainsI_fn s.Reads o.B.Ref.Kind (by omega)
                    by_cases hr : o.B.Ref.Kind ∈ s.Reads
                    · rw [decide_eq_true hr] at hC
                      simp [hh]
                      refine cal hC ?_
                      simp
                      exact ⟨2, by omega, by omega, entm [0, 1, 2, 3, 4, 5] (hT := by simp [w2]) (hB := by simp [hh])⟩
                    · have hC2 := ContainsI_fn s.Writes o.B.Ref.Kind (by omega)
                      rw [decide_eq_false hr] at hC
                      rw [decide_eq_true ((hB.t hh).2.2.resolve_left hr)] at hC2
                      simp [hh]
                      refine cal hC ?_
                      simp
                      refine cal hC2 ?_
                      simp
                      exact ⟨2, by omega, by omega, entm [0, 1, 2, 3, 4, 5] (hT := by simp [w2]) (hB := by simp [hh])⟩
                  · have hh' : o.B.Has = false := by simpa using hh
                    simp [hh']
                    exact ⟨2, by omega, by omega, entm [0, 1, 2, 3, 4, 5] (hT := by simp [w2]) (hB := by simp [hh'])⟩
                · simp
                  exact finm
            · rw [decide_eq_false ht] at hT2
              have hB0 := h2 ht
              refine cal hT2 ?_
              simp [hB0, GArg.e]
              refine cal hS2 ?_
              simp
              refine cal hS2 ?_
              simp
              refine cal hI ?_ (hren := by rfl)
              simp
              refine cal hS2 ?_
              simp
              refine cal hCo ?_
              simp [GArg.e, hB0]
              refine awp_loop (fun i : Nat => ⟨201, [(4, .ptr 0 0), (5, .ptr 1 0), (6, kI 0), (174, .osl 5 4 0 2), (175, kI 2), (176, kI i)], [some s.e, some o.e, none, some [kI 0, kI 0], none, some [kB o.A.Has, kI o.A.N, kI o.A.Ref.Kind, kI o.A.Ref.Field, kB o.B.Has, kI o.B.N, kI o.B.Ref.Kind, kI o.B.Ref.Field]], 0⟩) (fun i => i ≤ 2) (fun i => 2 - i) 0 ?_ ?_ ?_
              · exact entm [0, 1, 2, 3, 4, 5] (hB := by simp [hB0])
              · simp
              · intro i hi
                refine awp_go ?_
                have hi3 : i = 0 ∨ i = 1 ∨ i = 2 := by omega
                rcases hi3 with rfl | rfl | rfl
                · by_cases hh : o.A.Has = true
                  · have hC := ContainsI_fn s.Reads o.A.Ref.Kind (by omega)
                    by_cases hr : o.A.Ref.Kind ∈ s.Reads
                    · rw [decide_eq_true hr] at hC
                      simp [hh]
                      refine cal hC ?_
                      simp
                      exact ⟨1, by omega, by omega, entm [0, 1, 2, 3, 4, 5] (hB := by simp [hh])⟩
                    · have hC2 := ContainsI_fn s.Writes o.A.Ref.Kind (by omega)
                      rw [decide_eq_false hr] at hC
                      rw [decide_eq_true ((hA.t hh).2.2.resolve_left hr)] at hC2
                      simp [hh]
                      refine cal hC ?_
                      simp
                      refine cal hC2 ?_
                      simp
                      exact ⟨1, by omega, by omega, entm [0, 1, 2, 3, 4, 5] (hB := by simp [hh])⟩
                  · have hh' : o.A.Has = false := by simpa using hh
                    simp [hh']
                    exact ⟨1, by omega, by omega, entm [0, 1, 2, 3, 4, 5] (hB := by simp [hh'])⟩
                · by_cases hh : o.B.Has = true
                  · have hC := ContainsI_fn s.Reads o.B.Ref.Kind (by omega)
                    by_cases hr : o.B.Ref.Kind ∈ s.Reads
                    · rw [decide_eq_true hr] at hC
                      simp [hh]
                      refine cal hC ?_
                      simp
                      exact ⟨2, by omega, by omega, entm [0, 1, 2, 3, 4, 5] (hT := by simp [w2]) (hB := by simp [hh])⟩
                    · have hC2 := ContainsI_fn s.Writes o.B.Ref.Kind (by omega)
                      rw [decide_eq_false hr] at hC
                      rw [decide_eq_true ((hB.t hh).2.2.resolve_left hr)] at hC2
                      simp [hh]
                      refine cal hC ?_
                      simp
                      refine cal hC2 ?_
                      simp
                      exact ⟨2, by omega, by omega, entm [0, 1, 2, 3, 4, 5] (hT := by simp [w2]) (hB := by simp [hh])⟩
                  · have hh' : o.B.Has = false := by simpa using hh
                    simp [hh']
                    exact ⟨2, by omega, by omega, entm [0, 1, 2, 3, 4, 5] (hT := by simp [w2]) (hB := by simp [hh'])⟩
                · simp
                  exact finm
          · rw [decide_eq_false (show ¬ (0 ≤ o.Do ∧ o.Do ≤ 7) by omega)] at hS2
            have ht : ¬ ((1 ≤ o.Do ∧ o.Do ≤ 6) ∨ o.Do = 12) := by omega
            rw [decide_eq_false ht] at hT2
            have hB0 := h2 ht
            obtain ⟨c1, c2, c3⟩ := hch (by omega)
            have c4 : ¬ o.To.Kind < 0 := by omega
            have c5 : ¬ (ks.length : Int) ≤ o.To.Kind := by omega
            simp [h8]
            rw [h8] at hT2
            refine cal hT2 ?_
            simp [hB0, GArg.e]
            refine cal hS2 ?_
            simp [c1]
            refine cal hS2 ?_
            simp [c4, c5]
            refine cal hS2 ?_
            simp [GArg.e, hB0]
            refine awp_loop (fun i : Nat => ⟨201, [(4, .ptr 0 0), (5, .ptr 1 0), (6, kI 0), (174, .osl 5 4 0 2), (175, kI 2), (176, kI i)], [some s.e, some o.e, none, some [kI 0, kI 0], none, some [kB o.A.Has, kI o.A.N, kI o.A.Ref.Kind, kI o.A.Ref.Field, kB o.B.Has, kI o.B.N, kI o.B.Ref.Kind, kI o.B.Ref.Field]], 0⟩) (fun i => i ≤ 2) (fun i => 2 - i) 0 ?_ ?_ ?_
            · exact entm [0, 1, 2, 3, 4, 5] (hB := by simp [hB0])
            · simp
            · intro i hi
              refine awp_go ?_
              have hi3 : i = 0 ∨ i = 1 ∨ i = 2 := by omega
              rcases hi3 with rfl | rfl | rfl
              · by_cases hh : o.A.Has = true
                · have hC := ContainsI_fn s.Reads o.A.Ref.Kind (by omega)
                  by_cases hr : o.A.Ref.Kind ∈ s.Reads
                  · rw [decide_eq_true hr] at hC
                    simp [hh]
                    refine cal hC ?_
                    simp
                    exact ⟨1, by omega, by omega, entm [0, 1, 2, 3, 4, 5] (hB := by simp [hh])⟩
                  · have hC2 := ContainsI_fn s.Writes o.A.Ref.Kind (by omega)
                    rw [decide_eq_false hr] at hC
                    rw [decide_eq_true ((hA.t hh).2.2.resolve_left hr)] at hC2
                    simp [hh]
                    refine cal hC ?_
                    simp
                    refine cal hC2 ?_
                    simp
                    exact ⟨1, by omega, by omega, entm [0, 1, 2, 3, 4, 5] (hB := by simp [hh])⟩
                · have hh' : o.A.Has = false := by simpa using hh
                  simp [hh']
                  exact ⟨1, by omega, by omega, entm [0, 1, 2, 3, 4, 5] (hB := by simp [hh'])⟩
              · by_cases hh : o.B.Has = true
                · have hC := ContainsI_fn s.Reads o.B.Ref.Kind (by omega)
                  by_cases hr : o.B.Ref.Kind ∈ s.Reads
                  · rw [decide_eq_true hr] at hC
                    simp [hh]
                    refine cal hC ?_
                    simp
                    exact ⟨2, by omega, by omega, entm [0, 1, 2, 3, 4, 5] (hT := by simp [w2]) (hB := by simp [hh])⟩
                  · have hC2 := ContainsI_fn s.Writes o.B.Ref.Kind (by omega)
                    rw [decide_eq_false hr] at hC
                    rw [decide_eq_true ((hB.t hh).2.2.resolve_left hr)] at hC2
                    simp [hh]
                    refine cal hC ?_
                    simp
                    refine cal hC2 ?_
                    simp
                    exact ⟨2, by omega, by omega, entm [0, 1, 2, 3, 4, 5] (hT := by simp [w2]) (hB := by simp [hh])⟩
                · have hh' : o.B.Has = false := by simpa using hh
                  simp [hh']
                  exact ⟨2, by omega, by omega, entm [0, 1, 2, 3, 4, 5] (hT := by simp [w2]) (hB := by simp [hh'])⟩
              · simp
                exact finm
          · rw [decide_eq_false (show ¬ (0 ≤ o.Do ∧ o.Do ≤ 7) by omega)] at hS2
            have ht : ¬ ((1 ≤ o.Do ∧ o.Do ≤ 6) ∨ o.Do = 12) := by omega
            rw [decide_eq_false ht] at hT2
            have hB0 := h2 ht
            obtain ⟨c1, c2, c3⟩ := hch (by omega)
            have c4 : ¬ o.To.Kind < 0 := by omega
            have c5 : ¬ (ks.length : Int) ≤ o.To.Kind := by omega
            simp [h9]
            rw [h9] at hT2
            refine cal hT2 ?_
            simp [hB0, GArg.e]
            refine cal hS2 ?_
            simp [c1]
            refine cal hS2 ?_
            simp [c4, c5]
            refine cal hS2 ?_
            simp [GArg.e, hB0]
            refine awp_loop (fun i : Nat => ⟨201, [(4, .ptr 0 0), (5, .ptr 1 0), (6, kI 0), (174, .osl 5 4 0 2), (175, kI 2), (176, kI i)], [some s.e, some o.e, none, some [kI 0, kI 0], none, some [kB o.A.Has, kI o.A.N, kI o.A.Ref.Kind, kI o.A.Ref.Field, kB o.B.Has, kI o.B.N, kI o.B.Ref.Kind, kI o.B.Ref.Field]], 0⟩) (fun i => i ≤ 2) (fun i => 2 - i) 0 ?_ ?_ ?_
            · exact entm [0, 1, 2, 3, 4, 5] (hB := by simp [hB0])
            · simp
            · intro i hi
              refine awp_go ?_
              have hi3 : i = 0 ∨ i = 1 ∨ i = 2 := by omega
              rcases hi3 with rfl | rfl | rfl
              · by_cases hh : o.A.Has = true
                · have hC := ContainsI_fn s.Reads o.A.Ref.Kind (by omega)
                  by_cases hr : o.A.Ref.Kind ∈ s.Reads
                  · rw [decide_eq_true hr] at hC
                    simp [hh]
                    refine cal hC ?_
                    simp
                    exact ⟨1, by omega, by omega, entm [0, 1, 2, 3, 4, 5] (hB := by simp [hh])⟩
                  · have hC2 := ContainsI_fn s.Writes o.A.Ref.Kind (by omega)
                    rw [decide_eq_false hr] at hC
                    rw [decide_eq_true ((hA.t hh).2.2.resolve_left hr)] at hC2
                    simp [hh]
                    refine cal hC ?_
                    simp
                    refine cal hC2 ?_
                    simp
                    exact ⟨1, by omega, by omega, entm [0, 1, 2, 3, 4, 5] (hB := by simp [hh])⟩
                · have hh' : o.A.Has = false := by simpa using hh
                  simp [hh']
                  exact ⟨1, by omega, by omega, entm [0, 1, 2, 3, 4, 5] (hB := by simp [hh'])⟩
              · by_cases hh : o.B.Has = true
                · have hC := ContainsI_fn s.Reads o.B.Ref.Kind (by omega)
                  by_cases hr : o.B.Ref.Kind ∈ s.Reads
                  · rw [decide_eq_true hr] at hC
                    simp [hh]
                    refine cal hC ?_
                    simp
                    exact ⟨2, by omega, by omega, entm [0, 1, 2, 3, 4, 5] (hT := by simp [w2]) (hB := by simp [hh])⟩
                  · have hC2 := ContainsI_fn s.Writes o.B.Ref.Kind (by omega)
                    rw [decide_eq_false hr] at hC
                    rw [decide_eq_true ((hB.t hh).2.2.resolve_left hr)] at hC2
                    simp [hh]
                    refine cal hC ?_
                    simp
                    refine cal hC2 ?_
                    simp
                    exact ⟨2, by omega, by omega, entm [0, 1, 2, 3, 4, 5] (hT := by simp [w2]) (hB := by simp [hh])⟩
                · have hh' : o.B.Has = false := by simpa using hh
                  simp [hh']
                  exact ⟨2, by omega, by omega, entm [0, 1, 2, 3, 4, 5] (hT := by simp [w2]) (hB := by simp [hh'])⟩
              · simp
                exact finm
          · rw [decide_eq_false (show ¬ (0 ≤ o.Do ∧ o.Do ≤ 7) by omega)] at hS2
            have ht : ¬ ((1 ≤ o.Do ∧ o.Do ≤ 6) ∨ o.Do = 12) := by omega
            rw [decide_eq_false ht] at hT2
            have hB0 := h2 ht
            have hT0 := hn (by omega) (by omega) (by omega)
            have n8 : ¬ o.Do = 8 := by omega
            have n9 : ¬ o.Do = 9 := by omega
            simp [n8, n9]
            refine cal hT2 ?_
            simp [hB0, GArg.e]
            refine cal hS2 ?_
            simp [hT0, GRef.e]
            refine cal hS2 ?_
            simp
            refine cal hS2 ?_
            simp [GArg.e, hB0]
            refine awp_loop (fun i : Nat => ⟨201, [(4, .ptr 0 0), (5, .ptr 1 0), (6, kI 0), (174, .osl 5 4 0 2), (175, kI 2), (176, kI i)], [some s.e, some o.e, none, some [kI 0, kI 0], none, some [kB o.A.Has, kI o.A.N, kI o.A.Ref.Kind, kI o.A.Ref.Field, kB o.B.Has, kI o.B.N, kI o.B.Ref.Kind, kI o.B.Ref.Field]], 0⟩) (fun i => i ≤ 2) (fun i => 2 - i) 0 ?_ ?_ ?_
            · exact entm [0, 1, 2, 3, 4, 5] (hB := by simp [hB0])
            · simp
            · intro i hi
              refine awp_go ?_
              have hi3 : i = 0 ∨ i = 1 ∨ i = 2 := by omega
              rcases hi3 with rfl | rfl | rfl
              · by_cases hh : o.A.Has = true
                · have hC := ContainsI_fn s.Reads o.A.Ref.Kind (by omega)
                  by_cases hr : o.A.Ref.Kind ∈ s.Reads
                  · rw [decide_eq_true hr] at hC
                    simp [hh]
                    refine cal hC ?_
                    simp
                    exact ⟨1, by omega, by omega, entm [0, 1, 2, 3, 4, 5] (hB := by simp [hh])⟩
                  · have hC2 := ContainsI_fn s.Writes o.A.Ref.Kind (by omega)
                    rw [decide_eq_false hr] at hC
                    rw [decide_eq_true ((hA.t hh).2.2.resolve_left hr)] at hC2
                    simp [hh]
                    refine cal hC ?_
                    simp
                    refine cal hC2 ?_
                    simp
                    exact ⟨1, by omega, by omega, entm [0, 1, 2, 3, 4, 5] (hB := by simp [hh])⟩
                · have hh' : o.A.Has = false := by simpa using hh
                  simp [hh']
                  exact ⟨1, by omega, by omega, entm [0, 1, 2, 3, 4, 5] (hB := by simp [hh'])⟩
              · by_cases hh : o.B.Has = true
                · have hC := ContainsI_fn s.Reads o.B.Ref.Kind (by omega)
                  by_cases hr : o.B.Ref.Kind ∈ s.Reads
                  · rw [decide_eq_true hr] at hC
                    simp [hh]
                    refine cal hC ?_
                    simp
                    exact ⟨2, by omega, by omega, entm [0, 1, 2, 3, 4, 5] (hT := by simp [w2]) (hB := by simp [hh])⟩
                  · have hC2 := ContainsI_fn s.Writes o.B.Ref.Kind (by omega)
                    rw [decide_eq_false hr] at hC
                    rw [decide_eq_true ((hB.t hh).2.2.resolve_left hr)] at hC2
                    simp [hh]
                    refine cal hC ?_
                    simp
                    refine cal hC2 ?_
                    simp
                    exact ⟨2, by omega, by omega, entm [0, 1, 2, 3, 4, 5] (hT := by simp [w2]) (hB := by simp [hh])⟩
                · have hh' : o.B.Has = false := by simpa using hh
                  simp [hh']
                  exact ⟨2, by omega, by omega, entm [0, 1, 2, 3, 4, 5] (hT := by simp [w2]) (hB := by simp [hh'])⟩
              · simp
                exact finm
          · rw [decide_eq_false (show ¬ (0 ≤ o.Do ∧ o.Do ≤ 7) by omega)] at hS2
            rw [decide_eq_true (show (1 ≤ o.Do ∧ o.Do ≤ 6) ∨ o.Do = 12 by omega)] at hT2
            have hT0 := hn (by omega) (by omega) (by omega)
            have n8 : ¬ o.Do = 8 := by omega
            have n9 : ¬ o.Do = 9 := by omega
            simp [n8, n9]
            refine cal hT2 ?_
            simp
            refine cal hS2 ?_
            simp [hT0, GRef.e]
            refine cal hS2 ?_
            simp
            refine cal hS2 ?_
            simp [GArg.e]
            refine awp_loop (fun i : Nat => ⟨201, [(4, .ptr 0 0), (5, .ptr 1 0), (6, kI 0), (174, .osl 5 4 0 2), (175, kI 2), (176, kI i)], [some s.e, some o.e, none, some [kI 0, kI 0], none, some [kB o.A.Has, kI o.A.N, kI o.A.Ref.Kind, kI o.A.Ref.Field, kB o.B.Has, kI o.B.N, kI o.B.Ref.Kind, kI o.B.Ref.Field]], 0⟩) (fun i => i ≤ 2) (fun i => 2 - i) 0 ?_ ?_ ?_
            · exact entm [0, 1, 2, 3, 4, 5]
            · simp
            · intro i hi
              refine awp_go ?_
              have hi3 : i = 0 ∨ i = 1 ∨ i = 2 := by omega
              rcases hi3 with rfl | rfl | rfl
              · by_cases hh : o.A.Has = true
                · have hC := ContainsI_fn s.Reads o.A.Ref.Kind (by omega)
                  by_cases hr : o.A.Ref.Kind ∈ s.Reads
                  · rw [decide_eq_true hr] at hC
                    simp [hh]
                    refine cal hC ?_
                    simp
                    exact ⟨1, by omega, by omega, entm [0, 1, 2, 3, 4, 5] (hB := by simp [hh])⟩
                  · have hC2 := ContainsI_fn s.Writes o.A.Ref.Kind (by omega)
                    rw [decide_eq_false hr] at hC
                    rw [decide_eq_true ((hA.t hh).2.2.resolve_left hr)] at hC2
                    simp [hh]
                    refine cal hC ?_
                    simp
                    refine cal hC2 ?_
                    simp
                    exact ⟨1, by omega, by omega, entm [0, 1, 2, 3, 4, 5] (hB := by simp [hh])⟩
                · have hh' : o.A.Has = false := by simpa using hh
                  simp [hh']
                  exact ⟨1, by omega, by omega, entm [0, 1, 2, 3, 4, 5] (hB := by simp [hh'])⟩
              · by_cases hh : o.B.Has = true
                · have hC := ContainsI_fn s.Reads o.B.Ref.Kind (by omega)
                  by_cases hr : o.B.Ref.Kind ∈ s.Reads
                  · rw [decide_eq_true hr] at hC
                    simp [hh]
                    refine cal hC ?_
                    simp
                    exact ⟨2, by omega, by omega, entm [0, 1, 2, 3, 4, 5] (hT := by simp [w2]) (hB := by simp [hh])⟩
                  · have hC2 := ContainsI_fn s.Writes o.B.Ref.Kind (by omega)
                    rw [decide_eq_false hr] at hC
                    rw [decide_eq_true ((hB.t hh).2.2.resolve_left hr)] at hC2
                    simp [hh]
                    refine cal hC ?_
                    simp
                    refine cal hC2 ?_
                    simp
                    exact ⟨2, by omega, by omega, entm [0, 1, 2, 3, 4, 5] (hT := by simp [w2]) (hB := by simp [hh])⟩
                · have hh' : o.B.Has = false := by simpa using hh
                  simp [hh']
                  exact ⟨2, by omega, by omega, entm [0, 1, 2, 3, 4, 5] (hT := by simp [w2]) (hB := by simp [hh'])⟩
              · simp
                exact finm
end Go.Proofs.YtfojnhceiabbhaaGreat.Am
/- Package system: Check at a valid system. -/
namespace Go.Proofs.YtfojnhceiabbhaaGreat.Am
open Go Go.RowKit

theorem Check1_fn (s : GSystem) (x : Int) (hl : s.Without.length ≤ 1000000) : Fn Tryz.prog 46 [kI x, .eptr s.e] (kB (decide (x ∈ s.Without))) := by
  refine fn_go Tryz.func46 rfl ?_
  simp [Tryz.ntmps46]
  refine cal (ContainsI_fn s.Without x (by omega)) ?_
  simp
  exact finm
theorem Check2_fn (s : GSystem) (x : Int) (hl : s.With.length ≤ 1000000) : Fn Tryz.prog 49 [kI x, .eptr s.e] (kB (!decide (x ∈ s.With))) := by
  refine fn_go Tryz.func49 rfl ?_
  simp [Tryz.ntmps49]
  refine cal (ContainsI_fn s.With x (by omega)) ?_
  simp
  exact finm

theorem setS_len {ks : List GKind} {l : List Int} (h : SetS ks l) : l.length ≤ ks.length := by
  have key : ∀ (l : List Int) (a : Int), 0 ≤ a → (∀ x ∈ l, a ≤ x ∧ x < (ks.length : Int)) → l.Pairwise (· < ·) → (l.length : Int) ≤ ks.length - a ∨ l = [] := fun l => by
    induction l with
    | nil => intro a _ _ _; exact .inr rfl
    | cons y l ih =>
      intro a ha h1 h2
      obtain ⟨g1, g2⟩ := List.pairwise_cons.1 h2
      have hy := h1 y (by simp)
      refine .inl ?_
      rcases ih (y + 1) (by omega) (fun x hx => ⟨by have := g1 x hx; omega, (h1 x (by simp [hx])).2⟩) g2 with h | h
      · simp; omega
      · subst h; simp; omega
  rcases key l 0 (by omega) h.r h.p with h | h
  · omega
  · subst h; simp

set_option maxRecDepth 20000 in
set_option maxHeartbeats 4000000 in
theorem SCheck_ok (ks : List GKind) (s : GSystem) (hS : SysS ks s) : Fn Tryz.prog 23 [.sl 2 (ks.map GKind.e), .agg s.e] (kI 0) := by
  obtain ⟨k1, k2⟩ := checkE_le hS.kc
  have hw := setS_len hS.w
  have hwo := setS_len hS.wo
  have hr := setS_len hS.rd
  have hwr := setS_len hS.wr
  have hKC := Check_fn ks (fun k hk => by have := k2 k hk; omega) (by omega)
  rw [hS.kc] at hKC
  have hN := Name_fn s.Name
  rw [hS.nm] at hN
  have hol := hS.ol
  have hol2 : ¬ 20 < (s.Ops.length : Int) := by omega
  have w3 : IntKind.i64.wrap 2 = 2 := by decide
  have w4 : IntKind.i64.wrap 3 = 3 := by decide
  have w5 : IntKind.i64.wrap 4 = 4 := by decide
  refine fn_go Tryz.func23 rfl ?_
  simp [Tryz.ntmps23]
  refine cal hKC ?_
  simp
  refine cal hN ?_
  simp [hol2]
  refine awp_loop (fun i : Nat => ⟨85, [(0, .sl 2 (ks.map GKind.e)), (3, .ptr 0 0), (4, kI 0), (35, .osl 1 1 0 4), (36, kI 4), (37, kI i)], [some s.e, some [slI s.With, slI s.Without, slI s.Reads, slI s.Writes]], 0⟩) (fun i => i ≤ 4) (fun i => 4 - i) 0 ?_ ?_ ?_
  · exact entm [0, 1]
  · simp
  · intro i hi
    refine awp_go ?_
    have hi3 : i = 0 ∨ i = 1 ∨ i = 2 ∨ i = 3 ∨ i = 4 := by omega
    rcases hi3 with rfl | rfl | rfl | rfl | rfl
    · simp
      refine cal (set_ok ks s.With hS.w (by omega) (by omega)) ?_
      simp
      exact ⟨1, by omega, by omega, entm [0, 1]⟩
    · simp
      refine cal (set_ok ks s.Without hS.wo (by omega) (by omega)) ?_
      simp
      exact ⟨2, by omega, by omega, entm [0, 1] (hT := by simp [w3])⟩
    · simp
      refine cal (set_ok ks s.Reads hS.rd (by omega) (by omega)) ?_
      simp
      exact ⟨3, by omega, by omega, entm [0, 1] (hT := by simp [w4])⟩
    · simp
      refine cal (set_ok ks s.Writes hS.wr (by omega) (by omega)) ?_
      simp
      exact ⟨4, by omega, by omega, entm [0, 1] (hT := by simp [w5])⟩
    · simp
      have hC1 := ContainsFuncI_fn s.With 46 [.eptr s.e] (fun x => decide (x ∈ s.Without)) (by omega) en_46 rfl (fun x _ => Check1_fn s x (by omega))
      have ha1 : s.With.any (fun x => decide (x ∈ s.Without)) = false := by
        rw [List.any_eq_false]
        intro x hx
        simpa using hS.cl x hx
      rw [ha1] at hC1
      refine ops_fz 0 s.e ?_
      simp
      refine cal hC1 ?_
      simp
      refine ops_fz 2 [slI s.Reads, slI s.Writes] ?_
      simp
      refine cal (ConcatI_fn [s.Reads, s.Writes] (s.Reads ++ s.Writes) (by simp) (by simp; omega) (by simp)) ?_ (hren := by simp [chunks, List.range, List.range.loop])
      have hC2 := ContainsFuncI_fn (s.Reads ++ s.Writes) 49 [.eptr s.e] (fun x => !decide (x ∈ s.With)) (by simp; omega) en_49 rfl (fun x _ => Check2_fn s x (by omega))
      have ha2 : (s.Reads ++ s.Writes).any (fun x => !decide (x ∈ s.With)) = false := by
        rw [List.any_eq_false]
        intro x hx
        have := hS.rw x (List.mem_append.1 hx)
        simpa using this
      rw [ha2] at hC2
      simp
      refine cal hC2 ?_
      simp
      have hF := WFit_fn ks s.Spawn (by omega) (fun k hk => by have := k2 k hk; omega) hS.sp hS.sv
      rw [hS.fit] at hF
      refine cal hF ?_
      simp
      refine awp_loop (fun i : Nat => ⟨85, [(0, .sl 2 (ks.map GKind.e)), (3, .eptr s.e), (4, kI 0), (71, .sl 11 (s.Ops.map GOp.e)), (72, kI s.Ops.length), (73, kI i)], [], 0⟩) (fun i => i ≤ s.Ops.length) (fun i => s.Ops.length - i) 0 ?_ ?_ ?_
      · exact entm []
      · simp
      · intro i hi
        refine awp_go ?_
        by_cases hlt : i < s.Ops.length
        · simp [hlt]
          refine cal (op_ok ks s s.Ops[i] (hS.ops _ (List.getElem_mem hlt)) (by omega) (fun k hk => by have := k2 k hk; omega) (by omega) (by omega)) ?_
          simp
          rw [wrap_id (by omega) (by omega)]
          exact ⟨i + 1, by omega, by omega, entm []⟩
        · obtain rfl : i = s.Ops.length := by omega
          simp
          exact finm
end Go.Proofs.YtfojnhceiabbhaaGreat.Am
/- The iterator of query.All, the values of each row still to be written. -/
namespace Go.Proofs.YtfojnhceiabbhaaGreat.Am
open Go Go.RowKit

theorem deepX_len (b : Nat) (l : List GComp) : (deepX b l).length = l.length + 1 := by simp [deepX]
theorem vals_ren (θ : Nat → Nat) (l : List Int) : renL θ (l.map kI) = l.map kI := by simp
theorem deepX_get {b b' : Nat} {l : List GComp} {θ : Nat → Nat} (h : ∀ j, j < l.length → θ (b + 1 + j) = b' + 1 + j) {i : Nat} {cs : List PV} (hi : (deepX b l)[i]? = some cs) : (deepX b' l)[i]? = some (renL θ cs) := by
  cases i with
  | zero =>
    have : cs = cellsD l (List.range' (b + 1) l.length) := by simpa [deepX] using hi.symm
    subst this
    rw [renL_cellsD]
    have e : (List.range' (b + 1) l.length).map θ = List.range' (b' + 1) l.length := by
      refine List.ext_getElem (by simp) fun j h1 h2 => ?_
      simp only [List.getElem_map, List.getElem_range', Nat.one_mul]
      exact h j (by simpa using h1)
    rw [e]; rfl
  | succ i =>
    have hi' : (l.map fun c => c.Vals.map kI)[i]? = some cs := by simpa [deepX] using hi
    rw [List.getElem?_map] at hi'
    obtain ⟨c, hc, rfl⟩ := Option.map_eq_some_iff.1 hi'
    rw [vals_ren]
    simp [deepX, hc]
theorem deepX_map {b b' : Nat} {l : List GComp} {θ : Nat → Nat} (h : ∀ j, j < l.length → θ (b + 1 + j) = b' + 1 + j) : (deepX b l).map (renL θ) = deepX b' l := by
  refine List.ext_getElem? fun i => ?_
  rw [List.getElem?_map]
  cases hi : (deepX b l)[i]? with
  | none =>
    rw [List.getElem?_eq_none_iff, deepX_len] at hi
    rw [List.getElem?_eq_none (by rw [deepX_len]; omega)]; rfl
  | some cs => rw [deepX_get h hi]; rfl
theorem deepX_lt {b n : Nat} {l : List GComp} (h : b + 1 + l.length ≤ n) {i : Nat} {cs : List PV} (hi : (deepX b l)[i]? = some cs) : ltL n cs = true := by
  cases i with
  | zero =>
    have : cs = cellsD l (List.range' (b + 1) l.length) := by simpa [deepX] using hi.symm
    subst this
    exact ltL_cellsD _ _ fun b' hb => by have := List.mem_range'_1.1 hb; omega
  | succ i =>
    have hi' : (l.map fun c => c.Vals.map kI)[i]? = some cs := by simpa [deepX] using hi
    rw [List.getElem?_map] at hi'
    obtain ⟨c, hc, rfl⟩ := Option.map_eq_some_iff.1 hi'
    simp

def yRowD (x : GRow) : List PV × List (List PV) := ([kI x.1, .agg [kI x.2.Ent.N, kI x.2.Ent.Gen, .osl 0 2 0 x.2.Comps.length]], deepX 0 x.2.Comps)

set_option maxRecDepth 20000 in
theorem All1_deep (rows : List GRow) (hl : rows.length ≤ 1000000) (hc : ∀ x ∈ rows, x.2.Comps.length ≤ 1000000) (hv : ∀ x ∈ rows, ∀ c ∈ x.2.Comps, c.Vals.length ≤ 1000000) :
    SeqOk Tryz.prog 56 [.eptr [.sl 4 (rows.map rowE)]] (rows.map yRowD) := by
  refine seqOk_of Tryz.func56 rfl rfl ?_
  intro l J hy
  refine awpI_seq (awpI_of (awp_go ?_))
  simp [Tryz.ntmps56, thenI]
  refine awpI_block (awpI_loop (fun i => ⟨25, [(0, .k (.func (.yield l) #[] #[])), (5, .sl 4 (rows.map rowE)), (6, kI rows.length), (7, kI i)], [], 0⟩) (fun i => i ≤ rows.length) (fun i => rows.length - i) (entm []) (by omega) ?_)
  intro i hi
  refine awpI_seq (awpI_of (awp_go ?_))
  by_cases hlt : i < rows.length
  · obtain ⟨x, hx⟩ : ∃ x, rows[i] = x := ⟨_, rfl⟩
    have hm : x ∈ rows := hx ▸ List.getElem_mem hlt
    simp [hlt, thenI]
    refine awpI_seq (awpI_of (awp_go ?_))
    simp [thenI]
    refine awpI_seq (awpI_block (awpI_seq (awpI_of (awp_go ?_))))
    simp [hlt, hx, thenI, rowE]
    refine awpI_seq (awpI_yieldK hy follows_mix 11 [(0, .k (.func (.yield l) #[] #[])), (5, .sl 4 (rows.map rowE)), (6, kI rows.length), (7, kI i)] ?_ ?_)
    · simp only [List.take_succ_cons, List.take_zero]
      refine draw_D [9] [(0, [0, 1]), (0, [0, 1]), (0, [0, 1]), (0, [0, 1]), (0, [0, 1]), (0, [0, 1]), (0, [0]), (0, [0]), (0, [0]), (3, [0]), (0, [1])] 1 (by kernel_rfl) rfl ?_
      have hC := CopyComps_deep x.2.Comps (hc x hm) (hv x hm)
      have hmap := deepX_map (b := 0) (b' := 1) (l := x.2.Comps) (θ := thF [] 1) fun j _ => by simp [thF]; omega
      simp
      obtain ⟨τ, hτ⟩ : ∃ τ, some [kI x.1, kI x.2.Ent.N, kI x.2.Ent.Gen, .sl 2 (x.2.Comps.map GComp.e)] :: (deepX 1 x.2.Comps).map some = τ := ⟨_, rfl⟩
      refine gD_callW (.osl 1 2 0 x.2.Comps.length) τ ?_
      have hh0 : τ[0]? = some (some [kI x.1, kI x.2.Ent.N, kI x.2.Ent.Gen, .sl 2 (x.2.Comps.map GComp.e)]) := by rw [← hτ]; rfl
      simp [hh0]
      have hτl : τ.length = x.2.Comps.length + 2 := by rw [← hτ]; simp [deepX]
      have hth : ∀ j, j < x.2.Comps.length + 1 → thF (List.range' 1 (x.2.Comps.length + 1)) τ.length j = 1 + j := fun j hj => by
        unfold thF
        rw [if_pos (by simpa using hj)]
        simp [List.getD, hj]
      refine ⟨.inl ⟨rfl, doD [] hC (h2 := ?_) (hr2 := by simp)⟩, ⟨rfl, ⟨_, [kI x.1, .agg [kI x.2.Ent.N, kI x.2.Ent.Gen, .osl 0 2 0 x.2.Comps.length]], deepX 0 x.2.Comps, List.range' 1 (x.2.Comps.length + 1), rfl, ?_, by simp [deepX], List.nodup_range' (step := 1), ?_, by simp, ?_⟩, keepB_T (by simp [keepB])⟩⟩
      · rw [← hτ]
        show _ :: (((deepX 0 x.2.Comps).map some).drop 0).map _ = _
        rw [List.drop_zero, List.map_map]
        congr 1
        have e : ((fun y : Option (List PV) => y.map (renL (thF [] 1))) ∘ some) = (some ∘ renL (thF [] 1)) := rfl
        show List.map ((fun y : Option (List PV) => y.map (renL (thF [] 1))) ∘ some) _ = _
        rw [e, ← List.map_map, hmap]
      · simp [hlt, hx, yRowD]
      · have := hth 0 (by omega)
        simp only [renL, PV.ren, this]
        rfl
      · intro j t cs hj hcs
        have hjl : j < x.2.Comps.length + 1 := by
          have := (List.getElem?_eq_some_iff.1 hj).1
          simpa using this
        have ht : t = 1 + j := by
          rw [List.getElem?_range' (by simpa using hjl)] at hj
          simp at hj; omega
        subst ht
        refine ⟨?_, deepX_lt (by simp; omega) hcs⟩
        have h1 := deepX_get (b := 0) (b' := 1) (θ := thF (List.range' 1 (x.2.Comps.length + 1)) τ.length) (fun q hq => by rw [hth _ (by omega)]; omega) hcs
        rw [← hτ, Nat.add_comm 1 j, box_cons1]
        simp only [box]
        rw [hτ, List.getElem?_map, h1]
        rfl
    · simp only [thenI]
      refine awpI_of (awp_go ?_)
      simp [inBlockI, thenI]
      refine awpI_of (awp_go ?_)
      simp [thenI]
      rw [wrap_id (by omega) (by omega)]
      exact ⟨by omega, by omega, entm []⟩
  · simp [hlt, thenI]
    refine awpI_seq (awpI_of (awp_go ?_))
    simp [inBlockI, thenI]
    omega
end Go.Proofs.YtfojnhceiabbhaaGreat.Am
/- Package system: Run. -/
namespace Go.Proofs.YtfojnhceiabbhaaGreat.Am
open Go Go.RowKit

/-- What a run has done so far. -/
structure RF where
  items : List GItem
  cmds : List GCmd
  evs : List GEvent
  N : Int
  G : Int
  comps : List GComp
  rs : Int
  rg : Int
abbrev rcOf (ks : List GKind) (s : GSystem) (idx : Int) (it : GItem) : RC := ⟨ks, s, it.Ent.N, it.Ent.Gen, idx⟩
noncomputable def rowR (ks : List GKind) (s : GSystem) (idx seed tick : Int) (cmds : List GCmd) (evs : List GEvent) (it : GItem) : RS :=
  s.Ops.foldl (doM (rcOf ks s idx it)) ⟨it.Comps, ofS [seed, tick, idx, it.Ent.N], ofG [seed, tick, idx, it.Ent.N], cmds, evs⟩
noncomputable def stepR (ks : List GKind) (s : GSystem) (idx seed tick : Int) (a : RF) (row : GRow) : RF :=
  let x := rowR ks s idx seed tick a.cmds a.evs row.2
  ⟨a.items.set row.1 ⟨(a.items.getD row.1 ⟨⟨0, 0⟩, []⟩).Ent, x.comps⟩, x.cmds, x.evs, row.2.Ent.N, row.2.Ent.Gen, x.comps, x.rs, x.rg⟩
noncomputable def runTo (ks : List GKind) (s : GSystem) (idx seed tick : Int) (its : List GItem) (rows : List GRow) : RF := rows.foldl (stepR ks s idx seed tick) ⟨its, [], [], 0, 0, [], 0, 0⟩
noncomputable def runB (w : GWorld) (s : GSystem) (idx seed tick : Int) (a : RF) : Boxes :=
  [some w.e, some s.e, some [kI idx], some [kI seed], some [kI tick], some [kNil, kNil, kNil], some (a.items.map GItem.e).flatten, some [.sl 2 (w.Kinds.map GKind.e), slI w.Gens, .osl 6 3 0 w.Items.length],
    some (runC ⟨w.Kinds, s, a.N, a.G, idx⟩ (.sl 2 (a.comps.map GComp.e)) a.rs a.rg (.osl 10 5 0 a.cmds.length) (.osl 11 4 0 a.evs.length)), some [.ptr 8 0], some (a.cmds.map GCmd.e).flatten, some (a.evs.map GEvent.e).flatten]

theorem set_len {ks : List GKind} {l : List Int} (h : SetS ks l) : l.length ≤ ks.length := by
  have key : ∀ (l : List Int) (a : Int), 0 ≤ a → (∀ x ∈ l, a ≤ x ∧ x < (ks.length : Int)) → l.Pairwise (· < ·) → (l.length : Int) ≤ ks.length - a ∨ l = [] := fun l => by
    induction l with
    | nil => intro a _ _ _; exact .inr rfl
    | cons y l ih =>
      intro a ha h1 h2
      obtain ⟨g1, g2⟩ := List.pairwise_cons.1 h2
      have hy := h1 y (by simp)
      refine .inl ?_
      rcases ih (y + 1) (by omega) (fun x hx => ⟨by have := g1 x hx; omega, (h1 x (by simp [hx])).2⟩) g2 with h | h
      · simp; omega
      · subst h; simp; omega
  rcases key l 0 (by omega) h.r h.p with h | h
  · omega
  · subst h; simp
theorem rowsGo_spec (p : GItem → Bool) : ∀ (l : List GItem) (i : Nat) (x : GRow), x ∈ rowsGo p i l → x.2 ∈ l ∧ p x.2 = true ∧ ∃ j : Nat, x.1 = i + j ∧ l[j]? = some x.2
  | [], _, x, h => by simp [rowsGo] at h
  | y :: r, i, x, h => by
    have key : x ∈ rowsGo p (i + 1) r → x.2 ∈ y :: r ∧ p x.2 = true ∧ ∃ j : Nat, x.1 = i + j ∧ (y :: r)[j]? = some x.2 := fun h => by
      obtain ⟨h1, h2, j, h3, h4⟩ := rowsGo_spec p r (i + 1) x h
      exact ⟨List.mem_cons_of_mem _ h1, h2, j + 1, by omega, by simpa using h4⟩
    rw [rowsGo] at h
    split at h
    · rename_i hp
      rcases List.mem_cons.1 h with e | h
      · subst e
        exact ⟨by simp, hp, 0, by simp, rfl⟩
      · exact key h
    · exact key h
theorem rowsM_spec (w : GWorld) (wi wo : List Int) : ∀ x ∈ rowsM w wi wo, x.2 ∈ w.Items ∧ matchI x.2 wi wo = true ∧ w.Items[x.1]? = some x.2 := fun x hx => by
  obtain ⟨h1, h2, j, h3, h4⟩ := rowsGo_spec _ _ _ x hx
  refine ⟨h1, h2, ?_⟩
  rw [h3, Nat.zero_add]; exact h4

theorem RunJ.mono {c : RC} {x : RS} {rb cb mb eb : Nat} {σ : Boxes} (h : RunJ c x rb cb mb eb σ) (ext : Boxes) : RunJ c x rb cb mb eb (σ ++ ext) := by
  have key : ∀ i cs, box σ i = some cs → box (σ ++ ext) i = some cs := fun i cs h => by rw [box_append, if_pos (box_lt h)]; exact h
  exact ⟨key _ _ h.h0, key _ _ h.h1, key _ _ h.hm, key _ _ h.he, fun i hi => key _ _ (h.hv i hi), h.nd⟩
theorem fold_len (c : RC) : ∀ (l : List GOp) (x : RS), (l.foldl (doM c) x).cmds.length ≤ x.cmds.length + l.length ∧ (l.foldl (doM c) x).evs.length ≤ x.evs.length + l.length ∧ (l.foldl (doM c) x).rg = x.rg
  | [], x => by simp
  | o :: l, x => by
    have h1 := fold_len c l (doM c x o)
    have h2 := doM_cl c x o
    simp only [List.foldl_cons, List.length_cons]
    refine ⟨by omega, by omega, ?_⟩
    rw [h1.2.2, h2.2.2]
theorem match_at {it : GItem} {wi wo : List Int} (h : matchI it wi wo = true) {k : Int} (hk : k ∈ wi) : atK it.Comps k < it.Comps.length := by
  simp only [matchI, Bool.and_eq_true, Bool.not_eq_true', List.any_eq_false] at h
  have h1 := h.1 k hk
  simp only [Bool.not_eq_true', Bool.not_eq_false] at h1
  unfold hasK at h1
  unfold atK
  rw [List.findIdx_lt_length]
  simpa using h1
/-- In the middle of the operations of a round. -/
structure RunLoop (c : RC) (s : GSystem) (a : RF) (n d : Nat) (σ0 : Boxes) (y0 : RS) (j : Nat) (y : RS) (σ : Boxes) (mb eb : Nat) : Prop where
  jl : j ≤ s.Ops.length
  Jr : RunJ c y 8 12 mb eb σ
  In : RInv c y
  fd : (s.Ops.drop j).foldl (doM c) y = s.Ops.foldl (doM c) y0
  cl : y.cmds.length ≤ a.cmds.length + j
  el : y.evs.length ≤ a.evs.length + j
  yl : y.comps.length = n
  kp : ∀ (i : Nat) (cs : List PV), (i < 8 ∨ i = 9) → box σ0 i = some cs → box σ i = some cs
  ml : mb = 10 ∨ 12 + d ≤ mb
  bl : eb = 11 ∨ 12 + d ≤ eb
theorem runTo_len (ks : List GKind) (s : GSystem) (idx seed tick : Int) (its : List GItem) (rows : List GRow) : (runTo ks s idx seed tick its rows).items.length = its.length ∧ (runTo ks s idx seed tick its rows).cmds.length ≤ rows.length * s.Ops.length ∧ (runTo ks s idx seed tick its rows).evs.length ≤ rows.length * s.Ops.length := by
  have key : ∀ (rows : List GRow) (a : RF), (rows.foldl (stepR ks s idx seed tick) a).items.length = a.items.length ∧ (rows.foldl (stepR ks s idx seed tick) a).cmds.length ≤ a.cmds.length + rows.length * s.Ops.length ∧ (rows.foldl (stepR ks s idx seed tick) a).evs.length ≤ a.evs.length + rows.length * s.Ops.length := fun rows => by
    induction rows with
    | nil => intro a; simp
    | cons r rows ih =>
      intro a
      have h1 := ih (stepR ks s idx seed tick a r)
      have h2 := fold_len (rcOf ks s idx r.2) s.Ops ⟨r.2.Comps, ofS [seed, tick, idx, r.2.Ent.N], ofG [seed, tick, idx, r.2.Ent.N], a.cmds, a.evs⟩
      have e1 : (stepR ks s idx seed tick a r).items.length = a.items.length := by simp [stepR]
      have e2 : (stepR ks s idx seed tick a r).cmds.length ≤ a.cmds.length + s.Ops.length := h2.1
      have e3 : (stepR ks s idx seed tick a r).evs.length ≤ a.evs.length + s.Ops.length := h2.2.1
      simp only [List.foldl_cons, List.length_cons]
      have e4 : (rows.length + 1) * s.Ops.length = rows.length * s.Ops.length + s.Ops.length := by rw [Nat.add_mul, Nat.one_mul]
      omega
  have := key rows ⟨its, [], [], 0, 0, [], 0, 0⟩
  simpa [runTo] using this

theorem iset2 (its : List GItem) (i : Nat) (hi : i < its.length) (C : List GComp) : ((its.map GItem.e).flatten).set (i * 3 + 2) (.sl 2 (C.map GComp.e)) = ((its.set i ⟨(its[i]).Ent, C⟩).map GItem.e).flatten := by
  induction its generalizing i with
  | nil => simp at hi
  | cons x its ih =>
    cases i with
    | zero => rfl
    | succ i =>
      have := ih i (by simpa using hi)
      rw [show (i + 1) * 3 + 2 = (i * 3 + 2) + 3 by omega]
      simp only [List.map_cons, List.flatten_cons, List.set_cons_succ, List.getElem_cons_succ]
      rw [← this]; rfl
set_option maxHeartbeats 1000000 in
/-- The end of a round: the components are frozen, the boxes lie as at the start. -/
theorem round_end (w : GWorld) (s : GSystem) (idx seed tick : Int) {T : List (Nat × PV)} {N : Nat} {a : RF} {x1 : Nat} {e : GEnt} {y : RS} {c : RC} {σ : Boxes} {mb eb : Nat} (hJ : RunJ c y 8 12 mb eb σ)
    (hTl : ∀ x ∈ T, x.2.lt 12 = true) (hT2 : ∀ σ, EntT ⟨N, T, σ, 0⟩ (fun i => [0, 1, 2, 3, 4, 5, 6, 7, 8, 9, mb, eb].getD i 0) 12 T)
    (h0 : box σ 0 = some w.e) (h1 : box σ 1 = some s.e) (h2 : box σ 2 = some [kI idx]) (h3 : box σ 3 = some [kI seed]) (h4 : box σ 4 = some [kI tick]) (h5 : box σ 5 = some [kNil, kNil, kNil]) (h6 : box σ 6 = some (a.items.map GItem.e).flatten)
    (h7 : box σ 7 = some [.sl 2 (w.Kinds.map GKind.e), slI w.Gens, .osl 6 3 0 w.Items.length]) (h9 : box σ 9 = some [.ptr 8 0]) (hx1 : x1 < a.items.length) (hmb : mb = 10 ∨ 13 + y.comps.length ≤ mb) (heb : eb = 11 ∨ 13 + y.comps.length ≤ eb)
    (hrunc : ∀ cp cm ev, runC c cp y.rs y.rg cm ev = runC ⟨w.Kinds, s, e.N, e.Gen, idx⟩ cp y.rs y.rg cm ev) :
    Ent ⟨N, T, σ.set 6 (some ((a.items.map GItem.e).flatten.set (x1 * 3 + 2) (.osl 12 2 0 y.comps.length))), 0⟩
      ⟨N, T, runB w s idx seed tick ⟨a.items.set x1 ⟨(a.items.getD x1 ⟨⟨0, 0⟩, []⟩).Ent, y.comps⟩, y.cmds, y.evs, e.N, e.Gen, y.comps, y.rs, y.rg⟩, 0⟩ := by
  have hT1 : ∀ b cs, 12 ≤ b → (T.map fun x => (x.1, x.2.fz b cs)) = T := fun b cs hb => by
    have : T.map (fun x => (x.1, x.2.fz b cs)) = T.map id := List.map_congr_left fun x hx => by rw [fz_ge hb cs x.2 (hTl x hx)]; rfl
    rw [this]; simp
  obtain ⟨σ1, hσ1⟩ : ∃ σ1, σ.set 6 (some ((a.items.map GItem.e).flatten.set (x1 * 3 + 2) (.osl 12 2 0 y.comps.length))) = σ1 := ⟨_, rfl⟩
  rw [hσ1]
  have hb6 := box_lt h6
  have k6 : box σ1 6 = some ((a.items.map GItem.e).flatten.set (x1 * 3 + 2) (.osl 12 2 0 y.comps.length)) := by rw [← hσ1, box_set hb6, if_pos rfl]
  have kn : ∀ i, i ≠ 6 → box σ1 i = box σ i := fun i hi => by rw [← hσ1, box_set hb6, if_neg hi]
  obtain ⟨j0, j1, jm, je, jv, jnd⟩ := hJ
  have hmne : mb ≠ eb ∧ mb ≠ 8 ∧ eb ≠ 8 ∧ mb ≠ 12 ∧ eb ≠ 12 := by
    simp only [List.cons_append, List.nil_append, List.nodup_cons, List.mem_cons, not_or] at jnd
    exact ⟨jnd.2.2.1.1, fun h => jnd.1.2.1 h.symm, fun h => jnd.1.2.2.1 h.symm, fun h => jnd.2.1.1 h.symm, fun h => jnd.2.1.2.1 h.symm⟩
  obtain ⟨τ, hE1, hC, hτ⟩ := ent_deep (N := N) (k := 0) (T := T) y.comps 12 (by omega) (fun j cs _ => hT1 _ _ (by omega)) y.comps.length 0 σ1 (by omega) (by rw [mixC_0, kn 12 (by omega)]; exact j1) (fun i hi _ => by rw [kn _ (by omega)]; exact jv i hi)
  refine hE1.trans ?_
  have hE2 := ent_fz (s := ⟨N, T, τ, 0⟩) 12 (y.comps.map GComp.e).flatten hC (by simp) (by simp)
  simp only [St.fz, hT1 12 _ (by omega)] at hE2
  refine hE2.trans ?_
  have hl12 := box_lt hC
  obtain ⟨σ2, hσ2⟩ : ∃ σ2, (τ.map fun x => x.map (fzL 12 (y.comps.map GComp.e).flatten)).set 12 none = σ2 := ⟨_, rfl⟩
  rw [hσ2]
  have get : ∀ i X, box σ1 i = some X → freeP 13 y.comps.length X → (i < 12 ∨ 13 + y.comps.length ≤ i) → box σ2 i = some (fzL 12 (y.comps.map GComp.e).flatten X) := fun i X hX hf hi => by
    have := hτ i X hX hf (by omega) (by omega)
    rw [← hσ2, box_set (by simpa using hl12), if_neg (by omega), box_map, this]; rfl
  have getI : ∀ i X, box σ i = some X → X.all PV.immB = true → (i < 12 ∨ 13 + y.comps.length ≤ i) → i ≠ 6 → box σ2 i = some X := fun i X hX hi h1 h6 => by
    have := get i X (by rw [kn i h6]; exact hX) (fun j cs _ => imms_fz hi _ _) h1
    rwa [imms_fz hi] at this
  have hne6 : mb ≠ 6 ∧ eb ≠ 6 := ⟨by omega, by omega⟩
  refine ent_mk [0, 1, 2, 3, 4, 5, 6, 7, 8, 9, mb, eb] rfl rfl rfl (by simp) (by simp) (by simp; omega) (hT2 σ2) ?_
  unfold runB
  refine ⟨⟨?_, ?_⟩, ⟨?_, ?_⟩, ⟨?_, ?_⟩, ⟨?_, ?_⟩, ⟨?_, ?_⟩, ⟨?_, ?_⟩, ⟨?_, ?_⟩, ⟨?_, ?_⟩, ⟨?_, ?_⟩, ⟨?_, ?_⟩, ⟨?_, ?_⟩, ⟨?_, ?_⟩, trivial⟩
  · exact getI 0 _ h0 (by simp) (by omega) (by omega)
  · simp
  · exact getI 1 _ h1 (by simp) (by omega) (by omega)
  · simp
  · exact getI 2 _ h2 (by simp) (by omega) (by omega)
  · simp
  · exact getI 3 _ h3 (by simp) (by omega) (by omega)
  · simp
  · exact getI 4 _ h4 (by simp) (by omega) (by omega)
  · simp
  · exact getI 5 _ h5 (by simp) (by omega) (by omega)
  · simp
  · have hB6 : (a.items.map GItem.e).flatten.length = a.items.length * 3 := flat_len GItem.e_len _
    have hq : x1 * 3 + 2 < (a.items.map GItem.e).flatten.length := by omega
    have hi2 := iset2 a.items x1 hx1 y.comps
    have hgd : a.items.getD x1 ⟨⟨0, 0⟩, []⟩ = a.items[x1] := by simp [List.getD, hx1]
    have hBi : (a.items.map GItem.e).flatten.all PV.immB = true := flat_imm GItem.e_imm _
    have hfz : ∀ b cs, b ≠ 12 ∨ cs = (y.comps.map GComp.e).flatten → fzL b cs ((a.items.map GItem.e).flatten.set (x1 * 3 + 2) (.osl 12 2 0 y.comps.length)) = (a.items.map GItem.e).flatten.set (x1 * 3 + 2) ((PV.osl 12 2 0 y.comps.length).fz b cs) := fun b cs _ => by
      rw [fzL_map, List.map_set, ← fzL_map, imms_fz hBi]
    have h := get 6 _ k6 (fun j cs _ => by
      rw [hfz _ _ (.inl (by omega))]
      have : ¬ (12 : Nat) = 13 + j := by omega
      simp [PV.fz, this]) (by omega)
    rw [hfz _ _ (.inr rfl)] at h
    have hfz2 : (PV.osl 12 2 0 y.comps.length).fz 12 (y.comps.map GComp.e).flatten = .sl 2 (y.comps.map GComp.e) := by simp [PV.fz]
    rw [hfz2, hi2, ← hgd] at h
    show box σ2 6 = _
    rw [h, GItem.ren]
  · exact GItem.ltl _ _
  · have h := get 7 _ (by rw [kn 7 (by omega)]; exact h7) (fun j cs hj => by
      have : ¬ (6 : Nat) = 13 + j := by omega
      simp [this]) (by omega)
    show box σ2 7 = _
    rw [h]; simp
  · simp
  · have hfree : freeP 13 y.comps.length (runC c (.osl 12 2 0 y.comps.length) y.rs y.rg (.osl mb 5 0 y.cmds.length) (.osl eb 4 0 y.evs.length)) := fun j cs hj => by
      have h1 : ¬ (12 : Nat) = 13 + j := by omega
      have h2 : ¬ mb = 13 + j := by omega
      have h3 : ¬ eb = 13 + j := by omega
      simp [h1, h2, h3]
    have h := get 8 _ (by rw [kn 8 (by omega)]; exact j0) hfree (by omega)
    show box σ2 8 = _
    rw [h]
    simp only [hrunc]
    simp [hmne.2.2.2.1, hmne.2.2.2.2]
  · simp [runB]
  · have h := get 9 _ (by rw [kn 9 (by omega)]; exact h9) (fun j cs hj => by
      have : ¬ (8 : Nat) = 13 + j := by omega
      simp [this]) (by omega)
    show box σ2 9 = _
    rw [h]; simp
  · simp
  · have := getI mb _ jm (by simp) (by omega) hne6.1
    show box σ2 mb = _
    rw [this]; simp
  · simp
  · have := getI eb _ je (by simp) (by omega) hne6.2
    show box σ2 eb = _
    rw [this]; simp
  · simp

set_option maxRecDepth 20000 in
set_option maxHeartbeats 4000000 in
theorem Run_fn (w : GWorld) (s : GSystem) (idx seed tick : Int) (hS : SysS w.Kinds s) (hw : checkW w = 0) (hC : Fn Tryz.prog 23 [.sl 2 (w.Kinds.map GKind.e), .agg s.e] (kI 0)) :
    Fn Tryz.prog 7 [.agg w.e, .agg s.e, kI idx, kI seed, kI tick]
      (.tup [.agg (GWorld.e ⟨w.Kinds, w.Gens, (runTo w.Kinds s idx seed tick w.Items (rowsM w s.With s.Without)).items⟩), .sl 5 ((runTo w.Kinds s idx seed tick w.Items (rowsM w s.With s.Without)).cmds.map GCmd.e), .sl 4 ((runTo w.Kinds s idx seed tick w.Items (rowsM w s.With s.Without)).evs.map GEvent.e), kI 0]) := by
  obtain ⟨hfi, hfc⟩ := checkW_fine hw
  have hWC := WCheck_fn w hfi (fun it hi c hc => by have := ((hfc it hi).2 c hc).2.2.2; omega)
  rw [hw] at hWC
  refine fng_of0 Tryz.func7 rfl ?_
  refine awp0_seq (awp0_of (awp_go ?_))
  simp [Tryz.ntmps7]
  refine awp0_seq (awp0_of (awp_go ?_))
  simp
  refine cal hWC ?_
  simp
  refine awp0_seq (awp0_of (awp_go ?_))
  simp
  refine cal hC ?_
  simp
  refine awp0_seq (awp0_of (awp_go ?_))
  simp
  refine calD [] (WCopy_own w hfi) ?_
  simp
  refine awp0_seq (awp0_of (awp_go ?_))
  simp
  refine awp0_seq (awp0_seq (awp0_of (awp_go ?_)))
  simp
  refine cal (All_fn w s.With s.Without hfi ?_ ?_) ?_
  · have := set_len hS.w
    have := (checkE_le hS.kc).1
    omega
  · have := set_len hS.wo
    have := (checkE_le hS.kc).1
    omega
  simp
  have hrows := rowsM_spec w s.With s.Without
  have hrl : (rowsM w s.With s.Without).length ≤ w.Items.length := rowsGo_len _ _ _
  have hil := (checkW_iff.1 hw).2
  obtain ⟨rows, hrd⟩ : ∃ rows, rowsM w s.With s.Without = rows := ⟨_, rfl⟩
  rw [hrd] at hrows hrl ⊢
  have hrc : (.sl 2 (List.map GKind.e w.Kinds) :: (List.take 14 (s.e ++ [kI 0, kI 0, kNil, kU 0, kU 0, kNil, kNil, kI 0]) ++ kI idx :: List.drop 15 (s.e ++ [kI 0, kI 0, kNil, kU 0, kU 0, kNil, kNil, kI 0])) : List PV) = runC ⟨w.Kinds, s, 0, 0, idx⟩ kNil 0 0 kNil kNil := by simp [GSystem.e]
  rw [hrc]
  refine awp0_block (awp0_ent (s' := ⟨97, [(5, .ptr 0 0), (6, .ptr 1 0), (7, .ptr 2 0), (8, .ptr 3 0), (9, .ptr 4 0), (10, .ptr 5 0), (16, .ptr 7 0), (17, .ptr 9 0), (49, .clo (.func 56) [.eptr [.sl 4 (rows.map rowE)]])], runB w s idx seed tick (runTo w.Kinds s idx seed tick w.Items []), 0⟩)
    ((ent_cell 8 10 (tell_nil 2)).trans ((ent_nilb (b := 8) (j := 13) (z := 5) rfl rfl).trans ((ent_nilb (b := 8) (j := 14) (z := 4) rfl rfl).trans (entm [0, 1, 2, 3, 4, 5, 6, 7, 8, 9, 10, 11] (hT := by simp [runB]) (hB := by simp [runB, runTo]))))) ?_)
  refine awp0_range (fun i => runB w s idx seed tick (runTo w.Kinds s idx seed tick w.Items (rows.take i))) (All1_deep rows ?_ ?_ ?_) rfl en_56 rfl (by simp) ?_ (by simp) ?_ ?_
  · omega
  · intro x hx
    have := (hfc x.2 (hrows x hx).1).1; omega
  · intro x hx c hc
    have := ((hfc x.2 (hrows x hx).1).2 c hc).2.2.2; omega
  · intro x hx
    obtain ⟨y, _, rfl⟩ := List.mem_map.1 hx
    rfl
  · intro i args σc hi
    rw [List.getElem?_map] at hi
    obtain ⟨x, hx, hi⟩ := Option.map_eq_some_iff.1 hi
    simp only [yRowD, Prod.mk.injEq] at hi
    obtain ⟨rfl, rfl⟩ := hi
    have hxl := (List.getElem?_eq_some_iff.1 hx).1
    have htk : rows.take (i + 1) = rows.take i ++ [x] := by rw [List.take_add_one, hx]; rfl
    have hnx : runTo w.Kinds s idx seed tick w.Items (rows.take (i + 1)) = stepR w.Kinds s idx seed tick (runTo w.Kinds s idx seed tick w.Items (rows.take i)) x := by rw [htk]; simp [runTo]
    have hbd := runTo_len w.Kinds s idx seed tick w.Items (rows.take i)
    have hcap : (rows.take i).length * s.Ops.length ≤ 256 * 20 := Nat.mul_le_mul (by simp; omega) hS.ol
    rw [hnx]
    generalize runTo w.Kinds s idx seed tick w.Items (rows.take i) = a at hbd ⊢
    obtain ⟨hx1, hx2, hx3⟩ := hrows x (List.mem_of_getElem? hx)
    have hdx : (deepX 0 x.2.Comps).map (renL fun j => (runB w s idx seed tick a).length + j) = deepX 12 x.2.Comps := deepX_map fun j _ => by simp [runB]; omega
    unfold roundSt
    rw [hdx]
    refine awp_go ?_
    simp [parT, runB]
    refine awp_go ?_
    have hDl := deepX_len 12 x.2.Comps
    obtain ⟨D, hD⟩ : ∃ D, deepX 12 x.2.Comps = D := ⟨_, rfl⟩
    have hd0 : (deepX 0 x.2.Comps).length = D.length := by rw [deepX_len, hDl.symm, hD]
    rw [hD] at hDl ⊢
    rw [hd0]
    have hn : ∀ (z : Option (List PV)) (y : Boxes), (D.map some ++ z :: y)[D.length]? = some z := fun z y => by rw [List.getElem?_append_right (by simp)]; simp
    have hn1 : ∀ (z u : Option (List PV)) (y : Boxes), (D.map some ++ z :: u :: y)[D.length + 1]? = some u := fun z u y => by rw [List.getElem?_append_right (by simp)]; simp
    simp
    refine awp_draw follows_mix [10] [(0, [0, 1, 2]), (0, [0, 1, 2, 3]), (0, [0, 1, 2]), (0, [0]), (0, [0]), (0, [0]), (0, [0]), (0, [0]), (0, [0]), (1, [0]), (3, [1]), (0, [2]), (0, [2]), (1, [2]), (0, [3]), (0, [3]), (1, [3])] 4 (by kernel_rfl) rfl ?_
    simp [hn]
    obtain ⟨o4, ho4⟩ : ∃ o4, [seed, tick, idx, x.2.Ent.N] = o4 := ⟨_, rfl⟩
    have hOf := Of_box o4 (by rw [← ho4]; simp)
    have ho4l : o4.length = 4 := by rw [← ho4]; rfl
    have ho4m : o4.map kI = [kI seed, kI tick, kI idx, kI x.2.Ent.N] := by rw [← ho4]; rfl
    rw [ho4l, ho4m] at hOf
    refine gD_callW (rE (ofS o4) (ofG o4)) (some w.e :: some s.e :: some [kI idx] :: some [kI seed] :: some [kI tick] :: some [kNil, kNil, kNil] :: some (a.items.map GItem.e).flatten :: some [.sl 2 (w.Kinds.map GKind.e), slI w.Gens, .osl 6 3 0 w.Items.length] ::
      some (runC ⟨w.Kinds, s, a.N, a.G, idx⟩ (.sl 2 (a.comps.map GComp.e)) a.rs a.rg (.osl 10 5 0 a.cmds.length) (.osl 11 4 0 a.evs.length)) :: some [.ptr 8 0] :: some (a.cmds.map GCmd.e).flatten :: some (a.evs.map GEvent.e).flatten ::
      (D.map some ++ [some [kI x.2.Ent.N, kI x.2.Ent.Gen, .osl 12 2 0 x.2.Comps.length], some [kI seed, kI tick, kI idx, kI x.2.Ent.N]])) ?_
    simp [hn, hn1]
    refine ⟨.inl ⟨rfl, doD [D.length + 13] hOf (hren := by simp) (hlt := by simp) (hbox := by simp [hn1]) (h2 := by simp)⟩, ?_⟩
    obtain ⟨c, hc⟩ : ∃ c, rcOf w.Kinds s idx x.2 = c := ⟨_, rfl⟩
    have hcs : c.s = s := by rw [← hc]
    have hcks : c.ks = w.Kinds := by rw [← hc]
    have hSc : SysS c.ks c.s := by rw [hcs, hcks]; exact hS
    have hop : s.Ops.length ≤ 20 := hS.ol
    obtain ⟨y0, hy0⟩ : ∃ y0 : RS, (⟨x.2.Comps, ofS o4, ofG o4, a.cmds, a.evs⟩ : RS) = y0 := ⟨_, rfl⟩
    have hrow : rowR w.Kinds s idx seed tick a.cmds a.evs x.2 = s.Ops.foldl (doM c) y0 := by rw [← hy0, ← ho4, ← hc]; rfl
    have hI0 : RInv c y0 := by
      rw [← hy0]
      refine ⟨?_, fun k hk => ?_, ofS_in _, ofG_in _, ofG_odd _⟩
      · rw [hcks]; exact items_held hil.2.2.2 _ hx1
      · rw [hcs] at hk
        exact match_at hx2 hk
    obtain ⟨σ0, hσ0⟩ : ∃ σ0 : Boxes, some w.e :: some s.e :: some [kI idx] :: some [kI seed] :: some [kI tick] :: some [kNil, kNil, kNil] :: some (a.items.map GItem.e).flatten :: some [.sl 2 (w.Kinds.map GKind.e), slI w.Gens, .osl 6 3 0 w.Items.length] ::
      some (runC c (.osl 12 2 0 x.2.Comps.length) (ofS o4) (ofG o4) (.osl 10 5 0 a.cmds.length) (.osl 11 4 0 a.evs.length)) :: some [.ptr 8 0] :: some (a.cmds.map GCmd.e).flatten :: some (a.evs.map GEvent.e).flatten ::
      (D.map some ++ [some [kI x.2.Ent.N, kI x.2.Ent.Gen, .osl 12 2 0 x.2.Comps.length], some [kI seed, kI tick, kI idx, kI x.2.Ent.N]]) = σ0 := ⟨_, rfl⟩
    have hJ0 : RunJ c y0 8 12 10 11 σ0 := by
      rw [← hσ0, ← hy0]
      refine ⟨rfl, ?_, rfl, rfl, fun i hi => ?_, ?_⟩
      · rw [← hD]; rfl
      · rw [← hD]
        simp only [deepX, box]
        rw [show 12 + 1 + i = i + 13 by omega]
        simp only [List.map_cons, List.cons_append, List.getElem?_cons_succ]
        rw [List.getElem?_append_left (by simpa using hi)]
        simp [hi]
      · simp; exact List.nodup_range'
    have hk7 : box σ0 7 = some [.sl 2 (w.Kinds.map GKind.e), slI w.Gens, .osl 6 3 0 w.Items.length] := by rw [← hσ0]; rfl
    have hk6 : box σ0 6 = some (a.items.map GItem.e).flatten := by rw [← hσ0]; rfl
    have hk9 : box σ0 9 = some [.ptr 8 0] := by rw [← hσ0]; rfl
    refine awp_loop (fun z : Nat × RS × Boxes × Nat × Nat => ⟨97, [(5, .ptr 0 0), (6, .ptr 1 0), (7, .ptr 2 0), (8, .ptr 3 0), (9, .ptr 4 0), (10, .ptr 5 0), (16, .ptr 7 0), (17, .ptr 9 0), (49, .clo (.func 56) [.eptr [.sl 4 (rows.map rowE)]]), (18, kI x.1), (68, .sl 11 (s.Ops.map GOp.e)), (69, kI s.Ops.length), (70, kI z.1)], z.2.2.1, 12 + D.length⟩)
      (fun z => RunLoop c s a x.2.Comps.length D.length σ0 y0 z.1 z.2.1 z.2.2.1 z.2.2.2.1 z.2.2.2.2) (fun z => s.Ops.length - z.1) (0, y0, σ0, 10, 11) ?_ ?_ ?_
    · subst hσ0 hc
      exact Ent.refl _ |>.trans (ent_T [(5, .ptr 0 0), (6, .ptr 1 0), (7, .ptr 2 0), (8, .ptr 3 0), (9, .ptr 4 0), (10, .ptr 5 0), (16, .ptr 7 0), (17, .ptr 9 0), (49, .clo (.func 56) [.eptr [.sl 4 (rows.map rowE)]]), (18, kI x.1), (68, .sl 11 (s.Ops.map GOp.e)), (69, kI s.Ops.length), (70, kI 0)])
    · exact ⟨by simp, hJ0, hI0, by simp, by rw [← hy0]; simp, by rw [← hy0]; simp, by rw [← hy0], fun i cs _ h => h, .inl rfl, .inl rfl⟩
    · rintro ⟨j, y, σ, mb, eb⟩ hL
      simp only at hL
      obtain ⟨hj, hJ, hI, hfold, hcl, hel, hyl, hkeep, hmb, heb⟩ := hL
      refine awp_go ?_
      by_cases hlt : j < s.Ops.length
      · have h9 : box σ 9 = some [.ptr 8 0] := hkeep 9 _ (.inr rfl) hk9
        have h9' : ∀ e : Option (List PV), (σ ++ [e])[9]? = some (some [.ptr 8 0]) := fun e => by rw [List.getElem?_append_left (box_lt h9)]; exact box_get h9
        have h9'' : ∀ (e : Option (List PV)) h, (σ ++ [e])[9]'h = some [.ptr 8 0] := fun e h => (List.getElem?_eq_some_iff.1 (h9' e)).2
        simp [hlt, h9', h9'']
        refine run_do (c := c) (x := y) (rb := 8) (cb := 12) (mb := mb) (eb := eb) (p := s.Ops[j]) (hJ.mono _) (op_fine hSc hI (by rw [hcs]; exact hcks ▸ hS.ops _ (List.getElem_mem hlt))) hSc.fine ?_ ?_ ?_
        · omega
        · omega
        · intro τ mb' eb' hJ' hsame hlen hmb' heb'
          simp
          rw [wrap_id (by omega) (by omega)]
          have hopj : OpS c.ks c.s s.Ops[j] := by rw [hcs]; exact hcks ▸ hS.ops _ (List.getElem_mem hlt)
          have h1 := doM_cl c y s.Ops[j]
          have h2 := doM_len c y s.Ops[j]
          have hσl : 12 + D.length ≤ σ.length := by
            rcases Nat.eq_zero_or_pos y.comps.length with h0 | h0
            · have := box_lt hJ.h1; omega
            · have := box_lt (hJ.hv (y.comps.length - 1) (by omega)); omega
          simp only [List.length_append, List.length_cons, List.length_nil] at hmb' heb'
          refine ⟨j + 1, doM c y s.Ops[j], τ, ⟨mb', eb', ⟨by omega, hJ', doM_inv hSc hI hopj, ?_, by omega, by omega, by omega, fun i cs hi hb => ?_, by omega, by omega⟩⟩, by omega, ?_⟩
          · rw [← hfold, List.drop_eq_getElem_cons hlt, List.foldl_cons]
          · have hb2 := hkeep i cs hi hb
            rw [hsame i (by have := box_lt hb2; simp; omega) ?_]
            · rw [box_append, if_pos (box_lt hb2)]; exact hb2
            · simp only [runTh, List.mem_append, List.mem_cons, List.not_mem_nil, or_false, List.mem_range'_1, not_or]
              omega
          · exact ent_T [(5, .ptr 0 0), (6, .ptr 1 0), (7, .ptr 2 0), (8, .ptr 3 0), (9, .ptr 4 0), (10, .ptr 5 0), (16, .ptr 7 0), (17, .ptr 9 0), (49, .clo (.func 56) [.eptr [.sl 4 (rows.map rowE)]]), (18, kI x.1), (68, .sl 11 (s.Ops.map GOp.e)), (69, kI s.Ops.length), (70, kI (j + 1 : Nat))]
      · have hjl : j = s.Ops.length := by omega
        subst hjl
        rw [List.drop_length, List.foldl_nil] at hfold
        have h9 : box σ 9 = some [.ptr 8 0] := hkeep 9 _ (.inr rfl) hk9
        have h9' := box_get h9
        have h9'' : ∀ h, σ[9]'h = some [.ptr 8 0] := fun h => (List.getElem?_eq_some_iff.1 h9').2
        have h7 : box σ 7 = some [.sl 2 (w.Kinds.map GKind.e), slI w.Gens, .osl 6 3 0 w.Items.length] := hkeep 7 _ (.inl (by omega)) hk7
        have h7' := box_get h7
        have h7'' : ∀ h, σ[7]'h = some [.sl 2 (w.Kinds.map GKind.e), slI w.Gens, .osl 6 3 0 w.Items.length] := fun h => (List.getElem?_eq_some_iff.1 h7').2
        have h6 : box σ 6 = some (a.items.map GItem.e).flatten := hkeep 6 _ (.inl (by omega)) hk6
        have h6' := box_get h6
        have h8' := box_get hJ.h0
        simp
        refine awp_draw follows_mix [] [(0, [0]), (0, [0]), (0, [0]), (0, [0]), (0, [0]), (0, [0]), (0, [0]), (0, [0]), (0, [0]), (0, [0]), (1, [0])] 1 (by kernel_rfl) rfl ?_
        have hx1l : x.1 < w.Items.length := (List.getElem?_eq_some_iff.1 hx3).1
        have hB6 : (a.items.map GItem.e).flatten.length = a.items.length * 3 := flat_len GItem.e_len _
        obtain ⟨B, hBd⟩ : ∃ B, (a.items.map GItem.e).flatten = B := ⟨_, rfl⟩
        rw [hBd] at h6 h6' hB6
        have hq : x.1 * 3 + 2 + 1 ≤ B.length := by omega
        simp [h9', h9'', h7', h7'', h6', h8', hx1l, hq]
        refine ⟨_, Ent.refl _, ?_⟩
        have hyr : rowR w.Kinds s idx seed tick a.cmds a.evs x.2 = y := by rw [hrow, ← hfold]
        have hstep : stepR w.Kinds s idx seed tick a x = ⟨a.items.set x.1 ⟨(a.items.getD x.1 ⟨⟨0, 0⟩, []⟩).Ent, y.comps⟩, y.cmds, y.evs, x.2.Ent.N, x.2.Ent.Gen, y.comps, y.rs, y.rg⟩ := by unfold stepR; simp only [hyr]
        rw [hstep]
        have hcN : c.N = x.2.Ent.N ∧ c.G = x.2.Ent.Gen ∧ c.idx = idx := by rw [← hc]; exact ⟨rfl, rfl, rfl⟩
        have hrunc : ∀ cp cm ev, runC c cp y.rs y.rg cm ev = runC ⟨w.Kinds, s, x.2.Ent.N, x.2.Ent.Gen, idx⟩ cp y.rs y.rg cm ev := fun cp cm ev => by simp only [runC, hcs, hcks, hcN]
        have hset : B.take (x.1 * 3 + 2) ++ .osl 12 2 0 y.comps.length :: B.drop (x.1 * 3 + 2 + 1) = B.set (x.1 * 3 + 2) (.osl 12 2 0 y.comps.length) := by rw [List.set_eq_take_append_cons_drop, if_pos (by omega)]
        rw [hset, ← hBd]
        refine round_end w s idx seed tick (T := [(5, .ptr 0 0), (6, .ptr 1 0), (7, .ptr 2 0), (8, .ptr 3 0), (9, .ptr 4 0), (10, .ptr 5 0), (16, .ptr 7 0), (17, .ptr 9 0), (49, .clo (.func 56) [.eptr [.sl 4 (rows.map rowE)]])]) (a := a) (x1 := x.1) (e := x.2.Ent) (y := y) (c := c) hJ ?_ ?_ ?_ ?_ ?_ ?_ ?_ ?_ ?_ ?_ ?_ ?_ ?_ ?_ ?_
        · intro z hz
          simp only [List.mem_cons, List.not_mem_nil, or_false] at hz
          rcases hz with rfl | rfl | rfl | rfl | rfl | rfl | rfl | rfl | rfl <;> simp
        · intro σ'; simp
        · exact hkeep 0 _ (.inl (by omega)) (by rw [← hσ0]; rfl)
        · exact hkeep 1 _ (.inl (by omega)) (by rw [← hσ0]; rfl)
        · exact hkeep 2 _ (.inl (by omega)) (by rw [← hσ0]; rfl)
        · exact hkeep 3 _ (.inl (by omega)) (by rw [← hσ0]; rfl)
        · exact hkeep 4 _ (.inl (by omega)) (by rw [← hσ0]; rfl)
        · exact hkeep 5 _ (.inl (by omega)) (by rw [← hσ0]; rfl)
        · rw [hBd]; exact h6
        · exact h7
        · exact h9
        · omega
        · omega
        · omega
        · exact hrunc
  · simp only [List.length_map]
    rw [List.take_length]
    have hbd := runTo_len w.Kinds s idx seed tick w.Items rows
    generalize runTo w.Kinds s idx seed tick w.Items rows = a at hbd ⊢
    simp only [inBlockA, thenA]
    refine awp0_of (awp_go ?_)
    simp [runB]
    refine awp_draw follows_mix [] [(0, [0]), (0, [0, 1]), (0, [0, 1]), (0, [0, 1]), (0, [0, 1]), (0, [0, 1]), (0, [0, 1]), (0, [0, 1]), (0, [0, 1]), (1, [0]), (0, [1]), (0, [1]), (0, [1])] 1 (by kernel_rfl) rfl ?_
    simp
    have hch : chunks 3 (a.items.map GItem.e).flatten w.Items.length = a.items.map GItem.e := by rw [← hbd.1]; exact GItem.chk _
    refine finG_fz 6 (a.items.map GItem.e).flatten ?_
    simp [hbd.1, hch]
    refine finG_fz 10 (a.cmds.map GCmd.e).flatten ?_
    simp
    refine finG_fz 11 (a.evs.map GEvent.e).flatten ?_
    simp
    exact finGm [] (hres := by simp [GWorld.e])
end Go.Proofs.YtfojnhceiabbhaaGreat.Am
/- Package tourkeep3: older. -/
namespace Go.Proofs.YtfojnhceiabbhaaGreat.Am
open Go Go.RowKit

def oldS : GSystem := ⟨⟨#[111, 108, 100, 101, 114]⟩, [0], [], [], [0], [⟨1, ⟨0, 0⟩, ⟨true, 0, ⟨0, 0⟩⟩, ⟨false, 1, ⟨0, 0⟩⟩⟩, ⟨12, ⟨0, 0⟩, ⟨false, 1, ⟨0, 0⟩⟩, ⟨true, 0, ⟨0, 0⟩⟩⟩], []⟩
set_option maxRecDepth 20000 in
theorem older_fn : Fn Tryz.prog 20 [] (.agg oldS.e) := by
  refine fn_go Tryz.func20 rfl ?_
  simp [Tryz.ntmps20]
  refine fin_ent (ent_cell 0 2 (tell_nil 1)) (fin_ent (ent_cell 0 3 (tell_nil 1)) (fin_ent (ent_cell 0 6 (tell_nil 2)) (fin_fz 2 [kI 0] (fin_fz 3 [kI 0] (fin_fz 4 [kI 1, kI 0, kI 0, kB true, kI 0, kI 0, kI 0, kB false, kI 1, kI 0, kI 0, kI 12, kI 0, kI 0, kB false, kI 1, kI 0, kI 0, kB true, kI 0, kI 0, kI 0] ?_)))))
  simp
  exact finm (h := by simp [oldS, GSystem.e, GOp.e, slI_def, chunks, List.range, List.range.loop])
theorem oldF : isFieldP baseW.Kinds ⟨0, 0⟩ := ⟨by decide, by decide, by decide, by decide⟩
theorem oldS_ok : SysS baseW.Kinds oldS := by
  refine ⟨by kernel_rfl, by kernel_rfl, by decide, ⟨by decide, by decide⟩, ⟨by decide, by decide⟩, ⟨by decide, by decide⟩, ⟨by decide, by decide⟩, by decide, fun x hx => ?_, by kernel_rfl, by decide, by decide, fun o ho => ?_⟩
  · simpa [oldS] using hx
  · simp only [oldS, List.mem_cons, List.not_mem_nil, or_false] at ho
    rcases ho with rfl | rfl
    · refine ⟨by decide, ⟨fun _ => ⟨oldF, rfl, by decide⟩, fun h => by simp at h⟩, ⟨fun h => by simp at h, fun _ => by decide⟩, fun h => absurd (by decide) h, fun h => by simp at h, fun h => by simp at h, fun _ => ⟨oldF, by decide⟩⟩
    · refine ⟨by decide, ⟨fun h => by simp at h, fun _ => by decide⟩, ⟨fun _ => ⟨oldF, rfl, by decide⟩, fun h => by simp at h⟩, fun h => absurd (by decide) h, fun _ _ _ => rfl, fun h => by simp at h, fun h => by simp at h⟩
theorem old_run : (runTo baseW.Kinds oldS 2 0 0 baseW.Items (rowsM baseW [0] [])).evs = [⟨2, ⟨0, 0⟩, 10⟩] ∧ (runTo baseW.Kinds oldS 2 0 0 baseW.Items (rowsM baseW [0] [])).items.length = 1 := by
  have hr : rowsM baseW [0] [] = [(0, ⟨⟨0, 0⟩, [⟨0, [9]⟩]⟩)] := rfl
  have hw : IntKind.i64.wrap 10 = 10 := by decide
  have hn : nearM ⟨⟨#[120]⟩, 8, 0⟩ 10 = 10 := by decide
  rw [hr]
  refine ⟨?_, by simp [runTo, stepR, baseW]⟩
  simp [runTo, stepR, rowR, oldS, doM, argV, valsK, atK, setK, valueM, fieldR, kindOf, baseW, hw, hn]
end Go.Proofs.YtfojnhceiabbhaaGreat.Am
/- Package tourkeep3: aged, made. -/
namespace Go.Proofs.YtfojnhceiabbhaaGreat.Am
open Go Go.RowKit

set_option maxRecDepth 20000 in
theorem aged_fn : Fn Tryz.prog 5 [] (kB true) := by
  obtain ⟨h1, h2⟩ := old_run
  have hR := Run_fn baseW oldS 2 0 0 oldS_ok (by kernel_rfl) (SCheck_ok _ _ oldS_ok)
  have e1 : rowsM baseW oldS.With oldS.Without = rowsM baseW [0] [] := rfl
  rw [e1, h1] at hR
  obtain ⟨a, ha⟩ : ∃ a, runTo baseW.Kinds oldS 2 0 0 baseW.Items (rowsM baseW [0] []) = a := ⟨_, rfl⟩
  rw [ha] at hR h2
  refine fn_go Tryz.func5 rfl ?_
  simp [Tryz.ntmps5]
  refine cal base_fn ?_
  simp
  refine cal older_fn ?_
  simp
  refine cal hR ?_
  simp [GWorld.e]
  refine calS (EqualE_fn [⟨2, ⟨0, 0⟩, 10⟩] [⟨2, ⟨0, 0⟩, 10⟩] (by simp)) ?_ (hren := by simp [GEvent.e, chunks, List.range, List.range.loop])
  simp [h2]
  exact finm

set_option maxRecDepth 20000 in
theorem MSystem_fn (ks : List GKind) (l : List Int) (hk : OkKs ks) (hk0 : 0 < ks.length) : Fn Tryz.prog 21 [.sl 2 (ks.map GKind.e), slI l] (.agg (sysM ks l 0).1.e) := by
  refine fn_go Tryz.func21 rfl ?_
  simp [Tryz.ntmps21]
  refine calD [1] (system_fn ks l 0 hk hk0 (by omega)) ?_
  simp
  exact finm

theorem worldM_ks (l : List Int) : OkKs (worldM l).Kinds ∧ 0 < (worldM l).Kinds.length ∧ GoodKs (worldM l).Kinds := by
  have := kindsM_good l
  exact ⟨good_ok this.1, this.2, this.1⟩

set_option maxRecDepth 20000 in
theorem made_fn (l m : List Int) : Fn Tryz.prog 6 [slI l, slI m] (.tup [.agg (worldM l).e, .agg (sysM (worldM l).Kinds m 0).1.e]) := by
  obtain ⟨h1, h2, _⟩ := worldM_ks l
  refine fn_go Tryz.func6 rfl ?_
  simp [Tryz.ntmps6]
  refine cal (World_fn l) ?_
  simp
  refine awp_draw follows_mix [] [(0, [0]), (0, [0]), (0, [0]), (0, [0]), (2, [0]), (1, [0]), (1, [1])] 2 (by kernel_rfl) rfl ?_
  simp
  refine gD_call (.agg (sysM (worldM l).Kinds m 0).1.e) ?_
  simp
  refine ⟨calO (MSystem_fn (worldM l).Kinds m h1 h2), ?_⟩
  exact finm
end Go.Proofs.YtfojnhceiabbhaaGreat.Am
/- The systems that tourmake makes are valid. -/
namespace Go.Proofs.YtfojnhceiabbhaaGreat.Am
open Go Go.RowKit

/-- The lists of kinds while they are made. -/
structure SetsP (i : Nat) (s : Sets) : Prop where
  w : s.w.Pairwise (· < ·)
  wo : s.wo.Pairwise (· < ·)
  r : s.r.Pairwise (· < ·)
  wr : s.wr.Pairwise (· < ·)
  cl : ∀ x ∈ s.w, x ∉ s.wo
  rw : ∀ x, x ∈ s.r ∨ x ∈ s.wr → x ∈ s.w
  lt : SetsOk i s
theorem snoc_pw {l : List Int} {i : Nat} (h : l.Pairwise (· < ·)) (h2 : ∀ x ∈ l, 0 ≤ x ∧ x < (i : Int)) : (l ++ [(i : Int)]).Pairwise (· < ·) :=
  List.pairwise_append.2 ⟨h, by simp, fun a ha b hb => by simp at hb; have := h2 a ha; omega⟩
theorem setStep_p {i : Nat} {s : Sets} (h : SetsP i s) : SetsP (i + 1) (setStep i s) := by
  have hok := setStep_ok h.lt
  obtain ⟨h1, h2, h3, h4, h5, h6, h7⟩ := h
  have hni : ∀ l : List Int, (∀ x ∈ l, 0 ≤ x ∧ x < (i : Int)) → (i : Int) ∉ l := fun l hl hx => by have := hl _ hx; omega
  unfold setStep at hok ⊢
  split
  · rename_i h0
    simp only [h0, if_true] at hok
    refine ⟨snoc_pw h1 h7.w, h2, snoc_pw h3 h7.r, h4, fun x hx => ?_, fun x hx => ?_, hok⟩
    · rcases List.mem_append.1 hx with hx | hx
      · exact h5 x hx
      · simp at hx; subst hx; exact hni _ h7.wo
    · rcases hx with hx | hx
      · rcases List.mem_append.1 hx with hx | hx
        · exact List.mem_append_left _ (h6 x (.inl hx))
        · exact List.mem_append_right _ hx
      · exact List.mem_append_left _ (h6 x (.inr hx))
  · rename_i h0
    rw [if_neg h0] at hok
    split
    · rename_i h0'
      rw [if_pos h0'] at hok
      refine ⟨snoc_pw h1 h7.w, h2, h3, snoc_pw h4 h7.wr, fun x hx => ?_, fun x hx => ?_, hok⟩
      · rcases List.mem_append.1 hx with hx | hx
        · exact h5 x hx
        · simp at hx; subst hx; exact hni _ h7.wo
      · rcases hx with hx | hx
        · exact List.mem_append_left _ (h6 x (.inl hx))
        · rcases List.mem_append.1 hx with hx | hx
          · exact List.mem_append_left _ (h6 x (.inr hx))
          · exact List.mem_append_right _ hx
    · rename_i h0'
      rw [if_neg h0'] at hok
      split
      · rename_i h1'
        rw [if_pos h1'] at hok
        refine ⟨h1, snoc_pw h2 h7.wo, h3, h4, fun x hx hx2 => ?_, h6, hok⟩
        rcases List.mem_append.1 hx2 with hx2 | hx2
        · exact h5 x hx hx2
        · simp at hx2; subst hx2; exact hni _ h7.w hx
      · rename_i h1'
        rw [if_neg h1'] at hok
        exact ⟨h1, h2, h3, h4, h5, h6, hok⟩
theorem setsM_p : ∀ (n i : Nat) (s : Sets), SetsP i s → SetsP (i + n) (setsM n i s)
  | 0, _, _, h => h
  | n + 1, i, s, h => by
    have := setsM_p n (i + 1) _ (setStep_p h)
    rwa [show i + 1 + n = i + (n + 1) by omega] at this
theorem allSets_p (ks : List GKind) (l : List Int) : (allSets ks l).w.Pairwise (· < ·) ∧ (allSets ks l).wo.Pairwise (· < ·) ∧ (allSets ks l).r.Pairwise (· < ·) ∧ (allSets ks l).wr.Pairwise (· < ·) ∧ (∀ x ∈ (allSets ks l).w, x ∉ (allSets ks l).wo) ∧ (∀ x, x ∈ (allSets ks l).r ∨ x ∈ (allSets ks l).wr → x ∈ (allSets ks l).w) := by
  obtain ⟨h1, h2, h3, h4, h5, h6, h7⟩ := setsM_p ks.length 0 ⟨[], [], [], [], l⟩ ⟨by simp, by simp, by simp, by simp, by simp, by simp, ⟨by simp, by simp, by simp, by simp, by simp, by simp⟩⟩
  unfold allSets fixSets
  split
  · rename_i hw
    refine ⟨by simp, h2.filter _, h3, by simp, fun x hx hx2 => ?_, fun x hx => ?_⟩
    · simp at hx; subst hx
      have := (List.mem_filter.1 hx2).2
      simp at this
    · rcases hx with hx | hx
      · have := h6 x (.inl hx)
        rw [hw] at this; simp at this
      · exact hx
  · exact ⟨h1, h2, h3, h4, h5, h6⟩

theorem flds_eq {ks : List GKind} {i : Int} (h1 : 0 ≤ i) (h2 : i < ks.length) : flds ks i = ((kindOf ks i).Fields.length : Int) := by
  unfold flds kindOf
  rfl
theorem good_flds {ks : List GKind} (hk : GoodKs ks) {i : Int} (h1 : 0 ≤ i) (h2 : i < ks.length) : 0 < flds ks i := by
  obtain ⟨j, rfl⟩ := Int.eq_ofNat_of_zero_le h1
  have hj : j < ks.length := by omega
  have := (hk.2 j _ (List.getElem?_eq_getElem hj)).2.2
  unfold flds
  simp [List.getD, hj]; omega
theorem pick_field {ks : List GKind} (hk : GoodKs ks) {i : Int} (h1 : 0 ≤ i) (h2 : i < ks.length) (l : List Int) : isFieldP ks ⟨i, nextV l (flds ks i)⟩ := by
  have h3 := good_flds hk h1 h2
  have h4 := nextV_lt (l := l) h3
  exact ⟨h1, h2, h4.1, by rw [← flds_eq h1 h2]; exact h4.2⟩
theorem getD_mem {s : List Int} {n : Int} (h0 : 0 ≤ n) (h : n < s.length) : s.getD n.toNat 0 ∈ s := by
  have : n.toNat < s.length := by omega
  simp [List.getD, this]
theorem argM_ok {ks : List GKind} (hk : GoodKs ks) {r wr : List Int} (h0 : 0 < (r ++ wr).length) (hin : InKs ks (r ++ wr)) (nm : Str) (w wo : List Int) (ops : List GOp) (sp : List GComp) (l : List Int) : ArgS ks ⟨nm, w, wo, r, wr, ops, sp⟩ (argM ks (r ++ wr) l).1 := by
  unfold argM
  split
  · have := nextV_lt (l := nextL l 2) (n := 20) (by omega)
    exact ⟨fun h => by simp at h, fun _ => ⟨by simp only; omega, by simp only; omega, rfl⟩⟩
  · have hv := nextV_lt (l := nextL l 2) (n := ((r ++ wr).length : Int)) (by omega)
    have hm := getD_mem hv.1 hv.2
    have hb := hin _ hm
    refine ⟨fun _ => ⟨pick_field hk hb.1 hb.2 _, rfl, ?_⟩, fun h => by simp at h⟩
    exact List.mem_append.1 hm
theorem arg0_ok (ks : List GKind) (s : GSystem) : ArgS ks s gArg0 := ⟨fun h => by simp [gArg0] at h, fun _ => by simp [gArg0]⟩
theorem opB_ok {ks : List GKind} (hk : GoodKs ks) {r wr : List Int} (h0 : 0 < (r ++ wr).length) (hin : InKs ks (r ++ wr)) (nm : Str) (w wo : List Int) (ops : List GOp) (sp : List GComp) (d : Int) (l : List Int) : ArgS ks ⟨nm, w, wo, r, wr, ops, sp⟩ (opB ks (r ++ wr) d l).1 ∧
    (¬ ((1 ≤ d ∧ d ≤ 6) ∨ d = 12) → (opB ks (r ++ wr) d l).1 = gArg0) := by
  unfold opB
  split
  · rename_i h
    exact ⟨argM_ok hk h0 hin nm w wo ops sp l, fun hn => absurd (by omega) hn⟩
  · exact ⟨arg0_ok _ _, fun _ => rfl⟩

/-- The operations while they are made. -/
structure OpsP (ks : List GKind) (r wr : List Int) (n : Nat) (s : OpsS) : Prop where
  ops : ∀ o ∈ s.ops, OpS ks ⟨ByteArray.empty, [], [], r, wr, [], []⟩ o
  len : s.ops.length ≤ n
  sp : heldGo ks (-1) s.spawn = true
theorem opStep_p {ks : List GKind} (hk : GoodKs ks) (hk0 : 0 < ks.length) {r wr : List Int} (h0 : 0 < (r ++ wr).length) (hin : InKs ks (r ++ wr)) {n : Nat} {s : OpsS} (h : OpsP ks r wr n s) : OpsP ks r wr (n + 1) (opStep ks (r ++ wr) wr s) := by
  obtain ⟨h1, h2, h3⟩ := h
  have hd := nextV_lt (l := s.l) (n := 13) (by omega)
  obtain ⟨d, hdd⟩ : ∃ d, nextV s.l 13 = d := ⟨_, rfl⟩
  have hA := argM_ok hk h0 hin ByteArray.empty [] [] [] [] (nextL s.l 13)
  obtain ⟨a, ha⟩ : ∃ a, argM ks (r ++ wr) (nextL s.l 13) = a := ⟨_, rfl⟩
  have hB := opB_ok hk h0 hin ByteArray.empty [] [] [] [] d a.2
  obtain ⟨b, hb⟩ : ∃ b, opB ks (r ++ wr) d a.2 = b := ⟨_, rfl⟩
  have hC := argM_ok hk h0 hin ByteArray.empty [] [] [] [] b.2
  rw [hdd] at hd
  rw [ha] at hA
  rw [hb] at hB
  have snoc : ∀ o, OpS ks ⟨ByteArray.empty, [], [], r, wr, [], []⟩ o → ∀ x ∈ s.ops ++ [o], OpS ks ⟨ByteArray.empty, [], [], r, wr, [], []⟩ x := fun o ho x hx => by
    rcases List.mem_append.1 hx with hx | hx
    · exact h1 x hx
    · rw [List.mem_singleton.1 hx]; exact ho
  have hlen : ∀ o : GOp, (s.ops ++ [o]).length ≤ n + 1 := fun o => by simp; omega
  unfold opStep
  simp only [hdd, ha, hb]
  split
  · exact ⟨snoc _ ⟨by simp only; omega, hA, hC, fun h => absurd (.inr rfl) h, fun _ _ _ => rfl, fun h => by simp only at h; omega, fun h => by simp only at h; omega⟩, hlen _, h3⟩
  · rename_i hx1
    split
    · rename_i hx2
      have hwr : 0 < wr.length := by
        rcases Nat.eq_zero_or_pos wr.length with h | h
        · exact absurd ⟨hx2, List.length_eq_zero_iff.1 h⟩ hx1
        · exact h
      have hv := nextV_lt (l := b.2) (n := (wr.length : Int)) (by omega)
      have hm := getD_mem hv.1 hv.2
      have hbd := hin _ (List.mem_append_right _ hm)
      exact ⟨snoc _ ⟨by simp only; omega, hA, hB.1, hB.2, fun h => by simp only at h; omega, fun h => by simp only at h; omega, fun _ => ⟨pick_field hk hbd.1 hbd.2 _, hm⟩⟩, hlen _, h3⟩
    · rename_i hx2
      split
      · rename_i hx3
        have hv := nextV_lt (l := b.2) (n := (ks.length : Int)) (by omega)
        exact ⟨snoc _ ⟨by simp only; omega, hA, hB.1, hB.2, fun h1 h2 h3 => by simp only at h2 h3; omega, fun _ => ⟨rfl, hv.1, hv.2⟩, fun h => absurd h hx2⟩, hlen _, h3⟩
      · rename_i hx3
        split
        · exact ⟨snoc _ ⟨by simp only; omega, hA, hB.1, hB.2, fun _ _ _ => rfl, fun h => absurd h hx3, fun h => absurd h hx2⟩, hlen _, compsM_held (checkE_good hk) _⟩
        · exact ⟨snoc _ ⟨by simp only; omega, hA, hB.1, hB.2, fun _ _ _ => rfl, fun h => absurd h hx3, fun h => absurd h hx2⟩, hlen _, h3⟩
theorem opsM_p {ks : List GKind} (hk : GoodKs ks) (hk0 : 0 < ks.length) {r wr : List Int} (h0 : 0 < (r ++ wr).length) (hin : InKs ks (r ++ wr)) : ∀ (m n : Nat) (s : OpsS), OpsP ks r wr n s → OpsP ks r wr (n + m) (opsM ks (r ++ wr) wr m s)
  | 0, _, _, h => h
  | m + 1, n, s, h => by
    have := opsM_p hk hk0 h0 hin m (n + 1) _ (opStep_p hk hk0 h0 hin h)
    rwa [show n + 1 + m = n + (m + 1) by omega] at this
end Go.Proofs.YtfojnhceiabbhaaGreat.Am
/- Fitting components that are valid: no error. -/
namespace Go.Proofs.YtfojnhceiabbhaaGreat.Am
open Go Go.RowKit

theorem fitGo_valid {ks : List GKind} (hc : checkE ks = 0) : ∀ (r pre : List GComp), (pre ++ r).Pairwise (fun a b => a.Kind ≠ b.Kind) →
    (∀ c ∈ pre ++ r, 0 ≤ c.Kind ∧ c.Kind < ks.length ∧ holdsB (ks.getD c.Kind.toNat k0) c.Vals = true) → fitGo ks pre r pre = (insSort cK (pre ++ r), 0)
  | [], pre, _, _ => by rw [fitGo, List.append_nil]
  | c :: r, pre, hd, hv => by
    obtain ⟨h1, h2, h3⟩ := hv c (by simp)
    obtain ⟨g1, g2, g3⟩ := holds_iff.1 h3
    have hE : fitE (ks.getD c.Kind.toNat k0) c.Vals = 0 := by unfold fitE; rw [if_neg (fun h => h g1), if_neg (fun h => h g2)]
    have hV : fitV (ks.getD c.Kind.toNat k0) c.Vals = c.Vals := by unfold fitV; rw [if_neg (fun h => h g1), if_neg (fun h => h g2)]; exact g3
    have hn : ¬ pre.any (fun x => decide (x.Kind = c.Kind)) = true := by
      intro h
      obtain ⟨x, hx, he⟩ := List.any_eq_true.1 h
      have := (List.pairwise_append.1 hd).2.2 x hx c (List.mem_cons_self ..)
      exact this (by simpa using he)
    rw [fitGo, if_neg (by omega), if_neg hn, if_neg (fun h => h hE), hV]
    have e : pre ++ c :: r = (pre ++ [c]) ++ r := by simp
    rw [e] at hd hv ⊢
    exact fitGo_valid hc r (pre ++ [c]) hd hv
theorem fit_valid {ks : List GKind} (hc : checkE ks = 0) {L : List GComp} (hd : L.Pairwise (fun a b => a.Kind ≠ b.Kind)) (hv : ∀ c ∈ L, 0 ≤ c.Kind ∧ c.Kind < ks.length ∧ holdsB (ks.getD c.Kind.toNat k0) c.Vals = true) : fitC ks L = (insSort cK L, 0) := by
  unfold fitC
  rw [if_neg (by simp [hc])]
  exact fitGo_valid hc L [] hd hv
end Go.Proofs.YtfojnhceiabbhaaGreat.Am
/- The systems that tourmake makes are valid: all of it. -/
namespace Go.Proofs.YtfojnhceiabbhaaGreat.Am
open Go Go.RowKit

theorem held_pw {ks : List GKind} : ∀ {l : List GComp} {last : Int}, heldGo ks last l = true → l.Pairwise (fun a b => a.Kind < b.Kind)
  | [], _, _ => List.Pairwise.nil
  | c :: l, last, h => by
    obtain ⟨h1, h2, h3, h4⟩ := held_cons.1 h
    exact List.pairwise_cons.2 ⟨fun x hx => (held_mem h4 x hx).1, held_pw h4⟩
theorem fit_held {ks : List GKind} (hc : checkE ks = 0) {L : List GComp} (h : heldGo ks (-1) L = true) : (fitC ks L).2 = 0 := by
  rw [fit_valid hc ((held_pw h).imp fun hab => by omega) (fun c hcm => by have := held_mem h c hcm; exact ⟨by omega, this.2⟩)]
theorem OpS.mono {ks : List GKind} {s s' : GSystem} (h1 : s.Reads = s'.Reads) (h2 : s.Writes = s'.Writes) {o : GOp} (h : OpS ks s o) : OpS ks s' o := by
  obtain ⟨a, b, c, d, e, f, g⟩ := h
  exact ⟨a, ⟨fun h => by have := b.t h; rwa [h1, h2] at this, b.f⟩, ⟨fun h => by have := c.t h; rwa [h1, h2] at this, c.f⟩, d, e, f, fun h => by have := g h; rwa [h2] at this⟩

theorem sysM_ok {ks : List GKind} (hk : GoodKs ks) (hk0 : 0 < ks.length) (l : List Int) : SysS ks (sysM ks l 0).1 := by
  obtain ⟨a1, a2, a3, a4, a5, a6, a7, a8, a9, a10⟩ := allSets_ok (ks := ks) (l := l) hk0
  obtain ⟨p1, p2, p3, p4, p5, p6⟩ := allSets_p ks l
  have hc := checkE_good hk
  have hn := nextV_lt (l := (allSets ks l).l) (n := 6) (by omega)
  have hO := opsM_p hk hk0 a5 a10 (nextV (allSets ks l).l 6).toNat 0 ⟨[], [], nextL (allSets ks l).l 6⟩ ⟨by simp, by simp, rfl⟩
  have hkl := hk.1
  have hsl := held_lenle hc hO.sp
  have h12 : (opsM ks ((allSets ks l).r ++ (allSets ks l).wr) (allSets ks l).wr (nextV (allSets ks l).l 6).toNat ⟨[], [], nextL (allSets ks l).l 6⟩).spawn.length ≤ 12 := by
    have := held_len (by omega) hO.sp
    omega
  have hf8 := (checkE_le hc).2
  refine ⟨hc, by kernel_rfl, ?_, ⟨a1, p1⟩, ⟨a2, p2⟩, ⟨a3, p3⟩, ⟨a4, p4⟩, p5, p6, fit_held hc hO.sp, h12, fun d hd => ?_, fun o ho => OpS.mono (s' := (sysM ks l 0).1) (by rfl) (by rfl) (hO.ops o ho)⟩
  · have := hO.len
    simp only [sysM]; omega
  · have h1 := held_mem hO.sp d hd
    obtain ⟨g1, g2, g3⟩ := holds_iff.1 h1.2.2
    have hlt : d.Kind.toNat < ks.length := by omega
    have := hf8 _ (List.getElem_mem hlt)
    simp only [List.getD, List.getElem?_eq_getElem hlt, Option.getD_some] at g2
    omega
end Go.Proofs.YtfojnhceiabbhaaGreat.Am
/- What a run keeps: the plain law. -/
namespace Go.Proofs.YtfojnhceiabbhaaGreat.Am
open Go Go.RowKit

/-- The same components but for the values of some kinds. -/
structure KeepC (wr : List Int) (l l' : List GComp) : Prop where
  len : l'.length = l.length
  k : ∀ j (h : j < l.length), (l'[j]'(by omega)).Kind = (l[j]).Kind ∧ ((l[j]).Kind ∉ wr → (l'[j]'(by omega)).Vals = (l[j]).Vals)
theorem KeepC.refl (wr : List Int) (l : List GComp) : KeepC wr l l := ⟨rfl, fun j h => ⟨rfl, fun _ => rfl⟩⟩
theorem KeepC.trans {wr : List Int} {a b c : List GComp} (h1 : KeepC wr a b) (h2 : KeepC wr b c) : KeepC wr a c := by
  obtain ⟨l1, k1⟩ := h1
  obtain ⟨l2, k2⟩ := h2
  refine ⟨by omega, fun j h => ?_⟩
  obtain ⟨p1, p2⟩ := k1 j h
  obtain ⟨q1, q2⟩ := k2 j (by omega)
  exact ⟨by rw [q1, p1], fun hn => by rw [q2 (by rw [p1]; exact hn), p2 hn]⟩
theorem keep_setK {wr : List Int} (l : List GComp) (k : Int) (f : Nat) (v : Int) (hk : k ∈ wr) (hat : atK l k < l.length) : KeepC wr l (setK l (atK l k) f v) := by
  obtain ⟨h1, _⟩ := atK_spec hat
  refine ⟨setK_len _ _ _ _, fun j h => ?_⟩
  unfold setK
  by_cases hj : atK l k = j
  · subst hj
    simp only [List.getElem_set_self, List.getD, List.getElem?_eq_getElem h, Option.getD_some]
    exact ⟨trivial, fun hn => absurd (by rw [h1]; exact hk) hn⟩
  · simp only [List.getElem_set_ne hj]
    exact ⟨trivial, fun _ => trivial⟩
theorem keep_doM {c : RC} {x : RS} (hS : SysS c.ks c.s) (hI : RInv c x) {o : GOp} (ho : OpS c.ks c.s o) : KeepC (RC.s c).Writes x.comps (doM c x o).comps := by
  unfold doM
  split
  · rename_i hd
    obtain ⟨_, h5⟩ := ho.set hd.2
    exact keep_setK _ _ _ _ h5 (hI.wi _ (hS.rw _ (.inr h5)))
  · repeat' split
    all_goals exact KeepC.refl _ _
theorem keep_fold {c : RC} (hS : SysS c.ks c.s) : ∀ (l : List GOp) (x : RS), RInv c x → (∀ o ∈ l, OpS c.ks c.s o) → KeepC (RC.s c).Writes x.comps (l.foldl (doM c) x).comps ∧ RInv c (l.foldl (doM c) x)
  | [], x, hI, _ => ⟨KeepC.refl _ _, hI⟩
  | o :: l, x, hI, h => by
    have ho := h o (by simp)
    obtain ⟨h1, h2⟩ := keep_fold hS l (doM c x o) (doM_inv hS hI ho) (fun p hp => h p (by simp [hp]))
    exact ⟨(keep_doM hS hI ho).trans h1, h2⟩

/-- The same entities, their components kept. -/
structure KeepI (ks : List GKind) (wr : List Int) (l l' : List GItem) : Prop where
  len : l'.length = l.length
  k : ∀ j (h : j < l.length), (l'[j]'(by omega)).Ent = (l[j]).Ent ∧ KeepC wr (l[j]).Comps (l'[j]'(by omega)).Comps ∧ heldGo ks (-1) (l'[j]'(by omega)).Comps = true
theorem row_inv {w : GWorld} {s : GSystem} (hS : SysS w.Kinds s) (hw : checkW w = 0) (idx seed tick : Int) {it : GItem} (hi : it ∈ w.Items) (hm : matchI it s.With s.Without = true) (cmds : List GCmd) (evs : List GEvent) :
    RInv (rcOf w.Kinds s idx it) ⟨it.Comps, ofS [seed, tick, idx, it.Ent.N], ofG [seed, tick, idx, it.Ent.N], cmds, evs⟩ :=
  ⟨items_held (checkW_iff.1 hw).2.2.2.2 _ hi, fun k hk => match_at hm hk, ofS_in _, ofG_in _, ofG_odd _⟩
theorem run_keeps {w : GWorld} {s : GSystem} (hS : SysS w.Kinds s) (hw : checkW w = 0) (idx seed tick : Int) : KeepI w.Kinds s.Writes w.Items (runTo w.Kinds s idx seed tick w.Items (rowsM w s.With s.Without)).items := by
  have hrows := rowsM_spec w s.With s.Without
  generalize rowsM w s.With s.Without = rows at hrows ⊢
  have key : ∀ (rows : List GRow) (a : RF), (∀ x ∈ rows, x.2 ∈ w.Items ∧ matchI x.2 s.With s.Without = true ∧ w.Items[x.1]? = some x.2) → KeepI w.Kinds s.Writes w.Items a.items →
      KeepI w.Kinds s.Writes w.Items (rows.foldl (stepR w.Kinds s idx seed tick) a).items := fun rows => by
    induction rows with
    | nil => intro a _ h; exact h
    | cons r rows ih =>
      intro a h hk
      obtain ⟨h1, h2, h3⟩ := h r (by simp)
      refine ih _ (fun x hx => h x (by simp [hx])) ?_
      obtain ⟨hl, hki⟩ := hk
      obtain ⟨hrl, hre⟩ := List.getElem?_eq_some_iff.1 h3
      have hf := keep_fold (c := rcOf w.Kinds s idx r.2) hS s.Ops _ (row_inv hS hw idx seed tick h1 h2 a.cmds a.evs) hS.ops
      refine ⟨by simp [stepR, hl], fun j hj => ?_⟩
      simp only [stepR]
      by_cases hjr : r.1 = j
      · subst hjr
        simp only [List.getElem_set_self]
        have hgd : a.items.getD r.1 ⟨⟨0, 0⟩, []⟩ = a.items[r.1]'(by omega) := by simp [List.getD, show r.1 < a.items.length by omega]
        rw [hgd]
        refine ⟨(hki r.1 hj).1, ?_, hf.2.held⟩
        rw [hre]
        exact hf.1
      · simp only [List.getElem_set_ne hjr]
        exact hki j hj
  exact key rows _ hrows ⟨rfl, fun j h => ⟨rfl, KeepC.refl _ _, items_held (checkW_iff.1 hw).2.2.2.2 _ (List.getElem_mem h)⟩⟩

theorem items_same {ks : List GKind} {gs : List Int} : ∀ {l l' : List GItem} {last : Int}, itemsB ks gs last l = true → (h : l'.length = l.length) → (∀ j (hj : j < l.length), (l'[j]'(by omega)).Ent = (l[j]).Ent ∧ heldGo ks (-1) (l'[j]'(by omega)).Comps = true) → itemsB ks gs last l' = true
  | [], [], _, _, _, _ => rfl
  | x :: l, y :: l', last, h, hl, hk => by
    obtain ⟨g1, g2, g3, g4, g5, g6⟩ := items_cons.1 h
    obtain ⟨e, hh⟩ := hk 0 (by simp)
    simp only [List.getElem_cons_zero] at e hh
    refine items_cons.2 ⟨by rw [e]; exact g1, by rw [e]; exact g2, by rw [e]; exact g3, by rw [e]; exact g4, hh, ?_⟩
    rw [e]
    exact items_same g6 (by simpa using hl) fun j hj => by have := hk (j + 1) (by simpa using hj); simpa using this
  | [], _ :: _, _, _, hl, _ => by simp at hl
  | _ :: _, [], _, _, hl, _ => by simp at hl
theorem run_valid {w : GWorld} {s : GSystem} (hS : SysS w.Kinds s) (hw : checkW w = 0) (idx seed tick : Int) : checkW ⟨w.Kinds, w.Gens, (runTo w.Kinds s idx seed tick w.Items (rowsM w s.With s.Without)).items⟩ = 0 := by
  obtain ⟨hl, hk⟩ := run_keeps hS hw idx seed tick
  obtain ⟨a, b, c, d, e⟩ := checkW_iff.1 hw
  refine checkW_iff.2 ⟨a, b, by simp only; omega, d, items_same e hl fun j hj => ⟨(hk j hj).1, (hk j hj).2.2⟩⟩
end Go.Proofs.YtfojnhceiabbhaaGreat.Am
/- What a run does with one entity: the plain law. -/
namespace Go.Proofs.YtfojnhceiabbhaaGreat.Am
open Go Go.RowKit

/-- What is recorded is put behind what there is. -/
def RS.pre (x : RS) (A : List GCmd) (B : List GEvent) : RS := { x with cmds := A ++ x.cmds, evs := B ++ x.evs }
theorem doM_pre (c : RC) (x : RS) (A : List GCmd) (B : List GEvent) (o : GOp) : doM c (x.pre A B) o = (doM c x o).pre A B := by
  unfold doM RS.pre
  simp only
  repeat' split
  all_goals simp
theorem fold_pre (c : RC) (A : List GCmd) (B : List GEvent) : ∀ (l : List GOp) (x : RS), l.foldl (doM c) (x.pre A B) = (l.foldl (doM c) x).pre A B
  | [], _ => rfl
  | o :: l, x => by rw [List.foldl_cons, doM_pre, fold_pre c A B l]; rfl
/-- What a round does by itself. -/
noncomputable def rowZ (ks : List GKind) (s : GSystem) (idx seed tick : Int) (it : GItem) : RS := rowR ks s idx seed tick [] [] it
theorem rowR_pre (ks : List GKind) (s : GSystem) (idx seed tick : Int) (A : List GCmd) (B : List GEvent) (it : GItem) : rowR ks s idx seed tick A B it = (rowZ ks s idx seed tick it).pre A B := by
  unfold rowZ rowR
  rw [← fold_pre]
  simp [RS.pre]
theorem run_recs (ks : List GKind) (s : GSystem) (idx seed tick : Int) (its : List GItem) (rows : List GRow) :
    (runTo ks s idx seed tick its rows).cmds = rows.flatMap (fun r => (rowZ ks s idx seed tick r.2).cmds) ∧ (runTo ks s idx seed tick its rows).evs = rows.flatMap (fun r => (rowZ ks s idx seed tick r.2).evs) := by
  have key : ∀ (rows : List GRow) (a : RF), (rows.foldl (stepR ks s idx seed tick) a).cmds = a.cmds ++ rows.flatMap (fun r => (rowZ ks s idx seed tick r.2).cmds) ∧ (rows.foldl (stepR ks s idx seed tick) a).evs = a.evs ++ rows.flatMap (fun r => (rowZ ks s idx seed tick r.2).evs) := fun rows => by
    induction rows with
    | nil => intro a; simp
    | cons r rows ih =>
      intro a
      obtain ⟨h1, h2⟩ := ih (stepR ks s idx seed tick a r)
      have e1 : (stepR ks s idx seed tick a r).cmds = a.cmds ++ (rowZ ks s idx seed tick r.2).cmds := by simp [stepR, rowR_pre, RS.pre]
      have e2 : (stepR ks s idx seed tick a r).evs = a.evs ++ (rowZ ks s idx seed tick r.2).evs := by simp [stepR, rowR_pre, RS.pre]
      rw [List.foldl_cons, h1, h2, e1, e2]
      simp
  have := key rows ⟨its, [], [], 0, 0, [], 0, 0⟩
  simpa [runTo] using this
/-- Whose records they are. -/
def OwnR (e : GEnt) (x : RS) : Prop := (∀ y ∈ x.evs, y.Ent = e) ∧ ∀ y ∈ x.cmds, y.Do ≠ 3 → y.Ent = e
theorem own_doM {c : RC} {x : RS} (o : GOp) (h : OwnR ⟨c.N, c.G⟩ x) : OwnR ⟨c.N, c.G⟩ (doM c x o) := by
  obtain ⟨h1, h2⟩ := h
  unfold doM
  repeat' split
  all_goals
    refine ⟨fun y hy => ?_, fun y hy => ?_⟩
    all_goals first
      | exact h1 y hy
      | exact h2 y hy
      | (rcases List.mem_append.1 hy with hy | hy
         · first
           | exact h1 y hy
           | exact h2 y hy
         · have hy' := List.mem_singleton.1 hy
           subst hy'
           first
           | exact rfl
           | exact fun _ => rfl
           | exact fun h => absurd rfl h)
theorem own_row (ks : List GKind) (s : GSystem) (idx seed tick : Int) (it : GItem) : OwnR it.Ent (rowZ ks s idx seed tick it) := by
  have key : ∀ (l : List GOp) (x : RS), OwnR it.Ent x → OwnR it.Ent (l.foldl (doM (rcOf ks s idx it)) x) := fun l => by
    induction l with
    | nil => intro x h; exact h
    | cons o l ih => intro x h; exact ih _ (own_doM (c := rcOf ks s idx it) o h)
  exact key _ _ ⟨by simp, by simp⟩

theorem run_item (ks : List GKind) (s : GSystem) (idx seed tick : Int) (its : List GItem) : ∀ (rows : List GRow) (a : RF), (∀ x ∈ rows, its[x.1]? = some x.2) → rows.Pairwise (fun x y => x.1 ≠ y.1) → a.items.length = its.length →
    (∀ j (h : j < its.length), (∃ x ∈ rows, x.1 = j) → a.items[j]? = some its[j]) →
    ∀ j (h : j < its.length), (rows.foldl (stepR ks s idx seed tick) a).items[j]? = if (∃ x ∈ rows, x.1 = j) then some ⟨(its[j]).Ent, (rowZ ks s idx seed tick its[j]).comps⟩ else a.items[j]?
  | [], a, _, _, _, _, j, h => by simp
  | r :: rows, a, hr, hp, hl, hk, j, h => by
    obtain ⟨p1, p2⟩ := List.pairwise_cons.1 hp
    have hr0 := hr r (by simp)
    obtain ⟨q1, q2⟩ := List.getElem?_eq_some_iff.1 hr0
    have ha0 := hk r.1 q1 ⟨r, by simp, rfl⟩
    have e1 : (stepR ks s idx seed tick a r).items = a.items.set r.1 ⟨r.2.Ent, (rowZ ks s idx seed tick r.2).comps⟩ := by
      have : a.items.getD r.1 ⟨⟨0, 0⟩, []⟩ = r.2 := by simp [List.getD, ha0, q2]
      simp only [stepR, rowR_pre, this, RS.pre]
    have hk' : ∀ i (h : i < its.length), (∃ x ∈ rows, x.1 = i) → (stepR ks s idx seed tick a r).items[i]? = some its[i] := fun i h ⟨x, hx, hi⟩ => by
      have hne : r.1 ≠ i := hi ▸ p1 x hx
      rw [e1, List.getElem?_set_ne hne]
      exact hk i h ⟨x, by simp [hx], hi⟩
    rw [List.foldl_cons, run_item ks s idx seed tick its rows _ (fun x hx => hr x (by simp [hx])) p2 (by rw [e1]; simp [hl]) hk' j h]
    by_cases hj : r.1 = j
    · subst hj
      have hn : ¬ ∃ x ∈ rows, x.1 = r.1 := fun ⟨x, hx, hi⟩ => p1 x hx hi.symm
      rw [if_neg hn, if_pos ⟨r, by simp, rfl⟩, e1, List.getElem?_set_self (by omega), q2]
    · by_cases hex : ∃ x ∈ rows, x.1 = j
      · rw [if_pos hex, if_pos (by obtain ⟨x, hx, hi⟩ := hex; exact ⟨x, by simp [hx], hi⟩)]
      · rw [if_neg hex, if_neg (fun ⟨x, hx, hi⟩ => by
          rcases List.mem_cons.1 hx with rfl | hx
          · exact hj hi
          · exact hex ⟨x, hx, hi⟩), e1, List.getElem?_set_ne hj]
theorem rowsGo_pw (p : GItem → Bool) : ∀ (l : List GItem) (i : Nat), (rowsGo p i l).Pairwise (fun x y => x.1 ≠ y.1)
  | [], _ => List.Pairwise.nil
  | y :: r, i => by
    rw [rowsGo]
    split
    · refine List.pairwise_cons.2 ⟨fun x hx => ?_, rowsGo_pw p r (i + 1)⟩
      obtain ⟨_, _, j, h, _⟩ := rowsGo_spec p r (i + 1) x hx
      simp only; omega
    · exact rowsGo_pw p r (i + 1)
theorem rowsGo_mem_iff (p : GItem → Bool) : ∀ (l : List GItem) (i j : Nat) (h : j < l.length), (∃ x ∈ rowsGo p i l, x.1 = i + j) ↔ p l[j] = true
  | [], _, j, h => by simp at h
  | y :: r, i, 0, h => by
    rw [rowsGo]
    simp only [List.getElem_cons_zero, Nat.add_zero]
    split
    · rename_i hp
      exact ⟨fun _ => hp, fun _ => ⟨(i, y), by simp, rfl⟩⟩
    · rename_i hp
      refine ⟨fun ⟨x, hx, he⟩ => ?_, fun h => absurd h hp⟩
      obtain ⟨_, _, j, h, _⟩ := rowsGo_spec p r (i + 1) x hx
      omega
  | y :: r, i, j + 1, h => by
    have ih := rowsGo_mem_iff p r (i + 1) j (by simpa using h)
    rw [show i + 1 + j = i + (j + 1) by omega] at ih
    rw [rowsGo]
    simp only [List.getElem_cons_succ]
    split
    · rw [← ih]
      refine ⟨fun ⟨x, hx, he⟩ => ?_, fun ⟨x, hx, he⟩ => ⟨x, by simp [hx], he⟩⟩
      rcases List.mem_cons.1 hx with rfl | hx
      · simp only at he; omega
      · exact ⟨x, hx, he⟩
    · exact ih
/-- What a run makes of one item. -/
noncomputable def itemR (ks : List GKind) (s : GSystem) (idx seed tick : Int) (it : GItem) : GItem := if matchI it s.With s.Without = true then ⟨it.Ent, (rowZ ks s idx seed tick it).comps⟩ else it
noncomputable def evsR (ks : List GKind) (s : GSystem) (idx seed tick : Int) (it : GItem) : List GEvent := if matchI it s.With s.Without = true then (rowZ ks s idx seed tick it).evs else []
noncomputable def cmdsR (ks : List GKind) (s : GSystem) (idx seed tick : Int) (it : GItem) : List GCmd := if matchI it s.With s.Without = true then (rowZ ks s idx seed tick it).cmds else []
theorem rows_flat {α : Type} (p : GItem → Bool) (f : GItem → List α) : ∀ (l : List GItem) (i : Nat), (rowsGo p i l).flatMap (fun r => f r.2) = l.flatMap (fun it => if p it = true then f it else [])
  | [], _ => rfl
  | y :: r, i => by
    rw [rowsGo]
    split
    · rename_i hp
      simp only [List.flatMap_cons, hp, if_true]
      rw [rows_flat p f r (i + 1)]
    · rename_i hp
      simp only [List.flatMap_cons, hp, List.nil_append]
      rw [rows_flat p f r (i + 1)]
      simp
theorem run_map (w : GWorld) (s : GSystem) (idx seed tick : Int) : (runTo w.Kinds s idx seed tick w.Items (rowsM w s.With s.Without)).items = w.Items.map (itemR w.Kinds s idx seed tick) ∧
    (runTo w.Kinds s idx seed tick w.Items (rowsM w s.With s.Without)).evs = w.Items.flatMap (evsR w.Kinds s idx seed tick) ∧ (runTo w.Kinds s idx seed tick w.Items (rowsM w s.With s.Without)).cmds = w.Items.flatMap (cmdsR w.Kinds s idx seed tick) := by
  obtain ⟨h1, h2⟩ := run_recs w.Kinds s idx seed tick w.Items (rowsM w s.With s.Without)
  refine ⟨List.ext_getElem? fun j => ?_, ?_, ?_⟩
  · have hl := (runTo_len w.Kinds s idx seed tick w.Items (rowsM w s.With s.Without)).1
    by_cases hj : j < w.Items.length
    · have := run_item w.Kinds s idx seed tick w.Items (rowsM w s.With s.Without) ⟨w.Items, [], [], 0, 0, [], 0, 0⟩ (fun x hx => (rowsM_spec w _ _ x hx).2.2) (rowsGo_pw _ _ _) rfl (fun i h _ => by simp [h]) j hj
      unfold runTo
      rw [this, List.getElem?_map, List.getElem?_eq_getElem hj]
      have hm : (∃ x ∈ rowsM w s.With s.Without, x.1 = j) ↔ matchI w.Items[j] s.With s.Without = true := by
        have := rowsGo_mem_iff (fun it => matchI it s.With s.Without) w.Items 0 j hj
        rwa [Nat.zero_add] at this
      simp only [Option.map_some, itemR]
      by_cases hp : matchI w.Items[j] s.With s.Without = true
      · rw [if_pos (hm.2 hp), if_pos hp]
      · rw [if_neg (fun h => hp (hm.1 h)), if_neg hp]
    · rw [List.getElem?_eq_none (by omega), List.getElem?_eq_none (by simp; omega)]
  · rw [h2]; exact rows_flat (fun it => matchI it s.With s.Without) (fun it => (rowZ w.Kinds s idx seed tick it).evs) w.Items 0
  · rw [h1]; exact rows_flat (fun it => matchI it s.With s.Without) (fun it => (rowZ w.Kinds s idx seed tick it).cmds) w.Items 0
end Go.Proofs.YtfojnhceiabbhaaGreat.Am
/- One entity alone: the plain law. -/
namespace Go.Proofs.YtfojnhceiabbhaaGreat.Am
open Go Go.RowKit

theorem ents_ne {w : GWorld} (hw : checkW w = 0) : w.Items.Pairwise (fun a b => a.Ent ≠ b.Ent) := by
  obtain ⟨_, _, _, _, e⟩ := checkW_iff.1 hw
  exact (items_iff.1 e).1.imp fun h e => by rw [e] at h; omega
theorem flat_filter {β : Type} {f : GItem → List β} {g : β → GEnt} (q : β → Bool) : ∀ {l : List GItem}, l.Pairwise (fun a b => a.Ent ≠ b.Ent) → (∀ it ∈ l, ∀ y ∈ f it, q y = true → g y = it.Ent) → ∀ (j : Nat) (h : j < l.length),
    (l.flatMap f).filter (fun y => q y && decide (g y = (l[j]).Ent)) = (f l[j]).filter q
  | [], _, _, j, h => by simp at h
  | x :: l, hp, hg, j, h => by
    obtain ⟨p1, p2⟩ := List.pairwise_cons.1 hp
    have hnone : ∀ (l' : List GItem) (e : GEnt), (∀ it ∈ l', it ∈ x :: l) → (∀ it ∈ l', it.Ent ≠ e) → (l'.flatMap f).filter (fun y => q y && decide (g y = e)) = [] := fun l' e hm hne => by
      rw [List.filter_eq_nil_iff]
      intro y hy
      obtain ⟨it, hit, hy⟩ := List.mem_flatMap.1 hy
      intro h
      simp only [Bool.and_eq_true, decide_eq_true_eq] at h
      have := hg it (hm it hit) y hy h.1
      exact hne it hit (this.symm.trans h.2)
    have hown : ∀ it ∈ x :: l, (f it).filter (fun y => q y && decide (g y = it.Ent)) = (f it).filter q := fun it hit => by
      refine List.filter_congr fun y hy => ?_
      cases hq : q y with
      | false => rfl
      | true => simp [hg it hit y hy hq]
    rw [List.flatMap_cons, List.filter_append]
    cases j with
    | zero =>
      simp only [List.getElem_cons_zero]
      rw [hown x (by simp), hnone l x.Ent (fun it h => by simp [h]) (fun it hit => (p1 it hit).symm), List.append_nil]
    | succ j =>
      simp only [List.getElem_cons_succ]
      have hj : j < l.length := by simpa using h
      have h1 := hnone [x] (l[j]).Ent (by simp) (by intro it hit; rw [List.mem_singleton.1 hit]; exact p1 _ (List.getElem_mem hj))
      simp only [List.flatMap_cons, List.flatMap_nil, List.append_nil] at h1
      rw [h1, List.nil_append]
      exact flat_filter q p2 (fun it hit => hg it (by simp [hit])) j hj
theorem one_filter : ∀ {l : List GItem}, l.Pairwise (fun a b => a.Ent ≠ b.Ent) → ∀ (j : Nat) (h : j < l.length), l.filter (fun y => decide (y.Ent = (l[j]).Ent)) = [l[j]]
  | l, hp, j, h => by
    have := flat_filter (f := fun it => [it]) (g := fun it => it.Ent) (fun _ => true) hp (fun it _ y hy _ => by rw [List.mem_singleton.1 hy]) j h
    simpa using this

theorem evs_own (ks : List GKind) (s : GSystem) (idx seed tick : Int) (it : GItem) : ∀ y ∈ evsR ks s idx seed tick it, y.Ent = it.Ent := fun y hy => by
  unfold evsR at hy
  split at hy
  · exact (own_row ks s idx seed tick it).1 y hy
  · simp at hy
theorem cmds_own (ks : List GKind) (s : GSystem) (idx seed tick : Int) (it : GItem) : ∀ y ∈ cmdsR ks s idx seed tick it, y.Do ≠ 3 → y.Ent = it.Ent := fun y hy => by
  unfold cmdsR at hy
  split at hy
  · exact (own_row ks s idx seed tick it).2 y hy
  · simp at hy
theorem evs_filter {w : GWorld} (hw : checkW w = 0) (s : GSystem) (idx seed tick : Int) (j : Nat) (h : j < w.Items.length) : (w.Items.flatMap (evsR w.Kinds s idx seed tick)).filter (fun y => decide (y.Ent = (w.Items[j]).Ent)) = evsR w.Kinds s idx seed tick w.Items[j] := by
  have := flat_filter (f := evsR w.Kinds s idx seed tick) (g := fun y => y.Ent) (fun _ => true) (ents_ne hw) (fun it _ y hy _ => evs_own _ _ _ _ _ it y hy) j h
  have h2 : (evsR w.Kinds s idx seed tick w.Items[j]).filter (fun _ => true) = evsR w.Kinds s idx seed tick w.Items[j] := List.filter_eq_self.2 (fun _ _ => rfl)
  have h3 := this.trans h2
  simpa using h3
theorem cmds_filter {w : GWorld} (hw : checkW w = 0) (s : GSystem) (idx seed tick : Int) (j : Nat) (h : j < w.Items.length) : ((w.Items.flatMap (cmdsR w.Kinds s idx seed tick)).filter (fun y => decide (y.Do ≠ 3) && decide (y.Ent = (w.Items[j]).Ent))).length = ((cmdsR w.Kinds s idx seed tick w.Items[j]).filter (fun y => decide (y.Do ≠ 3))).length := by
  rw [flat_filter (f := cmdsR w.Kinds s idx seed tick) (g := fun y => y.Ent) (fun y => decide (y.Do ≠ 3)) (ents_ne hw) (fun it _ y hy hq => cmds_own _ _ _ _ _ it y hy (by simpa using hq)) j h]
theorem alone_valid {w : GWorld} (hw : checkW w = 0) (j : Nat) (h : j < w.Items.length) : checkW ⟨w.Kinds, w.Gens, [w.Items[j]]⟩ = 0 := by
  obtain ⟨a, b, c, d, e⟩ := checkW_iff.1 hw
  obtain ⟨e1, e2⟩ := items_iff.1 e
  refine checkW_iff.2 ⟨a, b, by simp only [List.length_singleton]; omega, d, items_iff.2 ⟨by simp, fun it hit => ?_⟩⟩
  rw [List.mem_singleton.1 hit]
  exact e2 _ (List.getElem_mem h)
theorem itemR_ent (ks : List GKind) (s : GSystem) (idx seed tick : Int) (it : GItem) : (itemR ks s idx seed tick it).Ent = it.Ent := by
  unfold itemR; split <;> rfl
theorem find_map {w : GWorld} (hw : checkW w = 0) (s : GSystem) (idx seed tick : Int) (j : Nat) (h : j < w.Items.length) : (w.Items.map (itemR w.Kinds s idx seed tick)).findIdx? (fun it => decide (it.Ent = (w.Items[j]).Ent)) = some j := by
  rw [List.findIdx?_eq_some_iff_getElem]
  refine ⟨by simpa using h, by simp [itemR_ent], fun i hi => ?_⟩
  have := List.pairwise_iff_getElem.1 (ents_ne hw) i j (by omega) h hi
  simpa [itemR_ent] using this
theorem rec_len (ks : List GKind) (s : GSystem) (idx seed tick : Int) (it : GItem) : (cmdsR ks s idx seed tick it).length ≤ s.Ops.length ∧ (evsR ks s idx seed tick it).length ≤ s.Ops.length := by
  have h := fold_len (rcOf ks s idx it) s.Ops ⟨it.Comps, ofS [seed, tick, idx, it.Ent.N], ofG [seed, tick, idx, it.Ent.N], [], []⟩
  unfold cmdsR evsR
  split
  · exact ⟨by have := h.1; simpa [rowZ, rowR] using this, by have := h.2.1; simpa [rowZ, rowR] using this⟩
  · simp
end Go.Proofs.YtfojnhceiabbhaaGreat.Am
/- The library's slice functions, at the program's types. -/
namespace Go.Proofs.YtfojnhceiabbhaaGreat.Am
open Go Go.RowKit

set_option maxRecDepth 20000 in
theorem IndexFuncE_fn (l : List GEvent) (fn : FuncId) (caps : List PV) (p : GEvent → Bool) (hl : l.length ≤ 4611686018427387904) (he : enterable Tryz.prog fn = true) (hc : ltL 0 caps = true)
    (hf : ∀ x ∈ l, Fn Tryz.prog fn (.agg x.e :: caps) (kB (p x))) : Fn Tryz.prog 39 [.sl 4 (l.map GEvent.e), .clo (.func fn) caps] (kI (idxB p l)) := by
  refine fn_go Tryz.func39 rfl ?_
  simp [Tryz.ntmps39]
  refine awp_loop (fun i : Nat => ⟨19, [(0, .sl 4 (l.map GEvent.e)), (1, .clo (.func fn) caps), (7, kI l.length), (8, kI i)], [], 0⟩) (fun i => i ≤ l.length ∧ ∀ j, j < i → ∀ x, l[j]? = some x → p x = false) (fun i => l.length - i) 0 ?_ ?_ ?_
  · exact entm [] (hT := by simp [renL_lt0 _ _ hc, hc])
  · simp
  · intro i ⟨hi, hno⟩
    refine awp_go ?_
    by_cases hlt : i < l.length
    · simp [hlt]
      refine cal (hf l[i] (List.getElem_mem hlt)) ?_ (he := he) (hlt := by simp [hc])
      by_cases hp : p l[i] = true
      · simp [hp]
        exact finm (by simp [idxB_some hlt hno hp])
      · have hp' : p l[i] = false := by simpa using hp
        simp [hp']
        rw [wrap_id (by omega) (by omega)]
        exact ⟨i + 1, ⟨by omega, no_succ hlt hno hp'⟩, by omega, entm [] (hT := by simp [renL_lt0 _ _ hc, hc])⟩
    · simp [hlt]
      have : i = l.length := by omega
      subst this
      exact finm (by simp [idxB_none hno])

set_option maxRecDepth 20000 in
/-- Deleted by a test: what is left, and zeros behind. -/
theorem DeleteFuncE_fn (l : List GEvent) (fn : FuncId) (caps : List PV) (p : GEvent → Bool) (hl : l.length ≤ 1000000000) (he : enterable Tryz.prog fn = true) (hc : ltL 0 caps = true)
    (hf : ∀ x ∈ l, Fn Tryz.prog fn (.agg x.e :: caps) (kB (p x))) : FnD Tryz.prog 15 [.osl 0 4 0 l.length, .clo (.func fn) caps] [(l.map GEvent.e).flatten] (.osl 0 4 0 (l.filter fun x => !p x).length)
      [some (((l.filter fun x => !p x).map GEvent.e).flatten ++ (List.replicate (l.length - (l.filter fun x => !p x).length) [kI 0, kI 0, kI 0, kI 0]).flatten)] := by
  refine fnd_go Tryz.func15 rfl ?_
  simp [Tryz.ntmps15]
  refine calS (IndexFuncE_fn l fn caps p (by omega) he hc hf) ?_ (hlt := by simp [hc])
  cases hidx : l.findIdx? p with
  | none =>
    have hi : idxB p l = -1 := by simp [idxB, hidx]
    have hall : l.filter (fun x => !p x) = l := by
      rw [List.findIdx?_eq_none_iff] at hidx
      rw [List.filter_eq_self]; intro x hx; simp [hidx x hx]
    simp [hi]
    exact finGm [0] (hres := by simp [hall]) (hB := by simp [hall])
  | some i0 =>
    have hi : idxB p l = i0 := by simp [idxB, hidx]
    rw [List.findIdx?_eq_some_iff_getElem] at hidx
    obtain ⟨hi0, hp0, hno⟩ := hidx
    have hne : ¬ ((i0 : Int) = -1) := by omega
    simp [hi, hne]
    rw [wrap_id (by omega) (by omega)]
    have hF0 : (l.take (i0 + 1)).filter (fun x => !p x) = l.take i0 := by
      rw [← List.take_append_getElem hi0, List.filter_append]
      have : (l.take i0).filter (fun x => !p x) = l.take i0 := by
        rw [List.filter_eq_self]; intro x hx
        obtain ⟨j, hj, rfl⟩ := List.getElem_of_mem hx
        have hj' : j < i0 := by simp at hj; omega
        simpa using hno j hj'
      rw [this]; simp [hp0]
    have hcnt : ∀ j, i0 + 1 ≤ j → ((l.take j).filter (fun x => !p x)).length < j := fun j hj => by
      have h1 : l.take j = l.take (i0 + 1) ++ (l.take j).drop (i0 + 1) := by
        have := List.take_append_drop (i0 + 1) (l.take j)
        rw [List.take_take, Nat.min_eq_left hj] at this
        exact this.symm
      rw [h1, List.filter_append, hF0, List.length_append]
      have h2 := List.length_filter_le (fun x => !p x) ((l.take j).drop (i0 + 1))
      simp at h2 ⊢
      omega
    refine awp_loop (fun x : Nat × List GEvent × List GEvent => ⟨42, [(0, .osl 0 4 0 l.length), (1, .clo (.func fn) caps), (5, kI x.2.1.length), (6, kI x.1)], [some (x.2.2.map GEvent.e).flatten], 1⟩)
      (fun x => i0 + 1 ≤ x.1 ∧ x.1 ≤ l.length ∧ x.2.1 = (l.take x.1).filter (fun x => !p x) ∧ x.2.2 = x.2.1 ++ l.drop x.2.1.length) (fun x => l.length - x.1) (i0 + 1, l.take i0, l) ?_ ?_ ?_
    · refine entm [0] (hT := ?_)
      have : min i0 l.length = i0 := by omega
      simp [renL_lt0 _ _ hc, hc, ltL_mono hc, this]
    · have hlt : (l.take i0).length = i0 := by simp; omega
      exact ⟨Nat.le_refl _, hi0, hF0.symm, by simp only [hlt, List.take_append_drop]⟩
    · rintro ⟨j, F, B⟩ ⟨hj0, hj, hF, hB⟩
      simp only at hj0 hj hF hB
      have hc1 := hcnt j hj0
      rw [← hF] at hc1
      have hBl : B.length = l.length := by rw [hB]; simp; omega
      refine awp_go ?_
      by_cases hlt : j < l.length
      · have hBj : B[j]? = some l[j] := by
          rw [hB, List.getElem?_append_right (by omega), List.getElem?_drop, show F.length + (j - F.length) = j by omega, List.getElem?_eq_getElem hlt]
        have hjB : j < B.length := by omega
        have hBj2 : B[j] = l[j] := by rw [List.getElem?_eq_getElem hjB] at hBj; exact Option.some.inj hBj
        have hq3 : j * 4 + 4 ≤ B.length * 4 := by omega
        simp [hlt, hjB, hBj2, hq3]
        refine cal (hf l[j] (List.getElem_mem hlt)) ?_ (he := he) (hlt := by simp [hc])
        by_cases hp : p l[j] = true
        · simp [hp]
          rw [wrap_id (by omega) (by omega)]
          refine ⟨j + 1, F, B, ⟨by omega, by omega, ?_, hB⟩, by omega, entm [0] (hT := by simp [renL_lt0 _ _ hc, ltL_mono hc])⟩
          rw [← List.take_append_getElem hlt, List.filter_append, hF]; simp [hp]
        · simp only [Bool.not_eq_true] at hp
          have h1 : (F.length : Int) < l.length := by omega
          have h2 : F.length * 4 + 4 ≤ B.length * 4 := by omega
          have h3 : F.length < B.length := by omega
          have hrow := row_set (e := GEvent.e) (z := 4) (fun _ => rfl) B F.length l[j] h3
          have hBs : B.set F.length l[j] = F ++ l[j] :: l.drop (F.length + 1) := by
            have e0 : (l.drop F.length) = l[F.length] :: l.drop (F.length + 1) := List.drop_eq_getElem_cons (by omega)
            rw [hB, List.set_append_right _ _ (Nat.le_refl _), Nat.sub_self, e0, List.set_cons_zero]
          simp [hp, h1, h2, h3]
          rw [hrow, hBs, wrap_id (by omega) (by omega), wrap_id (by omega) (by omega)]
          refine ⟨j + 1, F ++ [l[j]], F ++ l[j] :: l.drop (F.length + 1), ⟨by omega, by omega, ?_, by simp⟩, by omega, entm [0] (hT := by simp [renL_lt0 _ _ hc, ltL_mono hc]) (hB := by simp [-List.map_drop])⟩
          rw [← List.take_append_getElem hlt, List.filter_append, hF]; simp [hp]
      · have hjl : j = l.length := by omega
        subst hjl
        rw [List.take_of_length_le (Nat.le_refl _)] at hF
        have h1 : (F.length : Int) ≤ l.length := by omega
        have h2 : F.length * 4 ≤ B.length * 4 := by omega
        simp [h1, h2]
        have e1 : B.take F.length = F := by rw [hB]; simp
        have e4 : (B.map GEvent.e).flatten.take (F.length * 4) = (F.map GEvent.e).flatten := by rw [flat_take (e := GEvent.e) (z := 4) (fun _ => rfl), e1]
        have e3 : B.length * 4 ≤ F.length * 4 + (l.length - F.length) * 4 := by omega
        rw [e4, List.drop_eq_nil_of_le (by simp [GMove.sum]; omega), ← hF]
        have hz : ((List.replicate (l.length - F.length) [kI 0, kI 0, kI 0, kI 0]).flatten).all PV.immB = true := by
          rw [List.all_eq_true]; intro q hq
          obtain ⟨r, hr, hq2⟩ := List.mem_flatten.1 hq
          obtain rfl := (List.mem_replicate.1 hr).2
          exact List.all_eq_true.1 (rfl : ([kI 0, kI 0, kI 0, kI 0] : List PV).all PV.immB = true) q hq2
        have hz1 := fun θ => imms_ren hz θ
        have hz2 := fun n => imms_lt hz n
        generalize (List.replicate (l.length - F.length) [kI 0, kI 0, kI 0, kI 0]).flatten = Z at hz1 hz2 ⊢
        exact finGm [0] (hres := by simp) (hB := by simp [hz1, hz2])

set_option maxRecDepth 20000 in
/-- Deleted by a test: what is left, and zeros behind. -/
theorem DeleteFuncIt_fn (l : List GItem) (fn : FuncId) (caps : List PV) (p : GItem → Bool) (hl : l.length ≤ 1000000000) (he : enterable Tryz.prog fn = true) (hc : ltL 0 caps = true)
    (hf : ∀ x ∈ l, Fn Tryz.prog fn (.agg x.e :: caps) (kB (p x))) : FnD Tryz.prog 11 [.osl 0 3 0 l.length, .clo (.func fn) caps] [(l.map GItem.e).flatten] (.osl 0 3 0 (l.filter fun x => !p x).length)
      [some (((l.filter fun x => !p x).map GItem.e).flatten ++ (List.replicate (l.length - (l.filter fun x => !p x).length) [kI 0, kI 0, kNil]).flatten)] := by
  refine fnd_go Tryz.func11 rfl ?_
  simp [Tryz.ntmps11]
  refine calS (IndexFuncIt_fn l fn caps p (by omega) he hc hf) ?_ (hlt := by simp [hc])
  cases hidx : l.findIdx? p with
  | none =>
    have hi : idxB p l = -1 := by simp [idxB, hidx]
    have hall : l.filter (fun x => !p x) = l := by
      rw [List.findIdx?_eq_none_iff] at hidx
      rw [List.filter_eq_self]; intro x hx; simp [hidx x hx]
    simp [hi]
    exact finGm [0] (hres := by simp [hall]) (hB := by simp [hall])
  | some i0 =>
    have hi : idxB p l = i0 := by simp [idxB, hidx]
    rw [List.findIdx?_eq_some_iff_getElem] at hidx
    obtain ⟨hi0, hp0, hno⟩ := hidx
    have hne : ¬ ((i0 : Int) = -1) := by omega
    simp [hi, hne]
    rw [wrap_id (by omega) (by omega)]
    have hF0 : (l.take (i0 + 1)).filter (fun x => !p x) = l.take i0 := by
      rw [← List.take_append_getElem hi0, List.filter_append]
      have : (l.take i0).filter (fun x => !p x) = l.take i0 := by
        rw [List.filter_eq_self]; intro x hx
        obtain ⟨j, hj, rfl⟩ := List.getElem_of_mem hx
        have hj' : j < i0 := by simp at hj; omega
        simpa using hno j hj'
      rw [this]; simp [hp0]
    have hcnt : ∀ j, i0 + 1 ≤ j → ((l.take j).filter (fun x => !p x)).length < j := fun j hj => by
      have h1 : l.take j = l.take (i0 + 1) ++ (l.take j).drop (i0 + 1) := by
        have := List.take_append_drop (i0 + 1) (l.take j)
        rw [List.take_take, Nat.min_eq_left hj] at this
        exact this.symm
      rw [h1, List.filter_append, hF0, List.length_append]
      have h2 := List.length_filter_le (fun x => !p x) ((l.take j).drop (i0 + 1))
      simp at h2 ⊢
      omega
    refine awp_loop (fun x : Nat × List GItem × List GItem => ⟨42, [(0, .osl 0 3 0 l.length), (1, .clo (.func fn) caps), (5, kI x.2.1.length), (6, kI x.1)], [some (x.2.2.map GItem.e).flatten], 1⟩)
      (fun x => i0 + 1 ≤ x.1 ∧ x.1 ≤ l.length ∧ x.2.1 = (l.take x.1).filter (fun x => !p x) ∧ x.2.2 = x.2.1 ++ l.drop x.2.1.length) (fun x => l.length - x.1) (i0 + 1, l.take i0, l) ?_ ?_ ?_
    · refine entm [0] (hT := ?_)
      have : min i0 l.length = i0 := by omega
      simp [renL_lt0 _ _ hc, hc, ltL_mono hc, this]
    · have hlt : (l.take i0).length = i0 := by simp; omega
      exact ⟨Nat.le_refl _, hi0, hF0.symm, by simp only [hlt, List.take_append_drop]⟩
    · rintro ⟨j, F, B⟩ ⟨hj0, hj, hF, hB⟩
      simp only at hj0 hj hF hB
      have hc1 := hcnt j hj0
      rw [← hF] at hc1
      have hBl : B.length = l.length := by rw [hB]; simp; omega
      refine awp_go ?_
      by_cases hlt : j < l.length
      · have hBj : B[j]? = some l[j] := by
          rw [hB, List.getElem?_append_right (by omega), List.getElem?_drop, show F.length + (j - F.length) = j by omega, List.getElem?_eq_getElem hlt]
        have hjB : j < B.length := by omega
        have hBj2 : B[j] = l[j] := by rw [List.getElem?_eq_getElem hjB] at hBj; exact Option.some.inj hBj
        have hq3 : j * 3 + 3 ≤ B.length * 3 := by omega
        simp [hlt, hjB, hBj2, hq3]
        refine cal (hf l[j] (List.getElem_mem hlt)) ?_ (he := he) (hlt := by simp [hc])
        by_cases hp : p l[j] = true
        · simp [hp]
          rw [wrap_id (by omega) (by omega)]
          refine ⟨j + 1, F, B, ⟨by omega, by omega, ?_, hB⟩, by omega, entm [0] (hT := by simp [renL_lt0 _ _ hc, ltL_mono hc])⟩
          rw [← List.take_append_getElem hlt, List.filter_append, hF]; simp [hp]
        · simp only [Bool.not_eq_true] at hp
          have h1 : (F.length : Int) < l.length := by omega
          have h2 : F.length * 3 + 3 ≤ B.length * 3 := by omega
          have h3 : F.length < B.length := by omega
          have hrow := row_set (e := GItem.e) (z := 3) (fun _ => rfl) B F.length l[j] h3
          have hBs : B.set F.length l[j] = F ++ l[j] :: l.drop (F.length + 1) := by
            have e0 : (l.drop F.length) = l[F.length] :: l.drop (F.length + 1) := List.drop_eq_getElem_cons (by omega)
            rw [hB, List.set_append_right _ _ (Nat.le_refl _), Nat.sub_self, e0, List.set_cons_zero]
          simp [hp, h1, h2, h3]
          rw [hrow, hBs, wrap_id (by omega) (by omega), wrap_id (by omega) (by omega)]
          refine ⟨j + 1, F ++ [l[j]], F ++ l[j] :: l.drop (F.length + 1), ⟨by omega, by omega, ?_, by simp⟩, by omega, entm [0] (hT := by simp [renL_lt0 _ _ hc, ltL_mono hc]) (hB := by simp [-List.map_drop])⟩
          rw [← List.take_append_getElem hlt, List.filter_append, hF]; simp [hp]
      · have hjl : j = l.length := by omega
        subst hjl
        rw [List.take_of_length_le (Nat.le_refl _)] at hF
        have h1 : (F.length : Int) ≤ l.length := by omega
        have h2 : F.length * 3 ≤ B.length * 3 := by omega
        simp [h1, h2]
        have e1 : B.take F.length = F := by rw [hB]; simp
        have e4 : (B.map GItem.e).flatten.take (F.length * 3) = (F.map GItem.e).flatten := by rw [flat_take (e := GItem.e) (z := 3) (fun _ => rfl), e1]
        have e3 : B.length * 3 ≤ F.length * 3 + (l.length - F.length) * 3 := by omega
        rw [e4, List.drop_eq_nil_of_le (by simp [GMove.sum]; omega), ← hF]
        have hz : ((List.replicate (l.length - F.length) [kI 0, kI 0, kNil]).flatten).all PV.immB = true := by
          rw [List.all_eq_true]; intro q hq
          obtain ⟨r, hr, hq2⟩ := List.mem_flatten.1 hq
          obtain rfl := (List.mem_replicate.1 hr).2
          exact List.all_eq_true.1 (rfl : ([kI 0, kI 0, kNil] : List PV).all PV.immB = true) q hq2
        have hz1 := fun θ => imms_ren hz θ
        have hz2 := fun n => imms_lt hz n
        generalize (List.replicate (l.length - F.length) [kI 0, kI 0, kNil]).flatten = Z at hz1 hz2 ⊢
        exact finGm [0] (hres := by simp) (hB := by simp [hz1, hz2])

end Go.Proofs.YtfojnhceiabbhaaGreat.Am
/- tourmake.World, its items still to be written. -/
namespace Go.Proofs.YtfojnhceiabbhaaGreat.Am
open Go Go.RowKit

set_option maxRecDepth 20000 in
set_option maxHeartbeats 2000000 in
theorem World_own (l : List Int) : FnD Tryz.prog 10 [slI l] [] (.agg [.sl 2 ((worldM l).Kinds.map GKind.e), slI (worldM l).Gens, .osl 0 3 0 (worldM l).Items.length]) [some ((worldM l).Items.map GItem.e).flatten] := by
  refine fnd_go Tryz.func10 rfl ?_
  simp [Tryz.ntmps10]
  refine ops_fnd [1] (kinds_fn l) rfl rfl rfl (by simp) en_31 rfl rfl (by simp) (by simp) (by simp) (by simp [slI]) rfl rfl ?_
  obtain ⟨ks, hks⟩ : ∃ ks, (kindsM l).1 = ks := ⟨_, rfl⟩
  obtain ⟨l1, hl1⟩ : ∃ l1, (kindsM l).2 = l1 := ⟨_, rfl⟩
  have hok : OkKs ks := by rw [← hks]; exact good_ok (kindsM_good l).1
  simp [hks, hl1]
  refine ops_fnd [1] (Next_fn l1 12 (by omega)) rfl rfl rfl (by simp) en_32 rfl rfl (by simp) (by simp) (by simp) (by simp) rfl rfl ?_
  have hv := nextV_lt (l := l1) (n := 12) (by omega)
  obtain ⟨n, hn⟩ : ∃ n : Nat, nextV l1 12 = n := ⟨(nextV l1 12).toNat, by omega⟩
  have hw : worldM l = ⟨ks, (mkWorld ks n 0 [] [] (nextL l1 12)).1, (mkWorld ks n 0 [] [] (nextL l1 12)).2.1⟩ := by simp [worldM, hks, hl1, hn]
  simp [hn, goC_eq]
  refine awp_loop (fun x : Nat × List Int × List GItem × List Int => ⟨52, [(2, .ptr 0 0), (3, .ptr 1 0), (4, .ptr 2 0), (13, kI n), (14, kI x.1)],
      [some [kNil, kNil, kNil], some [slI x.2.2.2], some [.sl 2 (ks.map GKind.e), .osl 3 1 0 x.2.1.length, .osl 4 3 0 x.2.2.1.length], some (x.2.1.map kI), some (x.2.2.1.map GItem.e).flatten], 0⟩)
    (fun x => x.1 ≤ n ∧ x.2.1.length = x.1 ∧ x.2.2.1.length ≤ 8 ∧ mkWorld ks (n - x.1) x.1 x.2.1 x.2.2.1 x.2.2.2 = mkWorld ks n 0 [] [] (nextL l1 12)) (fun x => n - x.1) (0, [], [], nextL l1 12) ?_ ?_ ?_
  · exact (ent_nilb (b := 2) (j := 1) (z := 1) rfl rfl).trans ((ent_nilb (b := 2) (j := 2) (z := 3) rfl rfl).trans (ent_mk [0, 1, 2, 3, 4] rfl rfl rfl (by simp) (by simp) (by simp) (by simp) (by simp)))
  · simp
  · rintro ⟨i, gs, its, l2⟩ ⟨hi, hgs, hits, hrun⟩
    simp only at hi hgs hits hrun
    refine awp_go ?_
    by_cases hlt : i < n
    · rw [show n - i = (n - (i + 1)) + 1 by omega, mkWorld] at hrun
      have hb1 : (gs.length + 1) * 8 ≤ 140737488355328 := by omega
      have hb2 : gs.length + 1 ≤ maxLen := by simp only [maxLen]; omega
      simp [hlt]
      refine awp_drawS follows_mix [(0, 0), (0, 0), (0, 0), (3, 0), (4, 5), (4, 6), (0, 0), (1, 0)] 5 7 [(0, 3), (0, 4), (1, 3), (1, 4)] (by kernel_rfl) rfl rfl ?_
      simp
      refine gE_callW (kI (nextV l2 3)) [1] [(1, some [slI (nextL l2 3)])] rfl (fun y => ?_) ?_
      · simp
        exact does_fnd [1] (Next_fn l2 3 (by omega)) rfl rfl rfl en_32 rfl (by simp) (by simp) (by simp) (by simp) (by simp) rfl
      simp [hb1, hb2]
      refine ops_fnd [1] (Next_fn (nextL l2 3) 4 (by omega)) rfl rfl rfl (by simp) en_32 rfl rfl (by simp) (by simp) (by simp) (by simp) rfl rfl ?_
      by_cases h3 : nextV (nextL l2 3) 4 = 3
      · rw [if_pos (.inl h3)] at hrun
        simp [h3, goC_eq]
        rw [wrap_id (by omega) (by omega)]
        exact ⟨i + 1, gs ++ [nextV l2 3], its, _, ⟨by omega, by simp [hgs], hits, hrun⟩, by omega, ent_mk [0, 1, 2, 6, 4] rfl rfl rfl (by simp) (by simp) (by simp) (by simp) (by simp)⟩
      · by_cases h8 : its.length = 8
        · rw [if_pos (.inr h8)] at hrun
          simp [h3, h8, goC_eq]
          rw [wrap_id (by omega) (by omega)]
          exact ⟨i + 1, gs ++ [nextV l2 3], its, _, ⟨by omega, by simp [hgs], hits, hrun⟩, by omega, ent_mk [0, 1, 2, 6, 4] rfl rfl rfl (by simp) (by simp) (by simp) (by simp) (by simp [h8])⟩
        · rw [if_neg (by simp [h3, h8])] at hrun
          have h8' : ¬ (its.length : Int) = 8 := by omega
          simp [h3, h8', h8, goC_eq]
          refine awp_drawS follows_mix [(0, 0), (0, 0), (0, 0), (0, 0), (0, 0), (0, 0), (0, 0), (0, 0), (0, 0), (0, 0), (0, 0), (0, 0), (3, 0), (0, 0), (4, 7), (4, 8), (0, 0), (1, 0)] 7 9 [(0, 12), (0, 14), (1, 12), (1, 14), (2, 12), (3, 12), (4, 12), (5, 12), (6, 12), (7, 12), (8, 12)] (by kernel_rfl) rfl rfl ?_
          have hii : (i : Int) < (i : Int) + 1 := by omega
          have hgi : (gs.map kI ++ [kI (nextV l2 3)])[i]? = some (kI (nextV l2 3)) := by
            rw [List.getElem?_append_right (by simp [hgs])]; simp [hgs]
          have hgi2 : i + 1 ≤ gs.length + 1 := by omega
          have hc1 : (its.length + 1) * 40 ≤ 140737488355328 := by omega
          have hc2 : its.length + 1 ≤ maxLen := by simp only [maxLen]; omega
          simp [hgs, hii, hgi]
          refine gE_callW (.sl 2 ((compsM ks (nextL (nextL l2 3) 4)).1.map GComp.e)) [1] [(1, some [slI (compsM ks (nextL (nextL l2 3) 4)).2])] rfl (fun y => ?_) ?_
          · simp
            exact does_fnd [1] (comps_fn ks (nextL (nextL l2 3) 4) hok) rfl rfl rfl en_33 rfl (by simp) (by simp) (by simp) (by simp) (by simp) rfl
          simp [hgs, hii, hgi, hc1, hc2]
          rw [wrap_id (by omega) (by omega)]
          exact ⟨i + 1, gs ++ [nextV l2 3], its ++ [⟨⟨i, nextV l2 3⟩, (compsM ks (nextL (nextL l2 3) 4)).1⟩], _, ⟨by omega, by simp [hgs], by simp; omega, hrun⟩, by omega,
            ent_mk [0, 1, 2, 6, 8] rfl rfl rfl (by simp) (by simp) (by simp) (by simp) (by simp [GItem.e, hgs])⟩
    · simp [hlt]
      have hin : n = i := by omega
      subst hin
      rw [Nat.sub_self, mkWorld] at hrun
      refine finG_ent (ent_frz 3 1 gs.length (gs.map kI) (by simp) rfl (by simp) (ints_imm gs)) ?_
      simp [St.frz, chunks_ints]
      exact finGm [4] (hres := by simp [hw, ← hrun, slI]) (hB := by simp [hw, ← hrun])
end Go.Proofs.YtfojnhceiabbhaaGreat.Am
/- Package world: Find. -/
namespace Go.Proofs.YtfojnhceiabbhaaGreat.Am
open Go Go.RowKit

set_option maxRecDepth 20000 in
theorem Find1_fn (it : GItem) (e : GEnt) : Fn Tryz.prog 35 [.agg it.e, .eptr e.e] (kB (decide (it.Ent = e))) := by
  refine fn_go Tryz.func35 rfl ?_
  simp [Tryz.ntmps35]
  exact finm (by simp)
def findW (w : GWorld) (e : GEnt) : Int := idxB (fun it : GItem => decide (it.Ent = e)) w.Items
set_option maxRecDepth 20000 in
theorem WFind_fn (w : GWorld) (e : GEnt) (hl : w.Items.length ≤ 4611686018427387904) : Fn Tryz.prog 13 [.agg w.e, .agg e.e] (kI (findW w e)) := by
  refine fn_go Tryz.func13 rfl ?_
  simp [Tryz.ntmps13]
  refine ops_fz 1 e.e ?_
  simp
  refine calS (IndexFuncIt_fn w.Items 35 [.eptr e.e] (fun it => decide (it.Ent = e)) hl (by simp) (by simp) fun it _ => Find1_fn it e) ?_
  simp
  exact finm (by simp [findW])
end Go.Proofs.YtfojnhceiabbhaaGreat.Am
/- Package tourkeep3: pick. -/
namespace Go.Proofs.YtfojnhceiabbhaaGreat.Am
open Go Go.RowKit

def pickE (w : GWorld) (n : Int) : GEnt := if w.Items = [] then ⟨0, 0⟩ else (w.Items.getD (n % (w.Items.length : Int)).toNat ⟨⟨0, 0⟩, []⟩).Ent
set_option maxRecDepth 20000 in
theorem pick_fn (w : GWorld) (n : Int) (hl : w.Items.length ≤ 1000000) : Fn Tryz.prog 9 [.agg w.e, kI n] (.tup [.agg (pickE w n).e, kB (decide (w.Items ≠ []))]) := by
  refine fn_go Tryz.func9 rfl ?_
  simp [Tryz.ntmps9]
  by_cases h0 : w.Items = []
  · simp [h0]
    exact finm (by simp [pickE, h0, GEnt.e])
  · have hp : 0 < w.Items.length := List.length_pos_iff.2 h0
    have hv1 := Int.emod_nonneg n (b := (w.Items.length : Int)) (by omega)
    have hv2 := Int.emod_lt_of_pos n (b := (w.Items.length : Int)) (by omega)
    obtain ⟨y, hy⟩ : ∃ y : Nat, n % (w.Items.length : Int) = y := ⟨(n % (w.Items.length : Int)).toNat, by omega⟩
    have hyl : y < w.Items.length := by omega
    have h00 : ¬ w.Items.length = 0 := by omega
    have hE : pickE w n = (w.Items[y]).Ent := by simp [pickE, h0, hy, List.getD, hyl]
    simp [h00, h0]
    refine awp_draw follows_mix [] [(0, [0]), (0, [0]), (0, [0]), (0, [0]), (0, [0]), (0, [0]), (2, [0]), (0, [0]), (0, [0]), (0, [0]), (1, [0]), (0, [1])] 1 (by kernel_rfl) rfl ?_
    simp
    refine gD_call (kI y) ?_
    simp [hyl]
    refine ⟨hy ▸ calO (Below_fn n w.Items.length (by omega) (by omega)), ?_⟩
    exact finm (by simp [hE, h0, GEnt.e])
end Go.Proofs.YtfojnhceiabbhaaGreat.Am
/- The law SystemAlone. -/
namespace Go.Proofs.YtfojnhceiabbhaaGreat.Am
open Go Go.RowKit

theorem CloneE_own (l : List GEvent) (hl : l.length ≤ 1000000000) : FnD Tryz.prog 16 [.sl 4 (l.map GEvent.e)] [] (.osl 0 4 0 l.length) [some (l.map GEvent.e).flatten] := by
  refine fnd_go Tryz.func16 rfl ?_
  simp [Tryz.ntmps16]
  refine calNil (neq := false) (fun b hb => ?_)
  cases b with
  | true =>
    have : l = [] := by
      cases l with
      | nil => rfl
      | cons x r => exact absurd (hb (by simp)) (by simp)
    subst this
    simp
    refine finG_ent (ent_nil (t := 2) (z := 4) rfl) ?_
    exact finGm [0]
  | false =>
    have h1 : l.length * 32 ≤ 140737488355328 := by omega
    have h2 : l.length ≤ maxLen := by simp only [maxLen]; omega
    simp [h1, h2]
    exact finGm [1]
theorem alone1_fn (it : GItem) (e : GEnt) : Fn Tryz.prog 12 [.agg it.e, .eptr e.e] (kB (decide (it.Ent ≠ e))) := by
  refine fn_go Tryz.func12 rfl ?_
  simp [Tryz.ntmps12]
  exact finm (by simp)
theorem alone2_fn (y : GEvent) (e : GEnt) : Fn Tryz.prog 17 [.agg y.e, .eptr e.e] (kB (decide (y.Ent ≠ e))) := by
  refine fn_go Tryz.func17 rfl ?_
  simp [Tryz.ntmps17]
  exact finm (by simp [GEnt.ext_iff' y.Ent e, Bool.decide_and, Bool.not_and])

set_option maxRecDepth 20000 in
set_option maxHeartbeats 2000000 in
theorem SystemAlone_law (l m : List Int) (seed at_ n : Int) (hw : ∀ x ∈ l, (Lit.int .i64 x).wf = true) (hw2 : ∀ x ∈ m, (Lit.int .i64 x).wf = true) (hw3 : (Lit.int .i64 seed).wf = true) (hw4 : (Lit.int .i64 at_).wf = true) (hw5 : (Lit.int .i64 n).wf = true) :
    Fn Tryz.prog 4 [slI l, slI m, kI seed, kI at_, kI n] (kB true) := by
  clear hw hw2 hw3 hw4 hw5
  obtain ⟨k1, k2, k3⟩ := worldM_ks l
  have hv := worldM_valid l
  obtain ⟨hfi, hfc⟩ := checkW_fine hv
  have hMd := made_fn l m
  have hWO := World_own l
  have hS := sysM_ok k3 k2 m
  generalize worldM l = w at *
  generalize (sysM w.Kinds m 0).1 = s at *
  have hil := hfi.il
  have hPk := pick_fn w n hil
  refine fn_go Tryz.func4 rfl ?_
  simp [Tryz.ntmps4]
  refine cal aged_fn ?_
  simp
  refine cal hMd ?_
  simp
  refine cal hPk ?_
  by_cases h0 : w.Items = []
  · simp [h0]
    exact finm
  have hpos : 0 < w.Items.length := List.length_pos_iff.2 h0
  obtain ⟨j, hj, hje⟩ : ∃ (j : Nat) (h : j < w.Items.length), pickE w n = (w.Items[j]).Ent := by
    have hv1 := Int.emod_nonneg n (b := (w.Items.length : Int)) (by omega)
    have hv2 := Int.emod_lt_of_pos n (b := (w.Items.length : Int)) (by omega)
    have hl : (n % (w.Items.length : Int)).toNat < w.Items.length := by omega
    exact ⟨_, hl, by simp [pickE, h0, List.getD, hl]⟩
  have hR := Run_fn w s 1 seed at_ hS hv (SCheck_ok _ _ hS)
  obtain ⟨r1, r2, r3⟩ := run_map w s 1 seed at_
  have hav := alone_valid hv j hj
  have hSa : SysS (GWorld.Kinds ⟨w.Kinds, w.Gens, [w.Items[j]]⟩) s := hS
  have hRa := Run_fn ⟨w.Kinds, w.Gens, [w.Items[j]]⟩ s 1 seed at_ hSa hav (SCheck_ok _ _ hS)
  obtain ⟨q1, q2, q3⟩ := run_map ⟨w.Kinds, w.Gens, [w.Items[j]]⟩ s 1 seed at_
  have hVal := run_valid hS hv 1 seed at_
  have hrl := runTo_len w.Kinds s 1 seed at_ w.Items (rowsM w s.With s.Without)
  have hcap : (rowsM w s.With s.Without).length * s.Ops.length ≤ 256 * 20 := Nat.mul_le_mul (by have := rowsGo_len (fun it => matchI it s.With s.Without) w.Items 0; have := (checkW_iff.1 hv).2; unfold rowsM; omega) hS.ol
  rw [r2, r3] at hrl
  rw [r1] at hVal
  rw [r1, r2, r3] at hR
  rw [q1, q2, q3] at hRa
  simp only [List.map_cons, List.map_nil, List.flatMap_cons, List.flatMap_nil, List.append_nil] at hRa
  have hrec := rec_len w.Kinds s 1 seed at_ w.Items[j]
  have hol := hS.ol
  have hfind := find_map hv s 1 seed at_ j hj
  have hevs := evs_filter hv s 1 seed at_ j hj
  have hcmds := cmds_filter hv s 1 seed at_ j hj
  have hone := one_filter (ents_ne hv) j hj
  obtain ⟨x, hx⟩ : ∃ x, (w.Items[j]).Ent = x := ⟨_, rfl⟩
  obtain ⟨it', hit'⟩ : ∃ it', itemR w.Kinds s 1 seed at_ w.Items[j] = it' := ⟨_, rfl⟩
  have hget : (w.Items.map (itemR w.Kinds s 1 seed at_))[j]? = some it' := by rw [List.getElem?_map, List.getElem?_eq_getElem hj, ← hit']; rfl
  have hvl : (w.Items.map (itemR w.Kinds s 1 seed at_)).length = w.Items.length := by simp
  rw [hje, hx]
  rw [hit'] at hRa
  rw [hx] at hfind hevs hcmds hone
  generalize w.Items.flatMap (evsR w.Kinds s 1 seed at_) = E at *
  generalize w.Items.flatMap (cmdsR w.Kinds s 1 seed at_) = C at *
  generalize evsR w.Kinds s 1 seed at_ w.Items[j] = E1 at *
  generalize cmdsR w.Kinds s 1 seed at_ w.Items[j] = C1 at *
  generalize w.Items.map (itemR w.Kinds s 1 seed at_) = V at *
  simp [h0]
  refine calD [] hWO ?_
  simp
  have hone' : w.Items.filter (fun y => !decide (y.Ent ≠ x)) = [w.Items[j]] := by rw [← hone]; exact List.filter_congr fun y _ => by simp
  have hevs' : E.filter (fun y => !decide (y.Ent ≠ x)) = E1 := by rw [← hevs]; exact List.filter_congr fun y _ => by simp
  have hD := DeleteFuncIt_fn w.Items 12 [.eptr x.e] (fun it => decide (it.Ent ≠ x)) (by omega) en_12 rfl (fun it _ => alone1_fn it x)
  rw [hone'] at hD
  refine ops_fz 2 x.e ?_
  simp
  refine calD [3] hD ?_
  simp
  obtain ⟨Z, hZd⟩ : ∃ Z : List PV, (List.replicate (w.Items.length - 1) [kI 0, kI 0, kNil]).flatten = Z := ⟨_, rfl⟩
  have hZi : Z.all PV.immB = true := by
    rw [← hZd, List.all_eq_true]
    intro p hp
    obtain ⟨q, hq, hp⟩ := List.mem_flatten.1 hp
    rw [(List.mem_replicate.1 hq).2] at hp
    simp only [List.mem_cons, List.not_mem_nil, or_false] at hp
    rcases hp with rfl | rfl | rfl <;> rfl
  rw [hZd, imms_ren hZi]
  have hch : chunks 3 ((w.Items[j]).e ++ Z) 1 = [(w.Items[j]).e] := by
    have := chunks_flatten (z := 3) [(w.Items[j]).e] (by simp) Z
    simpa using this
  refine cal hR ?_
  simp
  refine ops_fz 3 ((w.Items[j]).e ++ Z) ?_ (hi := by simp [hZi])
  simp [hch]
  refine cal hRa ?_ (hren := by simp [GWorld.e])
  simp
  have hF := WFind_fn ⟨w.Kinds, w.Gens, V⟩ x (by simp only; omega)
  have hFv : findW ⟨w.Kinds, w.Gens, V⟩ x = j := by simp [findW, idxB, hfind]
  rw [hFv] at hF
  refine cal hF ?_
  have hjV : j < V.length := by omega
  have hjn : ¬ (j : Int) < 0 := by omega
  have hjV2 : ¬ (V.length : Int) ≤ j := by omega
  have hw1 : IntKind.i64.wrap ((j : Int) + 1) = (j : Int) + 1 := wrap_id (by omega) (by omega)
  have hVj : V[j] = it' := by rw [List.getElem?_eq_getElem hjV] at hget; simpa using hget
  simp
  refine awp_draw follows_mix [] [(0, [0]), (0, [0]), (0, [0]), (0, [0]), (0, [0]), (0, [0]), (0, [0]), (0, [0]), (0, [0]), (0, [0]), (0, [0]), (0, [0]), (0, [0]), (0, [0]), (0, [0]), (0, [0]), (0, [0]), (0, [0]), (2, [0]), (0, [0]), (0, [0])] 0 (by kernel_rfl) rfl ?_
  have hs1 : (j : Int) ≤ (j : Int) + 1 ∧ (j : Int) + 1 ≤ V.length := by omega
  have hsl : List.drop j (List.take (j + 1) (V.map GItem.e)) = [it'.e] := by
    rw [← List.map_take, ← List.map_drop, List.take_add_one, List.getElem?_eq_getElem hjV, hVj, List.drop_append]
    simp [show (V.take j).length = j by simp; omega]
  obtain ⟨hfv, hfvc⟩ := checkW_fine hVal
  have hitV : it' ∈ V := List.mem_of_getElem? hget
  have hSI := sameItems_fn [it'] [it'] (by simp) (fun z hz => by
    rw [List.mem_singleton.1 hz]
    exact ⟨by have := hfv.ic it' hitV; omega, fun c hc => by have := hfv.iv it' hitV c hc; omega⟩)
  rw [decide_eq_true rfl] at hSI
  simp [hjn, hjV, hjV2, hw1, hs1, hsl]
  refine gD_call (kB true) ?_
  simp [hjn, hjV, hjV2, hw1, hs1, hsl]
  refine ⟨calO hSI, ?_⟩
  refine calD [] (CloneE_own E (by omega)) ?_
  simp
  have hDE := DeleteFuncE_fn E 17 [.eptr x.e] (fun y => decide (y.Ent ≠ x)) (by omega) en_17 rfl (fun y _ => alone2_fn y x)
  rw [hevs'] at hDE
  refine calD [7] hDE ?_
  simp
  obtain ⟨Z2, hZd2⟩ : ∃ Z : List PV, (List.replicate (E.length - E1.length) [kI 0, kI 0, kI 0, kI 0]).flatten = Z := ⟨_, rfl⟩
  have hZi2 : Z2.all PV.immB = true := by
    rw [← hZd2, List.all_eq_true]
    intro p hp
    obtain ⟨q, hq, hp⟩ := List.mem_flatten.1 hp
    rw [(List.mem_replicate.1 hq).2] at hp
    simp only [List.mem_cons, List.not_mem_nil, or_false] at hp
    rcases hp with rfl | rfl | rfl | rfl <;> rfl
  rw [hZd2, imms_ren hZi2]
  have hch2 : chunks 4 ((E1.map GEvent.e).flatten ++ Z2) E1.length = E1.map GEvent.e := by
    have := chunks_flatten (z := 4) (E1.map GEvent.e) (fun r hr => by obtain ⟨y, _, rfl⟩ := List.mem_map.1 hr; rfl) Z2
    simpa using this
  have hcl : C.length ≤ 1000000 := by omega
  have hc1l : C1.length ≤ 1000000 := by omega
  have he1l : E1.length ≤ 1000000 := by omega
  obtain ⟨q, hq⟩ : ∃ q : GCmd → Bool, (fun y : GCmd => decide (y.Do ≠ 3) && decide (y.Ent = x)) = q := ⟨_, rfl⟩
  obtain ⟨r, hr⟩ : ∃ r : GCmd → Bool, (fun y : GCmd => decide (y.Do ≠ 3)) = r := ⟨_, rfl⟩
  rw [hq, hr] at hcmds
  refine awp_loop (fun i : Nat => ⟨150, [(13, .eptr x.e), (18, .sl 4 (E1.map GEvent.e)), (21, .sl 5 (C1.map GCmd.e)), (22, .sl 4 (E1.map GEvent.e)), (25, kI ((C.take i).filter q).length), (113, .sl 5 (C.map GCmd.e)), (114, kI C.length), (115, kI i)], [], 0⟩) (fun i => i ≤ C.length) (fun i => C.length - i) 0 ?_ ?_ ?_
  · exact (ent_fz 7 ((E1.map GEvent.e).flatten ++ Z2) (hi := by simp [hZi2])).trans (entm [] (hT := by simp [hch2]))
  · simp
  · intro i hi
    refine awp_go ?_
    by_cases hlt : i < C.length
    · have hf := List.length_filter_le q (C.take i)
      have ht : (C.take i).length ≤ C.length := by simp; omega
      have htk : C.take (i + 1) = C.take i ++ [C[i]] := by rw [List.take_add_one, List.getElem?_eq_getElem hlt]; rfl
      have hw5 : IntKind.i64.wrap ((i : Int) + 1) = (i : Int) + 1 := wrap_id (by omega) (by omega)
      have hw6 : IntKind.i64.wrap ((((C.take i).filter q).length : Int) + 1) = (((C.take i).filter q).length : Int) + 1 := wrap_id (by omega) (by omega)
      obtain ⟨y, hy⟩ : ∃ y, C[i] = y := ⟨_, rfl⟩
      rw [hy] at htk
      by_cases h3 : y.Do = 3
      · have hqy : q y = false := by rw [← hq]; simp [h3]
        simp [hlt, hy, h3]
        rw [hw5]
        exact ⟨i + 1, by omega, by omega, entm [] (hT := by simp [htk, hqy])⟩
      · by_cases he : y.Ent = x
        · have hqy : q y = true := by rw [← hq]; simp [h3, he]
          simp [hlt, hy, h3, he]
          rw [hw5, hw6]
          exact ⟨i + 1, by omega, by omega, entm [] (hT := by simp [htk, hqy])⟩
        · have hqy : q y = false := by rw [← hq]; simp [h3, he]
          have hne : (decide (y.Ent.N = x.N) && decide (y.Ent.Gen = x.Gen)) = false := by
            rw [← Bool.decide_and, decide_eq_false]
            rwa [← GEnt.ext_iff']
          simp [hlt, hy, h3, hne]
          rw [hw5]
          exact ⟨i + 1, by omega, by omega, entm [] (hT := by simp [htk, hqy])⟩
    · obtain rfl : i = C.length := by omega
      rw [List.take_length, hcmds]
      simp
      have hrl0 := List.length_filter_le r C1
      obtain ⟨N0, hN0⟩ : ∃ N0, (C1.filter r).length = N0 := ⟨_, rfl⟩
      rw [hN0]
      refine awp_loop (fun i : Nat => ⟨150, [(18, .sl 4 (E1.map GEvent.e)), (22, .sl 4 (E1.map GEvent.e)), (25, kI ((N0 : Int) - ((C1.take i).filter r).length)), (131, .sl 5 (C1.map GCmd.e)), (132, kI C1.length), (133, kI i)], [], 0⟩) (fun i => i ≤ C1.length) (fun i => C1.length - i) 0 ?_ ?_ ?_
      · exact entm []
      · simp
      · intro i hi
        refine awp_go ?_
        by_cases hlt : i < C1.length
        · have hf := List.length_filter_le r (C1.take i)
          have ht : (C1.take i).length ≤ C1.length := by simp; omega
          have htk : C1.take (i + 1) = C1.take i ++ [C1[i]] := by rw [List.take_add_one, List.getElem?_eq_getElem hlt]; rfl
          have hw5 : IntKind.i64.wrap ((i : Int) + 1) = (i : Int) + 1 := wrap_id (by omega) (by omega)
          have hw6 : IntKind.i64.wrap ((N0 : Int) - (((C1.take i).filter r).length : Int) - 1) = (N0 : Int) - ((((C1.take i).filter r).length + 1 : Nat) : Int) := by rw [wrap_id (by omega) (by omega)]; omega
          obtain ⟨y, hy⟩ : ∃ y, C1[i] = y := ⟨_, rfl⟩
          rw [hy] at htk
          by_cases h3 : y.Do = 3
          · have hqy : r y = false := by rw [← hr]; simp [h3]
            simp [hlt, hy, h3]
            rw [hw5]
            exact ⟨i + 1, by omega, by omega, entm [] (hT := by simp [htk, hqy])⟩
          · have hqy : r y = true := by rw [← hr]; simp [h3]
            simp [hlt, hy, h3]
            rw [hw5, hw6]
            exact ⟨i + 1, by omega, by omega, entm [] (hT := by simp [htk, hqy])⟩
        · obtain rfl : i = C1.length := by omega
          rw [List.take_length, hN0]
          have hEE := EqualE_fn E1 E1 (by omega)
          rw [decide_eq_true rfl] at hEE
          simp
          refine cal hEE ?_
          simp
          exact finm
end Go.Proofs.YtfojnhceiabbhaaGreat.Am
