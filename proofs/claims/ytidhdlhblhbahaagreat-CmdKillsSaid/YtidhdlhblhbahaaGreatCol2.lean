/- Stores of entities and of lists of numbers among other boxes. -/
import Derived.Test.YtidhdlhblhbahaaGreatLie
import Derived.Test.YtidhdlhblhbahaaGreatCol1
set_option linter.unusedVariables false
set_option linter.unusedSimpArgs false
namespace Go.Proofs.YtidhdlhblhbahaaGreat.Am
open Go Go.RowKit

theorem boxM {σ σ' : Boxes} {th : List Nat} (hn : th.Nodup) (hl : ∀ t ∈ th, t < σ.length) (hle : th.length ≤ σ'.length) (i : Nat) :
    (∀ j, th[j]? = some i → box (merge σ th σ') i = (box σ' j).map (renL (thF th σ.length))) ∧ (i ∉ th → i < σ.length → box (merge σ th σ') i = box σ i) ∧
    (∀ j, i = σ.length + j → box (merge σ th σ') i = (box σ' (th.length + j)).map (renL (thF th σ.length))) := by
  obtain ⟨h1, h2⟩ := box_setAll (thF th σ.length) th σ' σ i hn hl hle
  have hlen := setAll_length (thF th σ.length) th σ' σ
  refine ⟨fun j hj => ?_, fun hi hil => ?_, fun j hj => ?_⟩
  · have := hl i (List.mem_of_getElem? hj)
    unfold merge
    rw [box_append, if_pos (by omega), h1 j hj]
  · unfold merge
    rw [box_append, if_pos (by omega), h2 hi]
  · unfold merge
    subst hj
    rw [box_append, if_neg (by omega), hlen, box_map, box_drop]
    congr 2; omega
theorem mergeM_len (σ σ' : Boxes) (th : List Nat) : (merge σ th σ').length = σ.length + (σ'.length - th.length) := by
  unfold merge
  rw [List.length_append, setAll_length]; simp

/-- Whose box it is: a table (or 1), a store of it, a part of the store. -/
abbrev Tag := Nat → Nat × Nat × Nat
def idxI (rows : List Int) (x : Int) : Int := ((rows.findIdx fun y => decide (y = x) : Nat) : Int)
/-- Boxes from σ to τ: the old ones that are not of O are as they were. -/
structure Fr (σ τ : Boxes) (g g' : Tag) (O : Nat × Nat × Nat → Prop) : Prop where
  le : σ.length ≤ τ.length
  tg : ∀ b, b < σ.length → g' b = g b
  bx : ∀ b, b < σ.length → ¬ O (g b) → Am.box τ b = Am.box σ b
theorem Fr.rfl {σ : Boxes} {g : Tag} {O : Nat × Nat × Nat → Prop} : Fr σ σ g g O := ⟨Nat.le_refl _, fun _ _ => Eq.refl _, fun _ _ _ => Eq.refl _⟩
theorem Fr.trans {σ τ υ : Boxes} {g g' g'' : Tag} {O : Nat × Nat × Nat → Prop} (h1 : Fr σ τ g g' O) (h2 : Fr τ υ g' g'' O) : Fr σ υ g g'' O :=
  ⟨Nat.le_trans h1.le h2.le, fun b hb => (h2.tg b (Nat.lt_of_lt_of_le hb h1.le)).trans (h1.tg b hb), fun b hb hO => (h2.bx b (Nat.lt_of_lt_of_le hb h1.le) (by rw [h1.tg b hb]; exact hO)).trans (h1.bx b hb hO)⟩
theorem Fr.mono {σ τ : Boxes} {g g' : Tag} {O O' : Nat × Nat × Nat → Prop} (h : Fr σ τ g g' O) (hO : ∀ t, O t → O' t) : Fr σ τ g g' O' := ⟨h.le, h.tg, fun b hb hn => h.bx b hb fun ho => hn (hO _ ho)⟩
theorem Fr.box {σ τ : Boxes} {g g' : Tag} {O : Nat × Nat × Nat → Prop} (h : Fr σ τ g g' O) {b : Nat} {cs : List PV} (hb : Am.box σ b = some cs) (hO : ¬ O (g b)) : Am.box τ b = some cs := by
  rw [h.bx b (box_lt hb) hO]; exact hb
theorem Fr.tag {σ τ : Boxes} {g g' : Tag} {O : Nat × Nat × Nat → Prop} (h : Fr σ τ g g' O) {b : Nat} {cs : List PV} (hb : Am.box σ b = some cs) : g' b = g b := h.tg b (box_lt hb)
theorem Fr.app {σ ext : Boxes} {g : Tag} {O : Nat × Nat × Nat → Prop} : Fr σ (σ ++ ext) g g O := ⟨by simp, fun _ _ => Eq.refl _, fun b hb _ => by rw [box_append, if_pos hb]⟩
theorem Fr.set {σ : Boxes} {g : Tag} {O : Nat × Nat × Nat → Prop} {b : Nat} {x : Option (List PV)} (hb : b < σ.length) (hO : O (g b)) : Fr σ (σ.set b x) g g O :=
  ⟨by simp, fun _ _ => Eq.refl _, fun i hi hn => by rw [box_set hb, if_neg fun e => hn (by subst e; exact hO)]⟩
/-- New tags for new boxes. -/
def newTag (g : Tag) (n : Nat) (l : List (Nat × Nat × Nat)) : Tag := fun b => if b < n then g b else l.getD (b - n) (0, 0, 0)
theorem newTag_old {g : Tag} {n : Nat} {l : List (Nat × Nat × Nat)} {b : Nat} (h : b < n) : newTag g n l b = g b := if_pos h
theorem newTag_new {g : Tag} {n : Nat} {l : List (Nat × Nat × Nat)} {j : Nat} : newTag g n l (n + j) = l.getD j (0, 0, 0) := by
  unfold newTag
  rw [if_neg (by omega)]
  congr 1; omega

structure StoreAt (σ : Boxes) (g : Tag) (o : Nat × Nat) (s z : Nat) (cells : List PV) (rows : List Int) : Prop where
  ex : ∃ (v r m : Nat) (ks : List Int), box σ s = some [.osl v z 0 rows.length, .osl r 1 0 rows.length, .mref m] ∧ box σ v = some cells ∧ box σ r = some (rows.map kI) ∧ box σ m = some [.tup (ks.map kI), .tup ((ks.map (idxI rows)).map kI)] ∧
    ks.Nodup ∧ (∀ x, x ∈ ks ↔ x ∈ rows) ∧ g s = (o.1, o.2, 0) ∧ g v = (o.1, o.2, 1) ∧ g r = (o.1, o.2, 2) ∧ g m = (o.1, o.2, 3)
  nd : rows.Nodup
  im : cells.all PV.immB = true
abbrev OfS (o : Nat × Nat) : Nat × Nat × Nat → Prop := fun t => t.1 = o.1 ∧ t.2.1 = o.2
theorem StoreAt.frame {σ τ : Boxes} {g g' : Tag} {O : Nat × Nat × Nat → Prop} {o : Nat × Nat} {s z : Nat} {cells : List PV} {rows : List Int} (h : StoreAt σ g o s z cells rows) (hf : Fr σ τ g g' O) (hO : ∀ p, ¬ O (o.1, o.2, p)) : StoreAt τ g' o s z cells rows := by
  obtain ⟨⟨v, r, m, ks, h1, h2, h3, h4, h5, h6, g1, g2, g3, g4⟩, h7, h8⟩ := h
  refine ⟨⟨v, r, m, ks, hf.box h1 (by rw [g1]; exact hO _), hf.box h2 (by rw [g2]; exact hO _), hf.box h3 (by rw [g3]; exact hO _), hf.box h4 (by rw [g4]; exact hO _), h5, h6, ?_, ?_, ?_, ?_⟩, h7, h8⟩
  · rw [hf.tag h1]; exact g1
  · rw [hf.tag h2]; exact g2
  · rw [hf.tag h3]; exact g3
  · rw [hf.tag h4]; exact g4

theorem idxI_app {rows : List Int} {n x : Int} (h : x ∈ rows) : idxI (rows ++ [n]) x = idxI rows x := by
  unfold idxI
  rw [List.findIdx_append, if_pos]
  rw [List.findIdx_lt_length]
  exact ⟨x, h, by simp⟩
theorem idxI_new {rows : List Int} {n : Int} (h : n ∉ rows) : idxI (rows ++ [n]) n = (rows.length : Int) := by
  unfold idxI
  rw [List.findIdx_append]
  have : rows.findIdx (fun y => decide (y = n)) = rows.length := by
    rw [List.findIdx_eq_length]
    intro x hx
    simpa using fun e => h (by rw [← e]; exact hx)
  rw [this]; simp

/-- A new store. -/
theorem newL {P : Program} {f : FuncId} {z : Nat} {σ : Boxes} {g : Tag} {o : Nat × Nat} (hF : FnD P f [] [] (.ptr 0 0) [some [.osl 2 z 0 0, .osl 3 1 0 0, .mref 1], some [.tup [], .tup []], some [], some []]) :
    ∃ τ g', FnL P f [] σ (fun p τ' => p = .ptr σ.length 0 ∧ τ' = τ) ∧ StoreAt τ g' o σ.length z [] [] ∧ Fr σ τ g g' (fun _ => False) ∧ (∀ b, b < σ.length → Am.box τ b = Am.box σ b) ∧ τ.length = σ.length + 4 := by
  have hth : ∀ j, thF [] σ.length j = σ.length + j := fun j => by simp [thF]
  have hL := fnl_fnd (σ := σ) (args := []) (r2 := .ptr σ.length 0) [] hF (by simp) (by simp [hth]) rfl (by simp) (by simp) trivial
  have hm : merge σ [] [some [.osl 2 z 0 0, .osl 3 1 0 0, .mref 1], some [.tup [], .tup []], some [], some []] = σ ++ [some [.osl (σ.length + 2) z 0 0, .osl (σ.length + 3) 1 0 0, .mref (σ.length + 1)], some [.tup [], .tup []], some [], some []] := by
    simp [merge, setAll, hth]
  rw [hm] at hL
  have hb : ∀ j, Am.box (σ ++ [some [.osl (σ.length + 2) z 0 0, .osl (σ.length + 3) 1 0 0, .mref (σ.length + 1)], some [.tup [], .tup []], some [], some []]) (σ.length + j) = Am.box [some [.osl (σ.length + 2) z 0 0, .osl (σ.length + 3) 1 0 0, .mref (σ.length + 1)], some [.tup [], .tup []], some [], some []] j := fun j => by
    rw [box_append, if_neg (by omega)]; congr 1; omega
  refine ⟨_, newTag g σ.length [(o.1, o.2, 0), (o.1, o.2, 3), (o.1, o.2, 1), (o.1, o.2, 2)], hL, ⟨⟨σ.length + 2, σ.length + 3, σ.length + 1, [], ?_, ?_, ?_, ?_, List.nodup_nil, by simp, ?_, ?_, ?_, ?_⟩, List.nodup_nil, rfl⟩, ⟨by simp, fun b hb => newTag_old hb, fun b hb _ => by rw [box_append, if_pos hb]⟩, fun b hb => by rw [box_append, if_pos hb], by simp⟩
  · exact hb 0
  · rw [hb]; rfl
  · rw [hb]; rfl
  · rw [hb]; rfl
  · have := newTag_new (g := g) (n := σ.length) (l := [(o.1, o.2, 0), (o.1, o.2, 3), (o.1, o.2, 1), (o.1, o.2, 2)]) (j := 0)
    rw [Nat.add_zero] at this; rw [this]; rfl
  · rw [newTag_new]; rfl
  · rw [newTag_new]; rfl
  · rw [newTag_new]; rfl

set_option maxHeartbeats 1000000 in
/-- A value for a new slot. -/
theorem putL {P : Program} {f : FuncId} {z : Nat} {σ : Boxes} {g : Tag} {o : Nat × Nat} {s : Nat} {cells cells2 : List PV} {rows : List Int} {n : Int} {tail : List PV} (hS : StoreAt σ g o s z cells rows) (hn : n ∉ rows) (ht : ∀ θ, renL θ tail = tail) (ht2 : ∀ n, ltL n tail = true) (hc2 : cells2.all PV.immB = true)
    (hF : ∀ ks is : List Int, n ∉ ks → FnD P f (.ptr 0 0 :: tail) [[.osl 1 z 0 rows.length, .osl 2 1 0 rows.length, .mref 3], cells, rows.map kI, [.tup (ks.map kI), .tup (is.map kI)]] (kI 0)
      [some [.osl 4 z 0 (rows.length + 1), .osl 5 1 0 (rows.length + 1), .mref 3], none, none, some [.tup ((ks ++ [n]).map kI), .tup ((is ++ [(rows.length : Int)]).map kI)], some cells2, some ((rows ++ [n]).map kI)]) :
    ∃ τ g', FnL P f (.ptr s 0 :: tail) σ (fun p τ' => p = kI 0 ∧ τ' = τ) ∧ StoreAt τ g' o s z cells2 (rows ++ [n]) ∧ Fr σ τ g g' (OfS o) := by
  obtain ⟨⟨v, r, m, ks, h1, h2, h3, h4, h5, h6, g1, g2, g3, g4⟩, h7, h8⟩ := hS
  have hnk : n ∉ ks := fun h => hn ((h6 n).1 h)
  have hsv : s ≠ v := fun e => by rw [e, g2] at g1; simp at g1
  have hsr : s ≠ r := fun e => by rw [e, g3] at g1; simp at g1
  have hsm : s ≠ m := fun e => by rw [e, g4] at g1; simp at g1
  have hvr : v ≠ r := fun e => by rw [e, g3] at g2; simp at g2
  have hvm : v ≠ m := fun e => by rw [e, g4] at g2; simp at g2
  have hrm : r ≠ m := fun e => by rw [e, g4] at g3; simp at g3
  have hnd : [s, v, r, m].Nodup := by simp [hsv, hsr, hsm, hvr, hvm, hrm]
  have t0 : thF [s, v, r, m] σ.length 0 = s := by simp [thF]
  have t1 : thF [s, v, r, m] σ.length 1 = v := by simp [thF]
  have t2 : thF [s, v, r, m] σ.length 2 = r := by simp [thF]
  have t3 : thF [s, v, r, m] σ.length 3 = m := by simp [thF]
  have t4 : thF [s, v, r, m] σ.length 4 = σ.length := by simp [thF]
  have t5 : thF [s, v, r, m] σ.length 5 = σ.length + 1 := by simp [thF]
  have hL := fnl_fnd (σ := σ) (args := .ptr s 0 :: tail) (r2 := kI 0) [s, v, r, m] (hF ks (ks.map (idxI rows)) hnk) (by simp only [renL, PV.ren, t0]; rw [ht]) (by simp) rfl hnd
    (by simp only [ltL]; rw [ht2]; simp) ⟨⟨by rw [h1]; simp [t1, t2, t3], by simp⟩, ⟨by rw [h2, imms_ren h8], imms_lt h8 _⟩, ⟨by rw [h3]; simp, by simp⟩, ⟨by rw [h4]; simp only [renL, PV.ren, ints_ren], by simp only [ltL, PV.lt, ints_lt]; rfl⟩, trivial⟩
  have hTl : ∀ t ∈ [s, v, r, m], t < σ.length := fun t ht => by
    simp only [List.mem_cons, List.not_mem_nil, or_false] at ht
    rcases ht with rfl | rfl | rfl | rfl
    · exact box_lt h1
    · exact box_lt h2
    · exact box_lt h3
    · exact box_lt h4
  obtain ⟨σ', hσ'⟩ : ∃ σ', [some [.osl 4 z 0 (rows.length + 1), .osl 5 1 0 (rows.length + 1), .mref 3], none, none, some [.tup ((ks ++ [n]).map kI), .tup ((ks.map (idxI rows) ++ [(rows.length : Int)]).map kI)], some cells2, some ((rows ++ [n]).map kI)] = (σ' : Boxes) := ⟨_, rfl⟩
  rw [hσ'] at hL
  have hl' : σ'.length = 6 := by rw [← hσ']; rfl
  have hmg := boxM (σ := σ) (σ' := σ') hnd hTl (by rw [hl']; simp)
  have hkm : (ks ++ [n]).map (idxI (rows ++ [n])) = ks.map (idxI rows) ++ [(rows.length : Int)] := by
    rw [List.map_append, List.map_cons, List.map_nil, idxI_new hn]
    congr 1
    exact List.map_congr_left fun x hx => idxI_app ((h6 x).1 hx)
  refine ⟨merge σ [s, v, r, m] σ', newTag g σ.length [(o.1, o.2, 1), (o.1, o.2, 2)], hL, ⟨⟨σ.length, σ.length + 1, m, ks ++ [n], ?_, ?_, ?_, ?_, ?_, ?_, ?_, ?_, ?_, ?_⟩, ?_, hc2⟩, ⟨?_, fun b hb => newTag_old hb, fun b hb hO => ?_⟩⟩
  · rw [(hmg s).1 0 rfl, ← hσ']
    simp [box, t3, t4, t5]
  · rw [(hmg σ.length).2.2 0 rfl, ← hσ']
    simp [box, imms_ren hc2]
  · rw [(hmg (σ.length + 1)).2.2 1 rfl, ← hσ']
    simp [box, -List.map_append]
  · rw [(hmg m).1 3 rfl, ← hσ', hkm]
    simp [box, -List.map_append]
  · exact List.nodup_append.2 ⟨h5, by simp, fun a ha b hb e => hnk (by simp at hb; rw [← hb, ← e]; exact ha)⟩
  · intro x; simp [h6 x]
  · rw [newTag_old (box_lt h1)]; exact g1
  · have := newTag_new (g := g) (n := σ.length) (l := [(o.1, o.2, 1), (o.1, o.2, 2)]) (j := 0)
    rw [Nat.add_zero] at this; rw [this]; rfl
  · rw [newTag_new]; rfl
  · rw [newTag_old (box_lt h4)]; exact g4
  · exact List.nodup_append.2 ⟨h7, by simp, fun a ha b hb e => hn (by simp at hb; rw [← hb, ← e]; exact ha)⟩
  · rw [mergeM_len, hl']; simp
  · refine (hmg b).2.1 (fun hm => hO ?_) hb
    simp only [List.mem_cons, List.not_mem_nil, or_false] at hm
    rcases hm with rfl | rfl | rfl | rfl
    · rw [g1]; exact ⟨rfl, rfl⟩
    · rw [g2]; exact ⟨rfl, rfl⟩
    · rw [g3]; exact ⟨rfl, rfl⟩
    · rw [g4]; exact ⟨rfl, rfl⟩

theorem putE_L {σ : Boxes} {g : Tag} {o : Nat × Nat} {s : Nat} {es : List GEnt} {rows : List Int} (hS : StoreAt σ g o s 2 (es.map GEnt.e).flatten rows) (n : Int) (e : GEnt) (hn : 0 ≤ n ∧ n < 256) (hk : n ∉ rows) (hl : es.length = rows.length) (hl2 : rows.length ≤ 1000000) :
    ∃ τ g', FnL Tryz.prog 139 [.ptr s 0, kI n, .agg e.e] σ (fun p τ' => p = kI 0 ∧ τ' = τ) ∧ StoreAt τ g' o s 2 ((es ++ [e]).map GEnt.e).flatten (rows ++ [n]) ∧ Fr σ τ g g' (OfS o) := by
  refine putL hS hk (by simp) (by simp) (flat_imm GEnt.e_imm _) fun ks is hk2 => ?_
  have := ColPutE_new es rows ks is n e hn hk2 hl hl2
  rw [hl] at this
  exact this
theorem putI_L {σ : Boxes} {g : Tag} {o : Nat × Nat} {s : Nat} {vs : List (List Int)} {rows : List Int} (hS : StoreAt σ g o s 1 (slsI vs) rows) (n : Int) (v : List Int) (hn : 0 ≤ n ∧ n < 256) (hk : n ∉ rows) (hl : vs.length = rows.length) (hl2 : rows.length ≤ 1000000) :
    ∃ τ g', FnL Tryz.prog 140 [.ptr s 0, kI n, slI v] σ (fun p τ' => p = kI 0 ∧ τ' = τ) ∧ StoreAt τ g' o s 1 (slsI (vs ++ [v])) (rows ++ [n]) ∧ Fr σ τ g g' (OfS o) := by
  refine putL hS hk (by simp) (by simp) (slsI_imm _) fun ks is hk2 => ?_
  have := ColPutI_new vs rows ks is n v hn hk2 hl hl2
  rw [hl] at this
  exact this
end Go.Proofs.YtidhdlhblhbahaaGreat.Am
