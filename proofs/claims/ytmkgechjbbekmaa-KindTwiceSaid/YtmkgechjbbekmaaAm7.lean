/- The machine of values: operations that make or write memory. -/
import Derived.Test.YtmkgechjbbekmaaAm6
import Derived.Great.BuildSlice
import Derived.Laws.MakeOwn
set_option linter.unusedVariables false
set_option linter.unusedSimpArgs false
namespace Go.Proofs.Ytmkgechjbbekmaa.Am
open Go Go.RowKit

def zeroOf (P : Program) (t : TypeId) : Option (List Value) := ((P.info? t).bind (·.zero)).map (·.cells.toList)
def bytesOf (P : Program) (t : TypeId) : Option Nat := (P.info? t).map (·.bytes)
def placesOf (P : Program) (t : TypeId) : Option (List (Nat × Nat)) :=
  match P.underlying t with
  | some (.struct fs) => fs.toList.mapM fun f => (P.info? f.type).map fun i => (f.offset, i.size)
  | _ => none

def pcells : PV → List PV
  | .agg cs => cs
  | p => [p]
def PV.isTup : PV → Bool
  | .tup _ => true
  | _ => false

/-- Values one after the other. -/
structure Seg (n : Nat) (ι : Nat → Option Nat) (S : Nat → Prop) (w : World) (vs : List Value) (ps : List PV) : Prop where
  len : vs.length = ps.length
  one : ∀ p ∈ ps, PV.one p = true
  rel : ∀ (j : Nat) (p : PV), ps[j]? = some p → ∃ v : Value, vs[j]? = some v ∧ VRel n ι S w v p

section
variable {P : Program} {c : Ctx} {ι : Nat → Option Nat} {S : Nat → Prop} {s : St} {a : Act} {w : World} {n : Nat}

theorem Seg.ones {vs : List Value} {ps : List PV} (h : Seg n ι S w vs ps) : ∀ v ∈ vs, v.oneCell' = true := by
  intro v hv
  obtain ⟨j, hj, rfl⟩ := List.getElem_of_mem hv
  have hj' : j < ps.length := by rw [← h.len]; exact hj
  obtain ⟨u, hu, hr⟩ := h.rel j _ (List.getElem?_eq_getElem hj')
  rw [List.getElem?_eq_getElem hj] at hu
  simp at hu; subst hu
  exact hr.one (h.one _ (List.getElem_mem hj'))

theorem Seg.ks (l : List Value) (h : l.all scal = true) : Seg n ι S w l (l.map .k) :=
  ⟨by simp, fun p hp => by simp at hp; obtain ⟨v, _, rfl⟩ := hp; rfl, fun j p hj => by
    simp only [List.getElem?_map, Option.map_eq_some_iff] at hj
    obtain ⟨v, hv, rfl⟩ := hj
    exact ⟨v, hv, kVR (List.all_eq_true.1 h v (List.mem_of_getElem? hv))⟩⟩

theorem Seg.append {vs us : List Value} {ps qs : List PV} (h : Seg n ι S w vs ps) (k : Seg n ι S w us qs) : Seg n ι S w (vs ++ us) (ps ++ qs) :=
  ⟨by simp [h.len, k.len], fun p hp => by simp at hp; exact hp.elim (h.one p) (k.one p), fun j p hj => by
    rcases Nat.lt_or_ge j ps.length with hlt | hge
    · rw [List.getElem?_append_left hlt] at hj
      rw [List.getElem?_append_left (by rw [h.len]; exact hlt)]
      exact h.rel j p hj
    · rw [List.getElem?_append_right hge] at hj
      rw [List.getElem?_append_right (by rw [h.len]; exact hge), h.len]
      exact k.rel _ p hj⟩

theorem Seg.drop {vs : List Value} {ps : List PV} (h : Seg n ι S w vs ps) (m : Nat) : Seg n ι S w (vs.drop m) (ps.drop m) :=
  ⟨by simp [h.len], fun p hp => h.one p (List.mem_of_mem_drop hp), fun j p hj => by rw [List.getElem?_drop] at hj ⊢; exact h.rel _ p hj⟩
theorem Seg.take {vs : List Value} {ps : List PV} (h : Seg n ι S w vs ps) (m : Nat) : Seg n ι S w (vs.take m) (ps.take m) :=
  ⟨by simp [h.len], fun p hp => h.one p (List.mem_of_mem_take hp), fun j p hj => by
    rcases Nat.lt_or_ge j m with hlt | hge
    · rw [List.getElem?_take_of_lt hlt] at hj ⊢; exact h.rel _ p hj
    · rw [List.getElem?_eq_none (by simp; omega)] at hj; simp at hj⟩

theorem Seg.mono {n' : Nat} {ι' : Nat → Option Nat} {S' : Nat → Prop} {w' : World} (hm : ∀ v p, VRel n ι S w v p → VRel n' ι' S' w' v p) {vs : List Value} {ps : List PV} (h : Seg n ι S w vs ps) : Seg n' ι' S' w' vs ps :=
  ⟨h.len, h.one, fun j p hj => by obtain ⟨v, hv, hr⟩ := h.rel j p hj; exact ⟨v, hv, hm _ _ hr⟩⟩

theorem cells_one {v : Value} (h : v.oneCell' = true) : v.cells = #[v] := by
  cases v <;> simp_all [Value.cells, Value.oneCell']

theorem pcells_rel {v : Value} {p : PV} (h : VRel n ι S w v p) (hp : p.isTup = false) : Seg n ι S w v.cells.toList (pcells p) := by
  by_cases h1 : p.one = true
  · have hc := cells_one (h.one h1)
    have hq : pcells p = [p] := by cases p <;> simp_all [pcells, PV.one]
    rw [hc, hq]
    exact ⟨rfl, by simpa using h1, fun j q hj => by
      cases j with
      | zero => simp at hj; subst hj; exact ⟨v, rfl, h⟩
      | succ j => simp at hj⟩
  · cases p with
    | agg cs =>
      obtain ⟨vs, rfl, h2, h3, h4⟩ := agg_inv h
      exact ⟨by simpa [Value.cells, pcells] using h2, h3, fun j q hj => ⟨_, by
        have hlt := (List.getElem?_eq_some_iff.1 hj).1
        have : j < vs.size := by rw [h2]; exact hlt
        simp [Value.cells, Array.getD, this], h4 j q hj⟩⟩
    | tup ps => simp [PV.isTup] at hp
    | _ => simp [PV.one] at h1

/-! ### New boxes -/
theorem new_rel (hs : Store c ι S s.σ w) {vs : Array Value} {ps : List PV} (h : Seg s.σ.length ι S w vs.toList ps) (e : TypeId) :
    Store c (upd ι s.σ.length (some w.heap.size)) S (s.σ ++ [some ps]) (w.alloc (.cells vs e)) ∧ (∀ m v p, m ≤ s.σ.length → VRel m ι S w v p → VRel m (upd ι s.σ.length (some w.heap.size)) S (w.alloc (.cells vs e)) v p) :=
  hs.alloc h.one (fun j p hj => by obtain ⟨v, hv, hr⟩ := h.rel j p hj; exact ⟨v, by simpa using hv, hr⟩)

/-! ### Structs that are built -/
def fillPV (place : Nat → Option (Nat × Nat)) (cs : List PV) : List (Nat × PV) → Option (List PV)
  | [] => some cs
  | (i, p) :: rest =>
    match place i with
    | none => none
    | some (off, size) => if (pcells p).length = size ∧ off + size ≤ cs.length ∧ p.isTup = false then fillPV place (splice cs off (pcells p)) rest else none

theorem foldl_wr (off : Nat) : ∀ (l : List Value) (k : Nat) (cs : Array Value), (l.zipIdx k).foldl (fun cs x => cs.setIfInBounds (off + x.2) x.1) cs = wr cs (off + k) l
  | [], _, _ => rfl
  | v :: l, k, cs => by
    simp only [List.zipIdx_cons, List.foldl_cons, wr]
    rw [foldl_wr off l (k + 1)]
    rfl

theorem splice_seg {cs : Array Value} {ps qs : List PV} {us : List Value} {off : Nat} (h : Seg n ι S w cs.toList ps) (k : Seg n ι S w us qs) (hoff : off + qs.length ≤ ps.length) : Seg n ι S w (wr cs off us).toList (splice ps off qs) := by
  have hl := h.len
  have hl2 := k.len
  simp only [Array.length_toList] at hl
  refine ⟨by rw [splice_length _ _ _ hoff, Array.length_toList, wr_size, hl], fun p hp => ?_, fun j p hj => ?_⟩
  · simp only [splice, List.mem_append] at hp
    rcases hp with (hp | hp) | hp
    · exact h.one p (List.mem_of_mem_take hp)
    · exact k.one p hp
    · exact h.one p (List.mem_of_mem_drop hp)
  · rw [splice_get _ _ _ hoff] at hj
    rw [Array.getElem?_toList, wr_get _ _ _ _ (by omega)]
    by_cases hc : off ≤ j ∧ j < off + qs.length
    · rw [if_pos hc] at hj; rw [if_pos (by omega)]; exact k.rel _ p hj
    · rw [if_neg hc] at hj; rw [if_neg (by omega)]
      have := h.rel _ p hj
      simpa using this

theorem fill_rel (place : Nat → Option (Nat × Nat)) : ∀ (parts : List (Nat × PV)) (vparts : List (Nat × Value)) (cs : Array Value) (ps ps' : List PV),
    parts.length = vparts.length → (∀ (j i : Nat) (p : PV), parts[j]? = some (i, p) → ∃ v, vparts[j]? = some (i, v) ∧ VRel n ι S w v p) →
    Seg n ι S w cs.toList ps → fillPV place ps parts = some ps' → ∃ cs', Instr.fill place cs vparts = some cs' ∧ Seg n ι S w cs'.toList ps'
  | [], [], cs, ps, ps', _, _, hs, h => by simp [fillPV] at h; subst h; exact ⟨cs, rfl, hs⟩
  | [], _ :: _, _, _, _, hl, _, _, _ => by simp at hl
  | _ :: _, [], _, _, _, hl, _, _, _ => by simp at hl
  | (i, p) :: parts, (i', v) :: vparts, cs, ps, ps', hl, hp, hs, h => by
    obtain ⟨v', hv', hr⟩ := hp 0 i p rfl
    simp at hv'
    obtain ⟨rfl, rfl⟩ := hv'
    simp only [fillPV] at h
    cases hpl : place i' with
    | none => simp [hpl] at h
    | some os =>
      obtain ⟨off, size⟩ := os
      simp only [hpl] at h
      split at h
      · rename_i hc
        obtain ⟨c1, c2, c3⟩ := hc
        have hsg := pcells_rel hr c3
        have hsz : v.cells.size = size := by have := hsg.len; simp at this; omega
        have hcs : cs.size = ps.length := by have := hs.len; simpa using this
        have h2 := splice_seg hs hsg (off := off) (by omega)
        obtain ⟨cs', hf, hs'⟩ := fill_rel place parts vparts _ _ ps' (by simpa using hl) (fun j i q hj => hp (j + 1) i q hj) h2 h
        refine ⟨cs', ?_, hs'⟩
        simp only [Instr.fill, hpl]
        rw [if_neg (by simp [hsz]; omega)]
        have e : v.cells.zipIdx.foldl (fun cs (x : Value × Nat) => cs.setIfInBounds (off + x.2) x.1) cs = wr cs off v.cells.toList := by
          rw [← Array.foldl_toList, Array.toList_zipIdx]
          have := foldl_wr off v.cells.toList 0 cs
          simpa using this
        rw [← hf]
        congr 1
      · simp at h

def buildPV (P : Program) (t : TypeId) (parts : List (Nat × PV)) : Option PV :=
  match placesOf P t, zeroOf P t with
  | some pl, some zs => if zs.all scal = true then (fillPV (pl[·]?) (zs.map .k) parts).map .agg else none
  | _, _ => none

theorem zeroOf_some {t : TypeId} {zs : List Value} (h : zeroOf P t = some zs) : ∃ it z, P.info? t = some it ∧ it.zero = some z ∧ z.cells.toList = zs := by
  unfold zeroOf at h
  cases hi : P.info? t with
  | none => simp [hi] at h
  | some it =>
    cases hz : it.zero with
    | none => simp [hi, hz] at h
    | some z => simp [hi, hz] at h; exact ⟨it, z, rfl, hz, h⟩

theorem build_rel {t : TypeId} {parts : List (Nat × PV)} {vparts : Array (Nat × Value)} {p : PV} (hl : parts.length = vparts.toList.length)
    (hp : ∀ (j i : Nat) (p : PV), parts[j]? = some (i, p) → ∃ v, vparts.toList[j]? = some (i, v) ∧ VRel n ι S w v p) (h : buildPV P t parts = some p) :
    ∃ v, (Instr.build t vparts).run P w = .ok v w ∧ VRel n ι S w v p := by
  unfold buildPV at h
  split at h
  · rename_i pl zs hpl hzs
    split at h
    · rename_i hsc
      simp only [Option.map_eq_some_iff] at h
      obtain ⟨ps', hf, rfl⟩ := h
      obtain ⟨it, z, hi, hz, rfl⟩ := zeroOf_some hzs
      unfold placesOf at hpl
      split at hpl
      · rename_i fs hu
        obtain ⟨cs', hfill, hseg⟩ := fill_rel (n := n) (ι := ι) (S := S) (w := w) (pl[·]?) parts vparts.toList z.cells _ ps' hl hp (Seg.ks _ hsc) hf
        have hb : P.built t vparts.toList = some cs' := by
          unfold Program.built
          simp only [hi, hu, hz, hpl]
          simpa using hfill
        refine ⟨_, run_build w t vparts cs' hb, .agg (by simpa using hseg.len) hseg.one (fun j p hj => ?_)⟩
        obtain ⟨v, hv, hr⟩ := hseg.rel j p hj
        rw [Array.getD_eq_getD_getElem?]
        rw [Array.getElem?_toList] at hv
        rw [hv]; exact hr
      · simp at hpl
    · simp at h
  · simp at h

/-! ### Stores -/
theorem storeVar_rel (hs : Store c ι S s.σ w) {t : TypeId} {z : Nat} (hz : szOf P t = some z) {b off : Nat} {cs : List PV} (hb : box s.σ b = some cs) {ad v : Value} {p : PV}
    (had : VRel s.σ.length ι S w ad (.ptr b off)) (hv : VRel s.σ.length ι S w v p) (hp : p.isTup = false) (hl : (pcells p).length = z) (hoff : off + z ≤ cs.length) :
    ∃ w', (Instr.storeAt t ad v).run P w = .ok () w' ∧ Store c ι S (s.σ.set b (some (splice cs off (pcells p)))) w' ∧ (∀ m v p, VRel m ι S w v p → VRel m ι S w' v p) := by
  cases had with
  | imm h => cases h
  | ptr hbn hblk =>
    rename_i blk
    have hsg := pcells_rel hv hp
    have hlen := hsg.len
    obtain ⟨blk', c', e, hb', g1, g0, g2⟩ := (hs.boxes b cs hb).resolve_left (fun hh => by rw [hh.1] at hblk; simp at hblk)
    rw [hb'] at hblk; simp at hblk; subst hblk
    have hcl : ∀ j, j < cs.length → ∃ u, c'[j]? = some u := fun j hj => by
      obtain ⟨u, hu, _⟩ := g2 j _ (List.getElem?_eq_getElem hj)
      exact ⟨u, hu⟩
    have hw := hs.write hb hb' (ps := pcells p) (vs := v.cells.toList) (off := off) (by omega) hlen hsg.one hsg.rel
    refine ⟨_, ?_, hw.1, hw.2⟩
    have hst := run_storeCells_cells (P := P) blk' off v.cells.toList 0 w (fun j hj => by
        obtain ⟨u, hu⟩ := hcl (off + 0 + j) (by omega)
        simp only [Nat.add_zero] at hu ⊢
        simp [World.cell?, g1, hu]) (fun j hj => by simp [World.frozen?, g1]) hsg.ones
    simp only [Nat.add_zero] at hst
    have hsz : v.cells.size = z := by simp at hlen; omega
    simp only [Instr.storeAt, Instr.sureAddr, Sem.run_bind, Sem.run_pure, Result.andThen_ok, storeVar, run_szOf w hz, hsz, ne_eq, not_true_eq_false, if_false, hst]
end

end Go.Proofs.Ytmkgechjbbekmaa.Am
