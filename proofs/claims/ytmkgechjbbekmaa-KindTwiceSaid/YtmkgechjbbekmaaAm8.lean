/- The machine of values: append, make and slice literals. -/
import Derived.Test.YtmkgechjbbekmaaAm7
set_option linter.unusedVariables false
set_option linter.unusedSimpArgs false
namespace Go.Proofs.Ytmkgechjbbekmaa.Am
open Go Go.RowKit

section
variable {P : Program} {w : World}

/-- What is appended: m elements, their cells 'news'. -/
structure Src (P : Program) (w : World) (z : Nat) (t2 : TypeId) (x : Value) (m : Nat) (news : List Value) : Prop where
  d : (∃ e', P.underlying t2 = some (.slice e')) ∨ P.underlying t2 = some .string
  len : (Builtin.lenOf x).run P w = .ok m w
  cells : (Builtin.firstCells z m x).run P w = .ok news.toArray w
  cellsd : (Builtin.firstCells z m x).run P w.drew = .ok news.toArray w.drew

theorem run_app_room {t t2 ty e : TypeId} {i : TypeInfo} (ht : P.underlying t = some (.slice e)) (hi : P.info? e = some i) {x : Value} {m : Nat} {news : List Value} (hx : Src P w i.size t2 x m news)
    {blk sLen sCap : Nat} (hroom : sLen + m ≤ sCap) (hc : ∀ j, j < news.length → (w.cell? ⟨blk, sLen * i.size + j, none⟩).isSome = true) (hf : ∀ j, j < news.length → w.frozen? ⟨blk, sLen * i.size + j, none⟩ = false) (h1 : ∀ v ∈ news, v.oneCell' = true) :
    (Builtin.append_ #[t, t2] ty #[.slice (some ⟨blk, 0, none⟩) sLen sCap, x]).run P w = .ok (.slice (some ⟨blk, 0, none⟩) (sLen + m) sCap) (w.setCells blk (sLen * i.size) news) := by
  obtain ⟨hd, hl, hcl, _⟩ := hx
  have hst := run_storeCells_cells (P := P) blk (sLen * i.size) news 0 w (by simpa using hc) (by simpa using hf) h1
  simp only [Nat.add_zero] at hst
  rcases hd with ⟨e', hd⟩ | hd
  · simp [Builtin.append_, run_underlying ht, run_underlying hd, sizeOf, typeInfo, hi, hl, hroom, hcl, add_at, hst]
  · simp [Builtin.append_, run_underlying ht, run_underlying hd, sizeOf, typeInfo, hi, hl, hroom, hcl, add_at, hst]

theorem run_app_zero {t t2 ty e : TypeId} {i : TypeInfo} (ht : P.underlying t = some (.slice e)) (hi : P.info? e = some i) {x : Value} {news : List Value} (hx : Src P w i.size t2 x 0 news) (hn : news = []) {a : Option Addr} :
    (Builtin.append_ #[t, t2] ty #[.slice a 0 0, x]).run P w = .ok (.slice a 0 0) w := by
  obtain ⟨hd, hl, hcl, _⟩ := hx
  subst hn
  rcases hd with ⟨e', hd⟩ | hd
  · cases a <;> simp [Builtin.append_, run_underlying ht, run_underlying hd, sizeOf, typeInfo, hi, hl, hcl, storeCells]
  · cases a <;> simp [Builtin.append_, run_underlying ht, run_underlying hd, sizeOf, typeInfo, hi, hl, hcl, storeCells]

theorem run_app_grow {t t2 ty e : TypeId} {i : TypeInfo} {zv : Value} (ht : P.underlying t = some (.slice e)) (hi : P.info? e = some i) (hz : i.zero = some zv) {x : Value} {m : Nat} {news : List Value} (hx : Src P w i.size t2 x m news)
    {a : Option Addr} {sLen sCap : Nat} {olds : List Value} (ho : (Builtin.firstCells i.size sLen (.slice a sLen sCap)).run P w.drew = .ok olds.toArray w.drew)
    (hg : sCap < sLen + m) (h63 : sLen + m ≤ maxLen) (hb : (sLen + m) * i.bytes ≤ 140737488355328) :
    (Builtin.append_ #[t, t2] ty #[.slice a sLen sCap, x]).run P w =
      .ok (.slice (some ⟨w.heap.size, 0, none⟩) (sLen + m) (grownCap w (sLen + m) sCap e)) (w.drew.alloc (.cells (olds ++ news ++ (Builtin.zeroCells zv.cells (grownCap w (sLen + m) sCap e - (sLen + m))).toList).toArray e)) := by
  obtain ⟨hd, hl, hcl, hcd⟩ := hx
  have hn : ¬ (sLen + m ≤ sCap) := by omega
  have hsmall : sLen + m ≤ 9223372036854775807 := by simp only [maxLen] at h63; omega
  have h63' : ¬ (9223372036854775807 < ((sLen : Int) + (m : Int))) := by omega
  have h48' : ¬ (281474976710656 < Builtin.nextslicecap (sLen + m) sCap * i.bytes) := by have := growslice_fits (old := sCap) hg hb; omega
  have hfin : Result.ok (Value.slice (some ⟨w.heap.size, 0, none⟩) (sLen + m) (grownCap w (sLen + m) sCap e)) (w.drew.alloc (.cells (olds.toArray ++ (news.toArray ++ Builtin.zeroCells zv.cells (grownCap w (sLen + m) sCap e - (sLen + m)))) e)) =
      Result.ok (Value.slice (some ⟨w.heap.size, 0, none⟩) (sLen + m) (grownCap w (sLen + m) sCap e)) (w.drew.alloc (.cells (olds ++ news ++ (Builtin.zeroCells zv.cells (grownCap w (sLen + m) sCap e - (sLen + m))).toList).toArray e)) := by
    congr 3
    apply Array.ext'
    simp [List.append_assoc]
  rw [← hfin]
  rcases hd with ⟨e', hd⟩ | hd
  · simp [Builtin.append_, run_underlying ht, run_underlying hd, sizeOf, typeInfo, zeroValue, hi, hz, hl, hn, h63', h48', Question.forced, hcd, ho, newRow, grownCap]
  · simp [Builtin.append_, run_underlying ht, run_underlying hd, sizeOf, typeInfo, zeroValue, hi, hz, hl, hn, h63', h48', Question.forced, hcd, ho, newRow, grownCap]
end

/-! ### In the machine -/
def srcPV (P : Program) (σ : Boxes) (z : Nat) (t2 : TypeId) : PV → Option (Nat × List PV)
  | .sl k rows => if k = z ∧ (elemOf P t2).isSome = true then some (rows.length, rows.flatten) else none
  | .osl b k off m => match box σ b with
    | some cs => if k = z ∧ (elemOf P t2).isSome = true ∧ off + m * z ≤ cs.length then some (m, (cs.drop off).take (m * z)) else none
    | none => none
  | .k (.slice none 0 0) => if (elemOf P t2).isSome = true then some (0, []) else none
  | .k (.string s) => if isStr P t2 = true ∧ z = 1 then some (s.size, s.data.toList.map fun c => .k (.int .u8 c.toNat)) else none
  | _ => none

def appendCore (P : Program) (σ : Boxes) (t t2 : TypeId) (p q : PV) : Option (Boxes × PV) :=
  match elemOf P t with
  | none => none
  | some e =>
    match szOf P e, bytesOf P e, zeroOf P e, p with
    | some z, some by_, some zs, .osl b k off len =>
      match box σ b, srcPV P σ z t2 q with
      | some cs, some (m, ps) =>
        if k = z ∧ 0 < z ∧ zs.length = z ∧ off = 0 ∧ cs.length = len * z ∧ (len + m) * by_ ≤ 140737488355328 ∧ len + m ≤ maxLen then
          some (σ.set b none ++ [some (cs ++ ps)], .osl σ.length z 0 (len + m)) else none
      | _, _ => none
    | _, _, _, _ => none

/-- A nil slice counts as an empty one of one's own. -/
def appendPV (P : Program) (σ : Boxes) (t t2 : TypeId) (p q : PV) : Option (Boxes × PV) :=
  match p with
  | .k (.slice none 0 0) => match elemOf P t with
    | some e => match szOf P e with
      | some z => appendCore P (σ ++ [some []]) t t2 (.osl σ.length z 0 0) q
      | none => none
    | none => none
  | p => appendCore P σ t t2 p q

section
variable {P : Program} {c : Ctx} {ι : Nat → Option Nat} {S : Nat → Prop} {s : St} {a : Act} {w : World} {n : Nat}

theorem row_cells (g : Nat → Value) (l : Nat) (rows : List PV) (hl : rows.length = l) (h1 : ∀ p ∈ rows, PV.one p = true) (h : ∀ j p, rows[j]? = some p → VRel n ι S w (g j) p) : Seg n ι S w ((List.range l).map g) rows :=
  ⟨by simp [hl], h1, fun j p hj => ⟨g j, by
    have := (List.getElem?_eq_some_iff.1 hj).1
    simp [show j < l by omega], h j p hj⟩⟩

theorem src_rel (hs : Store c ι S s.σ w) {z : Nat} {t2 : TypeId} {x : Value} {q : PV} {m : Nat} {ps : List PV} (hx : VRel s.σ.length ι S w x q) (h : srcPV P s.σ z t2 q = some (m, ps)) :
    ∃ news, Src P w z t2 x m news ∧ Seg s.σ.length ι S w news ps ∧ ps.length = m * z := by
  have key : ∀ (e : TypeId) (he : elemOf P t2 = some e), (∃ e', P.underlying t2 = some (.slice e')) ∨ P.underlying t2 = some .string := fun e he => .inl ⟨_, und_elemOf he⟩
  have hnil : ∀ (e : TypeId) (he : elemOf P t2 = some e) (a : Option Addr) (cap : Nat), Src P w z t2 (.slice a 0 cap) 0 [] := fun e he a cap => by
    refine ⟨key e he, by simp [Builtin.lenOf], ?_, ?_⟩ <;> cases a <;> simp [Builtin.firstCells, loadCells, loadCellsFrom]
  unfold srcPV at h
  split at h
  · rename_i k rows
    split at h
    · rename_i hc
      obtain ⟨rfl, hc2⟩ := hc
      obtain ⟨e, he⟩ := Option.isSome_iff_exists.1 hc2
      simp at h
      obtain ⟨rfl, rfl⟩ := h
      cases hx with
      | imm hx => cases hx with
        | sl g h1 h2 h3 h4 h5 h6 h7 h8 =>
          rename_i ad nn cap
          subst h1
          have hfl : rows.flatten.length = rows.length * k := flatten_len rows h4
          rcases Nat.eq_zero_or_pos rows.length with h0 | h0
          · have hr : rows = [] := List.eq_nil_of_length_eq_zero h0
            subst hr
            exact ⟨[], hnil e he ad cap, ⟨rfl, by simp, by simp⟩, by simp⟩
          · obtain ⟨b, o, rfl, hS, hg⟩ := h7 h0
            have hcells : ∀ (W : World), W.heap = w.heap → (Builtin.firstCells k rows.length (.slice (some ⟨b, o, none⟩) rows.length cap)).run P W = .ok ((List.range (rows.length * k)).map g).toArray W := fun W hW => by
              refine run_firstCells_some (P := P) W k rows.length ⟨b, o, none⟩ rows.length cap ((List.range (rows.length * k)).map g) (by simp) (fun j v hj => ?_)
              have hj' := (List.getElem?_eq_some_iff.1 hj).1
              simp at hj'
              simp [hj'] at hj
              subst hj
              rw [add_at]
              have := hg j hj'
              simpa [World.cell?, hW] using this
            refine ⟨_, ⟨key e he, by simp [Builtin.lenOf], hcells w rfl, hcells w.drew rfl⟩, row_cells g _ _ hfl (fun p hp => ?_) (fun j p hj => .imm (h8 j p hj)), hfl⟩
            obtain ⟨r, hr, hpr⟩ := List.mem_flatten.1 hp
            exact h5 r hr p hpr
    · simp at h
  · rename_i b k off m'
    split at h
    · rename_i cs hcs
      split at h
      · rename_i hc
        obtain ⟨rfl, hc2, hc3⟩ := hc
        obtain ⟨e, he⟩ := Option.isSome_iff_exists.1 hc2
        simp at h
        obtain ⟨rfl, rfl⟩ := h
        have hpl : ((cs.drop off).take (m' * k)).length = m' * k := by simp; omega
        cases hx with
        | imm hx => cases hx
        | osl0 h1 => exact ⟨[], hnil e he _ _, ⟨by simp, by simp, by simp⟩, hpl⟩
        | osl h1 h2 h3 h4 h5 h6 =>
          rename_i cap blk e' mm
          obtain ⟨blk', c', e'', hb', g1, g0, g2⟩ := (hs.boxes b cs hcs).resolve_left (fun hh => by rw [hh.1] at h4; simp at h4)
          rw [hb'] at h4; simp at h4; subst h4
          have hcl : ∀ j, j < cs.length → ∃ u, c'[j]? = some u ∧ ∀ p, cs[j]? = some p → VRel s.σ.length ι S w u p := fun j hj => by
            obtain ⟨u, hu, hr⟩ := g2 j _ (List.getElem?_eq_getElem hj)
            exact ⟨u, hu, fun p hp => by rw [List.getElem?_eq_getElem hj] at hp; simp at hp; subst hp; exact hr⟩
          have hcells : ∀ (W : World), W.heap = w.heap → (Builtin.firstCells k m' (.slice (some ⟨blk', off, none⟩) m' cap)).run P W = .ok ((List.range (m' * k)).map fun j => c'.getD (off + j) undef).toArray W := fun W hW => by
            refine run_firstCells_some (P := P) W k m' ⟨blk', off, none⟩ m' cap ((List.range (m' * k)).map fun j => c'.getD (off + j) undef) (by simp) (fun j v hj => ?_)
            have hj' := (List.getElem?_eq_some_iff.1 hj).1
            simp at hj'
            simp [hj'] at hj
            subst hj
            obtain ⟨u, hu, _⟩ := hcl (off + j) (by omega)
            rw [add_at]
            simp [World.cell?, hW, g1, hu, Array.getD_eq_getD_getElem?]
          refine ⟨_, ⟨key e he, by simp [Builtin.lenOf], hcells w rfl, hcells w.drew rfl⟩, row_cells _ _ _ hpl (fun p hp => g0 p (List.mem_of_mem_drop (List.mem_of_mem_take hp))) (fun j p hj => ?_), hpl⟩
          have hj' := (List.getElem?_eq_some_iff.1 hj).1
          rw [hpl] at hj'
          rw [List.getElem?_take_of_lt hj', List.getElem?_drop] at hj
          obtain ⟨u, hu, hr⟩ := hcl (off + j) (by omega)
          rw [Array.getD_eq_getD_getElem?, hu]
          exact hr p hj
      · simp at h
    · simp at h
  · split at h
    · rename_i hc2
      obtain ⟨e, he⟩ := Option.isSome_iff_exists.1 hc2
      simp at h
      obtain ⟨rfl, rfl⟩ := h
      obtain ⟨rfl, _⟩ := hx.k_inv
      exact ⟨[], hnil e he _ _, ⟨rfl, by simp, by simp⟩, by simp⟩
    · simp at h
  · rename_i str
    split at h
    · rename_i hc
      obtain ⟨h1, rfl⟩ := hc
      simp at h
      obtain ⟨rfl, rfl⟩ := h
      obtain ⟨rfl, _⟩ := hx.k_inv
      have hex : str.extract 0 str.size = str := ByteArray.extract_zero_size
      refine ⟨str.data.toList.map fun c => .int .u8 c.toNat, ⟨.inr (isStr_und h1), by simp [Builtin.lenOf], ?_, ?_⟩, ?_, by rw [List.length_map, Array.length_toList, Nat.mul_one]; rfl⟩
      · simp only [Builtin.firstCells, hex, Sem.run_pure]; congr 1; apply Array.ext'; simp
      · simp only [Builtin.firstCells, hex, Sem.run_pure]; congr 1; apply Array.ext'; simp
      · refine ⟨by simp, fun p hp => ?_, fun j p hj => ?_⟩
        · simp at hp; obtain ⟨b, _, rfl⟩ := hp; rfl
        · simp only [List.getElem?_map, Option.map_eq_some_iff] at hj ⊢
          obtain ⟨b, hb, rfl⟩ := hj
          exact ⟨_, ⟨b, hb, rfl⟩, kVR rfl⟩
    · simp at h
  · simp at h
end

end Go.Proofs.Ytmkgechjbbekmaa.Am
