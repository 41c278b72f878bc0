/- A small machine of values for Go functions: values that are read, boxes that are written, and how the model's memory stands to them. -/
import Derived.Below
import Derived.Tactics
import Derived.RowKit3
import Derived.Orders
import Derived.Laws.IdiomCopy
import Derived.Laws.Cells
import Derived.Deep.Draws
set_option linter.unusedVariables false
set_option linter.unusedSimpArgs false
namespace Go.Proofs.Ytmkgechjbbekmaa.Am
open Go Go.RowKit

/-- Values of the machine: 'sl' a slice that nobody writes any more (nil and empty alike), 'osl' a slice into box b, 'ptr' a place in box b, 'eptr' a place in memory that nobody writes. -/
inductive PV where
  | k (v : Value)
  | sl (sz : Nat) (rows : List (List PV))
  | osl (b k off len : Nat)
  | ptr (b off : Nat)
  | eptr (cells : List PV)
  | clo (fn : Fn) (caps : List PV)
  | agg (cells : List PV)
  | tup (vs : List PV)

def scal : Value → Bool
  | .bool _ | .int _ _ | .string _ | .nilFunc | .nilIface | .pointer none | .slice none 0 0 | .map none => true
  | .func _ fs cs => fs.isEmpty && cs.isEmpty
  | _ => false

def PV.one : PV → Bool
  | .agg _ | .tup _ => false
  | _ => true

theorem scal_one {v : Value} (h : scal v = true) : v.oneCell' = true := by
  cases v <;> simp_all [scal, Value.oneCell']

/-- Memory that nobody writes: the blocks of S. -/
inductive IRel (S : Nat → Prop) (w : World) : Value → PV → Prop
  | k {v} : scal v = true → IRel S w v (.k v)
  | sl {sz : Nat} {rows : List (List PV)} {a : Option Addr} {n cap : Nat} (g : Nat → Value) :
      rows.length = n → n ≤ cap → cap ≤ maxLen → (∀ r ∈ rows, r.length = sz) → (∀ r ∈ rows, ∀ p ∈ r, PV.one p = true) →
      (a = none → cap = 0) →
      (0 < n → ∃ b o, a = some ⟨b, o, none⟩ ∧ S b ∧ ∀ j, j < n * sz → w.cell? ⟨b, o + j, none⟩ = some (g j)) →
      (∀ j p, rows.flatten[j]? = some p → IRel S w (g j) p) → IRel S w (.slice a n cap) (.sl sz rows)
  | eptr {cells : List PV} {b o : Nat} (g : Nat → Value) :
      S b → (∀ p ∈ cells, PV.one p = true) → (∀ j, j < cells.length → w.cell? ⟨b, o + j, none⟩ = some (g j)) →
      (∀ j p, cells[j]? = some p → IRel S w (g j) p) → IRel S w (.pointer (some ⟨b, o, none⟩)) (.eptr cells)
  | clo {fn : Fn} {vs : Array Value} {caps : List PV} : vs.size = caps.length → (∀ p ∈ caps, PV.one p = true) →
      (∀ j p, caps[j]? = some p → IRel S w (vs.getD j undef) p) → IRel S w (.func fn #[] vs) (.clo fn caps)
  | agg {vs : Array Value} {cells : List PV} : vs.size = cells.length → (∀ p ∈ cells, PV.one p = true) →
      (∀ j p, cells[j]? = some p → IRel S w (vs.getD j undef) p) → IRel S w (.agg vs) (.agg cells)
  | tup {vs : Array Value} {ps : List PV} : vs.size = ps.length →
      (∀ j p, ps[j]? = some p → IRel S w (vs.getD j undef) p) → IRel S w (.tuple vs) (.tup ps)

/-- Values that may lead into boxes: box i is block ι i, i < n. -/
inductive VRel (n : Nat) (ι : Nat → Option Nat) (S : Nat → Prop) (w : World) : Value → PV → Prop
  | imm {v p} : IRel S w v p → VRel n ι S w v p
  | osl {b sz off len cap blk : Nat} {e : TypeId} {m : Nat} : b < n → len ≤ cap → cap ≤ maxLen →
      ι b = some blk → w.shape? blk = some (e, m) → off + cap * sz ≤ m →
      VRel n ι S w (.slice (some ⟨blk, off, none⟩) len cap) (.osl b sz off len)
  | osl0 {b sz off : Nat} {a : Option Addr} : b < n → VRel n ι S w (.slice a 0 0) (.osl b sz off 0)
  | ptr {b off blk : Nat} : b < n → ι b = some blk → VRel n ι S w (.pointer (some ⟨blk, off, none⟩)) (.ptr b off)
  | clo {fn : Fn} {vs : Array Value} {caps : List PV} : vs.size = caps.length → (∀ p ∈ caps, PV.one p = true) →
      (∀ j p, caps[j]? = some p → VRel n ι S w (vs.getD j undef) p) → VRel n ι S w (.func fn #[] vs) (.clo fn caps)
  | agg {vs : Array Value} {cells : List PV} : vs.size = cells.length → (∀ p ∈ cells, PV.one p = true) →
      (∀ j p, cells[j]? = some p → VRel n ι S w (vs.getD j undef) p) → VRel n ι S w (.agg vs) (.agg cells)
  | tup {vs : Array Value} {ps : List PV} : vs.size = ps.length →
      (∀ j p, ps[j]? = some p → VRel n ι S w (vs.getD j undef) p) → VRel n ι S w (.tuple vs) (.tup ps)

theorem IRel.mono {S S' : Nat → Prop} {w w' : World} (hS : ∀ b, S b → S' b) (hc : ∀ b o, S b → w'.cell? ⟨b, o, none⟩ = w.cell? ⟨b, o, none⟩) {v : Value} {p : PV} (h : IRel S w v p) : IRel S' w' v p := by
  induction h with
  | k h => exact .k h
  | sl g h1 h2 h3 h4 h5 h6 h7 _ ih =>
    refine .sl g h1 h2 h3 h4 h5 h6 (fun hn => ?_) ih
    obtain ⟨b, o, e, hs, hg⟩ := h7 hn
    exact ⟨b, o, e, hS _ hs, fun j hj => (hc _ _ hs).trans (hg j hj)⟩
  | eptr g h1 h2 h3 _ ih => exact .eptr g (hS _ h1) h2 (fun j hj => (hc _ _ h1).trans (h3 j hj)) ih
  | clo h1 h2 _ ih => exact .clo h1 h2 ih
  | agg h1 h2 _ ih => exact .agg h1 h2 ih
  | tup h1 _ ih => exact .tup h1 ih

theorem VRel.mono {n n' : Nat} {ι ι' : Nat → Option Nat} {S S' : Nat → Prop} {w w' : World} (hn : n ≤ n') (hι : ∀ b, b < n → ι' b = ι b) (hS : ∀ b, S b → S' b)
    (hc : ∀ b o, S b → w'.cell? ⟨b, o, none⟩ = w.cell? ⟨b, o, none⟩) (hsh : ∀ b x, w.shape? b = some x → w'.shape? b = some x) {v : Value} {p : PV} (h : VRel n ι S w v p) : VRel n' ι' S' w' v p := by
  induction h with
  | imm h => exact .imm (h.mono hS hc)
  | osl h1 h2 h3 h4 h5 h6 => exact .osl (by omega) h2 h3 (by rw [hι _ h1]; exact h4) (hsh _ _ h5) h6
  | osl0 h => exact .osl0 (by omega)
  | ptr h h2 => exact .ptr (by omega) (by rw [hι _ h]; exact h2)
  | clo h1 h2 _ ih => exact .clo h1 h2 ih
  | agg h1 h2 _ ih => exact .agg h1 h2 ih
  | tup h1 _ ih => exact .tup h1 ih

theorem IRel.one {S : Nat → Prop} {w : World} {v : Value} {p : PV} (h : IRel S w v p) (hp : p.one = true) : v.oneCell' = true := by
  cases h <;> simp_all [PV.one, Value.oneCell']
  exact scal_one ‹_›
theorem VRel.one {n : Nat} {ι : Nat → Option Nat} {S : Nat → Prop} {w : World} {v : Value} {p : PV} (h : VRel n ι S w v p) (hp : p.one = true) : v.oneCell' = true := by
  cases h with
  | imm h => exact h.one hp
  | _ => simp_all [PV.one, Value.oneCell']

theorem IRel.und (S : Nat → Prop) (w : World) : IRel S w undef (.tup []) := .tup (by simp) (by simp)

/-! ### The state -/
structure Ctx where
  w0 : World
  M : Nat → Prop
  S0 : Nat → Prop
  k : Nat
  ι0 : Nat → Option Nat

abbrev Boxes := List (Option (List PV))

structure St where
  N : Nat
  T : List (Nat × PV)
  σ : Boxes
  k : Nat

def look : List (Nat × PV) → Nat → Option PV
  | [], _ => none
  | (j, p) :: r, i => if i = j then some p else look r i

def upd {α : Type} (f : Nat → α) (i : Nat) (x : α) : Nat → α := fun j => if j = i then x else f j

/-- Box i of σ is block ι i. -/
def box (σ : Boxes) (i : Nat) : Option (List PV) := (σ[i]?).join

structure Store (c : Ctx) (ι : Nat → Option Nat) (S : Nat → Prop) (σ : Boxes) (w : World) : Prop where
  os : w.os = c.w0.os
  tape : w.tape = c.w0.tape
  output : w.output = c.w0.output
  size : c.w0.heap.size ≤ w.heap.size
  old : ∀ b, b < c.w0.heap.size → ¬ c.M b → w.heap[b]? = c.w0.heap[b]?
  shape : ∀ b x, c.w0.shape? b = some x → w.shape? b = some x
  boxes : ∀ (i : Nat) (cs : List PV), box σ i = some cs → (ι i = none ∧ cs = []) ∨ ∃ (blk : Nat) (c' : Array Value) (e : TypeId), ι i = some blk ∧ w.heap[blk]? = some (.cells c' e (0, 0)) ∧ (∀ p ∈ cs, PV.one p = true) ∧ (∀ (j : Nat) (p : PV), cs[j]? = some p → ∃ v : Value, c'[j]? = some v ∧ VRel σ.length ι S w v p)
  notS : ∀ i cs blk, box σ i = some cs → ι i = some blk → ¬ S blk
  live : ∀ i cs blk, box σ i = some cs → ι i = some blk → c.M blk ∨ c.w0.heap.size ≤ blk
  inj : ∀ i j ci cj blk, box σ i = some ci → box σ j = some cj → ι i = some blk → ι j = some blk → i = j
  Slt : ∀ b, S b → b < w.heap.size
  S0 : ∀ b, c.S0 b → S b
  Snew : ∀ b, S b → c.S0 b ∨ c.M b ∨ c.w0.heap.size ≤ b
  klen : c.k ≤ σ.length
  kι : ∀ i, i < c.k → ι i = c.ι0 i

structure Rel (c : Ctx) (ι : Nat → Option Nat) (S : Nat → Prop) (s : St) (a : Act) (w : World) : Prop where
  st : Store c ι S s.σ w
  ck : c.k = s.k
  tsz : a.tmps.size = s.N
  defers : a.defers = []
  temps : ∀ t p, look s.T t = some p → VRel s.σ.length ι S w (a.tmps.getD t undef) p

/-! ### Worlds -/
theorem shape_alloc (w : World) (o : Obj) (b : Nat) (x : TypeId × Nat) (h : w.shape? b = some x) : (w.alloc o).shape? b = some x := by
  have hb : b < w.heap.size := by
    rcases Nat.lt_or_ge b w.heap.size with hh | hh
    · exact hh
    · simp [World.shape?, Array.getElem?_eq_none hh] at h
  simp only [World.shape?] at h ⊢
  rw [Below.heap_alloc _ _ _ hb]
  exact h

theorem cell_alloc (w : World) (o : Obj) (b q : Nat) (hb : b < w.heap.size) : (w.alloc o).cell? ⟨b, q, none⟩ = w.cell? ⟨b, q, none⟩ :=
  World.cell?_of_block (Below.heap_alloc _ _ _ hb)

theorem box_lt {σ : Boxes} {i : Nat} {cs : List PV} (h : box σ i = some cs) : i < σ.length := by
  rcases Nat.lt_or_ge i σ.length with hh | hh
  · exact hh
  · simp [box, List.getElem?_eq_none hh] at h

theorem box_push {σ : Boxes} {x : Option (List PV)} {i : Nat} : box (σ ++ [x]) i = if i = σ.length then x else box σ i := by
  unfold box
  by_cases h : i = σ.length
  · subst h; simp
  · rw [if_neg h]
    rcases Nat.lt_or_ge i σ.length with hh | hh
    · rw [List.getElem?_append_left hh]
    · rw [List.getElem?_eq_none hh, List.getElem?_eq_none (by simp; omega)]

theorem box_set {σ : Boxes} {b : Nat} {x : Option (List PV)} {i : Nat} (hb : b < σ.length) : box (σ.set b x) i = if i = b then x else box σ i := by
  unfold box
  by_cases h : i = b
  · subst h; simp [hb]
  · rw [if_neg h, List.getElem?_set_ne (fun e => h e.symm)]

/-- A draw changes nothing. -/
theorem VRel.drew {n : Nat} {ι : Nat → Option Nat} {S : Nat → Prop} {w : World} {v : Value} {p : PV} (h : VRel n ι S w v p) : VRel n ι S w.drew v p :=
  VRel.mono (w := w) (w' := w.drew) (Nat.le_refl _) (fun _ _ => rfl) (fun _ h => h) (fun _ _ _ => rfl) (fun _ _ h => h) h

theorem Store.drew {c : Ctx} {ι : Nat → Option Nat} {S : Nat → Prop} {σ : Boxes} {w : World} (h : Store c ι S σ w) : Store c ι S σ w.drew :=
  ⟨h.os, h.tape, h.output, h.size, h.old, h.shape, fun i cs hi => by
    rcases h.boxes i cs hi with h' | ⟨blk, c', e, hb, h1, h0, h2⟩
    · exact .inl h'
    · exact .inr ⟨blk, c', e, hb, h1, h0, fun j p hj => by obtain ⟨v, hv1, hv2⟩ := h2 j p hj; exact ⟨v, hv1, hv2.drew⟩⟩, h.notS, h.live, h.inj, h.Slt, h.S0, h.Snew, h.klen, h.kι⟩

/-- A new block that becomes a new box. -/
theorem Store.alloc {c : Ctx} {ι : Nat → Option Nat} {S : Nat → Prop} {σ : Boxes} {w : World} (h : Store c ι S σ w) {cs : List PV} {vs : Array Value} {e : TypeId}
    (h1 : ∀ p ∈ cs, PV.one p = true) (h2 : ∀ (j : Nat) (p : PV), cs[j]? = some p → ∃ v : Value, vs[j]? = some v ∧ VRel σ.length ι S w v p) :
    Store c (upd ι σ.length (some w.heap.size)) S (σ ++ [some cs]) (w.alloc (.cells vs e)) ∧ (∀ m v p, m ≤ σ.length → VRel m ι S w v p → VRel m (upd ι σ.length (some w.heap.size)) S (w.alloc (.cells vs e)) v p) := by
  have hv : ∀ m v p, m ≤ σ.length → VRel m ι S w v p → VRel m (upd ι σ.length (some w.heap.size)) S (w.alloc (.cells vs e)) v p := fun m v p hm hh =>
    hh.mono (Nat.le_refl _) (fun b hb => by simp [upd]; omega) (fun _ h => h) (fun b o hb => cell_alloc _ _ _ _ (h.Slt b hb)) (fun b x hx => shape_alloc _ _ _ _ hx)
  have hv' : ∀ v p, VRel σ.length ι S w v p → VRel (σ ++ [some cs]).length (upd ι σ.length (some w.heap.size)) S (w.alloc (.cells vs e)) v p := fun v p hh =>
    (hv _ v p (Nat.le_refl _) hh).mono (by simp) (fun _ _ => rfl) (fun _ h => h) (fun _ _ _ => rfl) (fun _ _ h => h)
  have hb : ∀ i cs' blk, box σ i = some cs' → ι i = some blk → blk < w.heap.size := fun i cs' blk hi hblk => by
    rcases h.boxes i cs' hi with ⟨h', _⟩ | ⟨blk', c', e', hb', g1, _⟩
    · rw [h'] at hblk; simp at hblk
    · rw [hb'] at hblk; simp at hblk; subst hblk; exact (Array.getElem?_eq_some_iff.1 g1).1
  refine ⟨⟨h.os, h.tape, h.output, by have := h.size; simp; omega, fun b hb hM => ?_, fun b x hx => shape_alloc _ _ _ _ (h.shape b x hx), ?_, ?_, ?_, ?_, fun b hb => by have := h.Slt b hb; simp; omega, h.S0, h.Snew, by have := h.klen; simp; omega, fun i hi => ?_⟩, hv⟩
  · rw [Below.heap_alloc _ _ _ (by have := h.size; omega)]; exact h.old b hb hM
  · intro i cs' hi
    rw [box_push] at hi
    by_cases e1 : i = σ.length
    · subst e1
      simp at hi
      subst hi
      refine .inr ⟨w.heap.size, vs, e, by simp [upd], heap_alloc_new w (Obj.cells vs e), h1, fun j p hj => ?_⟩
      obtain ⟨v, hv1, hv2⟩ := h2 j p hj
      exact ⟨v, hv1, hv' _ _ hv2⟩
    · rw [if_neg e1] at hi
      rcases h.boxes i cs' hi with ⟨h', h''⟩ | ⟨blk, c', e', hb', g1, g0, g2⟩
      · exact .inl ⟨by simp [upd, e1, h'], h''⟩
      · refine .inr ⟨blk, c', e', by simp [upd, e1, hb'], ?_, g0, fun j p hj => ?_⟩
        · rw [Below.heap_alloc _ _ _ (Array.getElem?_eq_some_iff.1 g1).1]
          exact g1
        · obtain ⟨v, hv1, hv2⟩ := g2 j p hj
          exact ⟨v, hv1, hv' _ _ hv2⟩
  · intro i cs' blk hi hblk
    rw [box_push] at hi
    by_cases e1 : i = σ.length
    · subst e1; simp [upd] at hblk; subst hblk; intro hs; have := h.Slt _ hs; omega
    · rw [if_neg e1] at hi; simp [upd, e1] at hblk; exact h.notS i cs' blk hi hblk
  · intro i cs' blk hi hblk
    rw [box_push] at hi
    by_cases e1 : i = σ.length
    · subst e1; simp [upd] at hblk; subst hblk; exact .inr h.size
    · rw [if_neg e1] at hi; simp [upd, e1] at hblk; exact h.live i cs' blk hi hblk
  · intro i j ci cj blk hi hj hbi hbj
    rw [box_push] at hi hj
    by_cases e1 : i = σ.length <;> by_cases e2 : j = σ.length
    · omega
    · rw [if_neg e2] at hj; simp [upd, e1, e2] at hbi hbj; have := hb j cj blk hj hbj; omega
    · rw [if_neg e1] at hi; simp [upd, e1, e2] at hbi hbj; have := hb i ci blk hi hbi; omega
    · rw [if_neg e1] at hi; rw [if_neg e2] at hj; simp [upd, e1, e2] at hbi hbj; exact h.inj i j ci cj blk hi hj hbi hbj
  · have := h.klen
    simp only [upd]; rw [if_neg (by omega)]; exact h.kι i hi

def wr (c : Array Value) (o : Nat) : List Value → Array Value
  | [] => c
  | v :: r => wr (c.setIfInBounds o v) (o + 1) r

theorem wr_size (vs : List Value) : ∀ (c : Array Value) (o : Nat), (wr c o vs).size = c.size := by
  induction vs with
  | nil => intro c o; rfl
  | cons v r ih => intro c o; simp [wr, ih]

theorem wr_get (vs : List Value) : ∀ (c : Array Value) (o j : Nat), o + vs.length ≤ c.size → (wr c o vs)[j]? = if o ≤ j ∧ j < o + vs.length then vs[j - o]? else c[j]? := by
  induction vs with
  | nil => intro c o j _; simp [wr]; omega
  | cons v r ih =>
    intro c o j h
    simp only [List.length_cons] at h
    rw [wr, ih _ _ _ (by simp; omega)]
    by_cases h1 : o + 1 ≤ j ∧ j < o + 1 + r.length
    · rw [if_pos h1, if_pos (by simp; omega), show j - o = (j - (o + 1)) + 1 by omega]; simp
    · rw [if_neg h1]
      by_cases h2 : j = o
      · subst h2; rw [if_pos (by simp)]; simp [Array.getElem?_setIfInBounds]; omega
      · rw [if_neg (by simp; omega), Array.getElem?_setIfInBounds_ne (by omega)]

theorem heap_setCells_same (b : Nat) : ∀ (vs : List Value) (o : Nat) (w : World) (c' : Array Value) (e : TypeId) (fr : Nat × Nat), w.heap[b]? = some (.cells c' e fr) → (w.setCells b o vs).heap[b]? = some (.cells (wr c' o vs) e fr)
  | [], _, _, _, _, _, h => h
  | v :: r, o, w, c', e, fr, h => by
    rw [World.setCells, wr]
    refine heap_setCells_same b r (o + 1) _ _ e fr ?_
    simp [World.setCell, Array.getElem?_modify, h]

theorem heap_setCells_other (b k : Nat) (hk : k ≠ b) : ∀ (vs : List Value) (o : Nat) (w : World), (w.setCells b o vs).heap[k]? = w.heap[k]?
  | [], _, _ => rfl
  | v :: r, o, w => by
    rw [World.setCells, heap_setCells_other b k hk r]
    exact Below.heap_setCell _ _ _ _ (by simpa using hk)

theorem setCells_size (b : Nat) : ∀ (vs : List Value) (o : Nat) (w : World), (w.setCells b o vs).heap.size = w.heap.size
  | [], _, _ => rfl
  | v :: r, o, w => by rw [World.setCells, setCells_size b r]; simp [World.setCell]

theorem setCells_rest (b : Nat) : ∀ (vs : List Value) (o : Nat) (w : World), (w.setCells b o vs).os = w.os ∧ (w.setCells b o vs).tape = w.tape ∧ (w.setCells b o vs).output = w.output
  | [], _, _ => ⟨rfl, rfl, rfl⟩
  | v :: r, o, w => by rw [World.setCells]; exact setCells_rest b r _ _

theorem shape_setCells (b : Nat) (vs : List Value) (o : Nat) (w : World) (q : Nat) (x : TypeId × Nat) (h : w.shape? q = some x) : (w.setCells b o vs).shape? q = some x := by
  by_cases e : q = b
  · subst e
    simp only [World.shape?] at h ⊢
    split at h
    · rename_i c' e' fr hh
      rw [heap_setCells_same q vs o w _ _ _ hh]
      simpa [wr_size] using h
    · simp at h
  · simp only [World.shape?] at h ⊢
    rw [heap_setCells_other b q e]
    exact h

def splice (cs : List PV) (off : Nat) (ps : List PV) : List PV := cs.take off ++ ps ++ cs.drop (off + ps.length)

theorem splice_length (cs : List PV) (off : Nat) (ps : List PV) (h : off + ps.length ≤ cs.length) : (splice cs off ps).length = cs.length := by
  simp [splice]; omega

theorem splice_get (cs : List PV) (off : Nat) (ps : List PV) (h : off + ps.length ≤ cs.length) (j : Nat) : (splice cs off ps)[j]? = if off ≤ j ∧ j < off + ps.length then ps[j - off]? else cs[j]? := by
  unfold splice
  have hl : (cs.take off).length = off := by simp; omega
  by_cases h1 : j < off
  · rw [if_neg (by omega), List.append_assoc, List.getElem?_append_left (by omega), List.getElem?_take_of_lt h1]
  · by_cases h2 : j < off + ps.length
    · rw [if_pos (by omega), List.append_assoc, List.getElem?_append_right (by omega), hl, List.getElem?_append_left (by omega)]
    · rw [if_neg (by omega), List.getElem?_append_right (by simp; omega)]
      simp [hl, List.getElem?_drop]
      congr 1
      omega

/-- A box is written. -/
theorem Store.write {c : Ctx} {ι : Nat → Option Nat} {S : Nat → Prop} {σ : Boxes} {w : World} (h : Store c ι S σ w) {b blk : Nat} {cs ps : List PV} {vs : List Value} {off : Nat}
    (hb : box σ b = some cs) (hblk : ι b = some blk) (hoff : off + ps.length ≤ cs.length) (hl : vs.length = ps.length) (h1 : ∀ p ∈ ps, PV.one p = true)
    (h2 : ∀ (j : Nat) (p : PV), ps[j]? = some p → ∃ v : Value, vs[j]? = some v ∧ VRel σ.length ι S w v p) :
    Store c ι S (σ.set b (some (splice cs off ps))) (w.setCells blk off vs) ∧ (∀ m v p, VRel m ι S w v p → VRel m ι S (w.setCells blk off vs) v p) := by
  have hnS := h.notS b cs blk hb hblk
  have hbl := box_lt hb
  have hv : ∀ m v p, VRel m ι S w v p → VRel m ι S (w.setCells blk off vs) v p := fun m v p hh =>
    hh.mono (Nat.le_refl _) (fun b hb => rfl) (fun _ h => h) (fun b' o hb' => World.cell?_of_block (heap_setCells_other _ _ (fun e : b' = blk => hnS (by rw [← e]; exact hb')) _ _ _)) (fun b x hx => shape_setCells _ _ _ _ _ _ hx)
  obtain ⟨r1, r2, r3⟩ := setCells_rest blk vs off w
  have hs : ∀ i ci, box (σ.set b (some (splice cs off ps))) i = some ci → ∃ ci', box σ i = some ci' := fun i ci hi => by
    rw [box_set hbl] at hi
    by_cases e : i = b
    · subst e; exact ⟨cs, hb⟩
    · rw [if_neg e] at hi; exact ⟨ci, hi⟩
  refine ⟨⟨r1.trans h.os, r2.trans h.tape, r3.trans h.output, by rw [setCells_size]; exact h.size, fun k hk hM => ?_, fun q x hx => shape_setCells _ _ _ _ _ _ (h.shape q x hx), ?_, ?_, ?_, ?_, fun b' hb' => by rw [setCells_size]; exact h.Slt b' hb', h.S0, h.Snew, by rw [List.length_set]; exact h.klen, h.kι⟩, hv⟩
  · rw [heap_setCells_other _ _ (fun e => ?_)]
    · exact h.old k hk hM
    · subst e
      rcases h.live b cs k hb hblk with hh | hh
      · exact hM hh
      · omega
  · intro i ci hi
    rw [box_set hbl] at hi
    by_cases e : i = b
    · subst e
      simp at hi
      subst hi
      rcases h.boxes i cs hb with ⟨h', _⟩ | ⟨blk', c', e', hb', g1, g0, g2⟩
      · rw [h'] at hblk; simp at hblk
      · rw [hb'] at hblk; simp at hblk; subst hblk
        have hcl : cs.length ≤ c'.size := by
          rcases Nat.eq_zero_or_pos cs.length with h0 | h0
          · omega
          · obtain ⟨v, hv1, _⟩ := g2 (cs.length - 1) _ (List.getElem?_eq_getElem (by omega))
            have := (Array.getElem?_eq_some_iff.1 hv1).1
            omega
        refine .inr ⟨blk', _, e', hb', heap_setCells_same _ _ _ _ _ _ _ g1, fun p hp => ?_, fun j p hj => ?_⟩
        · simp only [splice, List.mem_append] at hp
          rcases hp with (hp | hp) | hp
          · exact g0 p (List.mem_of_mem_take hp)
          · exact h1 p hp
          · exact g0 p (List.mem_of_mem_drop hp)
        · rw [splice_get cs off ps hoff] at hj
          rw [wr_get _ _ _ _ (by omega)]
          by_cases hc : off ≤ j ∧ j < off + ps.length
          · rw [if_pos hc] at hj
            rw [if_pos (by omega)]
            obtain ⟨v, hv1, hv2⟩ := h2 _ _ hj
            exact ⟨v, hv1, by rw [List.length_set]; exact hv _ _ _ hv2⟩
          · rw [if_neg hc] at hj
            rw [if_neg (by omega)]
            obtain ⟨v, hv1, hv2⟩ := g2 _ _ hj
            exact ⟨v, hv1, by rw [List.length_set]; exact hv _ _ _ hv2⟩
    · rw [if_neg e] at hi
      rcases h.boxes i ci hi with h' | ⟨blk', c', e', hb', g1, g0, g2⟩
      · exact .inl h'
      · refine .inr ⟨blk', c', e', hb', ?_, g0, fun j p hj => ?_⟩
        · rw [heap_setCells_other _ _ (fun e2 => e (h.inj i b ci cs blk' hi hb hb' (by rw [e2]; exact hblk)))]; exact g1
        · obtain ⟨v, hv1, hv2⟩ := g2 j p hj
          exact ⟨v, hv1, by rw [List.length_set]; exact hv _ _ _ hv2⟩
  · intro i ci blk' hi hb'
    obtain ⟨_, hi'⟩ := hs i ci hi
    exact h.notS i _ blk' hi' hb'
  · intro i ci blk' hi hb'
    obtain ⟨_, hi'⟩ := hs i ci hi
    exact h.live i _ blk' hi' hb'
  · intro i j ci cj blk' hi hj hbi hbj
    obtain ⟨_, hi'⟩ := hs i ci hi
    obtain ⟨_, hj'⟩ := hs j cj hj
    exact h.inj i j _ _ blk' hi' hj' hbi hbj

end Go.Proofs.Ytmkgechjbbekmaa.Am
