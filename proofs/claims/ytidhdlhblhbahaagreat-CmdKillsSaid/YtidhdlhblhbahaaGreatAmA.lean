/- The machine of values: values, boxes, operations, calls; that it says what the model says. -/
import Derived.Below
import Derived.Tactics
import Derived.RowKit3
import Derived.Orders
import Derived.Laws.IdiomCopy
import Derived.Laws.Cells
import Derived.Deep.Draws
import Derived.TacticsIn
import Derived.OrdersIn
import Derived.Laws.Strings
import Derived.Laws.StructEq
import Derived.Laws.Pointers
import Derived.Great.BuildSlice
import Derived.Laws.MakeOwn
/- A small machine of values for Go functions: values that are read, boxes that are written, and how the model's memory stands to them. -/
set_option linter.unusedVariables false
set_option linter.unusedSimpArgs false
namespace Go.Proofs.YtidhdlhblhbahaaGreat.Am
open Go Go.RowKit

/-- Values of the machine: 'sl' a slice that nobody writes any more (nil and empty alike), 'osl' a slice into box b, 'ptr' a place in box b, 'eptr' a place in memory that nobody writes, 'mref' a map: box b holds its keys and its values. -/
inductive PV where
  | k (v : Value)
  | sl (sz : Nat) (rows : List (List PV))
  | osl (b k off len : Nat)
  | osc (b k off len cap : Nat)
  | ptr (b off : Nat)
  | eptr (cells : List PV)
  | clo (fn : Fn) (caps : List PV)
  | agg (cells : List PV)
  | tup (vs : List PV)
  | mref (b : Nat)

def scal : Value → Bool
  | .bool _ | .int _ _ | .string _ | .nilFunc | .nilIface | .pointer none | .slice none 0 0 | .map none => true
  | .func _ fs cs => fs.isEmpty && cs.isEmpty
  | _ => false

def PV.one : PV → Bool
  | .agg _ | .tup _ => false
  | _ => true

theorem scal_one {v : Value} (h : scal v = true) : v.oneCell' = true := by
  cases v <;> simp_all [scal, Value.oneCell']

/-- Memory that nobody writes: the blocks of S. -/
inductive IRel (S : Nat → Prop) (w : World) : Value → PV → Prop
  | k {v} : scal v = true → IRel S w v (.k v)
  | sl {sz : Nat} {rows : List (List PV)} {a : Option Addr} {n cap : Nat} (g : Nat → Value) :
      rows.length = n → n ≤ cap → cap ≤ maxLen → (∀ r ∈ rows, r.length = sz) → (∀ r ∈ rows, ∀ p ∈ r, PV.one p = true) →
      (a = none → cap = 0) →
      (0 < n → ∃ b o, a = some ⟨b, o, none⟩ ∧ S b ∧ ∀ j, j < n * sz → w.cell? ⟨b, o + j, none⟩ = some (g j)) →
      (∀ j p, rows.flatten[j]? = some p → IRel S w (g j) p) → IRel S w (.slice a n cap) (.sl sz rows)
  | eptr {cells : List PV} {b o : Nat} (g : Nat → Value) :
      S b → (∀ p ∈ cells, PV.one p = true) → (∀ j, j < cells.length → w.cell? ⟨b, o + j, none⟩ = some (g j)) →
      (∀ j p, cells[j]? = some p → IRel S w (g j) p) → IRel S w (.pointer (some ⟨b, o, none⟩)) (.eptr cells)
  | clo {fn : Fn} {vs : Array Value} {caps : List PV} : vs.size = caps.length → (∀ p ∈ caps, PV.one p = true) →
      (∀ j p, caps[j]? = some p → IRel S w (vs.getD j undef) p) → IRel S w (.func fn #[] vs) (.clo fn caps)
  | agg {vs : Array Value} {cells : List PV} : vs.size = cells.length → (∀ p ∈ cells, PV.one p = true) →
      (∀ j p, cells[j]? = some p → IRel S w (vs.getD j undef) p) → IRel S w (.agg vs) (.agg cells)
  | tup {vs : Array Value} {ps : List PV} : vs.size = ps.length →
      (∀ j p, ps[j]? = some p → IRel S w (vs.getD j undef) p) → IRel S w (.tuple vs) (.tup ps)

/-- Values that may lead into boxes: box i is block ι i, i < n. -/
inductive VRel (n : Nat) (ι : Nat → Option Nat) (S : Nat → Prop) (w : World) : Value → PV → Prop
  | imm {v p} : IRel S w v p → VRel n ι S w v p
  | osl {b sz off len cap blk : Nat} {e : TypeId} {m : Nat} : b < n → len ≤ cap → cap ≤ maxLen →
      ι b = some blk → w.shape? blk = some (e, m) → off + cap * sz ≤ m →
      VRel n ι S w (.slice (some ⟨blk, off, none⟩) len cap) (.osl b sz off len)
  | osl0 {b sz off : Nat} {a : Option Addr} : b < n → VRel n ι S w (.slice a 0 0) (.osl b sz off 0)
  | osc {b sz off len cap blk : Nat} {e : TypeId} {m : Nat} : b < n → len ≤ cap → cap ≤ maxLen →
      ι b = some blk → w.shape? blk = some (e, m) → off + cap * sz ≤ m →
      VRel n ι S w (.slice (some ⟨blk, off, none⟩) len cap) (.osc b sz off len cap)
  | osc0 {b sz off : Nat} {a : Option Addr} : b < n → VRel n ι S w (.slice a 0 0) (.osc b sz off 0 0)
  | ptr {b off blk : Nat} {x : TypeId × Nat} : b < n → ι b = some blk → w.shape? blk = some x → VRel n ι S w (.pointer (some ⟨blk, off, none⟩)) (.ptr b off)
  | mref {b blk : Nat} : b < n → ι b = some blk → VRel n ι S w (.map (some blk)) (.mref b)
  | clo {fn : Fn} {vs : Array Value} {caps : List PV} : vs.size = caps.length → (∀ p ∈ caps, PV.one p = true) →
      (∀ j p, caps[j]? = some p → VRel n ι S w (vs.getD j undef) p) → VRel n ι S w (.func fn #[] vs) (.clo fn caps)
  | agg {vs : Array Value} {cells : List PV} : vs.size = cells.length → (∀ p ∈ cells, PV.one p = true) →
      (∀ j p, cells[j]? = some p → VRel n ι S w (vs.getD j undef) p) → VRel n ι S w (.agg vs) (.agg cells)
  | tup {vs : Array Value} {ps : List PV} : vs.size = ps.length →
      (∀ j p, ps[j]? = some p → VRel n ι S w (vs.getD j undef) p) → VRel n ι S w (.tuple vs) (.tup ps)

theorem IRel.mono {S S' : Nat → Prop} {w w' : World} (hS : ∀ b, S b → S' b) (hc : ∀ b o, S b → w'.cell? ⟨b, o, none⟩ = w.cell? ⟨b, o, none⟩) {v : Value} {p : PV} (h : IRel S w v p) : IRel S' w' v p := by
  induction h with
  | k h => exact .k h
  | sl g h1 h2 h3 h4 h5 h6 h7 _ ih =>
    refine .sl g h1 h2 h3 h4 h5 h6 (fun hn => ?_) ih
    obtain ⟨b, o, e, hs, hg⟩ := h7 hn
    exact ⟨b, o, e, hS _ hs, fun j hj => (hc _ _ hs).trans (hg j hj)⟩
  | eptr g h1 h2 h3 _ ih => exact .eptr g (hS _ h1) h2 (fun j hj => (hc _ _ h1).trans (h3 j hj)) ih
  | clo h1 h2 _ ih => exact .clo h1 h2 ih
  | agg h1 h2 _ ih => exact .agg h1 h2 ih
  | tup h1 _ ih => exact .tup h1 ih

theorem VRel.mono {n n' : Nat} {ι ι' : Nat → Option Nat} {S S' : Nat → Prop} {w w' : World} (hn : n ≤ n') (hι : ∀ b, b < n → ι' b = ι b) (hS : ∀ b, S b → S' b)
    (hc : ∀ b o, S b → w'.cell? ⟨b, o, none⟩ = w.cell? ⟨b, o, none⟩) (hsh : ∀ b x, w.shape? b = some x → w'.shape? b = some x) {v : Value} {p : PV} (h : VRel n ι S w v p) : VRel n' ι' S' w' v p := by
  induction h with
  | imm h => exact .imm (h.mono hS hc)
  | osl h1 h2 h3 h4 h5 h6 => exact .osl (by omega) h2 h3 (by rw [hι _ h1]; exact h4) (hsh _ _ h5) h6
  | osl0 h => exact .osl0 (by omega)
  | osc h1 h2 h3 h4 h5 h6 => exact .osc (by omega) h2 h3 (by rw [hι _ h1]; exact h4) (hsh _ _ h5) h6
  | osc0 h => exact .osc0 (by omega)
  | ptr h h2 h3 => exact .ptr (by omega) (by rw [hι _ h]; exact h2) (hsh _ _ h3)
  | mref h h2 => exact .mref (by omega) (by rw [hι _ h]; exact h2)
  | clo h1 h2 _ ih => exact .clo h1 h2 ih
  | agg h1 h2 _ ih => exact .agg h1 h2 ih
  | tup h1 _ ih => exact .tup h1 ih

theorem IRel.one {S : Nat → Prop} {w : World} {v : Value} {p : PV} (h : IRel S w v p) (hp : p.one = true) : v.oneCell' = true := by
  cases h <;> simp_all [PV.one, Value.oneCell']
  exact scal_one ‹_›
theorem VRel.one {n : Nat} {ι : Nat → Option Nat} {S : Nat → Prop} {w : World} {v : Value} {p : PV} (h : VRel n ι S w v p) (hp : p.one = true) : v.oneCell' = true := by
  cases h with
  | imm h => exact h.one hp
  | _ => simp_all [PV.one, Value.oneCell']

theorem IRel.und (S : Nat → Prop) (w : World) : IRel S w undef (.tup []) := .tup (by simp) (by simp)

/-! ### The state -/
structure Ctx where
  w0 : World
  M : Nat → Prop
  S0 : Nat → Prop
  k : Nat
  ι0 : Nat → Option Nat
  ro : Option Nat
  dfs : List Deferred

abbrev Boxes := List (Option (List PV))

structure St where
  N : Nat
  T : List (Nat × PV)
  σ : Boxes
  k : Nat

def look : List (Nat × PV) → Nat → Option PV
  | [], _ => none
  | (j, p) :: r, i => if i = j then some p else look r i

def upd {α : Type} (f : Nat → α) (i : Nat) (x : α) : Nat → α := fun j => if j = i then x else f j

/-- Box i of σ is block ι i. -/
def box (σ : Boxes) (i : Nat) : Option (List PV) := (σ[i]?).join

/-- What a block holds: cells; or a map's keys and values. -/
def View (o : Obj) (c' : Array Value) (cs : List PV) : Prop :=
  (∃ e, o = .cells c' e (0, 0) ∧ ∀ p ∈ cs, PV.one p = true) ∨
  (∃ es clk ks vs, o = .map es clk ∧ c' = #[.tuple (es.map (·.key)), .tuple (es.map (·.val))] ∧ cs = [.tup ks, .tup vs])

structure Store (c : Ctx) (ι : Nat → Option Nat) (S : Nat → Prop) (σ : Boxes) (w : World) : Prop where
  os : w.os = c.w0.os
  tape : w.tape = c.w0.tape
  output : w.output = c.w0.output
  size : c.w0.heap.size ≤ w.heap.size
  old : ∀ b, b < c.w0.heap.size → ¬ c.M b → w.heap[b]? = c.w0.heap[b]?
  shape : ∀ b x, c.w0.shape? b = some x → w.shape? b = some x
  boxes : ∀ (i : Nat) (cs : List PV), box σ i = some cs → (ι i = none ∧ cs = []) ∨ ∃ (blk : Nat) (c' : Array Value) (o : Obj), ι i = some blk ∧ w.heap[blk]? = some o ∧ View o c' cs ∧ (∀ (j : Nat) (p : PV), cs[j]? = some p → ∃ v : Value, c'[j]? = some v ∧ VRel σ.length ι S w v p)
  notS : ∀ i cs blk, box σ i = some cs → ι i = some blk → ¬ S blk
  live : ∀ i cs blk, box σ i = some cs → ι i = some blk → c.M blk ∨ c.w0.heap.size ≤ blk
  inj : ∀ i j ci cj blk, box σ i = some ci → box σ j = some cj → ι i = some blk → ι j = some blk → i = j
  Slt : ∀ b, S b → b < w.heap.size
  S0 : ∀ b, c.S0 b → S b
  Snew : ∀ b, S b → c.S0 b ∨ c.M b ∨ c.w0.heap.size ≤ b
  klen : c.k ≤ σ.length
  kι : ∀ i, i < c.k → ι i = c.ι0 i

structure Rel (c : Ctx) (ι : Nat → Option Nat) (S : Nat → Prop) (s : St) (a : Act) (w : World) : Prop where
  st : Store c ι S s.σ w
  ck : c.k = s.k
  tsz : a.tmps.size = s.N
  defers : a.defers = c.dfs
  temps : ∀ t p, look s.T t = some p → VRel s.σ.length ι S w (a.tmps.getD t undef) p

theorem View.mapP {o : Obj} {c' : Array Value} {cs : List PV} {f : PV → PV} (h1 : ∀ p, (f p).one = p.one) (h2 : ∀ l, ∃ l', f (.tup l) = .tup l') (h : View o c' cs) : View o c' (cs.map f) := by
  rcases h with ⟨e, rfl, g⟩ | ⟨es, clk, ks, vs, rfl, g, rfl⟩
  · exact .inl ⟨e, rfl, fun p hp => by obtain ⟨q, hq, rfl⟩ := List.mem_map.1 hp; rw [h1]; exact g q hq⟩
  · obtain ⟨l1, e1⟩ := h2 ks
    obtain ⟨l2, e2⟩ := h2 vs
    exact .inr ⟨es, clk, l1, l2, rfl, g, by simp [e1, e2]⟩

theorem View.unmapP {o : Obj} {c' : Array Value} {cs : List PV} {f : PV → PV} (h1 : ∀ p, (f p).one = p.one) (h2 : ∀ p l, f p = .tup l → ∃ l', p = .tup l') (h : View o c' (cs.map f)) : View o c' cs := by
  rcases h with ⟨e, rfl, g⟩ | ⟨es, clk, ks, vs, rfl, g, e⟩
  · exact .inl ⟨e, rfl, fun p hp => by rw [← h1]; exact g _ (List.mem_map_of_mem hp)⟩
  · rcases cs with _ | ⟨a, _ | ⟨b, _ | ⟨d, cs⟩⟩⟩ <;> simp at e
    obtain ⟨l1, rfl⟩ := h2 a ks e.1
    obtain ⟨l2, rfl⟩ := h2 b vs e.2
    exact .inr ⟨es, clk, l1, l2, rfl, g, rfl⟩

theorem Store.cellsE {c : Ctx} {ι : Nat → Option Nat} {S : Nat → Prop} {σ : Boxes} {w : World} (h : Store c ι S σ w) {b blk : Nat} {cs : List PV} {x : TypeId × Nat} (hb : box σ b = some cs) (hι : ι b = some blk) (hsh : w.shape? blk = some x) :
    ∃ (blk' : Nat) (c' : Array Value) (e : TypeId), ι b = some blk' ∧ w.heap[blk']? = some (.cells c' e (0, 0)) ∧ (∀ p ∈ cs, PV.one p = true) ∧ (∀ (j : Nat) (p : PV), cs[j]? = some p → ∃ v : Value, c'[j]? = some v ∧ VRel σ.length ι S w v p) := by
  rcases h.boxes b cs hb with ⟨h', _⟩ | ⟨blk', c', o, hb', g1, g0, g2⟩
  · rw [h'] at hι; cases hι
  · rw [hb'] at hι; simp at hι; subst hι
    rcases g0 with ⟨e, rfl, g3⟩ | ⟨es, clk, ks, vs, rfl, _⟩
    · exact ⟨blk', c', e, hb', g1, g3, g2⟩
    · simp [World.shape?, g1] at hsh

/-! ### Worlds -/
theorem shape_alloc (w : World) (o : Obj) (b : Nat) (x : TypeId × Nat) (h : w.shape? b = some x) : (w.alloc o).shape? b = some x := by
  have hb : b < w.heap.size := by
    rcases Nat.lt_or_ge b w.heap.size with hh | hh
    · exact hh
    · simp [World.shape?, Array.getElem?_eq_none hh] at h
  simp only [World.shape?] at h ⊢
  rw [Below.heap_alloc _ _ _ hb]
  exact h

theorem cell_alloc (w : World) (o : Obj) (b q : Nat) (hb : b < w.heap.size) : (w.alloc o).cell? ⟨b, q, none⟩ = w.cell? ⟨b, q, none⟩ :=
  World.cell?_of_block (Below.heap_alloc _ _ _ hb)

theorem box_lt {σ : Boxes} {i : Nat} {cs : List PV} (h : box σ i = some cs) : i < σ.length := by
  rcases Nat.lt_or_ge i σ.length with hh | hh
  · exact hh
  · simp [box, List.getElem?_eq_none hh] at h

theorem box_push {σ : Boxes} {x : Option (List PV)} {i : Nat} : box (σ ++ [x]) i = if i = σ.length then x else box σ i := by
  unfold box
  by_cases h : i = σ.length
  · subst h; simp
  · rw [if_neg h]
    rcases Nat.lt_or_ge i σ.length with hh | hh
    · rw [List.getElem?_append_left hh]
    · rw [List.getElem?_eq_none hh, List.getElem?_eq_none (by simp; omega)]

theorem box_set {σ : Boxes} {b : Nat} {x : Option (List PV)} {i : Nat} (hb : b < σ.length) : box (σ.set b x) i = if i = b then x else box σ i := by
  unfold box
  by_cases h : i = b
  · subst h; simp [hb]
  · rw [if_neg h, List.getElem?_set_ne (fun e => h e.symm)]

/-- A draw changes nothing. -/
theorem VRel.drew {n : Nat} {ι : Nat → Option Nat} {S : Nat → Prop} {w : World} {v : Value} {p : PV} (h : VRel n ι S w v p) : VRel n ι S w.drew v p :=
  VRel.mono (w := w) (w' := w.drew) (Nat.le_refl _) (fun _ _ => rfl) (fun _ h => h) (fun _ _ _ => rfl) (fun _ _ h => h) h

theorem Store.drew {c : Ctx} {ι : Nat → Option Nat} {S : Nat → Prop} {σ : Boxes} {w : World} (h : Store c ι S σ w) : Store c ι S σ w.drew :=
  ⟨h.os, h.tape, h.output, h.size, h.old, h.shape, fun i cs hi => by
    rcases h.boxes i cs hi with h' | ⟨blk, c', e, hb, h1, h0, h2⟩
    · exact .inl h'
    · exact .inr ⟨blk, c', e, hb, h1, h0, fun j p hj => by obtain ⟨v, hv1, hv2⟩ := h2 j p hj; exact ⟨v, hv1, hv2.drew⟩⟩, h.notS, h.live, h.inj, h.Slt, h.S0, h.Snew, h.klen, h.kι⟩

/-- A new block that becomes a new box. -/
theorem Store.alloc {c : Ctx} {ι : Nat → Option Nat} {S : Nat → Prop} {σ : Boxes} {w : World} (h : Store c ι S σ w) {cs : List PV} {vs : Array Value} {e : TypeId}
    (h1 : ∀ p ∈ cs, PV.one p = true) (h2 : ∀ (j : Nat) (p : PV), cs[j]? = some p → ∃ v : Value, vs[j]? = some v ∧ VRel σ.length ι S w v p) :
    Store c (upd ι σ.length (some w.heap.size)) S (σ ++ [some cs]) (w.alloc (.cells vs e)) ∧ (∀ m v p, m ≤ σ.length → VRel m ι S w v p → VRel m (upd ι σ.length (some w.heap.size)) S (w.alloc (.cells vs e)) v p) := by
  have hv : ∀ m v p, m ≤ σ.length → VRel m ι S w v p → VRel m (upd ι σ.length (some w.heap.size)) S (w.alloc (.cells vs e)) v p := fun m v p hm hh =>
    hh.mono (Nat.le_refl _) (fun b hb => by simp [upd]; omega) (fun _ h => h) (fun b o hb => cell_alloc _ _ _ _ (h.Slt b hb)) (fun b x hx => shape_alloc _ _ _ _ hx)
  have hv' : ∀ v p, VRel σ.length ι S w v p → VRel (σ ++ [some cs]).length (upd ι σ.length (some w.heap.size)) S (w.alloc (.cells vs e)) v p := fun v p hh =>
    (hv _ v p (Nat.le_refl _) hh).mono (by simp) (fun _ _ => rfl) (fun _ h => h) (fun _ _ _ => rfl) (fun _ _ h => h)
  have hb : ∀ i cs' blk, box σ i = some cs' → ι i = some blk → blk < w.heap.size := fun i cs' blk hi hblk => by
    rcases h.boxes i cs' hi with ⟨h', _⟩ | ⟨blk', c', e', hb', g1, _⟩
    · rw [h'] at hblk; simp at hblk
    · rw [hb'] at hblk; simp at hblk; subst hblk; exact (Array.getElem?_eq_some_iff.1 g1).1
  refine ⟨⟨h.os, h.tape, h.output, by have := h.size; simp; omega, fun b hb hM => ?_, fun b x hx => shape_alloc _ _ _ _ (h.shape b x hx), ?_, ?_, ?_, ?_, fun b hb => by have := h.Slt b hb; simp; omega, h.S0, h.Snew, by have := h.klen; simp; omega, fun i hi => ?_⟩, hv⟩
  · rw [Below.heap_alloc _ _ _ (by have := h.size; omega)]; exact h.old b hb hM
  · intro i cs' hi
    rw [box_push] at hi
    by_cases e1 : i = σ.length
    · subst e1
      simp at hi
      subst hi
      refine .inr ⟨w.heap.size, vs, _, by simp [upd], heap_alloc_new w (Obj.cells vs e), .inl ⟨e, rfl, h1⟩, fun j p hj => ?_⟩
      obtain ⟨v, hv1, hv2⟩ := h2 j p hj
      exact ⟨v, hv1, hv' _ _ hv2⟩
    · rw [if_neg e1] at hi
      rcases h.boxes i cs' hi with ⟨h', h''⟩ | ⟨blk, c', e', hb', g1, g0, g2⟩
      · exact .inl ⟨by simp [upd, e1, h'], h''⟩
      · refine .inr ⟨blk, c', e', by simp [upd, e1, hb'], ?_, g0, fun j p hj => ?_⟩
        · rw [Below.heap_alloc _ _ _ (Array.getElem?_eq_some_iff.1 g1).1]
          exact g1
        · obtain ⟨v, hv1, hv2⟩ := g2 j p hj
          exact ⟨v, hv1, hv' _ _ hv2⟩
  · intro i cs' blk hi hblk
    rw [box_push] at hi
    by_cases e1 : i = σ.length
    · subst e1; simp [upd] at hblk; subst hblk; intro hs; have := h.Slt _ hs; omega
    · rw [if_neg e1] at hi; simp [upd, e1] at hblk; exact h.notS i cs' blk hi hblk
  · intro i cs' blk hi hblk
    rw [box_push] at hi
    by_cases e1 : i = σ.length
    · subst e1; simp [upd] at hblk; subst hblk; exact .inr h.size
    · rw [if_neg e1] at hi; simp [upd, e1] at hblk; exact h.live i cs' blk hi hblk
  · intro i j ci cj blk hi hj hbi hbj
    rw [box_push] at hi hj
    by_cases e1 : i = σ.length <;> by_cases e2 : j = σ.length
    · omega
    · rw [if_neg e2] at hj; simp [upd, e1, e2] at hbi hbj; have := hb j cj blk hj hbj; omega
    · rw [if_neg e1] at hi; simp [upd, e1, e2] at hbi hbj; have := hb i ci blk hi hbi; omega
    · rw [if_neg e1] at hi; rw [if_neg e2] at hj; simp [upd, e1, e2] at hbi hbj; exact h.inj i j ci cj blk hi hj hbi hbj
  · have := h.klen
    simp only [upd]; rw [if_neg (by omega)]; exact h.kι i hi

def wr (c : Array Value) (o : Nat) : List Value → Array Value
  | [] => c
  | v :: r => wr (c.setIfInBounds o v) (o + 1) r

theorem wr_size (vs : List Value) : ∀ (c : Array Value) (o : Nat), (wr c o vs).size = c.size := by
  induction vs with
  | nil => intro c o; rfl
  | cons v r ih => intro c o; simp [wr, ih]

theorem wr_get (vs : List Value) : ∀ (c : Array Value) (o j : Nat), o + vs.length ≤ c.size → (wr c o vs)[j]? = if o ≤ j ∧ j < o + vs.length then vs[j - o]? else c[j]? := by
  induction vs with
  | nil => intro c o j _; simp [wr]; omega
  | cons v r ih =>
    intro c o j h
    simp only [List.length_cons] at h
    rw [wr, ih _ _ _ (by simp; omega)]
    by_cases h1 : o + 1 ≤ j ∧ j < o + 1 + r.length
    · rw [if_pos h1, if_pos (by simp; omega), show j - o = (j - (o + 1)) + 1 by omega]; simp
    · rw [if_neg h1]
      by_cases h2 : j = o
      · subst h2; rw [if_pos (by simp)]; simp [Array.getElem?_setIfInBounds]; omega
      · rw [if_neg (by simp; omega), Array.getElem?_setIfInBounds_ne (by omega)]

theorem heap_setCells_same (b : Nat) : ∀ (vs : List Value) (o : Nat) (w : World) (c' : Array Value) (e : TypeId) (fr : Nat × Nat), w.heap[b]? = some (.cells c' e fr) → (w.setCells b o vs).heap[b]? = some (.cells (wr c' o vs) e fr)
  | [], _, _, _, _, _, h => h
  | v :: r, o, w, c', e, fr, h => by
    rw [World.setCells, wr]
    refine heap_setCells_same b r (o + 1) _ _ e fr ?_
    simp [World.setCell, Array.getElem?_modify, h]

theorem heap_setCells_other (b k : Nat) (hk : k ≠ b) : ∀ (vs : List Value) (o : Nat) (w : World), (w.setCells b o vs).heap[k]? = w.heap[k]?
  | [], _, _ => rfl
  | v :: r, o, w => by
    rw [World.setCells, heap_setCells_other b k hk r]
    exact Below.heap_setCell _ _ _ _ (by simpa using hk)

theorem setCells_size (b : Nat) : ∀ (vs : List Value) (o : Nat) (w : World), (w.setCells b o vs).heap.size = w.heap.size
  | [], _, _ => rfl
  | v :: r, o, w => by rw [World.setCells, setCells_size b r]; simp [World.setCell]

theorem setCells_rest (b : Nat) : ∀ (vs : List Value) (o : Nat) (w : World), (w.setCells b o vs).os = w.os ∧ (w.setCells b o vs).tape = w.tape ∧ (w.setCells b o vs).output = w.output
  | [], _, _ => ⟨rfl, rfl, rfl⟩
  | v :: r, o, w => by rw [World.setCells]; exact setCells_rest b r _ _

theorem shape_setCells (b : Nat) (vs : List Value) (o : Nat) (w : World) (q : Nat) (x : TypeId × Nat) (h : w.shape? q = some x) : (w.setCells b o vs).shape? q = some x := by
  by_cases e : q = b
  · subst e
    simp only [World.shape?] at h ⊢
    split at h
    · rename_i c' e' fr hh
      rw [heap_setCells_same q vs o w _ _ _ hh]
      simpa [wr_size] using h
    · simp at h
  · simp only [World.shape?] at h ⊢
    rw [heap_setCells_other b q e]
    exact h

def splice (cs : List PV) (off : Nat) (ps : List PV) : List PV := cs.take off ++ ps ++ cs.drop (off + ps.length)

theorem splice_length (cs : List PV) (off : Nat) (ps : List PV) (h : off + ps.length ≤ cs.length) : (splice cs off ps).length = cs.length := by
  simp [splice]; omega

theorem splice_get (cs : List PV) (off : Nat) (ps : List PV) (h : off + ps.length ≤ cs.length) (j : Nat) : (splice cs off ps)[j]? = if off ≤ j ∧ j < off + ps.length then ps[j - off]? else cs[j]? := by
  unfold splice
  have hl : (cs.take off).length = off := by simp; omega
  by_cases h1 : j < off
  · rw [if_neg (by omega), List.append_assoc, List.getElem?_append_left (by omega), List.getElem?_take_of_lt h1]
  · by_cases h2 : j < off + ps.length
    · rw [if_pos (by omega), List.append_assoc, List.getElem?_append_right (by omega), hl, List.getElem?_append_left (by omega)]
    · rw [if_neg (by omega), List.getElem?_append_right (by simp; omega)]
      simp [hl, List.getElem?_drop]
      congr 1
      omega

/-- A box is written. -/
theorem Store.write {c : Ctx} {ι : Nat → Option Nat} {S : Nat → Prop} {σ : Boxes} {w : World} (h : Store c ι S σ w) {b blk : Nat} {cs ps : List PV} {vs : List Value} {off : Nat}
    (hb : box σ b = some cs) (hblk : ι b = some blk) {x : TypeId × Nat} (hsh : w.shape? blk = some x) (hoff : off + ps.length ≤ cs.length) (hl : vs.length = ps.length) (h1 : ∀ p ∈ ps, PV.one p = true)
    (h2 : ∀ (j : Nat) (p : PV), ps[j]? = some p → ∃ v : Value, vs[j]? = some v ∧ VRel σ.length ι S w v p) :
    Store c ι S (σ.set b (some (splice cs off ps))) (w.setCells blk off vs) ∧ (∀ m v p, VRel m ι S w v p → VRel m ι S (w.setCells blk off vs) v p) := by
  have hnS := h.notS b cs blk hb hblk
  have hbl := box_lt hb
  have hv : ∀ m v p, VRel m ι S w v p → VRel m ι S (w.setCells blk off vs) v p := fun m v p hh =>
    hh.mono (Nat.le_refl _) (fun b hb => rfl) (fun _ h => h) (fun b' o hb' => World.cell?_of_block (heap_setCells_other _ _ (fun e : b' = blk => hnS (by rw [← e]; exact hb')) _ _ _)) (fun b x hx => shape_setCells _ _ _ _ _ _ hx)
  obtain ⟨r1, r2, r3⟩ := setCells_rest blk vs off w
  have hs : ∀ i ci, box (σ.set b (some (splice cs off ps))) i = some ci → ∃ ci', box σ i = some ci' := fun i ci hi => by
    rw [box_set hbl] at hi
    by_cases e : i = b
    · subst e; exact ⟨cs, hb⟩
    · rw [if_neg e] at hi; exact ⟨ci, hi⟩
  refine ⟨⟨r1.trans h.os, r2.trans h.tape, r3.trans h.output, by rw [setCells_size]; exact h.size, fun k hk hM => ?_, fun q x hx => shape_setCells _ _ _ _ _ _ (h.shape q x hx), ?_, ?_, ?_, ?_, fun b' hb' => by rw [setCells_size]; exact h.Slt b' hb', h.S0, h.Snew, by rw [List.length_set]; exact h.klen, h.kι⟩, hv⟩
  · rw [heap_setCells_other _ _ (fun e => ?_)]
    · exact h.old k hk hM
    · subst e
      rcases h.live b cs k hb hblk with hh | hh
      · exact hM hh
      · omega
  · intro i ci hi
    rw [box_set hbl] at hi
    by_cases e : i = b
    · subst e
      simp at hi
      subst hi
      obtain ⟨blk', c', e', hb', g1, g0, g2⟩ := h.cellsE hb hblk hsh
      · rw [hb'] at hblk; simp at hblk; subst hblk
        have hcl : cs.length ≤ c'.size := by
          rcases Nat.eq_zero_or_pos cs.length with h0 | h0
          · omega
          · obtain ⟨v, hv1, _⟩ := g2 (cs.length - 1) _ (List.getElem?_eq_getElem (by omega))
            have := (Array.getElem?_eq_some_iff.1 hv1).1
            omega
        refine .inr ⟨blk', _, _, hb', heap_setCells_same _ _ _ _ _ _ _ g1, .inl ⟨e', rfl, fun p hp => ?_⟩, fun j p hj => ?_⟩
        · simp only [splice, List.mem_append] at hp
          rcases hp with (hp | hp) | hp
          · exact g0 p (List.mem_of_mem_take hp)
          · exact h1 p hp
          · exact g0 p (List.mem_of_mem_drop hp)
        · rw [splice_get cs off ps hoff] at hj
          rw [wr_get _ _ _ _ (by omega)]
          by_cases hc : off ≤ j ∧ j < off + ps.length
          · rw [if_pos hc] at hj
            rw [if_pos (by omega)]
            obtain ⟨v, hv1, hv2⟩ := h2 _ _ hj
            exact ⟨v, hv1, by rw [List.length_set]; exact hv _ _ _ hv2⟩
          · rw [if_neg hc] at hj
            rw [if_neg (by omega)]
            obtain ⟨v, hv1, hv2⟩ := g2 _ _ hj
            exact ⟨v, hv1, by rw [List.length_set]; exact hv _ _ _ hv2⟩
    · rw [if_neg e] at hi
      rcases h.boxes i ci hi with h' | ⟨blk', c', e', hb', g1, g0, g2⟩
      · exact .inl h'
      · refine .inr ⟨blk', c', e', hb', ?_, g0, fun j p hj => ?_⟩
        · rw [heap_setCells_other _ _ (fun e2 => e (h.inj i b ci cs blk' hi hb hb' (by rw [e2]; exact hblk)))]; exact g1
        · obtain ⟨v, hv1, hv2⟩ := g2 j p hj
          exact ⟨v, hv1, by rw [List.length_set]; exact hv _ _ _ hv2⟩
  · intro i ci blk' hi hb'
    obtain ⟨_, hi'⟩ := hs i ci hi
    exact h.notS i _ blk' hi' hb'
  · intro i ci blk' hi hb'
    obtain ⟨_, hi'⟩ := hs i ci hi
    exact h.live i _ blk' hi' hb'
  · intro i j ci cj blk' hi hj hbi hbj
    obtain ⟨_, hi'⟩ := hs i ci hi
    obtain ⟨_, hj'⟩ := hs j cj hj
    exact h.inj i j _ _ blk' hi' hj' hbi hbj

end Go.Proofs.YtidhdlhblhbahaaGreat.Am

/- The machine of values: code, and operations that only compute. -/
set_option linter.unusedVariables false
set_option linter.unusedSimpArgs false
namespace Go.Proofs.YtidhdlhblhbahaaGreat.Am
open Go Go.RowKit

/-- The fence that asks nothing, in a round or out of one. -/
def wideR (ro : Option Nat) : Fence := { Fence.wide with round := ro }

section
variable {P : Program} {ro : Option Nat} {o : Oper} {a : Act} {w w' : World} {K : Act → World → Prop} {QQ : Exit → Act → World → Prop}
theorem fencedR (m : Machine) : m.fenced P (wideR ro) := fenced_wide P m
theorem execOp_defer {c : Call} (h : o.op = .defer c) : (∀ v w', (execOp a.eval o).run P w ≠ .ok (.value v) w') ∧ (∀ w', (execOp a.eval o).run P w ≠ .ok .skip w') ∧ ∀ f args w', (execOp a.eval o).run P w ≠ .ok (.enter f args) w' := by
  have : (execOp a.eval o).run P w = ((resolve a.eval c o.type).run P w).andThen fun d w' => .ok (.defer d) w' := by
    unfold execOp
    simp only [h, Sem.run_bind, Sem.run_pure]
  rw [this]
  generalize (resolve a.eval c o.type).run P w = r
  cases r <;> simp [Result.andThen]
theorem wpIn_val {v : Value} (h : (execOp a.eval o).run P w = .ok (.value v) w') (hK : K (a.put o.dst v) w') : o.wpIn (wideR ro) 0 P a w K QQ := by
  refine ⟨fun _ _ => trivial, ?_⟩
  rw [show (wideR ro).round = ro from rfl, Oper.semAt_eq ro _ _ fun c hc => (execOp_defer (a := a) (w := w) (P := P) hc).1 _ _ h, h]
  exact hK
theorem wpIn_skp (h : (execOp a.eval o).run P w = .ok .skip w') (hK : K (a.put o.dst undef) w') : o.wpIn (wideR ro) 0 P a w K QQ := by
  refine ⟨fun _ _ => trivial, ?_⟩
  rw [show (wideR ro).round = ro from rfl, Oper.semAt_eq ro _ _ fun c hc => (execOp_defer (a := a) (w := w) (P := P) hc).2.1 _ h, h]
  exact hK
theorem wpIn_ent {f : FuncId} {args : Array Value} (h : (execOp a.eval o).run P w = .ok (.enter f args) w')
    (hc : Calls P f args w' fun | .returned v, w'' => K (a.put o.dst v) w'' | .panicked chain, w'' => QQ (.panic chain) a w'' | .outgrown, _ => LetsOut QQ) : o.wpIn (wideR ro) 0 P a w K QQ := by
  refine ⟨fun _ _ => trivial, ?_⟩
  rw [show (wideR ro).round = ro from rfl, Oper.semAt_eq ro _ _ fun c hc => (execOp_defer (a := a) (w := w) (P := P) hc).2.2 _ _ _ h, h]
  exact ⟨(fun h => by cases h), callsIn_wide.2 hc⟩
end

/-! ### Code -/
def AWp (P : Program) (c : Code) (s : St) (Q : Exit → St → Prop) : Prop :=
  ∀ ctx ι S a w, Rel ctx ι S s a w → ∀ QQ : Exit → Act → World → Prop, (∀ e ι' S' s' a' w', Rel ctx ι' S' s' a' w' → Q e s' → QQ e a' w') → c.wpIn (wideR ctx.ro) 0 P QQ a w

def thenA (next : St → Prop) (Q : Exit → St → Prop) : Exit → St → Prop
  | .normal, s => next s
  | e, s => Q e s

def inBlockA (id : Nat) (Q : Exit → St → Prop) : Exit → St → Prop
  | .exit id', s => if id' = id then Q .normal s else Q (.exit id') s
  | e, s => Q e s

section
variable {P : Program} {s : St} {Q : Exit → St → Prop}

theorem awp_mono {c : Code} {Q' : Exit → St → Prop} (h : AWp P c s Q) (hq : ∀ e s', Q e s' → Q' e s') : AWp P c s Q' :=
  fun ctx ι S a w hr QQ hQ => h ctx ι S a w hr QQ fun e ι' S' s' a' w' hr' hq' => hQ e ι' S' s' a' w' hr' (hq e s' hq')

theorem awp_skip (h : Q .normal s) : AWp P .skip s Q := fun _ _ _ _ _ hr _ hQ => wpIn_skip (hQ _ _ _ _ _ _ hr h)
theorem awp_ret (h : Q .ret s) : AWp P .ret s Q := fun _ _ _ _ _ hr _ hQ => wpIn_ret (hQ _ _ _ _ _ _ hr h)
theorem awp_exit {id : Nat} (h : Q (.exit id) s) : AWp P (.exit id) s Q := fun _ _ _ _ _ hr _ hQ => wpIn_exit (hQ _ _ _ _ _ _ hr h)

theorem awp_seq {x y : Code} (h : AWp P x s (thenA (fun s' => AWp P y s' Q) Q)) : AWp P (.seq x y) s Q :=
  fun ctx ι S a w hr QQ hQ => wpIn_seq (h ctx ι S a w hr _ fun e ι' S' s' a' w' hr' hq => by
    cases e with
    | normal => exact hq ctx ι' S' a' w' hr' QQ hQ
    | _ => exact hQ _ _ _ _ _ _ hr' hq)

theorem awp_block {id : Nat} {c : Code} (h : AWp P c s (inBlockA id Q)) : AWp P (.block id c) s Q :=
  fun ctx ι S a w hr QQ hQ => wpIn_block (h ctx ι S a w hr _ fun e ι' S' s' a' w' hr' hq => by
    cases e with
    | exit id' =>
      simp only [inBlockA] at hq
      simp only [Exit.inBlock]
      split
      · rename_i hh; rw [if_pos hh] at hq; exact hQ _ _ _ _ _ _ hr' hq
      · rename_i hh; rw [if_neg hh] at hq; exact hQ _ _ _ _ _ _ hr' hq
    | _ => exact hQ _ _ _ _ _ _ hr' hq)

/-- One state follows from another. -/
def Ent (s s' : St) : Prop := ∀ ctx ι S a w, Rel ctx ι S s a w → ∃ ι' S', Rel ctx ι' S' s' a w

theorem Ent.refl (s : St) : Ent s s := fun _ ι S _ _ h => ⟨ι, S, h⟩

theorem awp_ent {c : Code} {s' : St} (he : Ent s s') (h : AWp P c s' Q) : AWp P c s Q := fun ctx ι S a w hr QQ hQ => by
  obtain ⟨ι', S', hr'⟩ := he ctx ι S a w hr
  exact h ctx ι' S' a w hr' QQ hQ

theorem awp_loopJ {c : Code} (J : Nat → St → Prop) (n0 : Nat) (h0 : J n0 s)
    (round : ∀ n s, J n s → AWp P c s (thenA (fun s' => ∃ m, m < n ∧ ∃ s'', Ent s' s'' ∧ J m s'') Q)) : AWp P (.loop c) s Q := by
  intro ctx ι S a w hr QQ hQ b k cs hro hb hrm
  have key : ∀ n : Nat, ∀ s, J n s → ∀ ι S a w, Rel ctx ι S s a w → ∃ e a' w', QQ e a' w' ∧ ArrivesIn (Machine.fenced P (wideR ctx.ro)) P (lone (b.atR a (.code c :: .inLoop c :: k)) cs w) b k cs e a' w' := by
    intro n
    induction n using Nat.strongRecOn with
    | _ n ih =>
      intro s hJ ι S a w hr
      obtain ⟨e, a₁, w₁, hq, harr⟩ := round n s hJ ctx ι S a w hr (fun e a' w' => (e = .normal ∧ ∃ m s'' ι' S', J m s'' ∧ m < n ∧ Rel ctx ι' S' s'' a' w') ∨ (e ≠ .normal ∧ QQ e a' w')) (fun e ι' S' s' a' w' hr' hq => by
        cases e with
        | normal =>
          obtain ⟨m, hlt, s'', he, hJm⟩ := hq
          obtain ⟨ι2, S2, hr2⟩ := he _ _ _ _ _ hr'
          exact .inl ⟨rfl, m, s'', ι2, S2, hJm, hlt, hr2⟩
        | _ => exact .inr ⟨by simp, hQ _ _ _ _ _ _ hr' hq⟩) b (.inLoop c :: k) cs hro hb hrm
      rcases hq with ⟨rfl, m, s'', ι', S', hJm, hlt, hr'⟩ | ⟨hne, hq⟩
      · obtain ⟨e₂, a₂, w₂, hq₂, harr₂⟩ := ih m hlt s'' hJm ι' S' a₁ w₁ hr'
        exact ⟨e₂, a₂, w₂, hq₂, .of_steps (StepsIn.trans harr (.one (fencedR _) stepR_inLoop)) harr₂⟩
      · exact ⟨e, a₁, w₁, hq, .pass (x := .inLoop c) rfl (fun _ _ => .inl hne) harr⟩
  obtain ⟨e, a', w', hq, harr⟩ := key n0 s h0 ι S a w hr
  exact ⟨e, a', w', hq, .of_steps (.one (fencedR _) stepR_loop) harr⟩

theorem awp_loop {α : Type} {c : Code} (I : α → St) (J : α → Prop) (μ : α → Nat) (x0 : α) (h0 : Ent s (I x0)) (hJ : J x0)
    (round : ∀ x, J x → AWp P c (I x) (thenA (fun s' => ∃ y, J y ∧ μ y < μ x ∧ Ent s' (I y)) Q)) : AWp P (.loop c) s Q :=
  awp_ent h0 (awp_loopJ (fun n s => ∃ x, s = I x ∧ J x ∧ μ x = n) (μ x0) ⟨x0, rfl, hJ, rfl⟩ fun n s hx => by
    obtain ⟨x, rfl, hJx, rfl⟩ := hx
    refine awp_mono (round x hJx) fun e s' hq => ?_
    cases e with
    | normal =>
      obtain ⟨y, hy, hlt, he⟩ := hq
      exact ⟨μ y, hlt, I y, he, y, rfl, hy, rfl⟩
    | _ => exact hq)

/-- A loop of at most n rounds, round by round. -/
def Loops (P : Program) (c : Code) (Q : Exit → St → Prop) : Nat → St → Prop
  | 0, _ => False
  | n + 1, s => AWp P c s (thenA (fun s' => Loops P c Q n s') Q)

theorem awp_rounds {c : Code} (n : Nat) (h : Loops P c Q n s) : AWp P (.loop c) s Q :=
  awp_loopJ (Loops P c Q) n h fun n s hn => by
    cases n with
    | zero => exact hn.elim
    | succ n =>
      refine awp_mono hn fun e s' hq => ?_
      cases e with
      | normal => exact ⟨n, Nat.lt_succ_self n, s', Ent.refl _, hq⟩
      | _ => exact hq
end

end Go.Proofs.YtidhdlhblhbahaaGreat.Am

/- The machine of values: operations that change no memory. -/
set_option linter.unusedVariables false
set_option linter.unusedSimpArgs false
namespace Go.Proofs.YtidhdlhblhbahaaGreat.Am
open Go Go.RowKit

/-! ### What is asked of types -/
def szOf (P : Program) (t : TypeId) : Option Nat := (P.info? t).map (·.size)
def aggOf (P : Program) (t : TypeId) : Option Bool := (P.underlying t).map fun | .struct _ | .array _ _ => true | _ => false
def fieldOf (P : Program) (t : TypeId) (f : Nat) : Option (TypeId × Nat) := match P.underlying t with | some (.struct fs) => (fs[f]?).map fun x => (x.type, x.offset) | _ => none
def elemOf (P : Program) (t : TypeId) : Option TypeId := match P.underlying t with | some (.slice e) => some e | _ => none
def isStr (P : Program) (t : TypeId) : Bool := P.underlying t matches some .string
def isBool (P : Program) (t : TypeId) : Bool := P.underlying t matches some .bool
def isPtr (P : Program) (t : TypeId) : Bool := P.underlying t matches some (.pointer _)
def noGuard (P : Program) (t : TypeId) : Bool := !P.eqGuardType P.depth t
/-- The fields of a struct that can be compared: types and offsets. -/
def eqfOf (P : Program) (t : TypeId) : Option (List (TypeId × Nat)) :=
  match P.underlying t with
  | some (.struct fs) => if P.stoodInHeld t = false ∧ fs.toList.all (fun f => f.name != "_") = true then some (fs.toList.map fun f => (f.type, f.offset)) else none
  | _ => none
def intOfT (P : Program) (t : TypeId) : Option IntKind := match P.underlying t with | some (.int k) => some k | _ => none

section
variable {P : Program} (w : World)
theorem run_szOf {t : TypeId} {z : Nat} (h : szOf P t = some z) : (sizeOf t).run P w = .ok z w := by
  unfold szOf at h
  cases hi : P.info? t with
  | none => simp [hi] at h
  | some i => simp [hi] at h; simp [sizeOf, typeInfo, hi, h]
theorem run_aggOf {t : TypeId} {b : Bool} (h : aggOf P t = some b) : (isAgg t).run P w = .ok b w := by
  unfold aggOf at h
  cases hi : P.underlying t with
  | none => simp [hi] at h
  | some d =>
    simp [hi] at h
    simp only [isAgg, Sem.run_bind, run_underlying hi, Result.andThen_ok]
    cases d <;> simp_all
theorem und_fieldOf {t : TypeId} {f : Nat} {x : TypeId × Nat} (h : fieldOf P t f = some x) : ∃ fs g, P.underlying t = some (.struct fs) ∧ fs[f]? = some g ∧ g.type = x.1 ∧ g.offset = x.2 := by
  unfold fieldOf at h
  split at h
  · rename_i fs hu
    cases hg : fs[f]? with
    | none => simp [hg] at h
    | some g => simp [hg] at h; subst h; exact ⟨fs, g, hu, hg, rfl, rfl⟩
  · simp at h
theorem und_elemOf {t e : TypeId} (h : elemOf P t = some e) : P.underlying t = some (.slice e) := by
  unfold elemOf at h
  split at h
  · rename_i hu; simp at h; subst h; exact hu
  · simp at h
end

theorem und_isPtr {P : Program} {t : TypeId} (h : isPtr P t = true) : P.underlying t = some (.pointer (P.pointee t)) := by
  unfold isPtr at h
  split at h
  · rename_i e hu; simp [Program.pointee, hu]
  · simp at h

/-! ### Operands -/
def constPV : Value → Option PV
  | .agg cs => if cs.toList.all scal then some (.agg (cs.toList.map .k)) else none
  | .tuple cs => if cs.toList.all scal then some (.tup (cs.toList.map .k)) else none
  | v => if scal v then some (.k v) else none

def opd (s : St) : Operand → Option PV
  | .tmp t => look s.T t
  | .const v => constPV v
  | .func f => some (.clo (.func f) [])
  | .global _ => none

theorem IRel.ks (S : Nat → Prop) (w : World) (l : List Value) (h : l.all scal = true) : ∀ (j : Nat) (p : PV), (l.map PV.k)[j]? = some p → IRel S w (l.toArray.getD j Go.undef) p := by
  intro j p hj
  simp only [List.getElem?_map, Option.map_eq_some_iff] at hj
  obtain ⟨v, hv, rfl⟩ := hj
  have hlt := (List.getElem?_eq_some_iff.1 hv).1
  have : l.toArray.getD j Go.undef = v := by simp [Array.getD, hlt]; exact (List.getElem?_eq_some_iff.1 hv).2
  rw [this]
  exact .k (List.all_eq_true.1 h v (List.mem_of_getElem? hv))

theorem constPV_rel {S : Nat → Prop} {w : World} {v : Value} {p : PV} (h : constPV v = some p) : IRel S w v p := by
  have hk : ∀ v p, (if scal v = true then some (PV.k v) else none) = some p → IRel S w v p := by
    intro v p h; split at h
    · simp at h; subst h; exact .k ‹_›
    · simp at h
  cases v with
  | agg cs =>
    simp only [constPV] at h
    split at h
    · rename_i hs
      simp at h; subst h
      refine .agg (by simp) (fun p hp => ?_) (by have := IRel.ks S w cs.toList hs; simpa using this)
      simp at hp; obtain ⟨v, _, rfl⟩ := hp; rfl
    · simp at h
  | tuple cs =>
    simp only [constPV] at h
    split at h
    · rename_i hs
      simp at h; subst h
      exact .tup (by simp) (by have := IRel.ks S w cs.toList hs; simpa using this)
    · simp at h
  | _ => exact hk _ _ h

theorem opd_rel {c : Ctx} {ι : Nat → Option Nat} {S : Nat → Prop} {s : St} {a : Act} {w : World} (hr : Rel c ι S s a w) {x : Operand} {p : PV} (h : opd s x = some p) : VRel s.σ.length ι S w (a.eval x) p := by
  cases x with
  | tmp t => exact hr.temps t p h
  | const v => exact .imm (constPV_rel h)
  | func f => simp only [opd, Option.some.injEq] at h; subst h; exact .imm (.clo (vs := #[]) rfl (by simp) (by simp))
  | global g => simp [opd] at h

theorem VRel.k_inv {n : Nat} {ι : Nat → Option Nat} {S : Nat → Prop} {w : World} {u v : Value} (h : VRel n ι S w u (.k v)) : u = v ∧ scal v = true := by
  cases h with | imm h => cases h with | k h => exact ⟨rfl, h⟩

/-! ### Computing with numbers, strings and bools -/
def binK (P : Program) (op : BinOp) (t : TypeId) (x y : Value) : Option Value :=
  match x, y with
  | .int k a, .int k' b =>
    match op with
    | .shl => if b < 0 then none else some (.int k (k.wrap (a * 2 ^ (min b.toNat k.bits))))
    | .shr => if b < 0 then none else some (.int k (a.fdiv (2 ^ (min b.toNat k.bits))))
    | op => if k ≠ k' then none else
      match op with
      | .add => some (.int k (k.wrap (a + b)))
      | .sub => some (.int k (k.wrap (a - b)))
      | .mul => some (.int k (k.wrap (a * b)))
      | .quo => if b = 0 then none else some (.int k (k.wrap (a.tdiv b)))
      | .rem => if b = 0 then none else some (.int k (a.tmod b))
      | .and => some (.int k (k.wrap (BitVec.ofInt k.bits a &&& BitVec.ofInt k.bits b).toNat))
      | .or => some (.int k (k.wrap (BitVec.ofInt k.bits a ||| BitVec.ofInt k.bits b).toNat))
      | .xor => some (.int k (k.wrap (BitVec.ofInt k.bits a ^^^ BitVec.ofInt k.bits b).toNat))
      | .andNot => some (.int k (k.wrap (BitVec.ofInt k.bits a &&& ~~~ BitVec.ofInt k.bits b).toNat))
      | .eql => some (.bool (decide (a = b)))
      | .neq => some (.bool (!decide (a = b)))
      | .lss => some (.bool (decide (a < b)))
      | .leq => some (.bool (decide (a ≤ b)))
      | .gtr => some (.bool (decide (a > b)))
      | .geq => some (.bool (decide (a ≥ b)))
      | _ => none
  | .string a, .string b =>
    match op with
    | .add => if ((a.size + b.size : Nat) : Int) > IntKind.i64.max then none else some (.string (a ++ b))
    | .eql => some (.bool (decide (a = b)))
    | .neq => some (.bool (!decide (a = b)))
    | _ => none
  | .bool a, .bool b => if isBool P t then (match op with | .eql => some (.bool (a == b)) | .neq => some (.bool (!(a == b))) | _ => none) else none
  | .pointer none, .pointer none => if isPtr P t then (match op with | .eql => some (.bool true) | .neq => some (.bool false) | _ => none) else none
  | _, _ => none

theorem toList_eq_iff (a b : ByteArray) : (a.toList == b.toList) = decide (a = b) := by
  rw [Bool.eq_iff_iff, beq_iff_eq, decide_eq_true_iff, ByteArray.toList_eq, ByteArray.toList_eq]
  constructor
  · intro h
    have h2 : a.data = b.data := Array.ext' h
    cases a; cases b
    simpa using h2
  · intro h; rw [h]

theorem run_equal_bool {P : Program} {t : TypeId} (hu : P.underlying t = some .bool) (a b : Bool) (w : World) : (Op.equal t (.bool a) (.bool b)).run P w = .ok (a == b) w := by
  have h : ∀ d, (Op.equalIn (d + 1) t (.bool a) (.bool b)).run P w = .ok (a == b) w := fun d => by
    rw [Op.equalIn]; simp only [Sem.run_bind, run_underlying hu, Result.andThen_ok]; rfl
  exact h 9999

theorem run_binK {P : Program} {op : BinOp} {t : TypeId} {x y : Value} {v : Value} (h : binK P op t x y = some v) (w : World) (X Y : Operand) :
    (do eqGuard op t X Y x y; binOp op t x y : Sem Value).run P w = .ok v w ∧ scal v = true := by
  unfold binK at h
  split at h
  · rename_i k a k' b
    have hg : (eqGuard op t X Y (.int k a) (.int k' b)).run P w = .ok () w := by
      unfold eqGuard; cases op <;> simp
    simp only [Sem.run_bind, hg, Result.andThen_ok]
    split at h
    · split at h
      · simp at h
      · rename_i hb; simp at h; subst h; simp [binOp, Op.shift, hb, scal]
    · split at h
      · simp at h
      · rename_i hb; simp at h; subst h; simp [binOp, Op.shift, hb, scal]
    · rename_i hs1 hs2
      split at h
      · simp at h
      · rename_i hk
        have hk' : k = k' := by simpa using hk
        subst hk'
        cases op <;> simp at h hs1 hs2 <;> first
          | (subst h; simp [binOp, Op.intArith, Op.intBits, Op.intCmp, scal, bne]; done)
          | (obtain ⟨h0, h⟩ := h; subst h; simp [binOp, Op.intDiv, h0, scal]; done)
          | skip
        all_goals (subst h; simp [binOp, Op.intCmp, scal]; rw [Bool.eq_iff_iff]; simp)
  · rename_i a b
    have hg : (eqGuard op t X Y (.string a) (.string b)).run P w = .ok () w := by
      unfold eqGuard; cases op <;> simp
    simp only [Sem.run_bind, hg, Result.andThen_ok]
    split at h
    · split at h
      · simp at h
      · rename_i hb; simp at h; subst h; simp only [binOp, Op.stringOp, if_neg hb]; simp [scal]
    · simp at h; subst h; simp [binOp, Op.stringOp, toList_eq_iff, scal]
    · simp at h; subst h; simp [binOp, Op.stringOp, toList_eq_iff, scal]
    · simp at h
  · rename_i a b
    split at h
    · rename_i hb
      have hu : P.underlying t = some .bool := by
        unfold isBool at hb
        split at hb
        · assumption
        · simp at hb
      have hg : (eqGuard op t X Y (.bool a) (.bool b)).run P w = .ok () w := by
        unfold eqGuard; cases op <;> simp
      simp only [Sem.run_bind, hg, Result.andThen_ok]
      split at h
      · simp at h; subst h; simp only [binOp, Sem.run_bind, run_equal_bool hu]; exact ⟨rfl, rfl⟩
      · simp at h; subst h; simp only [binOp, Sem.run_bind, run_equal_bool hu]; exact ⟨rfl, rfl⟩
      · simp at h
    · simp at h
  · split at h
    · rename_i hb
      have hg : (eqGuard op t X Y (.pointer none) (.pointer none)).run P w = .ok () w := by
        unfold eqGuard; cases op <;> simp
      simp only [Sem.run_bind, hg, Result.andThen_ok]
      have hu := und_isPtr hb
      split at h
      · simp at h; subst h; exact ⟨run_eql_pointer_nil w t none hu, rfl⟩
      · simp at h; subst h; exact ⟨run_neq_pointer_nil w t none hu, rfl⟩
      · simp at h
    · simp at h
  · simp at h

end Go.Proofs.YtidhdlhblhbahaaGreat.Am

/- The machine of values: each operation that only computes does what the machine says. -/
set_option linter.unusedVariables false
set_option linter.unusedSimpArgs false
namespace Go.Proofs.YtidhdlhblhbahaaGreat.Am
open Go Go.RowKit

theorem add_at (b o n : Nat) : (⟨b, o, none⟩ : Addr).add n = ⟨b, o + n, none⟩ := by unfold Addr.add; split <;> simp_all

/-! ### Rows laid end to end -/
theorem flatten_len {sz : Nat} : ∀ (rows : List (List PV)), (∀ r ∈ rows, r.length = sz) → rows.flatten.length = rows.length * sz
  | [], _ => by simp
  | r :: rows, h => by
    have h1 := flatten_len rows (fun x hx => h x (by simp [hx]))
    have h2 := h r (by simp)
    simp only [List.flatten_cons, List.length_append, List.length_cons, h1, h2, Nat.add_mul, Nat.one_mul]; omega

theorem flatten_drop {sz : Nat} (l : Nat) (rows : List (List PV)) (h : ∀ r ∈ rows, r.length = sz) (hl : l ≤ rows.length) (j : Nat) : (rows.drop l).flatten[j]? = rows.flatten[l * sz + j]? := by
  have e : rows.flatten = (rows.take l).flatten ++ (rows.drop l).flatten := by rw [← List.flatten_append, List.take_append_drop]
  have h1 : (rows.take l).flatten.length = l * sz := by
    rw [flatten_len (sz := sz) _ (fun r hr => h r (List.mem_of_mem_take hr)), List.length_take, Nat.min_eq_left hl]
  rw [e, List.getElem?_append_right (by omega), h1]
  congr 1; omega

theorem flatten_take {sz : Nat} (m : Nat) (rows : List (List PV)) (h : ∀ r ∈ rows, r.length = sz) (hm : m ≤ rows.length) (j : Nat) (hj : j < m * sz) : (rows.take m).flatten[j]? = rows.flatten[j]? := by
  have e : rows.flatten = (rows.take m).flatten ++ (rows.drop m).flatten := by rw [← List.flatten_append, List.take_append_drop]
  have h1 : (rows.take m).flatten.length = m * sz := by
    rw [flatten_len (sz := sz) _ (fun r hr => h r (List.mem_of_mem_take hr)), List.length_take, Nat.min_eq_left hm]
  rw [e, List.getElem?_append_left (by omega)]

theorem flatten_at {sz : Nat} (i : Nat) (rows : List (List PV)) (h : ∀ r ∈ rows, r.length = sz) (r : List PV) (hr : rows[i]? = some r) (j : Nat) (hj : j < sz) : rows.flatten[i * sz + j]? = r[j]? := by
  have hi := (List.getElem?_eq_some_iff.1 hr).1
  rw [← flatten_drop i rows h (by omega) j]
  rw [List.drop_eq_getElem_cons hi, List.flatten_cons, List.getElem?_append_left]
  · rw [(List.getElem?_eq_some_iff.1 hr).2]
  · have := h rows[i] (List.getElem_mem hi); omega

/-! ### Loads -/
def loadPV (P : Program) (σ : Boxes) (t : TypeId) (p : PV) : Option PV :=
  match aggOf P t, szOf P t with
  | some ag, some z =>
    match p with
    | .ptr b off =>
      match box σ b with
      | some cs => if ag then (if off + z ≤ cs.length then some (.agg ((cs.drop off).take z)) else none) else cs[off]?
      | none => none
    | .eptr cs => if ag then (if z ≤ cs.length then some (.agg (cs.take z)) else none) else cs[0]?
    | _ => none
  | _, _ => none

section
variable {P : Program} {c : Ctx} {ι : Nat → Option Nat} {S : Nat → Prop} {s : St} {a : Act} {w : World}

theorem loadVar_one {t : TypeId} {ad : Addr} {v : Value} (ha : aggOf P t = some false) (hc : w.cell? ad = some v) : (loadVar t ad).run P w = .ok v w := by
  simp [loadVar, run_aggOf w ha, hc]

theorem loadVar_agg {t : TypeId} {ad : Addr} {z : Nat} {g : Nat → Value} (ha : aggOf P t = some true) (hz : szOf P t = some z) (hc : ∀ j, j < z → w.cell? (ad.add j) = some (g j)) :
    (loadVar t ad).run P w = .ok (.agg ((List.range z).map g).toArray) w := by
  simp only [loadVar, Sem.run_bind, run_aggOf w ha, Result.andThen_ok, if_true, run_szOf w hz, run_loadCells w ad z g hc, Sem.run_map, Sem.run_pure]

theorem range_get (z : Nat) (g : Nat → Value) (j : Nat) (hj : j < z) : (((List.range z).map g).toArray).getD j undef = g j := by
  simp [Array.getD, hj]

theorem load_rel (hr : Rel c ι S s a w) {t : TypeId} {x : Value} {q p : PV} (hx : VRel s.σ.length ι S w x q) (h : loadPV P s.σ t q = some p) : ∃ v, (Instr.loadAt t x).run P w = .ok v w ∧ VRel s.σ.length ι S w v p := by
  unfold loadPV at h
  split at h
  · rename_i ag z hag hz
    split at h
    · rename_i b off
      cases hx with
      | imm hx => cases hx
      | ptr hb hblk hsh =>
        rename_i blk _
        split at h
        · rename_i cs hcs
          obtain ⟨blk', c', e, hb', g1, g0, g2⟩ := hr.st.cellsE hcs hblk hsh
          rw [hb'] at hblk; simp at hblk; subst hblk
          have hcell : ∀ j v, c'[j]? = some v → w.cell? ⟨blk', j, none⟩ = some v := fun j v hv => by simp [World.cell?, g1, hv]
          cases ag with
          | false =>
            simp at h
            obtain ⟨v, hv1, hv2⟩ := g2 off p h
            exact ⟨v, by simp [Instr.loadAt, Instr.sureAddr, loadVar_one hag (hcell _ _ hv1)], hv2⟩
          | true =>
            simp at h
            obtain ⟨hle, rfl⟩ := h
            have hcl : ∀ j, j < z → ∃ v, c'[off + j]? = some v ∧ ∀ p, cs[off + j]? = some p → VRel s.σ.length ι S w v p := fun j hj => by
              obtain ⟨v, hv1, hv2⟩ := g2 (off + j) _ (List.getElem?_eq_getElem (by omega))
              exact ⟨v, hv1, fun p hp => by rw [List.getElem?_eq_getElem (by omega)] at hp; simp at hp; subst hp; exact hv2⟩
            have hl : (loadVar t ⟨blk', off, none⟩).run P w = _ := loadVar_agg (g := fun j => c'.getD (off + j) undef) hag hz (fun j hj => by
              obtain ⟨v, hv1, _⟩ := hcl j hj
              rw [add_at, hcell _ _ hv1]
              simp [Array.getD_eq_getD_getElem?, hv1])
            refine ⟨_, by simp only [Instr.loadAt, Instr.sureAddr, Sem.run_bind, Sem.run_pure, Result.andThen_ok]; exact hl, ?_⟩
            · refine .agg (by simp; omega) (fun p hp => g0 p (List.mem_of_mem_drop (List.mem_of_mem_take hp))) (fun j p hj => ?_)
              have hjz : j < z := by
                have := (List.getElem?_eq_some_iff.1 hj).1; simp at this; omega
              rw [List.getElem?_take_of_lt hjz, List.getElem?_drop] at hj
              obtain ⟨v, hv1, hv2⟩ := hcl j hjz
              rw [range_get _ _ _ hjz]
              simp only [Array.getD_eq_getD_getElem?, hv1, Option.getD_some]
              exact hv2 p hj
        · simp at h
    · rename_i cs
      cases hx with
      | imm hx =>
        cases hx with
        | eptr g hS h1 hc h2 =>
          rename_i b o
          cases ag with
          | false =>
            simp at h
            have h0 : 0 < cs.length := (List.getElem?_eq_some_iff.1 h).1
            have hc0 := hc 0 h0
            rw [Nat.add_zero] at hc0
            exact ⟨g 0, by simp [Instr.loadAt, Instr.sureAddr, loadVar_one hag hc0], .imm (h2 0 p h)⟩
          | true =>
            simp at h
            obtain ⟨hle, rfl⟩ := h
            have hl : (loadVar t ⟨b, o, none⟩).run P w = _ := loadVar_agg (g := g) hag hz (fun j hj => by rw [add_at]; exact hc j (by omega))
            refine ⟨_, by simp only [Instr.loadAt, Instr.sureAddr, Sem.run_bind, Sem.run_pure, Result.andThen_ok]; exact hl, ?_⟩
            refine .imm (.agg (by simp; omega) (fun p hp => h1 p (List.mem_of_mem_take hp)) (fun j p hj => ?_))
            have hjz : j < z := by
              have := (List.getElem?_eq_some_iff.1 hj).1; simp at this; omega
            rw [List.getElem?_take_of_lt hjz] at hj
            rw [range_get _ _ _ hjz]
            exact h2 j p hj
    · simp at h
  · simp at h

/-! ### Fields, parts, indices -/
def partPV (P : Program) (t : TypeId) (cs : List PV) (off : Nat) : Option PV :=
  match aggOf P t, szOf P t with
  | some ag, some z => if ag then (if off + z ≤ cs.length then some (.agg ((cs.drop off).take z)) else none) else cs[off]?
  | _, _ => none

theorem agg_inv {n : Nat} {v : Value} {cs : List PV} (h : VRel n ι S w v (.agg cs)) : ∃ vs : Array Value, v = .agg vs ∧ vs.size = cs.length ∧ (∀ p ∈ cs, PV.one p = true) ∧ ∀ (j : Nat) (p : PV), cs[j]? = some p → VRel n ι S w (vs.getD j undef) p := by
  cases h with
  | imm h => cases h with
    | agg h1 h2 h3 => exact ⟨_, rfl, h1, h2, fun j p hj => .imm (h3 j p hj)⟩
  | agg h1 h2 h3 => exact ⟨_, rfl, h1, h2, h3⟩

theorem part_rel {n : Nat} {t : TypeId} {vs : Array Value} {cs : List PV} {off : Nat} {p : PV} (h0 : vs.size = cs.length) (h1 : ∀ p ∈ cs, PV.one p = true) (h2 : ∀ (j : Nat) (p : PV), cs[j]? = some p → VRel n ι S w (vs.getD j undef) p)
    (h : partPV P t cs off = some p) : ∃ v, (part t vs off).run P w = .ok v w ∧ VRel n ι S w v p := by
  unfold partPV at h
  split at h
  · rename_i ag z hag hz
    cases ag with
    | false =>
      simp at h
      have hlt := (List.getElem?_eq_some_iff.1 h).1
      have hv : vs[off]? = some (vs.getD off undef) := by simp [Array.getD, h0, hlt]
      exact ⟨_, by simp only [part, Sem.run_bind, run_aggOf w hag, Result.andThen_ok, Bool.false_eq_true, if_false, hv, Sem.run_pure], h2 off p h⟩
    | true =>
      simp at h
      obtain ⟨hle, rfl⟩ := h
      refine ⟨.agg (vs.extract off (off + z)), by simp only [part, Sem.run_bind, run_aggOf w hag, Result.andThen_ok, if_true, run_szOf w hz, Sem.run_pure], ?_⟩
      refine .agg (by simp; omega) (fun p hp => h1 p (List.mem_of_mem_drop (List.mem_of_mem_take hp))) (fun j p hj => ?_)
      have hjz : j < z := by
        have := (List.getElem?_eq_some_iff.1 hj).1; simp at this; omega
      rw [List.getElem?_take_of_lt hjz, List.getElem?_drop] at hj
      have e : (vs.extract off (off + z)).getD j undef = vs.getD (off + j) undef := by
        simp [Array.getD, Nat.min_eq_left (show off + z ≤ vs.size by omega)]
        rw [dif_pos (by omega), dif_pos (by omega)]
      rw [e]
      exact h2 _ _ hj
  · simp at h

def fieldAtPV (P : Program) (t : TypeId) (f : Nat) (p : PV) : Option PV :=
  match fieldOf P t f with
  | some (ft, o) =>
    match szOf P ft with
    | some z => if z = 0 then none else
      match p with
      | .ptr b off => some (.ptr b (off + o))
      | .eptr cs => some (.eptr (cs.drop o))
      | _ => none
    | none => none
  | none => none

theorem fieldAt_rel {n : Nat} {t : TypeId} {f : Nat} {x : Value} {q p : PV} (hx : VRel n ι S w x q) (h : fieldAtPV P t f q = some p) : ∃ v, (Instr.fieldAt t x f).run P w = .ok v w ∧ VRel n ι S w v p := by
  unfold fieldAtPV at h
  split at h
  · rename_i ft o hf
    split at h
    · rename_i z hz
      split at h
      · simp at h
      · rename_i hz0
        obtain ⟨fs, fl, hu, hfs, ht, ho⟩ := und_fieldOf hf
        simp only at ht ho
        subst ht ho
        have hfp : ∀ ad, (fieldPlace ad fl).run P w = .ok (ad.add fl.offset) w := fun ad => by
          simp [fieldPlace, run_szOf w hz, hz0]
        have hrun : ∀ ad, (Instr.fieldAt t (.pointer (some ad)) f).run P w = .ok (.pointer (some (ad.add fl.offset))) w := fun ad => by
          simp only [Instr.fieldAt, Sem.run_bind, run_underlying hu, Result.andThen_ok, hfs, Instr.sureAddr, Sem.run_pure, hfp]
        split at h
        · rename_i b off
          simp at h; subst h
          cases hx with
          | imm hx => cases hx
          | ptr hb hblk hsh => exact ⟨_, hrun _, by rw [add_at]; exact .ptr hb hblk hsh⟩
        · rename_i cs
          simp at h; subst h
          cases hx with
          | imm hx => cases hx with
            | eptr g hS h1 hc h2 =>
              rename_i b o
              refine ⟨_, hrun _, ?_⟩
              rw [add_at]
              refine .imm (.eptr (fun j => g (fl.offset + j)) hS (fun p hp => h1 p (List.mem_of_mem_drop hp)) (fun j hj => ?_) (fun j p hj => ?_))
              · rw [Nat.add_assoc]; exact hc _ (by simp at hj; omega)
              · rw [List.getElem?_drop] at hj; exact h2 _ _ hj
        · simp at h
    · simp at h
  · simp at h

def indexAtPV (P : Program) (t : TypeId) (p : PV) (i : Int) : Option PV :=
  match elemOf P t with
  | some e =>
    match szOf P e with
    | some z =>
      match p with
      | .sl k rows => if 0 ≤ i ∧ k = z then (rows[i.toNat]?).map .eptr else none
      | .osl b k off len => if 0 ≤ i ∧ i < len ∧ k = z then some (.ptr b (off + i.toNat * k)) else none
      | .osc b k off len _ => if 0 ≤ i ∧ i < len ∧ k = z then some (.ptr b (off + i.toNat * k)) else none
      | _ => none
    | none => none
  | none => none

theorem indexAt_rel {n : Nat} {t : TypeId} {x : Value} {kk : IntKind} {i : Int} {q p : PV} (hx : VRel n ι S w x q) (h : indexAtPV P t q i = some p) : ∃ v, (Instr.indexAt t x (.int kk i)).run P w = .ok v w ∧ VRel n ι S w v p := by
  unfold indexAtPV at h
  split at h
  · rename_i e he
    have hu := und_elemOf he
    split at h
    · rename_i z hz
      have hrun : ∀ (ad : Addr) (len cap : Nat), 0 ≤ i → i < (len : Int) → (Instr.indexAt t (.slice (some ad) len cap) (.int kk i)).run P w = .ok (.pointer (some (ad.add (i.toNat * z)))) w := fun ad len cap h0 h1 => by
        simp [Instr.indexAt, asIntOf, run_underlying hu, h0, h1, run_szOf w hz]
      split at h
      · rename_i sz rows
        split at h
        · rename_i hc
          · simp only [Option.map_eq_some_iff] at h
            obtain ⟨r, hrow, rfl⟩ := h
            cases hx with
            | imm hx => cases hx with
              | sl g h1 h2 h3 h4 h5 h6 h7 h8 =>
                rename_i a n cap
                have hi := (List.getElem?_eq_some_iff.1 hrow).1
                obtain ⟨b, o, rfl, hS, hg⟩ := h7 (by omega)
                have hsz : sz = z := hc.2
                subst hsz
                refine ⟨_, hrun _ _ _ hc.1 (by omega), ?_⟩
                rw [add_at]
                refine .imm (.eptr (fun j => g (i.toNat * sz + j)) hS (h5 r (List.mem_of_getElem? hrow)) (fun j hj => ?_) (fun j p hj => ?_))
                · rw [Nat.add_assoc]
                  refine hg _ ?_
                  have hrl : r.length = sz := h4 r (List.mem_of_getElem? hrow)
                  have : i.toNat * sz + j < (i.toNat + 1) * sz := by rw [Nat.add_mul]; omega
                  exact Nat.lt_of_lt_of_le this (Nat.mul_le_mul_right _ (by omega))
                · have hjl := (List.getElem?_eq_some_iff.1 hj).1
                  have hrl : r.length = sz := h4 r (List.mem_of_getElem? hrow)
                  exact h8 _ _ (by rw [flatten_at i.toNat rows h4 r hrow j (by omega)]; exact hj)
        · simp at h
      · rename_i b k off len
        split at h
        · rename_i hc
          simp at h; subst h
          cases hx with
          | imm hx => cases hx
          | osl h1 h2 h3 h4 h5 h6 =>
            obtain ⟨c1, c2, rfl⟩ := hc
            refine ⟨_, hrun _ _ _ c1 c2, ?_⟩
            rw [add_at]; exact .ptr h1 h4 h5
          | osl0 h1 => omega
        · simp at h
      · rename_i b k off len cap
        split at h
        · rename_i hc
          simp at h; subst h
          cases hx with
          | imm hx => cases hx
          | osc h1 h2 h3 h4 h5 h6 =>
            obtain ⟨c1, c2, rfl⟩ := hc
            refine ⟨_, hrun _ _ _ c1 c2, ?_⟩
            rw [add_at]; exact .ptr h1 h4 h5
          | osc0 h1 => omega
        · simp at h
      · simp at h
    · simp at h
  · simp at h
end

end Go.Proofs.YtidhdlhblhbahaaGreat.Am

/- The machine of values: cutting slices, and all operations that only compute, together. -/
set_option linter.unusedVariables false
set_option linter.unusedSimpArgs false
namespace Go.Proofs.YtidhdlhblhbahaaGreat.Am
open Go Go.RowKit

def slicePV (P : Program) (t : TypeId) (p : PV) (lo hi mx : Option Int) : Option PV :=
  match p with
  | .k (.string s) =>
    if isStr P t = true ∧ mx = none ∧ 0 ≤ lo.getD 0 ∧ lo.getD 0 ≤ hi.getD s.size ∧ hi.getD s.size ≤ s.size then some (.k (.string (s.extract (lo.getD 0).toNat (hi.getD s.size).toNat))) else none
  | .sl z rows =>
    match elemOf P t with
    | some e =>
      if szOf P e = some z ∧ 0 ≤ lo.getD 0 ∧ lo.getD 0 ≤ hi.getD rows.length ∧ hi.getD rows.length ≤ mx.getD rows.length ∧ mx.getD rows.length ≤ rows.length ∧ (mx = none ∨ hi ≠ none) then
        some (.sl z ((rows.take (hi.getD rows.length).toNat).drop (lo.getD 0).toNat)) else none
    | none => none
  | .osl b z off len =>
    match elemOf P t with
    | some e =>
      if szOf P e = some z ∧ 0 ≤ lo.getD 0 ∧ lo.getD 0 ≤ hi.getD len ∧ hi.getD len ≤ mx.getD len ∧ mx.getD len ≤ len ∧ (mx = none ∨ hi ≠ none) then
        some (.osl b z (off + (lo.getD 0).toNat * z) ((hi.getD len).toNat - (lo.getD 0).toNat)) else none
    | none => none
  | .osc b z off len cap =>
    match elemOf P t with
    | some e =>
      if szOf P e = some z ∧ 0 ≤ lo.getD 0 ∧ lo.getD 0 ≤ hi.getD len ∧ hi.getD len ≤ mx.getD cap ∧ mx.getD cap ≤ cap ∧ (mx = none ∨ hi ≠ none) then
        some (.osc b z (off + (lo.getD 0).toNat * z) ((hi.getD len).toNat - (lo.getD 0).toNat) ((mx.getD cap).toNat - (lo.getD 0).toNat)) else none
    | none => none
  | .k (.slice none 0 0) =>
    match elemOf P t with
    | some e =>
      if (szOf P e).isSome = true ∧ 0 = lo.getD 0 ∧ 0 = hi.getD 0 ∧ 0 = mx.getD 0 ∧ (mx = none ∨ hi ≠ none) then some (.k (.slice none 0 0)) else none
    | none => none
  | _ => none

def IntO : Option Value → Option Int → Prop
  | none, none => True
  | some v, some i => ∃ k, v = .int k i
  | _, _ => False

section
variable {P : Program} {c : Ctx} {ι : Nat → Option Nat} {S : Nat → Prop} {s : St} {a : Act} {w : World}

theorem run_bounds (isS : Bool) (len cap : Nat) {lo hi mx : Option Int} {lo' hi' mx' : Option Value} (h1 : IntO lo' lo) (h2 : IntO hi' hi) (h3 : IntO mx' mx)
    (l1 : 0 ≤ lo.getD 0) (l2 : lo.getD 0 ≤ hi.getD len) (l3 : hi.getD len ≤ mx.getD cap) (l4 : mx.getD cap ≤ cap) (l5 : mx = none ∨ hi ≠ none) :
    (Instr.sliceBounds isS len cap lo' hi' mx').run P w = .ok ((lo.getD 0).toNat, (hi.getD len).toNat, (mx.getD cap).toNat) w := by
  unfold Instr.sliceBounds
  cases mx with
  | none =>
    cases mx' with
    | some v => exact h3.elim
    | none =>
      cases hi with
      | none =>
        cases hi' with
        | some v => exact h2.elim
        | none =>
          cases lo with
          | none =>
            cases lo' with
            | some v => exact h1.elim
            | none => simp
          | some l =>
            cases lo' with
            | none => exact h1.elim
            | some v =>
              obtain ⟨k, rfl⟩ := h1
              simp at l1 l2 ⊢
              simp [Instr.sliceBound, asIntOf, l1, l2]
      | some hh =>
        cases hi' with
        | none => exact h2.elim
        | some v =>
          obtain ⟨k, rfl⟩ := h2
          cases lo with
          | none =>
            cases lo' with
            | some v => exact h1.elim
            | none => simp at l2 l3 ⊢; simp [Instr.sliceBound, asIntOf, l2, l3]
          | some l =>
            cases lo' with
            | none => exact h1.elim
            | some v =>
              obtain ⟨k, rfl⟩ := h1
              simp at l1 l2 l3 ⊢
              have e : l ≤ ((hh.toNat : Nat) : Int) := by omega
              have e' : 0 ≤ hh := by omega
              have e0 : max hh 0 = hh := by omega
              simp [Instr.sliceBound, asIntOf, l1, l2, l3, e', e0]
  | some m =>
    cases mx' with
    | none => exact h3.elim
    | some v =>
      obtain ⟨k, rfl⟩ := h3
      cases hi with
      | none => simp at l5
      | some hh =>
        cases hi' with
        | none => exact h2.elim
        | some v =>
          obtain ⟨k, rfl⟩ := h2
          cases lo with
          | none =>
            cases lo' with
            | some v => exact h1.elim
            | none =>
              simp at l2 l3 l4 ⊢
              have e : 0 ≤ m := by omega
              have e0 : max m 0 = m := by omega
              simp [Instr.sliceBound, asIntOf, l2, l3, l4, e, e0]
          | some l =>
            cases lo' with
            | none => exact h1.elim
            | some v =>
              obtain ⟨k, rfl⟩ := h1
              simp at l1 l2 l3 l4 ⊢
              have e : 0 ≤ m := by omega
              have e1 : hh ≤ ((m.toNat : Nat) : Int) := by omega
              have e2 : l ≤ ((hh.toNat : Nat) : Int) := by omega
              have e3 : 0 ≤ hh := by omega
              have e0 : max m 0 = m := by omega
              have e5 : max hh 0 = hh := by omega
              simp [Instr.sliceBound, asIntOf, l1, l2, l3, l4, e, e3, e0, e5]

theorem sliceAt_slice {t e : TypeId} (he : elemOf P t = some e) {z : Nat} (hz : szOf P e = some z) {lo' hi' mx' : Option Value} {ad : Option Addr} {len cap l h m : Nat}
    (hb : (Instr.sliceBounds true len cap lo' hi' mx').run P w = .ok (l, h, m) w) :
    (Instr.sliceAt t (.slice ad len cap) lo' hi' mx').run P w = .ok (.slice (if m = l then ad else ad.map (·.add (l * z))) (h - l) (m - l)) w := by
  have hu := und_elemOf he
  simp only [Instr.sliceAt, Sem.run_bind, run_underlying hu, Result.andThen_ok, Instr.slice, hb, run_szOf w hz, Sem.run_pure]

theorem slice_rel {n : Nat} {t : TypeId} {x : Value} {q p : PV} {lo hi mx : Option Int} {lo' hi' mx' : Option Value} (h1 : IntO lo' lo) (h2 : IntO hi' hi) (h3 : IntO mx' mx)
    (hx : VRel n ι S w x q) (h : slicePV P t q lo hi mx = some p) : ∃ v, (Instr.sliceAt t x lo' hi' mx').run P w = .ok v w ∧ VRel n ι S w v p := by
  unfold slicePV at h
  split at h
  · rename_i s
    split at h
    · rename_i hc
      obtain ⟨c1, rfl, c3, c4, c5⟩ := hc
      simp at h; subst h
      obtain ⟨rfl, _⟩ := hx.k_inv
      have hu : P.underlying t = some .string := by
        unfold isStr at c1; split at c1
        · assumption
        · simp at c1
      have hb := run_bounds (P := P) (w := w) false s.size s.size h1 h2 h3 c3 c4 (by simpa using c5) (by simp) (.inl rfl)
      cases mx' with
      | some v => exact h3.elim
      | none =>
        refine ⟨_, ?_, .imm (.k (by simp [scal]))⟩
        simp only [Instr.sliceAt, Sem.run_bind, run_underlying hu, Result.andThen_ok, Instr.slice]
        simp only [Option.isSome_none, Bool.false_eq_true, if_false, Sem.run_bind, hb, Result.andThen_ok, Sem.run_pure]
    · simp at h
  · rename_i z rows
    split at h
    · rename_i e he
      split at h
      · rename_i hc
        obtain ⟨c1, c2, c3, c4, c5, c6⟩ := hc
        simp at h; subst h
        cases hx with
        | imm hx => cases hx with
          | sl g g1 g2 g3 g4 g5 g6 g7 g8 =>
            rename_i ad nn cap
            subst g1
            have hmx : mx.getD cap ≤ (cap : Int) := by cases mx with | none => simp | some m => simp at c5 ⊢; omega
            have hhm : hi.getD (rows.length : Int) ≤ mx.getD (cap : Int) := by cases mx with | none => simp at c4 ⊢; omega | some m => simpa using c4
            have hb := run_bounds (P := P) (w := w) true rows.length cap h1 h2 h3 c2 c3 hhm hmx c6
            refine ⟨_, sliceAt_slice he c1 hb, ?_⟩
            generalize hl : (lo.getD 0).toNat = l at *
            generalize hh : (hi.getD (rows.length : Int)).toNat = h at *
            generalize hm : (mx.getD (cap : Int)).toNat = m at *
            have k1 : l ≤ h := by omega
            have k2 : h ≤ rows.length := by
              have : hi.getD (rows.length : Int) ≤ rows.length := by omega
              omega
            have k3 : h ≤ m := by omega
            have k4 : m ≤ cap := by omega
            have hlen : ((rows.take h).drop l).length = h - l := by simp; omega
            have hmem : ∀ r, r ∈ (rows.take h).drop l → r ∈ rows := fun r hr => List.mem_of_mem_take (List.mem_of_mem_drop hr)
            refine .imm (.sl (fun j => g (l * z + j)) hlen (by omega) (by omega) (fun r hr => g4 r (hmem r hr)) (fun r hr => g5 r (hmem r hr)) (fun e => ?_) (fun hn => ?_) (fun j p hj => ?_))
            · split at e
              · omega
              · have := g6 (by simpa using e); omega
            · obtain ⟨b, o, rfl, hS, hg⟩ := g7 (by omega)
              rw [if_neg (by omega)]
              refine ⟨b, o + l * z, by simp [add_at], hS, fun j hj => ?_⟩
              rw [Nat.add_assoc]
              refine hg _ ?_
              have e1 : (h - l) * z = h * z - l * z := Nat.sub_mul _ _ _
              have e2 : h * z ≤ rows.length * z := Nat.mul_le_mul_right _ k2
              omega
            · have hj' := (List.getElem?_eq_some_iff.1 hj).1
              have hfl : ((rows.take h).drop l).flatten.length = (h - l) * z := by rw [flatten_len (sz := z) _ (fun r hr => g4 r (hmem r hr)), hlen]
              refine g8 _ _ ?_
              rw [flatten_drop (sz := z) l (rows.take h) (fun r hr => g4 r (List.mem_of_mem_take hr)) (by simp; omega)] at hj
              rw [flatten_take (sz := z) h rows g4 k2] at hj
              · exact hj
              · have e1 : (h - l) * z = h * z - l * z := Nat.sub_mul _ _ _
                omega
      · simp at h
    · simp at h
  · rename_i b z off len
    split at h
    · rename_i e he
      split at h
      · rename_i hc
        obtain ⟨c1, c2, c3, c4, c5, c6⟩ := hc
        simp at h; subst h
        cases hx with
        | imm hx => cases hx
        | osl g1 g2 g3 g4 g5 g6 =>
          rename_i cap blk e' mm
          have hmx : mx.getD cap ≤ (cap : Int) := by cases mx with | none => simp | some m => simp at c5 ⊢; omega
          have hhm : hi.getD (len : Int) ≤ mx.getD (cap : Int) := by cases mx with | none => simp at c4 ⊢; omega | some m => simpa using c4
          have hb := run_bounds (P := P) (w := w) true len cap h1 h2 h3 c2 c3 hhm hmx c6
          have hrun := sliceAt_slice (w := w) he c1 (ad := some ⟨blk, off, none⟩) hb
          generalize hl : (lo.getD 0).toNat = l at *
          generalize hh : (hi.getD (len : Int)).toNat = h at *
          generalize hm : (mx.getD (cap : Int)).toNat = m at *
          have k1 : l ≤ h := by omega
          have k2 : h ≤ len := by
            have : hi.getD (len : Int) ≤ len := by omega
            omega
          have k3 : h ≤ m := by omega
          have k4 : m ≤ cap := by omega
          have hmul : off + l * z + (m - l) * z ≤ mm := by
            have e1 : (m - l) * z = m * z - l * z := Nat.sub_mul _ _ _
            have e2 : m * z ≤ cap * z := Nat.mul_le_mul_right _ k4
            have e3 : l * z ≤ m * z := Nat.mul_le_mul_right _ (by omega)
            omega
          by_cases hml : m = l
          · rw [if_pos hml] at hrun
            have q1 : h - l = 0 := by omega
            have q2 : m - l = 0 := by omega
            rw [q1, q2] at hrun
            rw [q1]
            exact ⟨_, hrun, .osl0 g1⟩
          · rw [if_neg hml] at hrun
            refine ⟨_, hrun, ?_⟩
            simp only [Option.map_some, add_at]
            exact .osl g1 (by omega) (by omega) g4 g5 hmul
        | osl0 g1 =>
          rename_i ad
          have q0 : lo.getD 0 = 0 := by simp at c3 c4 c5; omega
          have q1 : hi.getD ((0 : Nat) : Int) = 0 := by simp at c3 c4 c5 ⊢; omega
          have q2 : mx.getD ((0 : Nat) : Int) = 0 := by simp at c3 c4 c5 ⊢; omega
          have hb := run_bounds (P := P) (w := w) true 0 0 h1 h2 h3 c2 c3 c4 c5 c6
          rw [q0, q1, q2] at hb
          have hrun := sliceAt_slice (w := w) he c1 (ad := ad) hb
          rw [q0, q1]
          simp only [Int.toNat_zero, Nat.zero_mul, if_true, Nat.sub_self] at hrun ⊢
          exact ⟨_, hrun, .osl0 g1⟩
      · simp at h
    · simp at h
  · rename_i b z off len cap
    split at h
    · rename_i e he
      split at h
      · rename_i hc
        obtain ⟨c1, c2, c3, c4, c5, c6⟩ := hc
        simp at h; subst h
        cases hx with
        | imm hx => cases hx
        | osc g1 g2 g3 g4 g5 g6 =>
          rename_i blk e' mm
          have hb := run_bounds (P := P) (w := w) true len cap h1 h2 h3 c2 c3 c4 c5 c6
          have hrun := sliceAt_slice (w := w) he c1 (ad := some ⟨blk, off, none⟩) hb
          generalize hl : (lo.getD 0).toNat = l at *
          generalize hh : (hi.getD (len : Int)).toNat = h at *
          generalize hm : (mx.getD (cap : Int)).toNat = m at *
          have k1 : l ≤ h := by omega
          have k3 : h ≤ m := by omega
          have k4 : m ≤ cap := by omega
          have hmul : off + l * z + (m - l) * z ≤ mm := by
            have e1 : (m - l) * z = m * z - l * z := Nat.sub_mul _ _ _
            have e2 : m * z ≤ cap * z := Nat.mul_le_mul_right _ k4
            have e3 : l * z ≤ m * z := Nat.mul_le_mul_right _ (by omega)
            omega
          by_cases hml : m = l
          · rw [if_pos hml] at hrun
            have q1 : h - l = 0 := by omega
            have q2 : m - l = 0 := by omega
            rw [q1, q2] at hrun ⊢
            exact ⟨_, hrun, .osc0 g1⟩
          · rw [if_neg hml] at hrun
            refine ⟨_, hrun, ?_⟩
            simp only [Option.map_some, add_at]
            exact .osc g1 (by omega) (by omega) g4 g5 hmul
        | osc0 g1 =>
          rename_i ad
          have q0 : lo.getD 0 = 0 := by simp at c3 c4 c5; omega
          have q1 : hi.getD ((0 : Nat) : Int) = 0 := by simp at c3 c4 c5 ⊢; omega
          have q2 : mx.getD ((0 : Nat) : Int) = 0 := by simp at c3 c4 c5 ⊢; omega
          have hb := run_bounds (P := P) (w := w) true 0 0 h1 h2 h3 c2 c3 c4 c5 c6
          rw [q0, q1, q2] at hb
          have hrun := sliceAt_slice (w := w) he c1 (ad := ad) hb
          rw [q0, q1, q2]
          simp only [Int.toNat_zero, Nat.zero_mul, if_true, Nat.sub_self] at hrun ⊢
          exact ⟨_, hrun, .osc0 g1⟩
      · simp at h
    · simp at h
  · split at h
    · rename_i e he
      split at h
      · rename_i hc
        obtain ⟨c1, c2, c3, c4, c5⟩ := hc
        simp at h; subst h
        obtain ⟨rfl, _⟩ := hx.k_inv
        obtain ⟨z, hz⟩ := Option.isSome_iff_exists.1 c1
        have hb := run_bounds (P := P) (w := w) true 0 0 h1 h2 h3 (by omega) (by simp; omega) (by simp; omega) (by simp; omega) c5
        have q1 : (lo.getD 0).toNat = 0 := by omega
        have q2 : (hi.getD ((0 : Nat) : Int)).toNat = 0 := by simp; omega
        have q3 : (mx.getD ((0 : Nat) : Int)).toNat = 0 := by simp; omega
        rw [q1, q2, q3] at hb
        refine ⟨_, sliceAt_slice he hz hb, ?_⟩
        exact .imm (.k (v := .slice none 0 0) rfl)
      · simp at h
    · simp at h
  · simp at h
end

/-! ### Structs held against each other -/
def scalEq (P : Program) (t : TypeId) (u v : Value) : Option Bool :=
  match u, v with
  | .int k a, .int k' b => if (intOfT P t).isSome = true ∧ k = k' then some (decide (a = b)) else none
  | .bool a, .bool b => if isBool P t = true then some (a == b) else none
  | .string a, .string b => if isStr P t = true then some (decide (a = b)) else none
  | _, _ => none
def eqGo (P : Program) (E : TypeId → PV → PV → Option Bool) : List (TypeId × Nat) → List PV → List PV → Option Bool
  | [], _, _ => some true
  | (ft, o) :: fs, xs, ys =>
    match partPV P ft xs o, partPV P ft ys o with
    | some p, some q => match E ft p q, eqGo P E fs xs ys with
      | some b, some r => some (b && r)
      | _, _ => none
    | _, _ => none
def eqPV (P : Program) : Nat → TypeId → PV → PV → Option Bool
  | 0, _, _, _ => none
  | _ + 1, t, .k u, .k v => scalEq P t u v
  | d + 1, t, .agg xs, .agg ys => match eqfOf P t with
    | some fs => eqGo P (eqPV P d) fs xs ys
    | none => none
  | _ + 1, _, _, _ => none

theorem scalEq_rel {P : Program} {t : TypeId} {u v : Value} {b : Bool} (h : scalEq P t u v = some b) (d : Nat) (w : World) : (Op.equalIn (d + 1) t u v).run P w = .ok b w := by
  unfold scalEq at h
  split at h
  · split at h
    · rename_i k a k' b' hc
      obtain ⟨h1, rfl⟩ := hc
      simp at h; subst h
      obtain ⟨kk, hk⟩ := Option.isSome_iff_exists.1 h1
      have hu : P.underlying t = some (.int kk) := by
        unfold intOfT at hk; split at hk
        · rename_i hh; simp at hk; subst hk; exact hh
        · simp at hk
      rw [run_equalIn_int w d t k kk a b' hu]
      congr 1
    · simp at h
  · split at h
    · rename_i hb
      simp at h; subst h
      have hu : P.underlying t = some .bool := by
        unfold isBool at hb; split at hb
        · assumption
        · simp at hb
      exact run_equalIn_bool w d t _ _ hu
    · simp at h
  · split at h
    · rename_i hb
      simp at h; subst h
      have hu : P.underlying t = some .string := by
        unfold isStr at hb; split at hb
        · assumption
        · simp at hb
      rw [run_equalIn_string w d t _ _ hu, toList_eq_iff]
    · simp at h
  · simp at h

theorem eqGo_rel {P : Program} {n : Nat} {ι : Nat → Option Nat} {S : Nat → Prop} {w : World} {E : TypeId → PV → PV → Option Bool} {d : Nat}
    (hE : ∀ t p q b x y, E t p q = some b → VRel n ι S w x p → VRel n ι S w y q → (Op.equalIn d t x y).run P w = .ok b w)
    {xs ys : Array Value} {ps qs : List PV} (h0 : xs.size = ps.length) (h1 : ∀ p ∈ ps, PV.one p = true) (h2 : ∀ (j : Nat) (p : PV), ps[j]? = some p → VRel n ι S w (xs.getD j undef) p)
    (k0 : ys.size = qs.length) (k1 : ∀ p ∈ qs, PV.one p = true) (k2 : ∀ (j : Nat) (p : PV), qs[j]? = some p → VRel n ι S w (ys.getD j undef) p) :
    ∀ (fs : List Field) (b : Bool), fs.all (fun f => f.name != "_") = true → eqGo P E (fs.map fun f => (f.type, f.offset)) ps qs = some b → (Op.eqFields d xs ys fs).run P w = .ok b w
  | [], b, _, h => by simp [eqGo] at h; subst h; simp [Op.eqFields]
  | f :: fs, b, hn, h => by
    simp only [List.all_cons, Bool.and_eq_true, bne_iff_ne, ne_eq] at hn
    simp only [List.map_cons, eqGo] at h
    split at h
    · rename_i p q hp hq
      split at h
      · rename_i b1 r hb1 hr
        simp at h; subst h
        obtain ⟨x, hx, hxp⟩ := part_rel h0 h1 h2 hp
        obtain ⟨y, hy, hyq⟩ := part_rel k0 k1 k2 hq
        have he := hE _ _ _ _ _ _ hb1 hxp hyq
        have ih := eqGo_rel hE h0 h1 h2 k0 k1 k2 fs r hn.2 hr
        simp only [Op.eqFields, ne_eq, hn.1, not_false_eq_true, if_true, Sem.run_bind, hx, Result.andThen_ok, hy, he]
        cases b1
        · simp
        · simpa using ih
      · simp at h
    · simp at h

theorem eqPV_rel {P : Program} {n : Nat} {ι : Nat → Option Nat} {S : Nat → Prop} {w : World} : ∀ (d D : Nat) (t : TypeId) (p q : PV) (b : Bool) (x y : Value), d ≤ D → eqPV P d t p q = some b → VRel n ι S w x p → VRel n ι S w y q → (Op.equalIn D t x y).run P w = .ok b w
  | 0, _, _, _, _, _, _, _, _, h, _, _ => by simp [eqPV] at h
  | d + 1, 0, _, _, _, _, _, _, hd, _, _, _ => by omega
  | d + 1, D + 1, t, p, q, b, x, y, hd, h, hx, hy => by
    unfold eqPV at h
    split at h
    · rename_i heq; cases heq
    · obtain ⟨rfl, _⟩ := hx.k_inv
      obtain ⟨rfl, _⟩ := hy.k_inv
      exact scalEq_rel h D w
    · rename_i t _ _ _ _ _ xs ys heq
      obtain rfl := Nat.succ.inj heq
      split at h
      · rename_i fs hfs
        unfold eqfOf at hfs
        split at hfs
        · rename_i fa hu
          split at hfs
          · rename_i hc
            simp at hfs; subst hfs
            obtain ⟨vx, rfl, a0, a1, a2⟩ := agg_inv hx
            obtain ⟨vy, rfl, b0, b1, b2⟩ := agg_inv hy
            have hf : P.fieldsOf t = fa := by simp [Program.fieldsOf, hu]
            rw [run_equalIn_struct w D t vx vy (by rw [hf]; exact hu) hc.1, hf]
            exact eqGo_rel (fun t p q b x y h1 h2 h3 => eqPV_rel d D t p q b x y (by omega) h1 h2 h3) a0 a1 a2 b0 b1 b2 _ b hc.2 h
          · simp at hfs
        · simp at hfs
      · simp at h
    · simp at h

def binAgg (P : Program) (op : BinOp) (t : TypeId) (p q : PV) : Option PV :=
  if noGuard P t = true then
    match op with
    | .eql => (eqPV P 9 t p q).map fun b => .k (.bool b)
    | .neq => (eqPV P 9 t p q).map fun b => .k (.bool (!b))
    | _ => none
  else none
def binPtr (P : Program) (op : BinOp) (t : TypeId) : Option PV :=
  if isPtr P t = true then
    match op with
    | .eql => some (.k (.bool false))
    | .neq => some (.k (.bool true))
    | _ => none
  else none

theorem binAgg_rel {P : Program} {n : Nat} {ι : Nat → Option Nat} {S : Nat → Prop} {w : World} {op : BinOp} {t : TypeId} {xs ys : List PV} {r : PV} {x y : Value} (h : binAgg P op t (.agg xs) (.agg ys) = some r) (hx : VRel n ι S w x (.agg xs)) (hy : VRel n ι S w y (.agg ys)) :
    ∃ v, (∀ X Y : Operand, (do eqGuard op t X Y x y; binOp op t x y : Sem Value).run P w = .ok v w) ∧ VRel n ι S w v r := by
  unfold binAgg at h
  split at h
  · rename_i hg
    have hg' : P.eqGuardType P.depth t = false := by simpa [noGuard] using hg
    have hk : ∀ b : Bool, VRel n ι S w (.bool b) (.k (.bool b)) := fun b => .imm (.k rfl)
    obtain ⟨vx, hvx, _⟩ := agg_inv hx
    obtain ⟨vy, hvy, _⟩ := agg_inv hy
    split at h
    · simp only [Option.map_eq_some_iff] at h
      obtain ⟨b, hb, rfl⟩ := h
      have he := eqPV_rel 9 10000 t _ _ b x y (by omega) hb hx hy
      subst hvx hvy
      exact ⟨.bool b, fun X Y => by simp only [Sem.run_bind, run_eqGuard_agg w _ t X Y vx vy hg', Result.andThen_ok, run_eql_struct, he], hk b⟩
    · simp only [Option.map_eq_some_iff] at h
      obtain ⟨b, hb, rfl⟩ := h
      have he := eqPV_rel 9 10000 t _ _ b x y (by omega) hb hx hy
      subst hvx hvy
      exact ⟨.bool (!b), fun X Y => by simp only [Sem.run_bind, run_eqGuard_agg w _ t X Y vx vy hg', Result.andThen_ok, run_neq_struct, he], hk _⟩
    · simp at h
  · simp at h

theorem binPtr_rel {P : Program} {n : Nat} {ι : Nat → Option Nat} {S : Nat → Prop} {w : World} {op : BinOp} {t : TypeId} {r : PV} {a : Addr} (h : binPtr P op t = some r) :
    ∃ v, (∀ X Y : Operand, (do eqGuard op t X Y (.pointer (some a)) (.pointer none); binOp op t (.pointer (some a)) (.pointer none) : Sem Value).run P w = .ok v w) ∧ VRel n ι S w v r := by
  unfold binPtr at h
  split at h
  · rename_i hb
    have hu := und_isPtr hb
    have hg : ∀ X Y : Operand, (eqGuard op t X Y (.pointer (some a)) (.pointer none)).run P w = .ok () w := fun X Y => by
      unfold eqGuard; cases op <;> simp
    split at h
    · simp at h; subst h; exact ⟨_, fun X Y => by simp only [Sem.run_bind, hg, Result.andThen_ok, run_eql_pointer_nil w t (some a) hu]; rfl, .imm (.k rfl)⟩
    · simp at h; subst h; exact ⟨_, fun X Y => by simp only [Sem.run_bind, hg, Result.andThen_ok, run_neq_pointer_nil w t (some a) hu]; rfl, .imm (.k rfl)⟩
    · simp at h
  · simp at h

end Go.Proofs.YtidhdlhblhbahaaGreat.Am

/- The machine of values: the operations that only compute, together, and the rules for a list of operations. -/
set_option linter.unusedVariables false
set_option linter.unusedSimpArgs false
namespace Go.Proofs.YtidhdlhblhbahaaGreat.Am
open Go Go.RowKit

def lenPV (P : Program) (t : TypeId) : PV → Option PV
  | .sl _ rows => if (elemOf P t).isSome then some (.k (.int .i64 rows.length)) else none
  | .osl _ _ _ n => if (elemOf P t).isSome then some (.k (.int .i64 n)) else none
  | .k (.string s) => if isStr P t then some (.k (.int .i64 s.size)) else none
  | .k (.slice none 0 0) => if (elemOf P t).isSome then some (.k (.int .i64 0)) else none
  | .osc _ _ _ n _ => if (elemOf P t).isSome then some (.k (.int .i64 n)) else none
  | _ => none
def capPV (P : Program) (t : TypeId) : PV → Option PV
  | .osc _ _ _ _ n => if (elemOf P t).isSome then some (.k (.int .i64 n)) else none
  | .k (.slice none 0 0) => if (elemOf P t).isSome then some (.k (.int .i64 0)) else none
  | _ => none

def builtinPV (P : Program) (b : Builtin) (ts : Array TypeId) (args : List PV) : Option PV :=
  match b, args with
  | .len, [p] => match ts[0]? with | some t => lenPV P t p | none => none
  | .cap, [p] => match ts[0]? with | some t => capPV P t p | none => none
  | .min, [.k (.int k x), .k (.int _ y)] => some (.k (.int k (if y < x then y else x)))
  | .max, [.k (.int k x), .k (.int _ y)] => some (.k (.int k (if x < y then y else x)))
  | _, _ => none

def opds (s : St) (l : List Operand) : Option (List PV) := l.mapM (opd s)

def opdI (s : St) (x : Operand) : Option Int := match opd s x with | some (.k (.int _ i)) => some i | _ => none
def opdIO (s : St) : Option Operand → Option (Option Int)
  | none => some none
  | some x => (opdI s x).map some

def pureVal (P : Program) (s : St) : Op → Option PV
  | .move x | .assign x => opd s x
  | .pick c a b => match opd s c with | some (.k (.bool true)) => opd s a | some (.k (.bool false)) => opd s b | _ => none
  | .load t a => match opd s a with | some p => loadPV P s.σ t p | none => none
  | .nilCheck x => match opd s x with | some (.ptr b o) => some (.ptr b o) | some (.eptr cs) => some (.eptr cs) | _ => none
  | .fieldAddr t x f => match opd s x with | some p => fieldAtPV P t f p | none => none
  | .field t x f => match fieldOf P t f, opd s x with | some (ft, o), some (.agg cs) => partPV P ft cs o | _, _ => none
  | .indexAddr t x i => match opd s x, opdI s i with | some p, some n => indexAtPV P t p n | _, _ => none
  | .index t x i => match opd s x, opdI s i with
    | some (.k (.string b)), some n => if isStr P t then (match (if 0 ≤ n then b[n.toNat]? else none) with | some c => some (.k (.int .u8 c.toNat)) | none => none) else none
    | _, _ => none
  | .binOp op t x y _ => match opd s x, opd s y with
    | some (.k u), some (.k v) => (binK P op t u v).map .k
    | some (.agg xs), some (.agg ys) => binAgg P op t (.agg xs) (.agg ys)
    | some (.ptr _ _), some (.k (.pointer none)) => binPtr P op t
    | some (.eptr _), some (.k (.pointer none)) => binPtr P op t
    | _, _ => none
  | .unOp op _ x => match op, opd s x with
    | .not, some (.k (.bool b)) => some (.k (.bool (!b)))
    | .neg, some (.k (.int k n)) => some (.k (.int k (k.wrap (0 - n))))
    | .xor, some (.k (.int k n)) => some (.k (.int k (k.wrap (BitVec.ofInt k.bits (if k.signed then -1 else k.max) ^^^ BitVec.ofInt k.bits n).toNat)))
    | _, _ => none
  | .convert src dst x => match (P.underlying src).isSome, intOfT P dst, opd s x with | true, some k, some (.k (.int _ n)) => some (.k (.int k (k.wrap n))) | _, _, _ => none
  | .makeFunc fn first caps => if first = #[] then (match opds s caps.toList with | some ps => if ps.all PV.one then some (.clo fn ps) else none | none => none) else none
  | .slice t x lo hi mx => match opd s x, opdIO s lo, opdIO s hi, opdIO s mx with | some p, some l, some h, some m => slicePV P t p l h m | _, _, _, _ => none
  | .extract x i => match opd s x with | some (.tup ps) => ps[i]? | _ => none
  | .call { callee := .builtin b, args, argTypes } => match opds s args.toList with | some ps => builtinPV P b argTypes ps | none => none
  | _ => none

section
variable {P : Program} {c : Ctx} {ι : Nat → Option Nat} {S : Nat → Prop} {s : St} {a : Act} {w : World}

theorem opdI_rel (hr : Rel c ι S s a w) {x : Operand} {i : Int} (h : opdI s x = some i) : ∃ k, a.eval x = .int k i := by
  unfold opdI at h
  split at h
  · rename_i k i' hx
    simp at h; subst h
    exact ⟨k, ((opd_rel hr hx).k_inv).1⟩
  · simp at h

theorem opdIO_rel (hr : Rel c ι S s a w) {x : Option Operand} {i : Option Int} (h : opdIO s x = some i) : IntO (x.map a.eval) i := by
  cases x with
  | none => simp [opdIO] at h; subst h; trivial
  | some x =>
    simp [opdIO] at h
    obtain ⟨j, hj, rfl⟩ := h
    exact opdI_rel hr hj

theorem opds_rel (hr : Rel c ι S s a w) : ∀ {l : List Operand} {ps : List PV}, opds s l = some ps → (l.map a.eval).length = ps.length ∧ ∀ (j : Nat) (p : PV), ps[j]? = some p → ∃ v, (l.map a.eval)[j]? = some v ∧ VRel s.σ.length ι S w v p
  | [], ps, h => by simp [opds] at h; subst h; simp
  | x :: l, ps, h => by
    simp only [opds, List.mapM_cons, Option.bind_eq_bind, Option.bind_eq_some_iff] at h
    obtain ⟨p, hp, ps', hps, h⟩ := h
    simp at h; subst h
    obtain ⟨h1, h2⟩ := opds_rel hr (l := l) (ps := ps') hps
    refine ⟨by simpa using h1, fun j q hj => ?_⟩
    cases j with
    | zero => simp at hj; subst hj; exact ⟨_, rfl, opd_rel hr hp⟩
    | succ j => simp at hj ⊢; simpa using h2 j q hj

theorem len_rel {n : Nat} {t : TypeId} {x : Value} {q p : PV} (hx : VRel n ι S w x q) (h : lenPV P t q = some p) (ty : TypeId) (ts : Array TypeId) (ht : ts[0]? = some t) : ∃ v, (Builtin.len_ ts ty #[x]).run P w = .ok v w ∧ VRel n ι S w v p := by
  have hk : ∀ m : Int, VRel n ι S w (goInt m) (.k (.int .i64 m)) := fun m => .imm (.k (v := .int .i64 m) rfl)
  unfold lenPV at h
  split at h
  · split at h
    · rename_i he
      simp at h; subst h
      obtain ⟨e, he⟩ := Option.isSome_iff_exists.1 he
      cases hx with
      | imm hx => cases hx with
        | sl g h1 h2 h3 h4 h5 h6 h7 h8 =>
          subst h1
          exact ⟨_, by simp [Builtin.len_, ht, run_underlying (und_elemOf he)], hk _⟩
    · simp at h
  · split at h
    · rename_i he
      simp at h; subst h
      obtain ⟨e, he⟩ := Option.isSome_iff_exists.1 he
      cases hx with
      | imm hx => cases hx
      | osl h1 h2 h3 h4 h5 h6 => exact ⟨_, by simp [Builtin.len_, ht, run_underlying (und_elemOf he)], hk _⟩
      | osl0 h1 => exact ⟨_, by simp [Builtin.len_, ht, run_underlying (und_elemOf he)], hk 0⟩
    · simp at h
  · split at h
    · rename_i hs
      simp at h; subst h
      obtain ⟨rfl, _⟩ := hx.k_inv
      have hu : P.underlying t = some .string := by
        unfold isStr at hs; split at hs
        · assumption
        · simp at hs
      exact ⟨_, by simp [Builtin.len_, ht, run_underlying hu], hk _⟩
    · simp at h
  · split at h
    · rename_i he
      simp at h; subst h
      obtain ⟨e, he⟩ := Option.isSome_iff_exists.1 he
      obtain ⟨rfl, _⟩ := hx.k_inv
      exact ⟨_, by simp [Builtin.len_, ht, run_underlying (und_elemOf he)], hk 0⟩
    · simp at h
  · split at h
    · rename_i he
      simp at h; subst h
      obtain ⟨e, he⟩ := Option.isSome_iff_exists.1 he
      cases hx with
      | imm hx => cases hx
      | osc h1 h2 h3 h4 h5 h6 => exact ⟨_, by simp [Builtin.len_, ht, run_underlying (und_elemOf he)], hk _⟩
      | osc0 h1 => exact ⟨_, by simp [Builtin.len_, ht, run_underlying (und_elemOf he)], hk 0⟩
    · simp at h
  · simp at h

theorem cap_rel {n : Nat} {t : TypeId} {x : Value} {q p : PV} (hx : VRel n ι S w x q) (h : capPV P t q = some p) (ty : TypeId) (ts : Array TypeId) (ht : ts[0]? = some t) : ∃ v, (Builtin.cap_ ts ty #[x]).run P w = .ok v w ∧ VRel n ι S w v p := by
  have hk : ∀ m : Int, VRel n ι S w (goInt m) (.k (.int .i64 m)) := fun m => .imm (.k (v := .int .i64 m) rfl)
  unfold capPV at h
  split at h
  · split at h
    · rename_i he
      simp at h; subst h
      obtain ⟨e, he⟩ := Option.isSome_iff_exists.1 he
      cases hx with
      | imm hx => cases hx
      | osc h1 h2 h3 h4 h5 h6 => exact ⟨_, by simp [Builtin.cap_, ht, run_underlying (und_elemOf he)], hk _⟩
      | osc0 h1 => exact ⟨_, by simp [Builtin.cap_, ht, run_underlying (und_elemOf he)], hk 0⟩
    · simp at h
  · split at h
    · rename_i he
      simp at h; subst h
      obtain ⟨e, he⟩ := Option.isSome_iff_exists.1 he
      obtain ⟨rfl, _⟩ := hx.k_inv
      exact ⟨_, by simp [Builtin.cap_, ht, run_underlying (und_elemOf he)], hk 0⟩
    · simp at h
  · simp at h

theorem arr1 {α : Type} {l : List α} {x : α} (h : l.length = 1) (hx : l[0]? = some x) : l.toArray = #[x] := by
  match l, h, hx with
  | [y], _, hx => simp at hx; subst hx; rfl

theorem arr2 {α : Type} {l : List α} {x y : α} (h : l.length = 2) (hx : l[0]? = some x) (hy : l[1]? = some y) : l.toArray = #[x, y] := by
  match l, h, hx, hy with
  | [u, v], _, hx, hy => simp at hx hy; subst hx hy; rfl

theorem isStr_und {t : TypeId} (hs : isStr P t = true) : P.underlying t = some .string := by
  unfold isStr at hs; split at hs
  · assumption
  · simp at hs
theorem intOfT_und {t : TypeId} {k : IntKind} (hk : intOfT P t = some k) : P.underlying t = some (.int k) := by
  unfold intOfT at hk; split at hk
  · rename_i hh; simp at hk; subst hk; exact hh
  · simp at hk
theorem kVR {n : Nat} {v : Value} (h : scal v = true) : VRel n ι S w v (.k v) := .imm (.k h)

theorem tup_inv {n : Nat} {v : Value} {ps : List PV} (h : VRel n ι S w v (.tup ps)) : ∃ vs : Array Value, v = .tuple vs ∧ vs.size = ps.length ∧ ∀ (j : Nat) (p : PV), ps[j]? = some p → VRel n ι S w (vs.getD j undef) p := by
  cases h with
  | imm h => cases h with
    | tup e1 e2 => exact ⟨_, rfl, e1, fun j p hj => .imm (e2 j p hj)⟩
  | tup e1 e2 => exact ⟨_, rfl, e1, e2⟩

theorem pure_rel (hr : Rel c ι S s a w) {o : Oper} {p : PV} (h : pureVal P s o.op = some p) : ∃ v, (execOp a.eval o).run P w = .ok (.value v) w ∧ VRel s.σ.length ι S w v p := by
  unfold execOp
  unfold pureVal at h
  split at h <;> rename_i hop <;> (try rw [hop]) <;> simp only []
  · exact ⟨_, rfl, opd_rel hr h⟩
  · exact ⟨_, rfl, opd_rel hr h⟩
  · split at h
    · rename_i hc
      have := (opd_rel hr hc).k_inv.1
      exact ⟨_, by simp [this, asBool], opd_rel hr h⟩
    · rename_i hc
      have := (opd_rel hr hc).k_inv.1
      exact ⟨_, by simp [this, asBool], opd_rel hr h⟩
    · simp at h
  · split at h
    · rename_i hx
      obtain ⟨v, hv, hp⟩ := load_rel hr (opd_rel hr hx) h
      exact ⟨v, by simp [hv], hp⟩
    · simp at h
  · split at h
    · rename_i b o' hx
      simp at h; subst h
      have hh := opd_rel hr hx
      generalize a.eval _ = y at hh ⊢
      cases hh with
      | imm hh => cases hh
      | ptr hb hb2 hb3 => exact ⟨_, rfl, .ptr hb hb2 hb3⟩
    · rename_i cs hx
      simp at h; subst h
      have hh := opd_rel hr hx
      generalize a.eval _ = y at hh ⊢
      cases hh with
      | imm hh => cases hh with
        | eptr g e1 e2 e3 e4 => exact ⟨_, rfl, .imm (.eptr g e1 e2 e3 e4)⟩
    · simp at h
  · split at h
    · rename_i hx
      obtain ⟨v, hv, hp⟩ := fieldAt_rel (opd_rel hr hx) h
      exact ⟨v, by simp [hv], hp⟩
    · simp at h
  · split at h
    · rename_i ft o' cs hf hx
      obtain ⟨fs, fl, hu, hfs, ht, ho⟩ := und_fieldOf hf
      obtain ⟨vs, hv, h0, h1, h2⟩ := agg_inv (opd_rel hr hx)
      obtain ⟨v, hv2, hp⟩ := part_rel h0 h1 h2 h
      simp only at ht ho
      subst ht ho
      exact ⟨v, by simp [Instr.field, run_underlying hu, hfs, hv, asAgg, hv2], hp⟩
    · simp at h
  · split at h
    · rename_i q i hx hi
      obtain ⟨k, hk⟩ := opdI_rel hr hi
      obtain ⟨v, hv, hp⟩ := indexAt_rel (opd_rel hr hx) h (kk := k)
      exact ⟨v, by simp [hk, hv], hp⟩
    · simp at h
  · split at h
    · rename_i b i hx hi
      split at h
      · rename_i hs
        obtain ⟨k, hk⟩ := opdI_rel hr hi
        have hb := (opd_rel hr hx).k_inv.1
        have hu := isStr_und hs
        split at h
        · rename_i cc hcc
          simp at h; subst h
          refine ⟨.int .u8 cc.toNat, ?_, kVR rfl⟩
          simp only [hk, hb, Sem.run_bind, Instr.index, asIntOf, Sem.run_pure, Result.andThen_ok, run_underlying hu, hcc]
        · simp at h
      · simp at h
    · simp at h
  · split at h
    · rename_i u v hx hy
      simp only [Option.map_eq_some_iff] at h
      obtain ⟨r, hr', rfl⟩ := h
      have hu := (opd_rel hr hx).k_inv.1
      have hv := (opd_rel hr hy).k_inv.1
      obtain ⟨h1, h2⟩ := run_binK hr' w _ _
      refine ⟨r, ?_, kVR h2⟩
      rw [hu, hv]
      simp only [Sem.run_bind] at h1 ⊢
      rw [h1]
      rfl
    · rename_i xs ys hx hy
      obtain ⟨v, hv, hp⟩ := binAgg_rel h (opd_rel hr hx) (opd_rel hr hy)
      refine ⟨v, ?_, hp⟩
      simp only [Sem.run_bind] at hv ⊢
      rw [hv]
      rfl
    · rename_i hx hy
      have hxx := opd_rel hr hx
      have hy2 := (opd_rel hr hy).k_inv.1
      generalize a.eval _ = x at hxx ⊢
      cases hxx with
      | imm hh => cases hh
      | ptr _ _ =>
        obtain ⟨v, hv, hp⟩ := binPtr_rel (n := s.σ.length) (ι := ι) (S := S) (w := w) h
        refine ⟨v, ?_, hp⟩
        rw [hy2]
        simp only [Sem.run_bind] at hv ⊢
        rw [hv]
        rfl
    · rename_i hx hy
      have hxx := opd_rel hr hx
      have hy2 := (opd_rel hr hy).k_inv.1
      generalize a.eval _ = x at hxx ⊢
      cases hxx with
      | imm hh => cases hh with
        | eptr g e1 e2 e3 e4 =>
          obtain ⟨v, hv, hp⟩ := binPtr_rel (n := s.σ.length) (ι := ι) (S := S) (w := w) h
          refine ⟨v, ?_, hp⟩
          rw [hy2]
          simp only [Sem.run_bind] at hv ⊢
          rw [hv]
          rfl
    · simp at h
  · split at h
    · rename_i b hx
      simp at h; subst h
      have hu := (opd_rel hr hx).k_inv.1
      exact ⟨_, by simp [hu, Op.unary], kVR rfl⟩
    · rename_i k n hx
      simp at h; subst h
      have hu := (opd_rel hr hx).k_inv.1
      exact ⟨_, by simp [hu, Op.unary, Op.intArith], kVR rfl⟩
    · rename_i k n hx
      simp at h; subst h
      have hu := (opd_rel hr hx).k_inv.1
      exact ⟨_, by simp [hu, Op.unary, Op.intBits], kVR rfl⟩
    · simp at h
  · split at h
    · rename_i k' n hs hk hx
      simp at h; subst h
      have hu := (opd_rel hr hx).k_inv.1
      obtain ⟨d, hd⟩ := Option.isSome_iff_exists.1 hs
      have hk' := intOfT_und hk
      exact ⟨_, by simp only [hu, convert, Sem.run_bind, run_underlying hd, run_underlying hk', Result.andThen_ok, Conv.intToInt, Sem.run_pure], kVR rfl⟩
    · simp at h
  · split at h
    · rename_i hf
      split at h
      · rename_i ps hps
        split at h
        · rename_i h1
          simp at h; subst h
          obtain ⟨e1, e2⟩ := opds_rel hr hps
          refine ⟨_, by simp [hf, Instr.makeFunc]; rfl, .clo (by simpa using e1) (List.all_eq_true.1 h1) (fun j p hj => ?_)⟩
          obtain ⟨v, hv, hp⟩ := e2 j p hj
          rw [Array.getD_eq_getD_getElem?]
          simp only [List.getElem?_map, Array.getElem?_toList, Array.getElem?_map] at hv ⊢
          rw [hv]; exact hp
        · simp at h
      · simp at h
    · simp at h
  · split at h
    · rename_i q l hh m hx hl hhi hm
      obtain ⟨v, hv, hp⟩ := slice_rel (opdIO_rel hr hl) (opdIO_rel hr hhi) (opdIO_rel hr hm) (opd_rel hr hx) h
      exact ⟨v, by simp [hv], hp⟩
    · simp at h
  · split at h
    · rename_i ps hx
      have hh := opd_rel hr hx
      obtain ⟨vs, hv, h1, h2⟩ := tup_inv hh
      have hlt := (List.getElem?_eq_some_iff.1 h).1
      refine ⟨_, ?_, h2 _ _ h⟩
      rw [hv]
      simp [Instr.extract, Array.getD, h1, hlt]
    · simp at h
  · split at h
    · rename_i args ts _ ps hps
      obtain ⟨e1, e2⟩ := opds_rel hr hps
      unfold builtinPV at h
      split at h
      · rename_i q
        split at h
        · rename_i t ht
          obtain ⟨x, hx, hq⟩ := e2 0 q rfl
          have hargs := arr1 e1 hx
          obtain ⟨v, hv, hp⟩ := len_rel hq h o.type ts ht
          refine ⟨v, ?_, hp⟩
          have ha : args.map a.eval = #[x] := by rw [← hargs]; apply Array.ext'; simp
          simp only [Sem.run_bind, resolve, Sem.run_pure, Result.andThen_ok, invoke, builtin, ha, hv]
        · simp at h
      · rename_i q
        split at h
        · rename_i t ht
          obtain ⟨x, hx, hq⟩ := e2 0 q rfl
          have hargs := arr1 e1 hx
          obtain ⟨v, hv, hp⟩ := cap_rel hq h o.type ts ht
          refine ⟨v, ?_, hp⟩
          have ha : args.map a.eval = #[x] := by rw [← hargs]; apply Array.ext'; simp
          simp only [Sem.run_bind, resolve, Sem.run_pure, Result.andThen_ok, invoke, builtin, ha, hv]
        · simp at h
      · rename_i k x k' y
        simp at h; subst h
        obtain ⟨u, hu, hq⟩ := e2 0 _ rfl
        obtain ⟨v, hv, hq'⟩ := e2 1 _ rfl
        have hargs := arr2 e1 hu hv
        obtain ⟨rfl, _⟩ := hq.k_inv
        obtain ⟨rfl, _⟩ := hq'.k_inv
        have ha : args.map a.eval = #[.int k x, .int k' y] := by rw [← hargs]; apply Array.ext'; simp
        exact ⟨_, by simp [resolve, invoke, builtin, ha, Builtin.min_, Builtin.min2], kVR rfl⟩
      · rename_i k x k' y
        simp at h; subst h
        obtain ⟨u, hu, hq⟩ := e2 0 _ rfl
        obtain ⟨v, hv, hq'⟩ := e2 1 _ rfl
        have hargs := arr2 e1 hu hv
        obtain ⟨rfl, _⟩ := hq.k_inv
        obtain ⟨rfl, _⟩ := hq'.k_inv
        have ha : args.map a.eval = #[.int k x, .int k' y] := by rw [← hargs]; apply Array.ext'; simp
        exact ⟨_, by simp [resolve, invoke, builtin, ha, Builtin.max_, Builtin.max2], kVR rfl⟩
      · simp at h
    · simp at h
  · simp at h
end

end Go.Proofs.YtidhdlhblhbahaaGreat.Am

/- The machine of values: operations that make or write memory. -/
set_option linter.unusedVariables false
set_option linter.unusedSimpArgs false
namespace Go.Proofs.YtidhdlhblhbahaaGreat.Am
open Go Go.RowKit

def zeroOf (P : Program) (t : TypeId) : Option (List Value) := ((P.info? t).bind (·.zero)).map (·.cells.toList)
def bytesOf (P : Program) (t : TypeId) : Option Nat := (P.info? t).map (·.bytes)
def placesOf (P : Program) (t : TypeId) : Option (List (Nat × Nat)) :=
  match P.underlying t with
  | some (.struct fs) => fs.toList.mapM fun f => (P.info? f.type).map fun i => (f.offset, i.size)
  | _ => none

def pcells : PV → List PV
  | .agg cs => cs
  | p => [p]
def PV.isTup : PV → Bool
  | .tup _ => true
  | _ => false

/-- Values one after the other. -/
structure Seg (n : Nat) (ι : Nat → Option Nat) (S : Nat → Prop) (w : World) (vs : List Value) (ps : List PV) : Prop where
  len : vs.length = ps.length
  one : ∀ p ∈ ps, PV.one p = true
  rel : ∀ (j : Nat) (p : PV), ps[j]? = some p → ∃ v : Value, vs[j]? = some v ∧ VRel n ι S w v p

section
variable {P : Program} {c : Ctx} {ι : Nat → Option Nat} {S : Nat → Prop} {s : St} {a : Act} {w : World} {n : Nat}

theorem Seg.ones {vs : List Value} {ps : List PV} (h : Seg n ι S w vs ps) : ∀ v ∈ vs, v.oneCell' = true := by
  intro v hv
  obtain ⟨j, hj, rfl⟩ := List.getElem_of_mem hv
  have hj' : j < ps.length := by rw [← h.len]; exact hj
  obtain ⟨u, hu, hr⟩ := h.rel j _ (List.getElem?_eq_getElem hj')
  rw [List.getElem?_eq_getElem hj] at hu
  simp at hu; subst hu
  exact hr.one (h.one _ (List.getElem_mem hj'))

theorem Seg.ks (l : List Value) (h : l.all scal = true) : Seg n ι S w l (l.map .k) :=
  ⟨by simp, fun p hp => by simp at hp; obtain ⟨v, _, rfl⟩ := hp; rfl, fun j p hj => by
    simp only [List.getElem?_map, Option.map_eq_some_iff] at hj
    obtain ⟨v, hv, rfl⟩ := hj
    exact ⟨v, hv, kVR (List.all_eq_true.1 h v (List.mem_of_getElem? hv))⟩⟩

theorem Seg.append {vs us : List Value} {ps qs : List PV} (h : Seg n ι S w vs ps) (k : Seg n ι S w us qs) : Seg n ι S w (vs ++ us) (ps ++ qs) :=
  ⟨by simp [h.len, k.len], fun p hp => by simp at hp; exact hp.elim (h.one p) (k.one p), fun j p hj => by
    rcases Nat.lt_or_ge j ps.length with hlt | hge
    · rw [List.getElem?_append_left hlt] at hj
      rw [List.getElem?_append_left (by rw [h.len]; exact hlt)]
      exact h.rel j p hj
    · rw [List.getElem?_append_right hge] at hj
      rw [List.getElem?_append_right (by rw [h.len]; exact hge), h.len]
      exact k.rel _ p hj⟩

theorem Seg.drop {vs : List Value} {ps : List PV} (h : Seg n ι S w vs ps) (m : Nat) : Seg n ι S w (vs.drop m) (ps.drop m) :=
  ⟨by simp [h.len], fun p hp => h.one p (List.mem_of_mem_drop hp), fun j p hj => by rw [List.getElem?_drop] at hj ⊢; exact h.rel _ p hj⟩
theorem Seg.take {vs : List Value} {ps : List PV} (h : Seg n ι S w vs ps) (m : Nat) : Seg n ι S w (vs.take m) (ps.take m) :=
  ⟨by simp [h.len], fun p hp => h.one p (List.mem_of_mem_take hp), fun j p hj => by
    rcases Nat.lt_or_ge j m with hlt | hge
    · rw [List.getElem?_take_of_lt hlt] at hj ⊢; exact h.rel _ p hj
    · rw [List.getElem?_eq_none (by simp; omega)] at hj; simp at hj⟩

theorem Seg.mono {n' : Nat} {ι' : Nat → Option Nat} {S' : Nat → Prop} {w' : World} (hm : ∀ v p, VRel n ι S w v p → VRel n' ι' S' w' v p) {vs : List Value} {ps : List PV} (h : Seg n ι S w vs ps) : Seg n' ι' S' w' vs ps :=
  ⟨h.len, h.one, fun j p hj => by obtain ⟨v, hv, hr⟩ := h.rel j p hj; exact ⟨v, hv, hm _ _ hr⟩⟩

theorem cells_one {v : Value} (h : v.oneCell' = true) : v.cells = #[v] := by
  cases v <;> simp_all [Value.cells, Value.oneCell']

theorem pcells_rel {v : Value} {p : PV} (h : VRel n ι S w v p) (hp : p.isTup = false) : Seg n ι S w v.cells.toList (pcells p) := by
  by_cases h1 : p.one = true
  · have hc := cells_one (h.one h1)
    have hq : pcells p = [p] := by cases p <;> simp_all [pcells, PV.one]
    rw [hc, hq]
    exact ⟨rfl, by simpa using h1, fun j q hj => by
      cases j with
      | zero => simp at hj; subst hj; exact ⟨v, rfl, h⟩
      | succ j => simp at hj⟩
  · cases p with
    | agg cs =>
      obtain ⟨vs, rfl, h2, h3, h4⟩ := agg_inv h
      exact ⟨by simpa [Value.cells, pcells] using h2, h3, fun j q hj => ⟨_, by
        have hlt := (List.getElem?_eq_some_iff.1 hj).1
        have : j < vs.size := by rw [h2]; exact hlt
        simp [Value.cells, Array.getD, this], h4 j q hj⟩⟩
    | tup ps => simp [PV.isTup] at hp
    | _ => simp [PV.one] at h1

/-! ### New boxes -/
theorem new_rel (hs : Store c ι S s.σ w) {vs : Array Value} {ps : List PV} (h : Seg s.σ.length ι S w vs.toList ps) (e : TypeId) :
    Store c (upd ι s.σ.length (some w.heap.size)) S (s.σ ++ [some ps]) (w.alloc (.cells vs e)) ∧ (∀ m v p, m ≤ s.σ.length → VRel m ι S w v p → VRel m (upd ι s.σ.length (some w.heap.size)) S (w.alloc (.cells vs e)) v p) :=
  hs.alloc h.one (fun j p hj => by obtain ⟨v, hv, hr⟩ := h.rel j p hj; exact ⟨v, by simpa using hv, hr⟩)

/-! ### Structs that are built -/
def fillPV (place : Nat → Option (Nat × Nat)) (cs : List PV) : List (Nat × PV) → Option (List PV)
  | [] => some cs
  | (i, p) :: rest =>
    match place i with
    | none => none
    | some (off, size) => if (pcells p).length = size ∧ off + size ≤ cs.length ∧ p.isTup = false then fillPV place (splice cs off (pcells p)) rest else none

theorem foldl_wr (off : Nat) : ∀ (l : List Value) (k : Nat) (cs : Array Value), (l.zipIdx k).foldl (fun cs x => cs.setIfInBounds (off + x.2) x.1) cs = wr cs (off + k) l
  | [], _, _ => rfl
  | v :: l, k, cs => by
    simp only [List.zipIdx_cons, List.foldl_cons, wr]
    rw [foldl_wr off l (k + 1)]
    rfl

theorem splice_seg {cs : Array Value} {ps qs : List PV} {us : List Value} {off : Nat} (h : Seg n ι S w cs.toList ps) (k : Seg n ι S w us qs) (hoff : off + qs.length ≤ ps.length) : Seg n ι S w (wr cs off us).toList (splice ps off qs) := by
  have hl := h.len
  have hl2 := k.len
  simp only [Array.length_toList] at hl
  refine ⟨by rw [splice_length _ _ _ hoff, Array.length_toList, wr_size, hl], fun p hp => ?_, fun j p hj => ?_⟩
  · simp only [splice, List.mem_append] at hp
    rcases hp with (hp | hp) | hp
    · exact h.one p (List.mem_of_mem_take hp)
    · exact k.one p hp
    · exact h.one p (List.mem_of_mem_drop hp)
  · rw [splice_get _ _ _ hoff] at hj
    rw [Array.getElem?_toList, wr_get _ _ _ _ (by omega)]
    by_cases hc : off ≤ j ∧ j < off + qs.length
    · rw [if_pos hc] at hj; rw [if_pos (by omega)]; exact k.rel _ p hj
    · rw [if_neg hc] at hj; rw [if_neg (by omega)]
      have := h.rel _ p hj
      simpa using this

theorem fill_rel (place : Nat → Option (Nat × Nat)) : ∀ (parts : List (Nat × PV)) (vparts : List (Nat × Value)) (cs : Array Value) (ps ps' : List PV),
    parts.length = vparts.length → (∀ (j i : Nat) (p : PV), parts[j]? = some (i, p) → ∃ v, vparts[j]? = some (i, v) ∧ VRel n ι S w v p) →
    Seg n ι S w cs.toList ps → fillPV place ps parts = some ps' → ∃ cs', Instr.fill place cs vparts = some cs' ∧ Seg n ι S w cs'.toList ps'
  | [], [], cs, ps, ps', _, _, hs, h => by simp [fillPV] at h; subst h; exact ⟨cs, rfl, hs⟩
  | [], _ :: _, _, _, _, hl, _, _, _ => by simp at hl
  | _ :: _, [], _, _, _, hl, _, _, _ => by simp at hl
  | (i, p) :: parts, (i', v) :: vparts, cs, ps, ps', hl, hp, hs, h => by
    obtain ⟨v', hv', hr⟩ := hp 0 i p rfl
    simp at hv'
    obtain ⟨rfl, rfl⟩ := hv'
    simp only [fillPV] at h
    cases hpl : place i' with
    | none => simp [hpl] at h
    | some os =>
      obtain ⟨off, size⟩ := os
      simp only [hpl] at h
      split at h
      · rename_i hc
        obtain ⟨c1, c2, c3⟩ := hc
        have hsg := pcells_rel hr c3
        have hsz : v.cells.size = size := by have := hsg.len; simp at this; omega
        have hcs : cs.size = ps.length := by have := hs.len; simpa using this
        have h2 := splice_seg hs hsg (off := off) (by omega)
        obtain ⟨cs', hf, hs'⟩ := fill_rel place parts vparts _ _ ps' (by simpa using hl) (fun j i q hj => hp (j + 1) i q hj) h2 h
        refine ⟨cs', ?_, hs'⟩
        simp only [Instr.fill, hpl]
        rw [if_neg (by simp [hsz]; omega)]
        have e : v.cells.zipIdx.foldl (fun cs (x : Value × Nat) => cs.setIfInBounds (off + x.2) x.1) cs = wr cs off v.cells.toList := by
          rw [← Array.foldl_toList, Array.toList_zipIdx]
          have := foldl_wr off v.cells.toList 0 cs
          simpa using this
        rw [← hf]
        congr 1
      · simp at h

def buildPV (P : Program) (t : TypeId) (parts : List (Nat × PV)) : Option PV :=
  match placesOf P t, zeroOf P t with
  | some pl, some zs => if zs.all scal = true then (fillPV (pl[·]?) (zs.map .k) parts).map .agg else none
  | _, _ => none

theorem zeroOf_some {t : TypeId} {zs : List Value} (h : zeroOf P t = some zs) : ∃ it z, P.info? t = some it ∧ it.zero = some z ∧ z.cells.toList = zs := by
  unfold zeroOf at h
  cases hi : P.info? t with
  | none => simp [hi] at h
  | some it =>
    cases hz : it.zero with
    | none => simp [hi, hz] at h
    | some z => simp [hi, hz] at h; exact ⟨it, z, rfl, hz, h⟩

theorem build_rel {t : TypeId} {parts : List (Nat × PV)} {vparts : Array (Nat × Value)} {p : PV} (hl : parts.length = vparts.toList.length)
    (hp : ∀ (j i : Nat) (p : PV), parts[j]? = some (i, p) → ∃ v, vparts.toList[j]? = some (i, v) ∧ VRel n ι S w v p) (h : buildPV P t parts = some p) :
    ∃ v, (Instr.build t vparts).run P w = .ok v w ∧ VRel n ι S w v p := by
  unfold buildPV at h
  split at h
  · rename_i pl zs hpl hzs
    split at h
    · rename_i hsc
      simp only [Option.map_eq_some_iff] at h
      obtain ⟨ps', hf, rfl⟩ := h
      obtain ⟨it, z, hi, hz, rfl⟩ := zeroOf_some hzs
      unfold placesOf at hpl
      split at hpl
      · rename_i fs hu
        obtain ⟨cs', hfill, hseg⟩ := fill_rel (n := n) (ι := ι) (S := S) (w := w) (pl[·]?) parts vparts.toList z.cells _ ps' hl hp (Seg.ks _ hsc) hf
        have hb : P.built t vparts.toList = some cs' := by
          unfold Program.built
          simp only [hi, hu, hz, hpl]
          simpa using hfill
        refine ⟨_, run_build w t vparts cs' hb, .agg (by simpa using hseg.len) hseg.one (fun j p hj => ?_)⟩
        obtain ⟨v, hv, hr⟩ := hseg.rel j p hj
        rw [Array.getD_eq_getD_getElem?]
        rw [Array.getElem?_toList] at hv
        rw [hv]; exact hr
      · simp at hpl
    · simp at h
  · simp at h

/-! ### Stores -/
theorem storeVar_rel (hs : Store c ι S s.σ w) {t : TypeId} {z : Nat} (hz : szOf P t = some z) {b off : Nat} {cs : List PV} (hb : box s.σ b = some cs) {ad v : Value} {p : PV}
    (had : VRel s.σ.length ι S w ad (.ptr b off)) (hv : VRel s.σ.length ι S w v p) (hp : p.isTup = false) (hl : (pcells p).length = z) (hoff : off + z ≤ cs.length) :
    ∃ w', (Instr.storeAt t ad v).run P w = .ok () w' ∧ Store c ι S (s.σ.set b (some (splice cs off (pcells p)))) w' ∧ (∀ m v p, VRel m ι S w v p → VRel m ι S w' v p) := by
  cases had with
  | imm h => cases h
  | ptr hbn hblk hsh =>
    rename_i blk _
    have hsg := pcells_rel hv hp
    have hlen := hsg.len
    obtain ⟨blk', c', e, hb', g1, g0, g2⟩ := hs.cellsE hb hblk hsh
    rw [hb'] at hblk; simp at hblk; subst hblk
    have hcl : ∀ j, j < cs.length → ∃ u, c'[j]? = some u := fun j hj => by
      obtain ⟨u, hu, _⟩ := g2 j _ (List.getElem?_eq_getElem hj)
      exact ⟨u, hu⟩
    have hw := hs.write hb hb' hsh (ps := pcells p) (vs := v.cells.toList) (off := off) (by omega) hlen hsg.one hsg.rel
    refine ⟨_, ?_, hw.1, hw.2⟩
    have hst := run_storeCells_cells (P := P) blk' off v.cells.toList 0 w (fun j hj => by
        obtain ⟨u, hu⟩ := hcl (off + 0 + j) (by omega)
        simp only [Nat.add_zero] at hu ⊢
        simp [World.cell?, g1, hu]) (fun j hj => by simp [World.frozen?, g1]) hsg.ones
    simp only [Nat.add_zero] at hst
    have hsz : v.cells.size = z := by simp at hlen; omega
    simp only [Instr.storeAt, Instr.sureAddr, Sem.run_bind, Sem.run_pure, Result.andThen_ok, storeVar, run_szOf w hz, hsz, ne_eq, not_true_eq_false, if_false, hst]
end

end Go.Proofs.YtidhdlhblhbahaaGreat.Am

/- The machine of values: append, make and slice literals. -/
set_option linter.unusedVariables false
set_option linter.unusedSimpArgs false
namespace Go.Proofs.YtidhdlhblhbahaaGreat.Am
open Go Go.RowKit

section
variable {P : Program} {w : World}

/-- What is appended: m elements, their cells 'news'. -/
structure Src (P : Program) (w : World) (z : Nat) (t2 : TypeId) (x : Value) (m : Nat) (news : List Value) : Prop where
  d : (∃ e', P.underlying t2 = some (.slice e')) ∨ P.underlying t2 = some .string
  len : (Builtin.lenOf x).run P w = .ok m w
  cells : (Builtin.firstCells z m x).run P w = .ok news.toArray w
  cellsd : (Builtin.firstCells z m x).run P w.drew = .ok news.toArray w.drew
  part : ∀ n, n ≤ m → (Builtin.firstCells z n x).run P w = .ok (news.take (n * z)).toArray w

theorem run_app_room {t t2 ty e : TypeId} {i : TypeInfo} (ht : P.underlying t = some (.slice e)) (hi : P.info? e = some i) {x : Value} {m : Nat} {news : List Value} (hx : Src P w i.size t2 x m news)
    {blk sLen sCap : Nat} (hroom : sLen + m ≤ sCap) (hc : ∀ j, j < news.length → (w.cell? ⟨blk, sLen * i.size + j, none⟩).isSome = true) (hf : ∀ j, j < news.length → w.frozen? ⟨blk, sLen * i.size + j, none⟩ = false) (h1 : ∀ v ∈ news, v.oneCell' = true) :
    (Builtin.append_ #[t, t2] ty #[.slice (some ⟨blk, 0, none⟩) sLen sCap, x]).run P w = .ok (.slice (some ⟨blk, 0, none⟩) (sLen + m) sCap) (w.setCells blk (sLen * i.size) news) := by
  obtain ⟨hd, hl, hcl, _, _⟩ := hx
  have hst := run_storeCells_cells (P := P) blk (sLen * i.size) news 0 w (by simpa using hc) (by simpa using hf) h1
  simp only [Nat.add_zero] at hst
  rcases hd with ⟨e', hd⟩ | hd
  · simp [Builtin.append_, run_underlying ht, run_underlying hd, sizeOf, typeInfo, hi, hl, hroom, hcl, add_at, hst]
  · simp [Builtin.append_, run_underlying ht, run_underlying hd, sizeOf, typeInfo, hi, hl, hroom, hcl, add_at, hst]

theorem run_app_zero {t t2 ty e : TypeId} {i : TypeInfo} (ht : P.underlying t = some (.slice e)) (hi : P.info? e = some i) {x : Value} {news : List Value} (hx : Src P w i.size t2 x 0 news) (hn : news = []) {a : Option Addr} :
    (Builtin.append_ #[t, t2] ty #[.slice a 0 0, x]).run P w = .ok (.slice a 0 0) w := by
  obtain ⟨hd, hl, hcl, _, _⟩ := hx
  subst hn
  rcases hd with ⟨e', hd⟩ | hd
  · cases a <;> simp [Builtin.append_, run_underlying ht, run_underlying hd, sizeOf, typeInfo, hi, hl, hcl, storeCells]
  · cases a <;> simp [Builtin.append_, run_underlying ht, run_underlying hd, sizeOf, typeInfo, hi, hl, hcl, storeCells]

theorem run_app_grow {t t2 ty e : TypeId} {i : TypeInfo} {zv : Value} (ht : P.underlying t = some (.slice e)) (hi : P.info? e = some i) (hz : i.zero = some zv) {x : Value} {m : Nat} {news : List Value} (hx : Src P w i.size t2 x m news)
    {a : Option Addr} {sLen sCap : Nat} {olds : List Value} (ho : (Builtin.firstCells i.size sLen (.slice a sLen sCap)).run P w.drew = .ok olds.toArray w.drew)
    (hg : sCap < sLen + m) (h63 : sLen + m ≤ maxLen) (hb : (sLen + m) * i.bytes ≤ 140737488355328) :
    (Builtin.append_ #[t, t2] ty #[.slice a sLen sCap, x]).run P w =
      .ok (.slice (some ⟨w.heap.size, 0, none⟩) (sLen + m) (grownCap w (sLen + m) sCap e)) (w.drew.alloc (.cells (olds ++ news ++ (Builtin.zeroCells zv.cells (grownCap w (sLen + m) sCap e - (sLen + m))).toList).toArray e)) := by
  obtain ⟨hd, hl, hcl, hcd, _⟩ := hx
  have hn : ¬ (sLen + m ≤ sCap) := by omega
  have hsmall : sLen + m ≤ 9223372036854775807 := by simp only [maxLen] at h63; omega
  have h63' : ¬ (9223372036854775807 < ((sLen : Int) + (m : Int))) := by omega
  have h48' : ¬ (281474976710656 < Builtin.nextslicecap (sLen + m) sCap * i.bytes) := by have := growslice_fits (old := sCap) hg hb; omega
  have hfin : Result.ok (Value.slice (some ⟨w.heap.size, 0, none⟩) (sLen + m) (grownCap w (sLen + m) sCap e)) (w.drew.alloc (.cells (olds.toArray ++ (news.toArray ++ Builtin.zeroCells zv.cells (grownCap w (sLen + m) sCap e - (sLen + m)))) e)) =
      Result.ok (Value.slice (some ⟨w.heap.size, 0, none⟩) (sLen + m) (grownCap w (sLen + m) sCap e)) (w.drew.alloc (.cells (olds ++ news ++ (Builtin.zeroCells zv.cells (grownCap w (sLen + m) sCap e - (sLen + m))).toList).toArray e)) := by
    congr 3
    apply Array.ext'
    simp [List.append_assoc]
  rw [← hfin]
  rcases hd with ⟨e', hd⟩ | hd
  · simp [Builtin.append_, run_underlying ht, run_underlying hd, sizeOf, typeInfo, zeroValue, hi, hz, hl, hn, h63', h48', Question.forced, hcd, ho, newRow, grownCap]
  · simp [Builtin.append_, run_underlying ht, run_underlying hd, sizeOf, typeInfo, zeroValue, hi, hz, hl, hn, h63', h48', Question.forced, hcd, ho, newRow, grownCap]
end

/-! ### In the machine -/
def srcPV (P : Program) (σ : Boxes) (z : Nat) (t2 : TypeId) : PV → Option (Nat × List PV)
  | .sl k rows => if k = z ∧ (elemOf P t2).isSome = true then some (rows.length, rows.flatten) else none
  | .osl b k off m => match box σ b with
    | some cs => if k = z ∧ (elemOf P t2).isSome = true ∧ off + m * z ≤ cs.length then some (m, (cs.drop off).take (m * z)) else none
    | none => none
  | .osc b k off m _ => match box σ b with
    | some cs => if k = z ∧ (elemOf P t2).isSome = true ∧ off + m * z ≤ cs.length then some (m, (cs.drop off).take (m * z)) else none
    | none => none
  | .k (.slice none 0 0) => if (elemOf P t2).isSome = true then some (0, []) else none
  | .k (.string s) => if isStr P t2 = true ∧ z = 1 then some (s.size, s.data.toList.map fun c => .k (.int .u8 c.toNat)) else none
  | _ => none

def appendCore (P : Program) (σ : Boxes) (t t2 : TypeId) (p q : PV) : Option (Boxes × PV) :=
  match elemOf P t with
  | none => none
  | some e =>
    match szOf P e, bytesOf P e, zeroOf P e, p with
    | some z, some by_, some zs, .osl b k off len =>
      match box σ b, srcPV P σ z t2 q with
      | some cs, some (m, ps) =>
        if k = z ∧ 0 < z ∧ zs.length = z ∧ off = 0 ∧ cs.length = len * z ∧ (len + m) * by_ ≤ 140737488355328 ∧ len + m ≤ maxLen then
          some (σ.set b none ++ [some (cs ++ ps)], .osl σ.length z 0 (len + m)) else none
      | _, _ => none
    | _, _, _, _ => none

/-- A nil slice counts as an empty one of one's own. -/
def appendPV (P : Program) (σ : Boxes) (t t2 : TypeId) (p q : PV) : Option (Boxes × PV) :=
  match p with
  | .k (.slice none 0 0) => match elemOf P t with
    | some e => match szOf P e with
      | some z => appendCore P (σ ++ [some []]) t t2 (.osl σ.length z 0 0) q
      | none => none
    | none => none
  | p => appendCore P σ t t2 p q

section
variable {P : Program} {c : Ctx} {ι : Nat → Option Nat} {S : Nat → Prop} {s : St} {a : Act} {w : World} {n : Nat}

theorem row_cells (g : Nat → Value) (l : Nat) (rows : List PV) (hl : rows.length = l) (h1 : ∀ p ∈ rows, PV.one p = true) (h : ∀ j p, rows[j]? = some p → VRel n ι S w (g j) p) : Seg n ι S w ((List.range l).map g) rows :=
  ⟨by simp [hl], h1, fun j p hj => ⟨g j, by
    have := (List.getElem?_eq_some_iff.1 hj).1
    simp [show j < l by omega], h j p hj⟩⟩

theorem src_rel (hs : Store c ι S s.σ w) {z : Nat} {t2 : TypeId} {x : Value} {q : PV} {m : Nat} {ps : List PV} (hx : VRel s.σ.length ι S w x q) (h : srcPV P s.σ z t2 q = some (m, ps)) :
    ∃ news, Src P w z t2 x m news ∧ Seg s.σ.length ι S w news ps ∧ ps.length = m * z := by
  have key : ∀ (e : TypeId) (he : elemOf P t2 = some e), (∃ e', P.underlying t2 = some (.slice e')) ∨ P.underlying t2 = some .string := fun e he => .inl ⟨_, und_elemOf he⟩
  have hnil : ∀ (e : TypeId) (he : elemOf P t2 = some e) (a : Option Addr) (cap : Nat), Src P w z t2 (.slice a 0 cap) 0 [] := fun e he a cap => by
    refine ⟨key e he, by simp [Builtin.lenOf], ?_, ?_, fun n hn => ?_⟩
    · cases a <;> simp [Builtin.firstCells, loadCells, loadCellsFrom]
    · cases a <;> simp [Builtin.firstCells, loadCells, loadCellsFrom]
    · obtain rfl : n = 0 := by omega
      cases a <;> simp [Builtin.firstCells, loadCells, loadCellsFrom]
  unfold srcPV at h
  split at h
  · rename_i k rows
    split at h
    · rename_i hc
      obtain ⟨rfl, hc2⟩ := hc
      obtain ⟨e, he⟩ := Option.isSome_iff_exists.1 hc2
      simp at h
      obtain ⟨rfl, rfl⟩ := h
      cases hx with
      | imm hx => cases hx with
        | sl g h1 h2 h3 h4 h5 h6 h7 h8 =>
          rename_i ad nn cap
          subst h1
          have hfl : rows.flatten.length = rows.length * k := flatten_len rows h4
          rcases Nat.eq_zero_or_pos rows.length with h0 | h0
          · have hr : rows = [] := List.eq_nil_of_length_eq_zero h0
            subst hr
            exact ⟨[], hnil e he ad cap, ⟨rfl, by simp, by simp⟩, by simp⟩
          · obtain ⟨b, o, rfl, hS, hg⟩ := h7 h0
            have hcells : ∀ (W : World) (n : Nat), n ≤ rows.length → W.heap = w.heap → (Builtin.firstCells k n (.slice (some ⟨b, o, none⟩) rows.length cap)).run P W = .ok (((List.range (rows.length * k)).map g).take (n * k)).toArray W := fun W n hn hW => by
              have hnk : n * k ≤ rows.length * k := Nat.mul_le_mul_right _ hn
              have hlk : (((List.range (rows.length * k)).map g).take (n * k)).length = n * k := by rw [List.length_take, List.length_map, List.length_range, Nat.min_eq_left hnk]
              refine run_firstCells_some (P := P) W k n ⟨b, o, none⟩ rows.length cap (((List.range (rows.length * k)).map g).take (n * k)) hlk (fun j v hj => ?_)
              have hj2 := (List.getElem?_eq_some_iff.1 hj).1
              rw [hlk] at hj2
              have hj' : j < rows.length * k := by omega
              rw [List.getElem?_take_of_lt hj2] at hj
              simp [hj'] at hj
              subst hj
              rw [add_at]
              have := hg j hj'
              simpa [World.cell?, hW] using this
            have hfull : ((List.range (rows.length * k)).map g).take (rows.length * k) = (List.range (rows.length * k)).map g := List.take_of_length_le (by simp)
            refine ⟨_, ⟨key e he, by simp [Builtin.lenOf], by have := hcells w _ (Nat.le_refl _) rfl; rwa [hfull] at this, by have := hcells w.drew _ (Nat.le_refl _) rfl; rwa [hfull] at this, fun n hn => hcells w n hn rfl⟩, row_cells g _ _ hfl (fun p hp => ?_) (fun j p hj => .imm (h8 j p hj)), hfl⟩
            obtain ⟨r, hr, hpr⟩ := List.mem_flatten.1 hp
            exact h5 r hr p hpr
    · simp at h
  · rename_i b k off m'
    split at h
    · rename_i cs hcs
      split at h
      · rename_i hc
        obtain ⟨rfl, hc2, hc3⟩ := hc
        obtain ⟨e, he⟩ := Option.isSome_iff_exists.1 hc2
        simp at h
        obtain ⟨rfl, rfl⟩ := h
        have hpl : ((cs.drop off).take (m' * k)).length = m' * k := by simp; omega
        cases hx with
        | imm hx => cases hx
        | osl0 h1 => exact ⟨[], hnil e he _ _, ⟨by simp, by simp, by simp⟩, hpl⟩
        | osl h1 h2 h3 h4 h5 h6 =>
          rename_i cap blk e' mm
          obtain ⟨blk', c', e'', hb', g1, g0, g2⟩ := hs.cellsE hcs h4 h5
          rw [hb'] at h4; simp at h4; subst h4
          have hcl : ∀ j, j < cs.length → ∃ u, c'[j]? = some u ∧ ∀ p, cs[j]? = some p → VRel s.σ.length ι S w u p := fun j hj => by
            obtain ⟨u, hu, hr⟩ := g2 j _ (List.getElem?_eq_getElem hj)
            exact ⟨u, hu, fun p hp => by rw [List.getElem?_eq_getElem hj] at hp; simp at hp; subst hp; exact hr⟩
          have hcells : ∀ (W : World) (n : Nat), n ≤ m' → W.heap = w.heap → (Builtin.firstCells k n (.slice (some ⟨blk', off, none⟩) m' cap)).run P W = .ok (((List.range (m' * k)).map fun j => c'.getD (off + j) undef).take (n * k)).toArray W := fun W n hn hW => by
            have hnk : n * k ≤ m' * k := Nat.mul_le_mul_right _ hn
            have hlk : (((List.range (m' * k)).map fun j => c'.getD (off + j) undef).take (n * k)).length = n * k := by rw [List.length_take, List.length_map, List.length_range, Nat.min_eq_left hnk]
            refine run_firstCells_some (P := P) W k n ⟨blk', off, none⟩ m' cap (((List.range (m' * k)).map fun j => c'.getD (off + j) undef).take (n * k)) hlk (fun j v hj => ?_)
            have hj2 := (List.getElem?_eq_some_iff.1 hj).1
            rw [hlk] at hj2
            have hj' : j < m' * k := by omega
            rw [List.getElem?_take_of_lt hj2] at hj
            simp [hj'] at hj
            subst hj
            obtain ⟨u, hu, _⟩ := hcl (off + j) (by omega)
            rw [add_at]
            simp [World.cell?, hW, g1, hu, Array.getD_eq_getD_getElem?]
          have hfull : ((List.range (m' * k)).map fun j => c'.getD (off + j) undef).take (m' * k) = (List.range (m' * k)).map fun j => c'.getD (off + j) undef := List.take_of_length_le (by simp)
          refine ⟨_, ⟨key e he, by simp [Builtin.lenOf], by have := hcells w _ (Nat.le_refl _) rfl; rwa [hfull] at this, by have := hcells w.drew _ (Nat.le_refl _) rfl; rwa [hfull] at this, fun n hn => hcells w n hn rfl⟩, row_cells _ _ _ hpl (fun p hp => g0 p (List.mem_of_mem_drop (List.mem_of_mem_take hp))) (fun j p hj => ?_), hpl⟩
          have hj' := (List.getElem?_eq_some_iff.1 hj).1
          rw [hpl] at hj'
          rw [List.getElem?_take_of_lt hj', List.getElem?_drop] at hj
          obtain ⟨u, hu, hr⟩ := hcl (off + j) (by omega)
          rw [Array.getD_eq_getD_getElem?, hu]
          exact hr p hj
      · simp at h
    · simp at h
  · rename_i b k off m' cp
    split at h
    · rename_i cs hcs
      split at h
      · rename_i hc
        obtain ⟨rfl, hc2, hc3⟩ := hc
        obtain ⟨e, he⟩ := Option.isSome_iff_exists.1 hc2
        simp at h
        obtain ⟨rfl, rfl⟩ := h
        have hpl : ((cs.drop off).take (m' * k)).length = m' * k := by simp; omega
        cases hx with
        | imm hx => cases hx
        | osc0 h1 => exact ⟨[], hnil e he _ _, ⟨by simp, by simp, by simp⟩, hpl⟩
        | osc h1 h2 h3 h4 h5 h6 =>
          rename_i blk e' mm
          obtain ⟨blk', c', e'', hb', g1, g0, g2⟩ := hs.cellsE hcs h4 h5
          rw [hb'] at h4; simp at h4; subst h4
          have hcl : ∀ j, j < cs.length → ∃ u, c'[j]? = some u ∧ ∀ p, cs[j]? = some p → VRel s.σ.length ι S w u p := fun j hj => by
            obtain ⟨u, hu, hr⟩ := g2 j _ (List.getElem?_eq_getElem hj)
            exact ⟨u, hu, fun p hp => by rw [List.getElem?_eq_getElem hj] at hp; simp at hp; subst hp; exact hr⟩
          have hcells : ∀ (W : World) (n : Nat), n ≤ m' → W.heap = w.heap → (Builtin.firstCells k n (.slice (some ⟨blk', off, none⟩) m' cp)).run P W = .ok (((List.range (m' * k)).map fun j => c'.getD (off + j) undef).take (n * k)).toArray W := fun W n hn hW => by
            have hnk : n * k ≤ m' * k := Nat.mul_le_mul_right _ hn
            have hlk : (((List.range (m' * k)).map fun j => c'.getD (off + j) undef).take (n * k)).length = n * k := by rw [List.length_take, List.length_map, List.length_range, Nat.min_eq_left hnk]
            refine run_firstCells_some (P := P) W k n ⟨blk', off, none⟩ m' cp (((List.range (m' * k)).map fun j => c'.getD (off + j) undef).take (n * k)) hlk (fun j v hj => ?_)
            have hj2 := (List.getElem?_eq_some_iff.1 hj).1
            rw [hlk] at hj2
            have hj' : j < m' * k := by omega
            rw [List.getElem?_take_of_lt hj2] at hj
            simp [hj'] at hj
            subst hj
            obtain ⟨u, hu, _⟩ := hcl (off + j) (by omega)
            rw [add_at]
            simp [World.cell?, hW, g1, hu, Array.getD_eq_getD_getElem?]
          have hfull : ((List.range (m' * k)).map fun j => c'.getD (off + j) undef).take (m' * k) = (List.range (m' * k)).map fun j => c'.getD (off + j) undef := List.take_of_length_le (by simp)
          refine ⟨_, ⟨key e he, by simp [Builtin.lenOf], by have := hcells w _ (Nat.le_refl _) rfl; rwa [hfull] at this, by have := hcells w.drew _ (Nat.le_refl _) rfl; rwa [hfull] at this, fun n hn => hcells w n hn rfl⟩, row_cells _ _ _ hpl (fun p hp => g0 p (List.mem_of_mem_drop (List.mem_of_mem_take hp))) (fun j p hj => ?_), hpl⟩
          have hj' := (List.getElem?_eq_some_iff.1 hj).1
          rw [hpl] at hj'
          rw [List.getElem?_take_of_lt hj', List.getElem?_drop] at hj
          obtain ⟨u, hu, hr⟩ := hcl (off + j) (by omega)
          rw [Array.getD_eq_getD_getElem?, hu]
          exact hr p hj
      · simp at h
    · simp at h
  · split at h
    · rename_i hc2
      obtain ⟨e, he⟩ := Option.isSome_iff_exists.1 hc2
      simp at h
      obtain ⟨rfl, rfl⟩ := h
      obtain ⟨rfl, _⟩ := hx.k_inv
      exact ⟨[], hnil e he _ _, ⟨rfl, by simp, by simp⟩, by simp⟩
    · simp at h
  · rename_i str
    split at h
    · rename_i hc
      obtain ⟨h1, rfl⟩ := hc
      simp at h
      obtain ⟨rfl, rfl⟩ := h
      obtain ⟨rfl, _⟩ := hx.k_inv
      have hex : str.extract 0 str.size = str := ByteArray.extract_zero_size
      refine ⟨str.data.toList.map fun c => .int .u8 c.toNat, ⟨.inr (isStr_und h1), by simp [Builtin.lenOf], ?_, ?_, fun n hn => ?_⟩, ?_, by rw [List.length_map, Array.length_toList, Nat.mul_one]; rfl⟩
      · simp only [Builtin.firstCells, hex, Sem.run_pure]; congr 1; apply Array.ext'; simp
      · simp only [Builtin.firstCells, hex, Sem.run_pure]; congr 1; apply Array.ext'; simp
      · simp only [Builtin.firstCells, Sem.run_pure]; congr 1; apply Array.ext'; simp [Nat.mul_one, ← List.map_take]
      · refine ⟨by simp, fun p hp => ?_, fun j p hj => ?_⟩
        · simp at hp; obtain ⟨b, _, rfl⟩ := hp; rfl
        · simp only [List.getElem?_map, Option.map_eq_some_iff] at hj ⊢
          obtain ⟨b, hb, rfl⟩ := hj
          exact ⟨_, ⟨b, hb, rfl⟩, kVR rfl⟩
    · simp at h
  · simp at h
end

end Go.Proofs.YtidhdlhblhbahaaGreat.Am

/- The machine of values: append does what it says; make; slice literals. -/
set_option linter.unusedVariables false
set_option linter.unusedSimpArgs false
namespace Go.Proofs.YtidhdlhblhbahaaGreat.Am
open Go Go.RowKit

section
variable {P : Program} {c : Ctx} {ι : Nat → Option Nat} {S : Nat → Prop} {s : St} {a : Act} {w : World} {n : Nat} {σ : Boxes}

/-- A box is forgotten. -/
theorem Store.kill (h : Store c ι S σ w) (b : Nat) : Store c ι S (σ.set b none) w := by
  have hs : ∀ i ci, box (σ.set b none) i = some ci → box σ i = some ci := fun i ci hi => by
    rcases Nat.lt_or_ge b σ.length with hb | hb
    · rw [box_set hb] at hi
      split at hi
      · simp at hi
      · exact hi
    · rw [List.set_eq_of_length_le hb] at hi; exact hi
  exact ⟨h.os, h.tape, h.output, h.size, h.old, h.shape, fun i ci hi => by rw [List.length_set]; exact h.boxes i ci (hs i ci hi), fun i ci blk hi => h.notS i ci blk (hs i ci hi), fun i ci blk hi => h.live i ci blk (hs i ci hi), fun i j ci cj blk hi hj => h.inj i j ci cj blk (hs i ci hi) (hs j cj hj), h.Slt, h.S0, h.Snew, by rw [List.length_set]; exact h.klen, h.kι⟩

/-- A block that no box has is written. -/
theorem Store.poke (h : Store c ι S σ w) {blk : Nat} (hS : ¬ S blk) (hM : c.M blk ∨ c.w0.heap.size ≤ blk) (hfree : ∀ i ci, box σ i = some ci → ι i ≠ some blk) (off : Nat) (vs : List Value) :
    Store c ι S σ (w.setCells blk off vs) ∧ (∀ m v p, VRel m ι S w v p → VRel m ι S (w.setCells blk off vs) v p) := by
  have hv : ∀ m v p, VRel m ι S w v p → VRel m ι S (w.setCells blk off vs) v p := fun m v p hh =>
    hh.mono (Nat.le_refl _) (fun b hb => rfl) (fun _ h => h) (fun b' o hb' => World.cell?_of_block (heap_setCells_other _ _ (fun e : b' = blk => hS (by rw [← e]; exact hb')) _ _ _)) (fun b x hx => shape_setCells _ _ _ _ _ _ hx)
  obtain ⟨r1, r2, r3⟩ := setCells_rest blk vs off w
  refine ⟨⟨r1.trans h.os, r2.trans h.tape, r3.trans h.output, by rw [setCells_size]; exact h.size, fun k hk hkM => ?_, fun q x hx => shape_setCells _ _ _ _ _ _ (h.shape q x hx), fun i ci hi => ?_, h.notS, h.live, h.inj, fun b' hb' => by rw [setCells_size]; exact h.Slt b' hb', h.S0, h.Snew, h.klen, h.kι⟩, hv⟩
  · rw [heap_setCells_other _ _ (fun e => ?_)]
    · exact h.old k hk hkM
    · subst e
      rcases hM with hh | hh
      · exact hkM hh
      · omega
  · rcases h.boxes i ci hi with h' | ⟨blk', c', e', hb', g1, g0, g2⟩
    · exact .inl h'
    · refine .inr ⟨blk', c', e', hb', ?_, g0, fun j p hj => ?_⟩
      · rw [heap_setCells_other _ _ (fun e2 => hfree i ci hi (by rw [hb', e2]))]; exact g1
      · obtain ⟨v, hv1, hv2⟩ := g2 j p hj
        exact ⟨v, hv1, hv _ _ _ hv2⟩

/-- A block that no box has becomes a new box; or a box without a block (empty). -/
theorem Store.adopt (h : Store c ι S σ w) {ob : Option Nat} {cs : List PV} (hob : (ob = none ∧ cs = []) ∨ ∃ (blk : Nat) (c' : Array Value) (e : TypeId), ob = some blk ∧ w.heap[blk]? = some (.cells c' e (0, 0)) ∧ ¬ S blk ∧ (c.M blk ∨ c.w0.heap.size ≤ blk) ∧ (∀ i ci, box σ i = some ci → ι i ≠ some blk) ∧
      (∀ p ∈ cs, PV.one p = true) ∧ (∀ (j : Nat) (p : PV), cs[j]? = some p → ∃ v : Value, c'[j]? = some v ∧ VRel σ.length ι S w v p)) :
    Store c (upd ι σ.length ob) S (σ ++ [some cs]) w ∧ (∀ m v p, m ≤ σ.length → VRel m ι S w v p → VRel m (upd ι σ.length ob) S w v p) := by
  have hv : ∀ m v p, m ≤ σ.length → VRel m ι S w v p → VRel m (upd ι σ.length ob) S w v p := fun m v p hm hh =>
    hh.mono (Nat.le_refl _) (fun b hb => by simp [upd]; omega) (fun _ h => h) (fun _ _ _ => rfl) (fun _ _ hx => hx)
  have hv' : ∀ v p, VRel σ.length ι S w v p → VRel (σ ++ [some cs]).length (upd ι σ.length ob) S w v p := fun v p hh =>
    (hv _ v p (Nat.le_refl _) hh).mono (by simp) (fun _ _ => rfl) (fun _ h => h) (fun _ _ _ => rfl) (fun _ _ h => h)
  refine ⟨⟨h.os, h.tape, h.output, h.size, h.old, h.shape, ?_, ?_, ?_, ?_, h.Slt, h.S0, h.Snew, by have := h.klen; simp; omega, fun i hi => ?_⟩, hv⟩
  · intro i ci hi
    rw [box_push] at hi
    by_cases e1 : i = σ.length
    · subst e1
      simp at hi; subst hi
      rcases hob with ⟨h1, h2⟩ | ⟨blk, c', e, h1, h2, h3, h4, h5, h6, h7⟩
      · exact .inl ⟨by simp [upd, h1], h2⟩
      · exact .inr ⟨blk, c', _, by simp [upd, h1], h2, .inl ⟨e, rfl, h6⟩, fun j p hj => by obtain ⟨v, hv1, hv2⟩ := h7 j p hj; exact ⟨v, hv1, hv' _ _ hv2⟩⟩
    · rw [if_neg e1] at hi
      rcases h.boxes i ci hi with ⟨h', h''⟩ | ⟨blk, c', e', hb', g1, g0, g2⟩
      · exact .inl ⟨by simp [upd, e1, h'], h''⟩
      · exact .inr ⟨blk, c', e', by simp [upd, e1, hb'], g1, g0, fun j p hj => by obtain ⟨v, hv1, hv2⟩ := g2 j p hj; exact ⟨v, hv1, hv' _ _ hv2⟩⟩
  · intro i ci blk hi hblk
    rw [box_push] at hi
    by_cases e1 : i = σ.length
    · subst e1
      simp [upd] at hblk
      rcases hob with ⟨h1, h2⟩ | ⟨blk', c', e, h1, h2, h3, h4, h5, h6, h7⟩
      · rw [h1] at hblk; simp at hblk
      · rw [h1] at hblk; simp at hblk; subst hblk; exact h3
    · rw [if_neg e1] at hi; simp [upd, e1] at hblk; exact h.notS i ci blk hi hblk
  · intro i ci blk hi hblk
    rw [box_push] at hi
    by_cases e1 : i = σ.length
    · subst e1
      simp [upd] at hblk
      rcases hob with ⟨h1, h2⟩ | ⟨blk', c', e, h1, h2, h3, h4, h5, h6, h7⟩
      · rw [h1] at hblk; simp at hblk
      · rw [h1] at hblk; simp at hblk; subst hblk; exact h4
    · rw [if_neg e1] at hi; simp [upd, e1] at hblk; exact h.live i ci blk hi hblk
  · intro i j ci cj blk hi hj hbi hbj
    rw [box_push] at hi hj
    have hno : ∀ i ci, box σ i = some ci → ι i = some blk → ob ≠ some blk := fun i ci hi hb he => by
      rcases hob with ⟨h1, h2⟩ | ⟨blk', c', e, h1, h2, h3, h4, h5, h6, h7⟩
      · rw [h1] at he; simp at he
      · rw [h1] at he; simp at he; subst he; exact h5 i ci hi hb
    by_cases e1 : i = σ.length <;> by_cases e2 : j = σ.length
    · omega
    · rw [if_neg e2] at hj; simp [upd, e1, e2] at hbi hbj; exact absurd hbi (hno j cj hj hbj)
    · rw [if_neg e1] at hi; simp [upd, e1, e2] at hbi hbj; exact absurd hbj (hno i ci hi hbi)
    · rw [if_neg e1] at hi; rw [if_neg e2] at hj; simp [upd, e1, e2] at hbi hbj; exact h.inj i j ci cj blk hi hj hbi hbj
  · have := h.klen
    simp only [upd]; rw [if_neg (by omega)]; exact h.kι i hi

theorem appendCore_rel (hs : Store c ι S σ w) {t t2 ty : TypeId} {x y : Value} {p q r : PV} {σ' : Boxes} (hx : VRel σ.length ι S w x p) (hy : VRel σ.length ι S w y q) (h : appendCore P σ t t2 p q = some (σ', r)) :
    ∃ v w' ι', (Builtin.append_ #[t, t2] ty #[x, y]).run P w = .ok v w' ∧ Store c ι' S σ' w' ∧ (∀ m v p, m ≤ σ.length → VRel m ι S w v p → VRel m ι' S w' v p) ∧ VRel σ'.length ι' S w' v r ∧ ∀ b, b < σ.length → ι' b = ι b := by
  unfold appendCore at h
  split at h
  · simp at h
  · rename_i e he
    have ht := und_elemOf he
    split at h
    · rename_i z by_ zs b k off len hz hby hzs
      split at h
      · rename_i cs m ps hb hsrc
        split at h
        · rename_i hc
          obtain ⟨rfl, hz0, hzl, rfl, hcl, hbytes, h63⟩ := hc
          simp at h
          obtain ⟨rfl, rfl⟩ := h
          obtain ⟨it, zv, hi, hzv, rfl⟩ := zeroOf_some hzs
          have hisz : it.size = k := by simpa [szOf, hi] using hz
          have hiby : it.bytes = by_ := by simpa [bytesOf, hi] using hby
          subst hisz; subst hiby
          obtain ⟨news, hsr, hseg, hpl⟩ := src_rel (s := ⟨0, [], σ, 0⟩) hs hy hsrc
          simp only at hseg
          have hnl : news.length = m * it.size := by rw [hseg.len, hpl]
          have hbl := box_lt hb
          have hk := hs.kill b
          have hlen' : (σ.set b none).length = σ.length := List.length_set
          -- the arm that grows: whatever the old slice is
          have grow : ∀ (ad : Option Addr) (cap : Nat) (olds : List Value), cap < len + m → (Builtin.firstCells it.size len (.slice ad len cap)).run P w.drew = .ok olds.toArray w.drew → Seg σ.length ι S w olds cs →
              ∃ v w' ι', (Builtin.append_ #[t, t2] ty #[.slice ad len cap, y]).run P w = .ok v w' ∧ Store c ι' S (σ.set b none ++ [some (cs ++ ps)]) w' ∧ (∀ m v p, m ≤ σ.length → VRel m ι S w v p → VRel m ι' S w' v p) ∧
              VRel (σ.set b none ++ [some (cs ++ ps)]).length ι' S w' v (.osl σ.length it.size 0 (len + m)) ∧ ∀ b, b < σ.length → ι' b = ι b := by
            intro ad cap olds hcap ho hso
            have hrun := run_app_grow (ty := ty) ht hi hzv hsr ho hcap h63 hbytes
            have hkd := hk.drew
            generalize hzc : (Builtin.zeroCells zv.cells (grownCap w (len + m) cap e - (len + m))).toList = zc at hrun
            have hzcl : zc.length = (grownCap w (len + m) cap e - (len + m)) * it.size := by
              rw [← hzc, Array.length_toList, size_zeroCells, show zv.cells.size = it.size by simpa using hzl]
            have hcells : ∀ (j : Nat) (p : PV), (cs ++ ps)[j]? = some p → ∃ v : Value, (olds ++ news ++ zc).toArray[j]? = some v ∧ VRel (σ.set b none).length ι S w.drew v p := fun j p hj => by
              obtain ⟨v, hv1, hv2⟩ := (hso.append hseg).rel j p hj
              refine ⟨v, ?_, by rw [hlen']; exact hv2.drew⟩
              have hlt := (List.getElem?_eq_some_iff.1 hv1).1
              simp only [List.getElem?_toArray]
              rw [List.getElem?_append_left hlt]; exact hv1
            have hone : ∀ p ∈ cs ++ ps, PV.one p = true := (hso.append hseg).one
            obtain ⟨hst, hmono⟩ := hkd.alloc (e := e) hone hcells
            rw [hlen'] at hst hmono
            refine ⟨_, _, _, hrun, hst, fun m v p hm hh => hmono m v p hm hh.drew, ?_, fun b hb => by simp [upd]; omega⟩
            have hge := grownCap_ge w (len + m) cap e
            refine .osl (blk := w.heap.size) (e := e) (m := (olds ++ news ++ zc).toArray.size) (by simp [hlen']) hge (grownCap_le_maxLen w (len + m) cap e h63) (by simp [upd]) ?_ ?_
            · have := heap_alloc_new w.drew (Obj.cells (olds ++ news ++ zc).toArray e)
              simp only [World.shape?]
              have hsz : w.drew.heap.size = w.heap.size := rfl
              rw [hsz] at this
              rw [this]
            · have hol := hso.len
              simp only [List.size_toArray, List.length_append, hol, hnl, hzcl, hcl, Nat.zero_add, ← Nat.add_mul]
              refine Nat.le_of_eq ?_
              congr 1; omega
          cases hx with
          | imm hx => cases hx
          | osl0 h1 =>
            have hcs0 : cs = [] := List.eq_nil_of_length_eq_zero (by simpa using hcl)
            subst hcs0
            rename_i ad
            rcases Nat.eq_zero_or_pos m with hm | hm
            · subst hm
              have hps : ps = [] := List.eq_nil_of_length_eq_zero (by simpa using hpl)
              have hn0 : news = [] := List.eq_nil_of_length_eq_zero (by simpa using hnl)
              subst hps
              have hrun := run_app_zero (ty := ty) ht hi hsr hn0 (a := ad)
              obtain ⟨hst, hmono⟩ := hk.adopt (ob := none) (cs := []) (.inl ⟨rfl, rfl⟩)
              rw [hlen'] at hst hmono
              exact ⟨_, _, _, hrun, by simpa using hst, hmono, .osl0 (by simp), fun b hb => by simp [upd]; omega⟩
            · refine grow ad 0 [] (by omega) ?_ ⟨rfl, by simp, by simp⟩
              cases ad <;> simp [Builtin.firstCells, loadCells, loadCellsFrom]
          | osl h1 h2 h3 h4 h5 h6 =>
            rename_i cap blk e' mm
            obtain ⟨blk', c', e'', hb', g1, g0, g2⟩ := hs.cellsE hb h4 h5
            rw [hb'] at h4; simp at h4; subst h4
            have hcsz : c'.size = mm := by
              simp [World.shape?, g1] at h5; exact h5.2
            have hcl' : cs.length ≤ c'.size := by
              rw [hcl, hcsz]; have := Nat.mul_le_mul_right it.size h2; omega
            by_cases hroom : len + m ≤ cap
            · have hfit : len * it.size + news.length ≤ c'.size := by
                rw [hnl, hcsz, ← Nat.add_mul]; have := Nat.mul_le_mul_right it.size hroom; omega
              have hrun := run_app_room (ty := ty) ht hi hsr hroom (blk := blk') (fun j hj => by
                have : len * it.size + j < c'.size := by omega
                simp [World.cell?, g1, this]) (fun j hj => by simp [World.frozen?, g1]) hseg.ones
              have hS := hs.notS b cs blk' hb hb'
              have hM := hs.live b cs blk' hb hb'
              have hfree : ∀ i ci, box (σ.set b none) i = some ci → ι i ≠ some blk' := fun i ci hi e1 => by
                rw [box_set hbl] at hi
                split at hi
                · simp at hi
                · rename_i hne; exact hne (hs.inj i b ci cs blk' hi hb e1 hb')
              obtain ⟨hst1, hm1⟩ := hk.poke hS hM hfree (len * it.size) news
              have hcells : ∀ (j : Nat) (p : PV), (cs ++ ps)[j]? = some p → ∃ v : Value, (wr c' (len * it.size) news)[j]? = some v ∧ VRel (σ.set b none).length ι S (w.setCells blk' (len * it.size) news) v p := fun j p hj => by
                rw [wr_get _ _ _ _ hfit]
                rcases Nat.lt_or_ge j cs.length with hlt | hge
                · rw [List.getElem?_append_left hlt] at hj
                  rw [if_neg (by omega)]
                  obtain ⟨v, hv1, hv2⟩ := g2 j p hj
                  exact ⟨v, hv1, by rw [hlen']; exact hm1 _ _ _ hv2⟩
                · rw [List.getElem?_append_right hge] at hj
                  obtain ⟨v, hv1, hv2⟩ := hseg.rel _ p hj
                  have hlt := (List.getElem?_eq_some_iff.1 hv1).1
                  rw [if_pos (by omega), show j - len * it.size = j - cs.length by omega]
                  exact ⟨v, hv1, by rw [hlen']; exact hm1 _ _ _ hv2⟩
              obtain ⟨hst2, hm2⟩ := hst1.adopt (ob := some blk') (cs := cs ++ ps) (.inr ⟨blk', _, e'', rfl, heap_setCells_same _ _ _ _ _ _ _ g1, hS, hM, hfree, fun p hp => by
                rcases List.mem_append.1 hp with hp | hp
                · exact g0 p hp
                · exact hseg.one p hp, hcells⟩)
              rw [hlen'] at hst2 hm2
              refine ⟨_, _, _, hrun, hst2, fun m v p hm hh => hm2 m v p hm (hm1 _ _ _ hh), ?_, fun b hb => by simp [upd]; omega⟩
              exact .osl (blk := blk') (by simp [hlen']) hroom h3 (by simp [upd]) (shape_setCells _ _ _ _ _ _ h5) h6
            · have hso : Seg σ.length ι S w (c'.toList.take cs.length) cs :=
                ⟨by simp; omega, g0, fun j p hj => by
                  have hlt := (List.getElem?_eq_some_iff.1 hj).1
                  rw [List.getElem?_take_of_lt hlt, Array.getElem?_toList]
                  exact g2 j p hj⟩
              refine grow _ cap (c'.toList.take cs.length) (by omega) ?_ hso
              refine run_firstCells_some (P := P) w.drew it.size len ⟨blk', 0, none⟩ len cap _ (by rw [hso.len, hcl]) (fun j v hj => ?_)
              have hlt := (List.getElem?_eq_some_iff.1 hj).1
              rw [hso.len] at hlt
              rw [List.getElem?_take_of_lt hlt, Array.getElem?_toList] at hj
              rw [add_at]
              have hh : w.drew.heap = w.heap := rfl
              simp [World.cell?, hh, g1, hj]
        · simp at h
      · simp at h
    · simp at h

theorem append_rel (hs : Store c ι S σ w) {t t2 ty : TypeId} {x y : Value} {p q r : PV} {σ' : Boxes} (hx : VRel σ.length ι S w x p) (hy : VRel σ.length ι S w y q) (h : appendPV P σ t t2 p q = some (σ', r)) :
    ∃ v w' ι', (Builtin.append_ #[t, t2] ty #[x, y]).run P w = .ok v w' ∧ Store c ι' S σ' w' ∧ (∀ m v p, m ≤ σ.length → VRel m ι S w v p → VRel m ι' S w' v p) ∧ VRel σ'.length ι' S w' v r ∧ ∀ b, b < σ.length → ι' b = ι b := by
  unfold appendPV at h
  split at h
  · split at h
    · split at h
      · rename_i z hz
        obtain ⟨h1, h2⟩ := hs.adopt (ob := none) (cs := []) (.inl ⟨rfl, rfl⟩)
        have hx' : VRel (σ ++ [some []]).length (upd ι σ.length none) S w x (.osl σ.length z 0 0) := by
          rw [hx.k_inv.1]; exact .osl0 (by simp)
        have hy' : VRel (σ ++ [some []]).length (upd ι σ.length none) S w y q :=
          (h2 _ _ _ (Nat.le_refl _) hy).mono (by simp) (fun _ _ => rfl) (fun _ h => h) (fun _ _ _ => rfl) (fun _ _ h => h)
        obtain ⟨v, w', ι', k1, k2, k3, k4, k5⟩ := appendCore_rel (ty := ty) h1 hx' hy' h
        exact ⟨v, w', ι', k1, k2, fun m v p hm hh => k3 m v p (by simp; omega) (h2 m v p hm hh), k4, fun b hb => by rw [k5 b (by simp; omega)]; simp [upd]; omega⟩
      · simp at h
    · simp at h
  · exact appendCore_rel hs hx hy h
/-! ### Slices with a known capacity: append, copy, clear -/
theorem splice_get' (cs : List PV) (off : Nat) (ps : List PV) (h : off ≤ cs.length) (j : Nat) : (splice cs off ps)[j]? = if off ≤ j ∧ j < off + ps.length then ps[j - off]? else cs[j]? := by
  unfold splice
  have hl : (cs.take off).length = off := by simp; omega
  by_cases h1 : j < off
  · rw [if_neg (by omega), List.append_assoc, List.getElem?_append_left (by omega), List.getElem?_take_of_lt h1]
  · by_cases h2 : j < off + ps.length
    · rw [if_pos (by omega), List.append_assoc, List.getElem?_append_right (by omega), hl, List.getElem?_append_left (by omega)]
    · rw [if_neg (by omega), List.getElem?_append_right (by simp; omega)]
      simp [hl, List.getElem?_drop]
      congr 1
      omega

/-- A box is written, maybe past what is told of it. -/
theorem Store.writeX (h : Store c ι S σ w) {b blk : Nat} {cs ps : List PV} {vs : List Value} {off : Nat}
    (hb : box σ b = some cs) (hblk : ι b = some blk) {x : TypeId × Nat} (hsh : w.shape? blk = some x) (hoff : off ≤ cs.length) (hroom : ∀ c' e, w.heap[blk]? = some (.cells c' e (0, 0)) → off + ps.length ≤ c'.size) (hseg : Seg σ.length ι S w vs ps) :
    Store c ι S (σ.set b (some (splice cs off ps))) (w.setCells blk off vs) ∧ (∀ m v p, VRel m ι S w v p → VRel m ι S (w.setCells blk off vs) v p) := by
  have hnS := h.notS b cs blk hb hblk
  have hbl := box_lt hb
  have hl := hseg.len
  have hv : ∀ m v p, VRel m ι S w v p → VRel m ι S (w.setCells blk off vs) v p := fun m v p hh =>
    hh.mono (Nat.le_refl _) (fun b hb => rfl) (fun _ h => h) (fun b' o hb' => World.cell?_of_block (heap_setCells_other _ _ (fun e : b' = blk => hnS (by rw [← e]; exact hb')) _ _ _)) (fun b x hx => shape_setCells _ _ _ _ _ _ hx)
  obtain ⟨r1, r2, r3⟩ := setCells_rest blk vs off w
  have hs : ∀ i ci, box (σ.set b (some (splice cs off ps))) i = some ci → ∃ ci', box σ i = some ci' := fun i ci hi => by
    rw [box_set hbl] at hi
    by_cases e : i = b
    · subst e; exact ⟨cs, hb⟩
    · rw [if_neg e] at hi; exact ⟨ci, hi⟩
  refine ⟨⟨r1.trans h.os, r2.trans h.tape, r3.trans h.output, by rw [setCells_size]; exact h.size, fun k hk hM => ?_, fun q x hx => shape_setCells _ _ _ _ _ _ (h.shape q x hx), ?_, ?_, ?_, ?_, fun b' hb' => by rw [setCells_size]; exact h.Slt b' hb', h.S0, h.Snew, by rw [List.length_set]; exact h.klen, h.kι⟩, hv⟩
  · rw [heap_setCells_other _ _ (fun e => ?_)]
    · exact h.old k hk hM
    · subst e
      rcases h.live b cs k hb hblk with hh | hh
      · exact hM hh
      · omega
  · intro i ci hi
    rw [box_set hbl] at hi
    by_cases e : i = b
    · subst e
      simp at hi
      subst hi
      obtain ⟨blk', c', e', hb', g1, g0, g2⟩ := h.cellsE hb hblk hsh
      · rw [hb'] at hblk; simp at hblk; subst hblk
        have hfit := hroom c' e' g1
        refine .inr ⟨blk', _, _, hb', heap_setCells_same _ _ _ _ _ _ _ g1, .inl ⟨e', rfl, fun p hp => ?_⟩, fun j p hj => ?_⟩
        · simp only [splice, List.mem_append] at hp
          rcases hp with (hp | hp) | hp
          · exact g0 p (List.mem_of_mem_take hp)
          · exact hseg.one p hp
          · exact g0 p (List.mem_of_mem_drop hp)
        · rw [splice_get' cs off ps hoff] at hj
          rw [wr_get _ _ _ _ (by omega)]
          by_cases hc : off ≤ j ∧ j < off + ps.length
          · rw [if_pos hc] at hj
            rw [if_pos (by omega)]
            obtain ⟨v, hv1, hv2⟩ := hseg.rel _ _ hj
            exact ⟨v, hv1, by rw [List.length_set]; exact hv _ _ _ hv2⟩
          · rw [if_neg hc] at hj
            rw [if_neg (by omega)]
            obtain ⟨v, hv1, hv2⟩ := g2 _ _ hj
            exact ⟨v, hv1, by rw [List.length_set]; exact hv _ _ _ hv2⟩
    · rw [if_neg e] at hi
      rcases h.boxes i ci hi with h' | ⟨blk', c', e', hb', g1, g0, g2⟩
      · exact .inl h'
      · refine .inr ⟨blk', c', e', hb', ?_, g0, fun j p hj => ?_⟩
        · rw [heap_setCells_other _ _ (fun e2 => e (h.inj i b ci cs blk' hi hb hb' (by rw [e2]; exact hblk)))]; exact g1
        · obtain ⟨v, hv1, hv2⟩ := g2 j p hj
          exact ⟨v, hv1, by rw [List.length_set]; exact hv _ _ _ hv2⟩
  · intro i ci blk' hi hb'
    obtain ⟨_, hi'⟩ := hs i ci hi
    exact h.notS i _ blk' hi' hb'
  · intro i ci blk' hi hb'
    obtain ⟨_, hi'⟩ := hs i ci hi
    exact h.live i _ blk' hi' hb'
  · intro i j ci cj blk' hi hj hbi hbj
    obtain ⟨_, hi'⟩ := hs i ci hi
    obtain ⟨_, hj'⟩ := hs j cj hj
    exact h.inj i j _ _ blk' hi' hj' hbi hbj

theorem boxes_set_same {σ : Boxes} {b : Nat} {cs : List PV} (h : box σ b = some cs) : σ.set b (some cs) = σ := by
  have hb := box_lt h
  refine List.ext_getElem? fun i => ?_
  rw [List.getElem?_set]
  split
  · rename_i e; subst e
    unfold box at h
    rw [List.getElem?_eq_getElem hb] at h
    simp at h
    simp [hb, h]
  · rfl

/-- What append puts in: m elements, their cells 'news'. -/
structure Puts (P : Program) (w : World) (t t2 e : TypeId) (i : TypeInfo) (zv : Value) (x : Value) (m : Nat) (news : List Value) : Prop where
  room : ∀ ty blk off sLen sCap, sLen + m ≤ sCap → (∀ j, j < news.length → (w.cell? ⟨blk, off + sLen * i.size + j, none⟩).isSome = true) → (∀ j, j < news.length → w.frozen? ⟨blk, off + sLen * i.size + j, none⟩ = false) → (∀ v ∈ news, v.oneCell' = true) →
    (Builtin.append_ #[t, t2] ty #[.slice (some ⟨blk, off, none⟩) sLen sCap, x]).run P w = .ok (.slice (some ⟨blk, off, none⟩) (sLen + m) sCap) (w.setCells blk (off + sLen * i.size) news)
  zero : ∀ ty a, m = 0 → news = [] → (Builtin.append_ #[t, t2] ty #[.slice a 0 0, x]).run P w = .ok (.slice a 0 0) w
  grow : ∀ ty a sLen sCap olds, (Builtin.firstCells i.size sLen (.slice a sLen sCap)).run P w.drew = .ok (List.toArray olds) w.drew → sCap < sLen + m → sLen + m ≤ maxLen → (sLen + m) * i.bytes ≤ 140737488355328 →
    (Builtin.append_ #[t, t2] ty #[.slice a sLen sCap, x]).run P w =
      .ok (.slice (some ⟨w.heap.size, 0, none⟩) (sLen + m) (grownCap w (sLen + m) sCap e)) (w.drew.alloc (.cells (olds ++ news ++ (Builtin.zeroCells zv.cells (grownCap w (sLen + m) sCap e - (sLen + m))).toList).toArray e))

theorem puts_src {P : Program} {w : World} {t t2 e : TypeId} {i : TypeInfo} {zv : Value} {x : Value} {m : Nat} {news : List Value} (ht : P.underlying t = some (.slice e)) (hi : P.info? e = some i) (hz : i.zero = some zv) (hx : Src P w i.size t2 x m news) : Puts P w t t2 e i zv x m news := by
  refine ⟨fun ty blk off sLen sCap hroom hc hf h1 => ?_, fun ty a h0 hn => by subst h0; exact run_app_zero ht hi hx hn, fun ty a sLen sCap olds ho hg h63 hb => run_app_grow ht hi hz hx ho hg h63 hb⟩
  obtain ⟨hd, hl, hcl, _, _⟩ := hx
  have hst := run_storeCells_cells (P := P) blk (off + sLen * i.size) news 0 w (by simpa using hc) (by simpa using hf) h1
  simp only [Nat.add_zero] at hst
  rcases hd with ⟨e', hd⟩ | hd
  · simp [Builtin.append_, run_underlying ht, run_underlying hd, sizeOf, typeInfo, hi, hl, hroom, hcl, add_at, hst]
  · simp [Builtin.append_, run_underlying ht, run_underlying hd, sizeOf, typeInfo, hi, hl, hroom, hcl, add_at, hst]

theorem zeroCells_nil {zv : Array Value} {m : Nat} (h : m * zv.size = 0) : Builtin.zeroCells zv m = #[] := by
  simp [Builtin.zeroCells, h]

theorem puts_zero {P : Program} {w : World} {t t2 e : TypeId} {k k' : IntKind} {i : TypeInfo} {zv : Value} {x : Int} (ht : P.underlying t = some (.slice e)) (hi : P.info? e = some i) (hz : i.zero = some zv) (h2 : P.underlying t2 = some (.int k'))
    (hzs : zv.cells.size = i.size) (h0 : 0 ≤ x) (hx : x ≤ 9223372036854775807) (hb : x.toNat * i.bytes ≤ 140737488355328) : Puts P w t t2 e i zv (.int k x) x.toNat (Builtin.zeroCells zv.cells x.toNat).toList := by
  have hw : IntKind.i64.wrap x = x := by rw [IntKind.wrap_i64]; omega
  have hn0 : ¬ (x < 0) := by omega
  have h48 : ¬ (281474976710656 < x * (i.bytes : Int)) := by
    have : ((x.toNat * i.bytes : Nat) : Int) = x * (i.bytes : Int) := by rw [Int.natCast_mul, Int.toNat_of_nonneg h0]
    omega
  have happ : ∀ W : World, ((if x.toNat * i.size = 0 then (pure #[] : Sem (Array Value)) else do pure (Builtin.zeroCells (← zeroValue e).cells x.toNat)) : Sem (Array Value)).run P W = .ok (Builtin.zeroCells zv.cells x.toNat) W := fun W => by
    split
    · rename_i hh
      rw [zeroCells_nil (by rw [hzs]; exact hh)]; rfl
    · simp [zeroValue, typeInfo, hi, hz]
  refine ⟨fun ty blk off sLen sCap hroom hc hf h1 => ?_, fun ty a hm hn => ?_, fun ty a sLen sCap olds ho hg h63 hbb => ?_⟩
  · have hst := run_storeCells_cells (P := P) blk (off + sLen * i.size) (Builtin.zeroCells zv.cells x.toNat).toList 0 w (by simpa using hc) (by simpa using hf) h1
    simp only [Nat.add_zero] at hst
    have := happ w
    simp [Builtin.append_, run_underlying ht, run_underlying h2, sizeOf, typeInfo, hi, asInt, asIntOf, hw, hn0, h48, hroom, add_at, hst, zeroValue, hz]
    intro hh
    rw [zeroCells_nil (by rw [hzs]; exact hh)]
    simp [storeCells, World.setCells]
  · have hz0 : x = 0 := by omega
    subst hz0
    cases a <;> simp [Builtin.append_, run_underlying ht, run_underlying h2, sizeOf, typeInfo, hi, asInt, asIntOf, hw, storeCells]
  · have hn : ¬ (sLen + x.toNat ≤ sCap) := by omega
    have h63' : ¬ (9223372036854775807 < ((sLen : Int) + (x.toNat : Int))) := by simp only [maxLen] at h63; omega
    have h48' : ¬ (281474976710656 < Builtin.nextslicecap (sLen + x.toNat) sCap * i.bytes) := by have := growslice_fits (old := sCap) hg hbb; omega
    have hfin : ∀ zz, Result.ok (Value.slice (some ⟨w.heap.size, 0, none⟩) (sLen + x.toNat) (grownCap w (sLen + x.toNat) sCap e)) (w.drew.alloc (.cells (olds.toArray ++ ((Builtin.zeroCells zv.cells x.toNat) ++ zz)) e)) =
        Result.ok (Value.slice (some ⟨w.heap.size, 0, none⟩) (sLen + x.toNat) (grownCap w (sLen + x.toNat) sCap e)) (w.drew.alloc (.cells (olds ++ (Builtin.zeroCells zv.cells x.toNat).toList ++ zz.toList).toArray e)) := fun zz => by
      congr 3
      apply Array.ext'
      simp [List.append_assoc]
    rw [← hfin]
    have h63'' : ¬ (9223372036854775807 < (sLen : Int) + max x 0) := by omega
    by_cases hh : x.toNat * i.size = 0
    · rw [zeroCells_nil (m := x.toNat) (by rw [hzs]; exact hh)]
      simp [Builtin.append_, run_underlying ht, run_underlying h2, sizeOf, typeInfo, zeroValue, hi, hz, asInt, asIntOf, hw, hn0, h48, hn, h63'', h48', Question.forced, ho, newRow, grownCap, hh]
    · simp [Builtin.append_, run_underlying ht, run_underlying h2, sizeOf, typeInfo, zeroValue, hi, hz, asInt, asIntOf, hw, hn0, h48, hn, h63'', h48', Question.forced, ho, newRow, grownCap, hh]

theorem made_seg (zv : Value) (zs : List Value) (hz : zv.cells.toList = zs) (hsc : zs.all scal = true) (m : Nat) :
    Seg n ι S w ((Array.range (m * zs.length)).map (zv.cells[· % zv.cells.size]!)).toList (List.replicate m (zs.map PV.k)).flatten := by
  have hall : ∀ r ∈ List.replicate m (zs.map PV.k), r.length = zs.length := fun r hr => by rw [List.eq_of_mem_replicate hr]; simp
  have hfl : (List.replicate m (zs.map PV.k)).flatten.length = m * zs.length := by rw [flatten_len (sz := zs.length) _ hall]; simp
  have hsz : zv.cells.size = zs.length := by rw [← hz]; simp
  refine ⟨by rw [hfl]; simp, fun p hp => ?_, fun j p hj => ?_⟩
  · obtain ⟨r, hr, hpr⟩ := List.mem_flatten.1 hp
    rw [List.eq_of_mem_replicate hr] at hpr
    simp at hpr; obtain ⟨v, _, rfl⟩ := hpr; rfl
  · have hj' := (List.getElem?_eq_some_iff.1 hj).1
    rw [hfl] at hj'
    have hz0 : 0 < zs.length := Nat.pos_of_ne_zero (fun e => by simp [e] at hj')
    have hq : j / zs.length < m := Nat.div_lt_of_lt_mul (by rw [Nat.mul_comm]; exact hj')
    have hm := Nat.mod_lt j hz0
    have e : j = (j / zs.length) * zs.length + j % zs.length := by rw [Nat.mul_comm]; exact (Nat.div_add_mod j zs.length).symm
    rw [e, flatten_at (sz := zs.length) (j / zs.length) _ hall (zs.map .k) (by simp [hq]) _ hm] at hj
    simp only [List.getElem?_map, Option.map_eq_some_iff] at hj
    obtain ⟨v, hv, rfl⟩ := hj
    refine ⟨v, ?_, kVR (List.all_eq_true.1 hsc v (List.mem_of_getElem? hv))⟩
    simp only [Array.toList_map, List.getElem?_map, Array.getElem?_toList, Array.getElem?_range, hj', if_true, Option.map_some, hsz]
    congr 1
    have : zv.cells[j % zs.length]? = some v := by rw [← Array.getElem?_toList, hz]; exact hv
    rw [getElem!_def, this]

theorem zeros_seg (zv : Value) (zs : List Value) (hz : zv.cells.toList = zs) (hsc : zs.all scal = true) (m : Nat) :
    Seg n ι S w (Builtin.zeroCells zv.cells m).toList (List.replicate m (zs.map PV.k)).flatten := by
  have hsz : zv.cells.size = zs.length := by rw [← hz]; simp
  have := made_seg (n := n) (ι := ι) (S := S) (w := w) zv zs hz hsc m
  unfold Builtin.zeroCells
  rw [hsz]
  rw [hsz] at this
  exact this

/-- What append or copy takes. -/
def putPV (P : Program) (σ : Boxes) (z by_ : Nat) (zs : List Value) (t2 : TypeId) (q : PV) : Option (Nat × List PV) :=
  match srcPV P σ z t2 q with
  | some x => some x
  | none => match q with
    | .k (.int _ n) => if (intOfT P t2).isSome = true ∧ 0 ≤ n ∧ n ≤ 9223372036854775807 ∧ n.toNat * by_ ≤ 140737488355328 ∧ zs.all scal = true then some (n.toNat, (List.replicate n.toNat (zs.map .k)).flatten) else none
    | _ => none

theorem put_rel (hs : Store c ι S σ w) {t t2 e : TypeId} {i : TypeInfo} {zv : Value} (ht : P.underlying t = some (.slice e)) (hi : P.info? e = some i) (hz : i.zero = some zv) (hzs : zv.cells.toList.length = i.size)
    {x : Value} {q : PV} {m : Nat} {ps : List PV} (hx : VRel σ.length ι S w x q) (h : putPV P σ i.size i.bytes zv.cells.toList t2 q = some (m, ps)) :
    ∃ news, Puts P w t t2 e i zv x m news ∧ Seg σ.length ι S w news ps ∧ ps.length = m * i.size := by
  unfold putPV at h
  split at h
  · rename_i y hsrc
    simp at h; subst h
    obtain ⟨news, h1, h2, h3⟩ := src_rel (s := ⟨0, [], σ, 0⟩) hs hx hsrc
    exact ⟨news, puts_src ht hi hz h1, h2, h3⟩
  · split at h
    · rename_i k n
      split at h
      · rename_i hc
        obtain ⟨c1, c2, c3, c4, c5⟩ := hc
        simp at h
        obtain ⟨rfl, rfl⟩ := h
        obtain ⟨rfl, _⟩ := hx.k_inv
        obtain ⟨k', hk'⟩ := Option.isSome_iff_exists.1 c1
        exact ⟨_, puts_zero ht hi hz (intOfT_und hk') (by simpa using hzs) c2 c3 c4, zeros_seg zv _ rfl c5 _, by simp [← hzs]⟩
      · simp at h
    · simp at h

def appendC (P : Program) (σ : Boxes) (t t2 : TypeId) (b k off len cap : Nat) (q : PV) : Option (Boxes × PV) :=
  match elemOf P t with
  | none => none
  | some e =>
    match szOf P e, bytesOf P e, zeroOf P e with
    | some z, some by_, some zs =>
      match box σ b, putPV P σ z by_ zs t2 q with
      | some cs, some (m, ps) =>
        if k = z ∧ zs.length = z ∧ off + len * z ≤ cs.length ∧ (len + m) * by_ ≤ 140737488355328 ∧ len + m ≤ maxLen then
          if len + m ≤ cap then some (σ.set b (some (splice cs (off + len * z) ps)), .osc b z off (len + m) cap)
          else some (σ ++ [some ((cs.drop off).take (len * z) ++ ps)], .osl σ.length z 0 (len + m))
        else none
      | _, _ => none
    | _, _, _ => none

theorem appendC_rel (hs : Store c ι S σ w) {t t2 ty : TypeId} {x y : Value} {b k off len cap : Nat} {q r : PV} {σ' : Boxes} (hx : VRel σ.length ι S w x (.osc b k off len cap)) (hy : VRel σ.length ι S w y q) (h : appendC P σ t t2 b k off len cap q = some (σ', r)) :
    ∃ v w' ι', (Builtin.append_ #[t, t2] ty #[x, y]).run P w = .ok v w' ∧ Store c ι' S σ' w' ∧ (∀ m v p, m ≤ σ.length → VRel m ι S w v p → VRel m ι' S w' v p) ∧ VRel σ'.length ι' S w' v r ∧ ∀ b, b < σ.length → ι' b = ι b := by
  unfold appendC at h
  split at h
  · simp at h
  · rename_i e he
    have ht := und_elemOf he
    split at h
    · rename_i z by_ zs hz hby hzs
      split at h
      · rename_i cs m ps hb hsrc
        split at h
        · rename_i hc
          obtain ⟨rfl, hzl, hcl, hbytes, h63⟩ := hc
          obtain ⟨it, zv, hi, hzv, rfl⟩ := zeroOf_some hzs
          have hisz : it.size = k := by simpa [szOf, hi] using hz
          have hiby : it.bytes = by_ := by simpa [bytesOf, hi] using hby
          subst hisz; subst hiby
          obtain ⟨news, hsr, hseg, hpl⟩ := put_rel hs ht hi hzv hzl hy hsrc
          have hnl : news.length = m * it.size := by rw [hseg.len, hpl]
          have hbl := box_lt hb
          -- the arm that grows
          have grow : ∀ (ad : Option Addr) (cp : Nat) (olds : List Value), cp < len + m → (Builtin.firstCells it.size len (.slice ad len cp)).run P w.drew = .ok olds.toArray w.drew → Seg σ.length ι S w olds ((cs.drop off).take (len * it.size)) →
              ∃ v w' ι', (Builtin.append_ #[t, t2] ty #[.slice ad len cp, y]).run P w = .ok v w' ∧ Store c ι' S (σ ++ [some ((cs.drop off).take (len * it.size) ++ ps)]) w' ∧ (∀ m v p, m ≤ σ.length → VRel m ι S w v p → VRel m ι' S w' v p) ∧
              VRel (σ ++ [some ((cs.drop off).take (len * it.size) ++ ps)]).length ι' S w' v (.osl σ.length it.size 0 (len + m)) ∧ ∀ b, b < σ.length → ι' b = ι b := by
            intro ad cp olds hcap ho hso
            have hrun := hsr.grow ty ad len cp olds ho hcap h63 hbytes
            have hkd := hs.drew
            generalize hzc : (Builtin.zeroCells zv.cells (grownCap w (len + m) cp e - (len + m))).toList = zc at hrun
            have hzcl : zc.length = (grownCap w (len + m) cp e - (len + m)) * it.size := by
              rw [← hzc, Array.length_toList, size_zeroCells, show zv.cells.size = it.size by simpa using hzl]
            have hcells : ∀ (j : Nat) (p : PV), ((cs.drop off).take (len * it.size) ++ ps)[j]? = some p → ∃ v : Value, (olds ++ news ++ zc).toArray[j]? = some v ∧ VRel σ.length ι S w.drew v p := fun j p hj => by
              obtain ⟨v, hv1, hv2⟩ := (hso.append hseg).rel j p hj
              refine ⟨v, ?_, hv2.drew⟩
              have hlt := (List.getElem?_eq_some_iff.1 hv1).1
              simp only [List.getElem?_toArray]
              rw [List.getElem?_append_left hlt]; exact hv1
            obtain ⟨hst, hmono⟩ := hkd.alloc (e := e) (hso.append hseg).one hcells
            refine ⟨_, _, _, hrun, hst, fun m v p hm hh => hmono m v p hm hh.drew, ?_, fun b hb => by simp [upd]; omega⟩
            have hge := grownCap_ge w (len + m) cp e
            refine .osl (blk := w.heap.size) (e := e) (m := (olds ++ news ++ zc).toArray.size) (by simp) hge (grownCap_le_maxLen w (len + m) cp e h63) (by simp [upd]) ?_ ?_
            · have := heap_alloc_new w.drew (Obj.cells (olds ++ news ++ zc).toArray e)
              simp only [World.shape?]
              have hsz : w.drew.heap.size = w.heap.size := rfl
              rw [hsz] at this
              rw [this]
            · have hol : olds.length = len * it.size := by rw [hso.len]; simp; omega
              simp only [List.size_toArray, List.length_append, hol, hnl, hzcl, Nat.zero_add, ← Nat.add_mul]
              refine Nat.le_of_eq ?_
              congr 1; omega
          cases hx with
          | imm hx => cases hx
          | osc0 h1 =>
            rename_i ad
            by_cases hroom : 0 + m ≤ 0
            · rw [if_pos hroom] at h
              simp at h
              obtain ⟨rfl, rfl⟩ := h
              have hm0 : m = 0 := by omega
              subst hm0
              have hps : ps = [] := List.eq_nil_of_length_eq_zero (by simpa using hpl)
              have hn0 : news = [] := List.eq_nil_of_length_eq_zero (by simpa using hnl)
              subst hps hn0
              have hcs : splice cs off [] = cs := by simp [splice]
              have hset : σ.set b (some cs) = σ := boxes_set_same hb
              refine ⟨_, w, ι, hsr.zero ty ad rfl rfl, by simpa [hcs, hset] using hs, fun m v p _ hh => hh, by simpa [hcs, hset] using VRel.osc0 h1, fun _ _ => rfl⟩
            · rw [if_neg hroom] at h
              simp at h
              obtain ⟨rfl, rfl⟩ := h
              simpa using grow ad 0 [] (by omega) (by cases ad <;> simp [Builtin.firstCells, loadCells, loadCellsFrom]) (by simpa using Seg.ks [] rfl)
          | osc h1 h2 h3 h4 h5 h6 =>
            rename_i blk e' mm
            obtain ⟨blk', c', e'', hb', g1, g0, g2⟩ := hs.cellsE hb h4 h5
            rw [hb'] at h4; simp at h4; subst h4
            have hcsz : c'.size = mm := by
              simp [World.shape?, g1] at h5; exact h5.2
            by_cases hroom : len + m ≤ cap
            · rw [if_pos hroom] at h
              simp at h
              obtain ⟨rfl, rfl⟩ := h
              have hmulc : len * it.size + m * it.size ≤ cap * it.size := by rw [← Nat.add_mul]; exact Nat.mul_le_mul_right it.size hroom
              have hrun := hsr.room ty blk' off len cap hroom (fun j hj => by
                have : off + len * it.size + j < c'.size := by omega
                simp [World.cell?, g1, this]) (fun j hj => by simp [World.frozen?, g1]) hseg.ones
              obtain ⟨hst, hm⟩ := hs.writeX hb hb' h5 hcl (fun c2 e2 hh => by rw [g1] at hh; simp at hh; rw [← hh.1]; omega) hseg
              refine ⟨_, _, ι, hrun, hst, fun m v p _ hh => hm m v p hh, ?_, fun _ _ => rfl⟩
              rw [List.length_set]
              exact .osc h1 hroom h3 hb' (shape_setCells _ _ _ _ _ _ h5) h6
            · rw [if_neg hroom] at h
              simp at h
              obtain ⟨rfl, rfl⟩ := h
              have hcl2 : cs.length ≤ c'.size := by
                rcases Nat.eq_zero_or_pos cs.length with h0 | h0
                · omega
                · obtain ⟨v, hv1, _⟩ := g2 (cs.length - 1) _ (List.getElem?_eq_getElem (by omega))
                  have := (Array.getElem?_eq_some_iff.1 hv1).1
                  omega
              have hlt' : ((cs.drop off).take (len * it.size)).length = len * it.size := by simp; omega
              have hso : Seg σ.length ι S w ((c'.toList.drop off).take (len * it.size)) ((cs.drop off).take (len * it.size)) :=
                ⟨by simp; omega, fun p hp => g0 p (List.mem_of_mem_drop (List.mem_of_mem_take hp)), fun j p hj => by
                  have hlt := (List.getElem?_eq_some_iff.1 hj).1
                  rw [hlt'] at hlt
                  rw [List.getElem?_take_of_lt hlt, List.getElem?_drop] at hj ⊢
                  rw [Array.getElem?_toList]
                  exact g2 _ p hj⟩
              refine grow _ cap ((c'.toList.drop off).take (len * it.size)) (by omega) ?_ hso
              refine run_firstCells_some (P := P) w.drew it.size len ⟨blk', off, none⟩ len cap _ (by rw [hso.len, hlt']) (fun j v hj => ?_)
              have hlt := (List.getElem?_eq_some_iff.1 hj).1
              rw [hso.len, hlt'] at hlt
              rw [List.getElem?_take_of_lt hlt, List.getElem?_drop, Array.getElem?_toList] at hj
              rw [add_at]
              have hh : w.drew.heap = w.heap := rfl
              simp [World.cell?, hh, g1, hj]
        · simp at h
      · simp at h
    · simp at h
/-- A slice that can be written: box, size, offset, length. -/
def dstPV : PV → Option (Nat × Nat × Nat × Nat)
  | .osl b k off len => some (b, k, off, len)
  | .osc b k off len _ => some (b, k, off, len)
  | _ => none

theorem dst_rel {x : Value} {p : PV} {b k off len : Nat} (hx : VRel n ι S w x p) (h : dstPV p = some (b, k, off, len)) :
    (∃ a, x = .slice a 0 0 ∧ len = 0) ∨ ∃ (blk cap : Nat) (e : TypeId) (m : Nat), x = .slice (some ⟨blk, off, none⟩) len cap ∧ len ≤ cap ∧ ι b = some blk ∧ w.shape? blk = some (e, m) ∧ off + cap * k ≤ m := by
  unfold dstPV at h
  split at h
  · simp at h
    obtain ⟨rfl, rfl, rfl, rfl⟩ := h
    cases hx with
    | imm hx => cases hx
    | osl h1 h2 h3 h4 h5 h6 => exact .inr ⟨_, _, _, _, rfl, h2, h4, h5, h6⟩
    | osl0 h1 => exact .inl ⟨_, rfl, rfl⟩
  · simp at h
    obtain ⟨rfl, rfl, rfl, rfl⟩ := h
    cases hx with
    | imm hx => cases hx
    | osc h1 h2 h3 h4 h5 h6 => exact .inr ⟨_, _, _, _, rfl, h2, h4, h5, h6⟩
    | osc0 h1 => exact .inl ⟨_, rfl, rfl⟩
  · simp at h

/-- A source that is longer than the target is read only as far as the target goes. -/
def cutPV (l : Nat) : PV → PV
  | .osc b k off m cap => .osc b k off (min m l) cap
  | p => p

theorem cut_rel {n : Nat} {y : Value} {q : PV} (len : Nat) (hy : VRel n ι S w y q) :
    ∃ y', VRel n ι S w y' (cutPV len q) ∧ ∀ (a : Option Addr) (cap : Nat) (t t2 ty : TypeId), (Builtin.copy_ #[t, t2] ty #[.slice a len cap, y]).run P w = (Builtin.copy_ #[t, t2] ty #[.slice a len cap, y']).run P w := by
  unfold cutPV
  split
  · rename_i b k off m cp
    cases hy with
    | imm hy => cases hy
    | osc h1 h2 h3 h4 h5 h6 =>
      rename_i blk e mm
      refine ⟨.slice (some ⟨blk, off, none⟩) (min m len) cp, .osc h1 (by omega) h3 h4 h5 h6, fun a cap t t2 ty => ?_⟩
      simp [Builtin.copy_, Builtin.lenOf, Builtin.firstCells]
    | osc0 h1 => exact ⟨_, by simpa using .osc0 h1, fun _ _ _ _ _ => rfl⟩
  · exact ⟨y, hy, fun _ _ _ _ _ => rfl⟩

def copyPV (P : Program) (σ : Boxes) (t t2 : TypeId) (p q : PV) : Option (Boxes × PV) :=
  match elemOf P t with
  | none => none
  | some e =>
    match szOf P e, dstPV p with
    | some z, some (b, k, off, len) =>
      match box σ b, srcPV P σ z t2 (cutPV len q) with
      | some cs, some (m, ps) =>
        if k = z ∧ off ≤ cs.length then some (σ.set b (some (splice cs off (ps.take (min m len * z)))), .k (.int .i64 (min m len : Nat))) else none
      | _, _ => none
    | _, _ => none

theorem copy_rel (hs : Store c ι S σ w) {t t2 ty : TypeId} {x y : Value} {p q r : PV} {σ' : Boxes} (hx : VRel σ.length ι S w x p) (hy0 : VRel σ.length ι S w y q) (h : copyPV P σ t t2 p q = some (σ', r)) :
    ∃ v w', (Builtin.copy_ #[t, t2] ty #[x, y]).run P w = .ok v w' ∧ Store c ι S σ' w' ∧ (∀ m v p, VRel m ι S w v p → VRel m ι S w' v p) ∧ VRel σ'.length ι S w' v r ∧ σ'.length = σ.length := by
  unfold copyPV at h
  split at h
  · simp at h
  · rename_i e he
    have ht := und_elemOf he
    split at h
    · rename_i z b k off len hz hd
      split at h
      · rename_i cs m ps hb hsrc
        split at h
        · rename_i hc
          obtain ⟨rfl, hoff⟩ := hc
          simp at h
          obtain ⟨rfl, rfl⟩ := h
          obtain ⟨y', hy, hcut⟩ := cut_rel (P := P) len hy0
          obtain ⟨news, hsr, hseg, hpl⟩ := src_rel (s := ⟨0, [], σ, 0⟩) hs hy hsrc
          obtain ⟨hdd, hl, _, _, hpart⟩ := hsr
          simp only at hseg
          have hp := hpart (min m len) (Nat.min_le_left _ _)
          have hzz := run_szOf (P := P) w hz
          have hseg2 : Seg σ.length ι S w (news.take (min m len * k)) (ps.take (min m len * k)) := hseg.take _
          have hlen2 : (ps.take (min m len * k)).length = min m len * k := by
            rw [List.length_take, hpl, Nat.min_eq_left (Nat.mul_le_mul_right _ (Nat.min_le_left _ _))]
          have hk : ∀ w', VRel (σ.set b (some (splice cs off (ps.take (min m len * k))))).length ι S w' (goInt (min m len : Nat)) (.k (.int .i64 (min m len : Nat))) := fun w' => .imm (.k (v := .int .i64 _) rfl)
          rcases dst_rel hx hd with ⟨a, rfl, rfl⟩ | ⟨blk, cap, e', mm, rfl, h2, h4, h5, h6⟩
          · have h0 : min m 0 = 0 := by simp
            rw [h0] at hp hk ⊢
            have hcs : splice cs off (ps.take (0 * k)) = cs := by simp [splice]
            have hset : σ.set b (some cs) = σ := boxes_set_same hb
            rw [hcs, hset] at hk ⊢
            refine ⟨_, w, ?_, hs, fun _ _ _ hh => hh, hk w, rfl⟩
            rw [hcut]
            cases a <;> simp [Builtin.copy_, run_underlying ht, hl, hzz, hp, storeCells]
          · obtain ⟨blk', c', e'', hb', g1, g0, g2⟩ := hs.cellsE hb h4 h5
            rw [hb'] at h4; simp at h4; subst h4
            have hcsz : c'.size = mm := by
              simp [World.shape?, g1] at h5; exact h5.2
            have hfit : off + min m len * k ≤ c'.size := by
              have h7 : min m len * k ≤ cap * k := Nat.mul_le_mul_right _ (Nat.le_trans (Nat.min_le_right _ _) h2)
              omega
            have hst := run_storeCells_cells (P := P) blk' off (news.take (min m len * k)) 0 w (fun j hj => by
                rw [hseg2.len, hlen2] at hj
                have : off + j < c'.size := by omega
                simp [World.cell?, g1, this]) (fun j hj => by simp [World.frozen?, g1]) hseg2.ones
            simp only [Nat.add_zero] at hst
            obtain ⟨hst2, hm⟩ := hs.writeX hb hb' h5 hoff (fun c2 e2 hh => by rw [g1] at hh; simp at hh; rw [← hh.1, hlen2]; exact hfit) hseg2
            refine ⟨_, _, ?_, hst2, hm, hk _, by simp⟩
            rw [hcut]
            simp [Builtin.copy_, run_underlying ht, hl, hzz, hp, hst]
        · simp at h
      · simp at h
    · simp at h

def clearPV (P : Program) (σ : Boxes) (t : TypeId) (p : PV) : Option Boxes :=
  match elemOf P t with
  | none => none
  | some e =>
    match szOf P e, zeroOf P e, dstPV p with
    | some z, some zs, some (b, k, off, len) =>
      match box σ b with
      | some cs => if k = z ∧ zs.length = z ∧ zs.all scal = true ∧ off ≤ cs.length then some (σ.set b (some (splice cs off (List.replicate len (zs.map .k)).flatten))) else none
      | none => none
    | _, _, _ => none

theorem clear_rel (hs : Store c ι S σ w) {t ty : TypeId} {x : Value} {p : PV} {σ' : Boxes} (hx : VRel σ.length ι S w x p) (h : clearPV P σ t p = some σ') :
    ∃ w', (Builtin.clear_ #[t] ty #[x]).run P w = .ok (.tuple #[]) w' ∧ Store c ι S σ' w' ∧ (∀ m v p, VRel m ι S w v p → VRel m ι S w' v p) ∧ σ'.length = σ.length := by
  unfold clearPV at h
  split at h
  · simp at h
  · rename_i e he
    have ht := und_elemOf he
    split at h
    · rename_i z zs b k off len hz hzs hd
      split at h
      · rename_i cs hb
        split at h
        · rename_i hc
          obtain ⟨rfl, hzl, hsc, hoff⟩ := hc
          simp at h
          subst h
          obtain ⟨it, zv, hi, hzv, rfl⟩ := zeroOf_some hzs
          have hseg := zeros_seg (n := σ.length) (ι := ι) (S := S) (w := w) zv _ rfl hsc len
          have hrl : (List.replicate len (zv.cells.toList.map PV.k)).flatten.length = len * k := by simp [← hzl]
          rcases dst_rel hx hd with ⟨a, rfl, rfl⟩ | ⟨blk, cap, e', mm, rfl, h2, h4, h5, h6⟩
          · have hcs : splice cs off (List.replicate 0 (zv.cells.toList.map PV.k)).flatten = cs := by simp [splice]
            have hset : σ.set b (some cs) = σ := boxes_set_same hb
            rw [hcs, hset]
            refine ⟨w, ?_, hs, fun _ _ _ hh => hh, rfl⟩
            cases a <;> simp [Builtin.clear_, run_underlying ht]
          · obtain ⟨blk', c', e'', hb', g1, g0, g2⟩ := hs.cellsE hb h4 h5
            rw [hb'] at h4; simp at h4; subst h4
            have hcsz : c'.size = mm := by
              simp [World.shape?, g1] at h5; exact h5.2
            have hfit : off + len * k ≤ c'.size := by
              have h7 : len * k ≤ cap * k := Nat.mul_le_mul_right _ h2
              omega
            have hst := run_storeCells_cells (P := P) blk' off (Builtin.zeroCells zv.cells len).toList 0 w (fun j hj => by
                rw [hseg.len, hrl] at hj
                have : off + j < c'.size := by omega
                simp [World.cell?, g1, this]) (fun j hj => by simp [World.frozen?, g1]) hseg.ones
            simp only [Nat.add_zero] at hst
            obtain ⟨hst2, hm⟩ := hs.writeX hb hb' h5 hoff (fun c2 e2 hh => by rw [g1] at hh; simp at hh; rw [← hh.1, hrl]; exact hfit) hseg
            refine ⟨_, ?_, hst2, hm, by simp⟩
            rcases Nat.eq_zero_or_pos len with h0 | h0
            · subst h0
              have e0 : Builtin.zeroCells zv.cells 0 = #[] := zeroCells_nil (by simp)
              simp [Builtin.clear_, run_underlying ht, e0, World.setCells]
            · obtain ⟨l, rfl⟩ : ∃ l, len = l + 1 := ⟨len - 1, by omega⟩
              simp [Builtin.clear_, run_underlying ht, zeroValue, typeInfo, hi, hzv, hst]
        · simp at h
      · simp at h
    · simp at h

/-- Append: onto a slice of known capacity; zeros onto nil; else. -/
def appendAny (P : Program) (σ : Boxes) (t t2 : TypeId) (p q : PV) : Option (Boxes × PV) :=
  match p, q with
  | .osc b k off len cap, q => appendC P σ t t2 b k off len cap q
  | .k (.slice none 0 0), .k (.int _ _) => match elemOf P t with
    | some e => match szOf P e with
      | some z => appendC P (σ ++ [some []]) t t2 σ.length z 0 0 0 q
      | none => none
    | none => none
  | p, q => appendPV P σ t t2 p q

theorem appendCore_len {t t2 : TypeId} {p q r : PV} {σ' : Boxes} (h : appendCore P σ t t2 p q = some (σ', r)) : σ.length ≤ σ'.length := by
  unfold appendCore at h
  repeat' (split at h)
  all_goals first
    | (simp at h; done)
    | (simp at h; obtain ⟨rfl, _⟩ := h; simp)
theorem appendPV_len {t t2 : TypeId} {p q r : PV} {σ' : Boxes} (h : appendPV P σ t t2 p q = some (σ', r)) : σ.length ≤ σ'.length := by
  unfold appendPV at h
  split at h
  · split at h
    · split at h
      · have := appendCore_len h; simp at this; omega
      · simp at h
    · simp at h
  · exact appendCore_len h

theorem appendC_len {t t2 : TypeId} {b k off len cap : Nat} {q r : PV} {σ' : Boxes} (h : appendC P σ t t2 b k off len cap q = some (σ', r)) : σ.length ≤ σ'.length := by
  unfold appendC at h
  split at h
  · simp at h
  · split at h
    · split at h
      · split at h
        · split at h
          · simp at h; obtain ⟨rfl, _⟩ := h; simp
          · simp at h; obtain ⟨rfl, _⟩ := h; simp
        · simp at h
      · simp at h
    · simp at h
theorem appendAny_len {t t2 : TypeId} {p q r : PV} {σ' : Boxes} (h : appendAny P σ t t2 p q = some (σ', r)) : σ.length ≤ σ'.length := by
  unfold appendAny at h
  split at h
  · exact appendC_len h
  · split at h
    · split at h
      · have := appendC_len h; simp at this; omega
      · simp at h
    · simp at h
  · exact appendPV_len h
theorem appendAny_rel (hs : Store c ι S σ w) {t t2 ty : TypeId} {x y : Value} {p q r : PV} {σ' : Boxes} (hx : VRel σ.length ι S w x p) (hy : VRel σ.length ι S w y q) (h : appendAny P σ t t2 p q = some (σ', r)) :
    ∃ v w' ι', (Builtin.append_ #[t, t2] ty #[x, y]).run P w = .ok v w' ∧ Store c ι' S σ' w' ∧ (∀ m v p, m ≤ σ.length → VRel m ι S w v p → VRel m ι' S w' v p) ∧ VRel σ'.length ι' S w' v r ∧ ∀ b, b < σ.length → ι' b = ι b := by
  unfold appendAny at h
  split at h
  · exact appendC_rel hs hx hy h
  · split at h
    · split at h
      · rename_i z hz
        obtain ⟨h1, h2⟩ := hs.adopt (ob := none) (cs := []) (.inl ⟨rfl, rfl⟩)
        have hx' : VRel (σ ++ [some []]).length (upd ι σ.length none) S w x (.osc σ.length z 0 0 0) := by
          rw [hx.k_inv.1]; exact .osc0 (by simp)
        have hy' := (h2 _ _ _ (Nat.le_refl _) hy).mono (n' := (σ ++ [some []]).length) (by simp) (fun _ _ => rfl) (fun _ h => h) (fun _ _ _ => rfl) (fun _ _ h => h)
        obtain ⟨v, w', ι', k1, k2, k3, k4, k5⟩ := appendC_rel (ty := ty) h1 hx' hy' h
        exact ⟨v, w', ι', k1, k2, fun m v p hm hh => k3 m v p (by simp; omega) (h2 m v p hm hh), k4, fun b hb => by rw [k5 b (by simp; omega)]; simp [upd]; omega⟩
      · simp at h
    · simp at h
  · exact append_rel hs hx hy h

end

end Go.Proofs.YtidhdlhblhbahaaGreat.Am

/- The machine of values: lists of operations. -/
set_option linter.unusedVariables false
set_option linter.unusedSimpArgs false
namespace Go.Proofs.YtidhdlhblhbahaaGreat.Am
open Go Go.RowKit

def St.put (s : St) (d : Option Tmp) (p : PV) : St :=
  match d with
  | some d => { s with T := (d, p) :: s.T }
  | none => s

def dstOk (d : Option Tmp) (N : Nat) : Bool := match d with | some d => decide (d < N) | none => true

def partsPV (s : St) (parts : List (Nat × Operand)) : Option (List (Nat × PV)) := parts.mapM fun x => (opd s x.2).map fun p => (x.1, p)

def memVal (P : Program) (s : St) : Op → Option (Boxes × PV)
  | .alloc t => match zeroOf P t with | some zs => if zs.all scal = true then some (s.σ ++ [some (zs.map .k)], .ptr s.σ.length 0) else none | none => none
  | .box _ x => match opd s x with | some p => if p.isTup = false then some (s.σ ++ [some (pcells p)], .ptr s.σ.length 0) else none | none => none
  | .build t parts => match partsPV s parts.toList with | some ps => (buildPV P t ps).map fun p => (s.σ, p) | none => none
  | .buildSlice t len parts =>
    match elemOf P t, partsPV s parts.toList with
    | some e, some ps =>
      match szOf P e, zeroOf P e with
      | some z, some zs =>
        if zs.all scal = true ∧ zs.length = z ∧ len * z ≤ 16777216 ∧ len ≤ 16777216 then
          (fillPV (fun i => some (i * z, z)) (List.replicate len (zs.map .k)).flatten ps).map fun cs => (s.σ ++ [some cs], .osl s.σ.length z 0 len)
        else none
      | _, _ => none
    | _, _ => none
  | .makeSlice t l cp =>
    match elemOf P t, opdI s l, opdI s cp with
    | some e, some n, some m =>
      match szOf P e, zeroOf P e, bytesOf P e with
      | some z, some zs, some by_ =>
        if zs.all scal = true ∧ zs.length = z ∧ n = m ∧ 0 ≤ n ∧ by_ * n ≤ 281474976710656 ∧ n ≤ 9223372036854775807 then
          some (s.σ ++ [some (List.replicate n.toNat (zs.map .k)).flatten], .osl s.σ.length z 0 n.toNat) else none
      | _, _, _ => none
    | _, _, _ => none
  | .call { callee := .builtin .append, args, argTypes } =>
    match args.toList, argTypes.toList with
    | [x, y], [t, t2] => match opd s x, opd s y with
      | some p, some q => appendAny P s.σ t t2 p q
      | _, _ => none
    | _, _ => none
  | .call { callee := .builtin .copy, args, argTypes } =>
    match args.toList, argTypes.toList with
    | [x, y], [t, t2] => match opd s x, opd s y with
      | some p, some q => copyPV P s.σ t t2 p q
      | _, _ => none
    | _, _ => none
  | .call { callee := .builtin .clear, args, argTypes } =>
    match args.toList, argTypes.toList with
    | [x], [t] => match opd s x with
      | some p => (clearPV P s.σ t p).map fun σ' => (σ', .tup [])
      | none => none
    | _, _ => none
  | _ => none

def storeVal (P : Program) (s : St) : Op → Option Boxes
  | .store t ad x =>
    match szOf P t, opd s ad, opd s x with
    | some z, some (.ptr b off), some p =>
      match box s.σ b with
      | some cs => if p.isTup = false ∧ (pcells p).length = z ∧ off + z ≤ cs.length then some (s.σ.set b (some (splice cs off (pcells p)))) else none
      | none => none
    | _, _, _ => none
  | _ => none

section
variable {P : Program} {c : Ctx} {ι : Nat → Option Nat} {S : Nat → Prop} {s : St} {a : Act} {w : World} {n : Nat} {σ : Boxes}

theorem Rel.next (hr : Rel c ι S s a w) {ι' : Nat → Option Nat} {S' : Nat → Prop} {σ' : Boxes} {w' : World} (hs : Store c ι' S' σ' w') (hm : ∀ v p, VRel s.σ.length ι S w v p → VRel σ'.length ι' S' w' v p)
    {dst : Option Tmp} (hd : dstOk dst s.N = true) {v : Value} {p : PV} (hv : VRel σ'.length ι' S' w' v p) : Rel c ι' S' (St.put { s with σ := σ' } dst p) (a.put dst v) w' := by
  cases dst with
  | none => exact ⟨hs, hr.ck, hr.tsz, hr.defers, fun t p' h => hm _ _ (hr.temps t p' h)⟩
  | some d =>
    simp [dstOk] at hd
    refine ⟨hs, hr.ck, by simp [Act.put, hr.tsz, St.put], hr.defers, fun t p' h => ?_⟩
    simp only [St.put, look] at h
    by_cases e : t = d
    · subst e
      simp at h; subst h
      have : t < a.tmps.size := by rw [hr.tsz]; exact hd
      simp only [Act.put, Array.getD_eq_getD_getElem?, Array.getElem?_setIfInBounds_self_of_lt this, Option.getD_some]
      exact hv
    · rw [if_neg e] at h
      have := hm _ _ (hr.temps t p' h)
      simp only [Act.put, Array.getD_eq_getD_getElem?] at this ⊢
      rw [Array.getElem?_setIfInBounds_ne (fun h => e h.symm)]
      exact this

theorem Rel.skip (hr : Rel c ι S s a w) {dst : Option Tmp} (hd : dstOk dst s.N = true) : Rel c ι S (s.put dst (.tup [])) (a.put dst undef) w :=
  Rel.next hr hr.st (fun _ _ h => h) hd (.imm (IRel.und _ _))

theorem parts_rel (hr : Rel c ι S s a w) : ∀ {l : List (Nat × Operand)} {ps : List (Nat × PV)}, partsPV s l = some ps →
    ps.length = (l.map fun x => (x.1, a.eval x.2)).length ∧ ∀ (j i : Nat) (p : PV), ps[j]? = some (i, p) → ∃ v, (l.map fun x => (x.1, a.eval x.2))[j]? = some (i, v) ∧ VRel s.σ.length ι S w v p
  | [], ps, h => by simp [partsPV] at h; subst h; simp
  | x :: l, ps, h => by
    simp only [partsPV, List.mapM_cons, Option.bind_eq_bind, Option.bind_eq_some_iff, Option.map_eq_some_iff] at h
    obtain ⟨_, ⟨p, hp, rfl⟩, ps', hps, h⟩ := h
    simp at h; subst h
    obtain ⟨h1, h2⟩ := parts_rel hr (l := l) (ps := ps') hps
    refine ⟨by simpa using h1, fun j i q hj => ?_⟩
    cases j with
    | zero => simp at hj; obtain ⟨rfl, rfl⟩ := hj; exact ⟨_, rfl, opd_rel hr hp⟩
    | succ j => simp at hj ⊢; simpa using h2 j i q hj

theorem fillPV_len (place : Nat → Option (Nat × Nat)) : ∀ (parts : List (Nat × PV)) (cs cs' : List PV), fillPV place cs parts = some cs' → cs'.length = cs.length
  | [], cs, cs', h => by simp [fillPV] at h; rw [h]
  | (i, p) :: rest, cs, cs', h => by
    simp only [fillPV] at h
    split at h
    · simp at h
    · split at h
      · rename_i hc
        rw [fillPV_len place rest _ _ h, splice_length _ _ _ (by omega)]
      · simp at h

theorem mem_rel (hr : Rel c ι S s a w) {o : Oper} {σ' : Boxes} {p : PV} (h : memVal P s o.op = some (σ', p)) :
    ∃ v w' ι', (execOp a.eval o).run P w = .ok (.value v) w' ∧ Store c ι' S σ' w' ∧ (∀ v p, VRel s.σ.length ι S w v p → VRel σ'.length ι' S w' v p) ∧ VRel σ'.length ι' S w' v p ∧ ∀ b, b < s.σ.length → ι' b = ι b := by
  have wide : ∀ {ι' : Nat → Option Nat} {w' : World} {x : Option (List PV)} {v : Value} {p : PV}, VRel s.σ.length ι' S w' v p → VRel (s.σ ++ [x]).length ι' S w' v p := fun h =>
    h.mono (by simp) (fun _ _ => rfl) (fun _ h => h) (fun _ _ _ => rfl) (fun _ _ h => h)
  have newbox : ∀ {vs : Array Value} {ps : List PV} (e : TypeId), Seg s.σ.length ι S w vs.toList ps → Store c (upd ι s.σ.length (some w.heap.size)) S (s.σ ++ [some ps]) (w.alloc (.cells vs e)) ∧
      (∀ v p, VRel s.σ.length ι S w v p → VRel (s.σ ++ [some ps]).length (upd ι s.σ.length (some w.heap.size)) S (w.alloc (.cells vs e)) v p) ∧
      VRel (s.σ ++ [some ps]).length (upd ι s.σ.length (some w.heap.size)) S (w.alloc (.cells vs e)) (.pointer (some ⟨w.heap.size, 0, none⟩)) (.ptr s.σ.length 0) ∧
      ∀ (z m : Nat), m * z = ps.length → m ≤ maxLen → VRel (s.σ ++ [some ps]).length (upd ι s.σ.length (some w.heap.size)) S (w.alloc (.cells vs e)) (.slice (some ⟨w.heap.size, 0, none⟩) m m) (.osl s.σ.length z 0 m) := fun {vs} {ps} e hseg => by
    obtain ⟨h1, h2⟩ := new_rel (s := s) hr.st hseg e
    refine ⟨h1, fun v p hv => wide (h2 _ v p (Nat.le_refl _) hv), .ptr (x := (e, vs.size)) (by simp) (by simp [upd]) (by have := heap_alloc_new w (Obj.cells vs e); simp only [World.shape?, this]), fun z m hm hml => .osl (blk := w.heap.size) (e := e) (m := vs.size) (by simp) (Nat.le_refl _) hml (by simp [upd]) ?_ ?_⟩
    · have := heap_alloc_new w (Obj.cells vs e)
      simp only [World.shape?, this]
    · have := hseg.len; simp at this; omega
  unfold memVal at h
  unfold execOp
  split at h
  · rename_i t hop
    simp only [hop]
    split at h
    · rename_i zs hz
      split at h
      · rename_i hsc
        simp at h; obtain ⟨rfl, rfl⟩ := h
        obtain ⟨it, z, hi, hzv, rfl⟩ := zeroOf_some hz
        obtain ⟨h1, h2, h3, _⟩ := newbox (vs := z.cells) t (Seg.ks _ hsc)
        exact ⟨_, _, _, by simp [Instr.alloc, zeroValue, typeInfo, hi, hzv, newVar, newRow], h1, h2, h3, fun b hb => by simp [upd]; omega⟩
      · simp at h
    · simp at h
  · rename_i t x hop
    simp only [hop]
    split at h
    · rename_i q hx
      split at h
      · rename_i ht
        simp at h; obtain ⟨rfl, rfl⟩ := h
        obtain ⟨h1, h2, h3, _⟩ := newbox (vs := (a.eval x).cells) t (pcells_rel (opd_rel hr hx) ht)
        exact ⟨_, _, _, by simp [Instr.box, newVar, newRow], h1, h2, h3, fun b hb => by simp [upd]; omega⟩
      · simp at h
    · simp at h
  · rename_i t parts hop
    simp only [hop]
    split at h
    · rename_i ps hps
      simp only [Option.map_eq_some_iff] at h
      obtain ⟨q, hq, h⟩ := h
      simp at h; obtain ⟨rfl, rfl⟩ := h
      obtain ⟨h1, h2⟩ := parts_rel hr hps
      obtain ⟨v, hv, hp⟩ := build_rel (w := w) (vparts := (Array.map (fun x : Nat × Operand => (x.1, a.eval x.2)) parts)) (by rw [h1, Array.toList_map]) (by rw [Array.toList_map]; exact h2) hq
      exact ⟨v, w, ι, by simp only [Sem.run_bind, hv, Result.andThen_ok, Sem.run_pure], hr.st, fun _ _ h => h, hp, fun _ _ => rfl⟩
    · simp at h
  · rename_i t len parts hop
    simp only [hop]
    split at h
    · rename_i e ps he hps
      split at h
      · rename_i z zs hz hzs
        split at h
        · rename_i hc
          obtain ⟨c1, c2, c3, c4⟩ := hc
          simp only [Option.map_eq_some_iff] at h
          obtain ⟨cs, hf, h⟩ := h
          simp at h; obtain ⟨rfl, rfl⟩ := h
          obtain ⟨it, zv, hi, hzv, rfl⟩ := zeroOf_some hzs
          have hisz : it.size = z := by simpa [szOf, hi] using hz
          subst hisz
          obtain ⟨h1, h2⟩ := parts_rel hr hps
          have hseg := made_seg (n := s.σ.length) (ι := ι) (S := S) (w := w) zv _ rfl c1 len
          rw [c2] at hseg
          have hlen0 : (List.replicate len (zv.cells.toList.map PV.k)).flatten.length = len * it.size := by
            have := hseg.len; rw [← this]; simp
          have hcl : cs.length = len * it.size := by rw [fillPV_len _ _ _ _ hf, hlen0]
          obtain ⟨cs', hfill, hseg'⟩ := fill_rel (n := s.σ.length) (ι := ι) (S := S) (w := w) (fun i => some (i * it.size, it.size)) ps (parts.toList.map fun x => (x.1, a.eval x.2)) _ _ cs h1 h2 hseg hf
          obtain ⟨k1, k2, _, k4⟩ := newbox e hseg'
          have hlm : len ≤ maxLen := by simp only [maxLen]; omega
          rcases Nat.eq_zero_or_pos (len * it.size) with h0 | h0
          · have hfill' : Instr.fill (fun i => some (i * it.size, it.size)) #[] (parts.toList.map fun x => (x.1, a.eval x.2)) = some cs' := by
              rw [← hfill, h0]; simp [Array.range_zero']
            refine ⟨_, _, _, ?_, k1, k2, k4 it.size len hcl.symm hlm, fun b hb => by simp [upd]; omega⟩
            have hfill2 : Instr.fill (fun i => some (i * it.size, it.size)) #[] (Array.map (fun x : Nat × Operand => (x.1, a.eval x.2)) parts).toList = some cs' := by rw [Array.toList_map]; exact hfill'
            have hb : (Instr.buildSlice t len (Array.map (fun x : Nat × Operand => (x.1, a.eval x.2)) parts)).run P w = .ok (.slice (some ⟨w.heap.size, 0, none⟩) len len) (w.alloc (.cells cs' e)) := by
              simp only [Instr.buildSlice, Sem.run_bind, run_underlying (und_elemOf he), Result.andThen_ok, run_szOf w hz, h0]
              simp only [show ¬ (0 > 2 ^ 24) by decide, if_false, if_true, Sem.run_bind, Sem.run_pure, Result.andThen_ok, Array.range_zero', Array.map_empty, hfill2]
              simp [newRow]
            simp only [Sem.run_bind, hb, Result.andThen_ok, Sem.run_pure]
          · have hrun := run_buildSlice w t e len (Array.map (fun x : Nat × Operand => (x.1, a.eval x.2)) parts) cs' it zv (und_elemOf he) hi hzv (by omega) (by omega) (by rw [Array.toList_map]; exact hfill)
            exact ⟨_, _, _, by simp only [Sem.run_bind, hrun, Result.andThen_ok, Sem.run_pure], k1, k2, k4 it.size len hcl.symm hlm, fun b hb => by simp [upd]; omega⟩
        · simp at h
      · simp at h
    · simp at h
  · rename_i t l cp hop
    simp only [hop]
    split at h
    · rename_i e m m' he hl hcp
      split at h
      · rename_i z zs by_ hz hzs hby
        split at h
        · rename_i hc
          obtain ⟨c1, c2, rfl, c4, c5, c6⟩ := hc
          simp at h; obtain ⟨rfl, rfl⟩ := h
          obtain ⟨it, zv, hi, hzv, rfl⟩ := zeroOf_some hzs
          have hisz : it.size = z := by simpa [szOf, hi] using hz
          have hiby : it.bytes = by_ := by simpa [bytesOf, hi] using hby
          subst hisz; subst hiby
          obtain ⟨k1, hk1⟩ := opdI_rel hr hl
          obtain ⟨k2, hk2⟩ := opdI_rel hr hcp
          have hrun := run_make (P := P) w t e it zv (und_elemOf he) hi hzv k1 k2 m m c4 (Int.le_refl _) c5 c6
          have hseg := made_seg (n := s.σ.length) (ι := ι) (S := S) (w := w) zv _ rfl c1 m.toNat
          rw [c2] at hseg
          obtain ⟨g1, g2, _, g4⟩ := newbox e hseg
          have hlen0 : (List.replicate m.toNat (zv.cells.toList.map PV.k)).flatten.length = m.toNat * it.size := by
            have := hseg.len; rw [← this]; simp
          exact ⟨_, _, _, by simp only [hk1, hk2, Sem.run_bind, hrun, Result.andThen_ok, Sem.run_pure, madeCells], g1, g2, g4 it.size m.toNat hlen0.symm (by simp only [maxLen]; omega), fun b hb => by simp [upd]; omega⟩
        · simp at h
      · simp at h
    · simp at h
  · rename_i args ts hop
    simp only [hop]
    split at h
    · rename_i x y t t2 hargs hts
      split at h
      · rename_i p' q' hx hy
        obtain ⟨v, w', ι', hrun, h1, h2, h3, h4⟩ := appendAny_rel (ty := o.type) hr.st (opd_rel hr hx) (opd_rel hr hy) h
        have hts' : ts = #[t, t2] := Array.ext' (by simpa using hts)
        have hargs' : args.map a.eval = #[a.eval x, a.eval y] := Array.ext' (by simp [hargs])
        have hlen : s.σ.length ≤ σ'.length := appendAny_len h
        refine ⟨v, w', ι', by simp only [resolve, Sem.run_bind, Sem.run_pure, Result.andThen_ok, invoke, builtin, hts', hargs', hrun], h1, fun v p hv => (h2 _ v p (Nat.le_refl _) hv).mono hlen (fun _ _ => rfl) (fun _ h => h) (fun _ _ _ => rfl) (fun _ _ h => h), h3, h4⟩
      · simp at h
    · simp at h
  · rename_i args ts hop
    simp only [hop]
    split at h
    · rename_i x y t t2 hargs hts
      split at h
      · rename_i p' q' hx hy
        obtain ⟨v, w', hrun, h1, h2, h3, h4⟩ := copy_rel (ty := o.type) hr.st (opd_rel hr hx) (opd_rel hr hy) h
        have hts' : ts = #[t, t2] := Array.ext' (by simpa using hts)
        have hargs' : args.map a.eval = #[a.eval x, a.eval y] := Array.ext' (by simp [hargs])
        exact ⟨v, w', ι, by simp only [resolve, Sem.run_bind, Sem.run_pure, Result.andThen_ok, invoke, builtin, hts', hargs', hrun], h1, fun v p hv => by rw [h4]; exact h2 _ v p hv, h3, fun _ _ => rfl⟩
      · simp at h
    · simp at h
  · rename_i args ts hop
    simp only [hop]
    split at h
    · rename_i x t hargs hts
      split at h
      · rename_i p' hx
        simp only [Option.map_eq_some_iff] at h
        obtain ⟨σ2, hσ2, h⟩ := h
        simp at h
        obtain ⟨rfl, rfl⟩ := h
        obtain ⟨w', hrun, h1, h2, h4⟩ := clear_rel (ty := o.type) hr.st (opd_rel hr hx) hσ2
        have hts' : ts = #[t] := Array.ext' (by simpa using hts)
        have hargs' : args.map a.eval = #[a.eval x] := Array.ext' (by simp [hargs])
        exact ⟨_, w', ι, by simp only [resolve, Sem.run_bind, Sem.run_pure, Result.andThen_ok, invoke, builtin, hts', hargs', hrun], h1, fun v p hv => by rw [h4]; exact h2 _ v p hv, .imm (.tup (vs := #[]) rfl (by simp)), fun _ _ => rfl⟩
      · simp at h
    · simp at h
  · simp at h

end

/-! ### Maps with numbers for keys -/
def putO (w : World) (r : Nat) (o : Obj) : World := { w with heap := w.heap.setIfInBounds r o }
theorem putO_same {w : World} {r : Nat} {o : Obj} (h : r < w.heap.size) : (putO w r o).heap[r]? = some o := by simp [putO, h]
theorem putO_other {w : World} {r k : Nat} {o : Obj} (h : k ≠ r) : (putO w r o).heap[k]? = w.heap[k]? := by
  simp [putO, Array.getElem?_setIfInBounds_ne (Ne.symm h)]
@[simp] theorem putO_size {w : World} {r : Nat} {o : Obj} : (putO w r o).heap.size = w.heap.size := by simp [putO]

def mapKV (P : Program) (t : TypeId) : Option (IntKind × TypeId) :=
  match P.underlying t with
  | some (.map k e) => match P.underlying k with | some (.int kd) => some (kd, e) | _ => none
  | _ => none
def mapBox (σ : Boxes) (b : Nat) : Option (List PV × List PV) := match box σ b with | some [.tup ks, .tup vs] => some (ks, vs) | _ => none
def zeroPV (P : Program) (t : TypeId) : Option PV :=
  match (P.info? t).bind (·.zero) with
  | some (.agg cs) => if cs.toList.all scal = true then some (.agg (cs.toList.map .k)) else none
  | some v => if scal v = true then some (.k v) else none
  | none => none
/-- The place of a key. -/
def keyAt (kd : IntKind) (n : Int) : List PV → Option (Option Nat)
  | [] => some none
  | .k (.int a m) :: r => if a = kd then (if n = m then some (some 0) else (keyAt kd n r).map fun o => o.map (· + 1)) else none
  | _ => none
def okPV (ok : Bool) (p : PV) (b : Bool) : PV := if ok then .tup [p, .k (.bool b)] else p
def lookPV (P : Program) (e : TypeId) (ok : Bool) (vs : List PV) : Option Nat → Option PV
  | some j => (vs[j]?).map fun p => okPV ok p true
  | none => (zeroPV P e).map fun p => okPV ok p false
def putMap (ks vs : List PV) (key p : PV) : Option Nat → List PV
  | some j => [.tup ks, .tup (vs.set j p)]
  | none => [.tup (ks ++ [key]), .tup (vs ++ [p])]
def delMap (ks vs : List PV) : Option Nat → List PV
  | some j => [.tup (ks.eraseIdx j), .tup (vs.eraseIdx j)]
  | none => [.tup ks, .tup vs]

def mapVal (P : Program) (s : St) : Op → Option (Boxes × PV)
  | .makeMap _ none => some (s.σ ++ [some [.tup [], .tup []]], .mref s.σ.length)
  | .lookup t x i ok =>
    match mapKV P t, opd s x, opd s i with
    | some (kd, e), some (.mref b), some (.k (.int k n)) =>
      match mapBox s.σ b with
      | some (ks, vs) => if k = kd then (match keyAt kd n ks with | some o => (lookPV P e ok vs o).map fun p => (s.σ, p) | none => none) else none
      | none => none
    | _, _, _ => none
  | .mapUpdate t x i y =>
    match mapKV P t, opd s x, opd s i, opd s y with
    | some (kd, _), some (.mref b), some (.k (.int k n)), some p =>
      match mapBox s.σ b with
      | some (ks, vs) => if k = kd then (match keyAt kd n ks with | some o => some (s.σ.set b (some (putMap ks vs (.k (.int k n)) p o)), .tup []) | none => none) else none
      | none => none
    | _, _, _, _ => none
  | .call { callee := .builtin .delete, args, argTypes } =>
    match args.toList, argTypes.toList with
    | [x, i], [t, _] =>
      match mapKV P t, opd s x, opd s i with
      | some (kd, _), some (.mref b), some (.k (.int k n)) =>
        match mapBox s.σ b with
        | some (ks, vs) => if k = kd then (match keyAt kd n ks with | some o => some (s.σ.set b (some (delMap ks vs o)), .tup []) | none => none) else none
        | none => none
      | _, _, _ => none
    | _, _ => none
  | .call { callee := .builtin .len, args, argTypes } =>
    match args.toList, argTypes.toList with
    | [x], [t] =>
      match mapKV P t, opd s x with
      | some _, some (.mref b) => match mapBox s.σ b with | some (ks, _) => some (s.σ, .k (.int .i64 ks.length)) | none => none
      | _, _ => none
    | _, _ => none
  | _ => none

section
variable {P : Program} {c : Ctx} {ι : Nat → Option Nat} {S : Nat → Prop} {s : St} {a : Act} {w : World} {n : Nat} {σ : Boxes}

theorem mapKV_some {t e : TypeId} {kd : IntKind} (h : mapKV P t = some (kd, e)) : ∃ k, P.underlying t = some (.map k e) ∧ P.underlying k = some (.int kd) := by
  unfold mapKV at h
  split at h
  · rename_i k e' hu
    split at h
    · rename_i kd' hk
      simp at h; obtain ⟨rfl, rfl⟩ := h
      exact ⟨k, hu, hk⟩
    · simp at h
  · simp at h

theorem mapBox_some {b : Nat} {ks vs : List PV} (h : mapBox σ b = some (ks, vs)) : box σ b = some [.tup ks, .tup vs] := by
  unfold mapBox at h
  split at h
  · rename_i k' v' hb; simp at h; obtain ⟨rfl, rfl⟩ := h; exact hb
  · simp at h

theorem mtup_inv {v : Value} {ps : List PV} (h : VRel n ι S w v (.tup ps)) : ∃ xs : Array Value, v = .tuple xs ∧ xs.size = ps.length ∧ ∀ (j : Nat) (p : PV), ps[j]? = some p → VRel n ι S w (xs.getD j undef) p := by
  cases h with
  | imm h => cases h with | tup h1 h3 => exact ⟨_, rfl, h1, fun j p hj => .imm (h3 j p hj)⟩
  | tup h1 h3 => exact ⟨_, rfl, h1, h3⟩

/-- A map's box, and its block. -/
structure MapAt (n : Nat) (ι : Nat → Option Nat) (S : Nat → Prop) (w : World) (r : Nat) (ks vs : List PV) (es : Array MapEntry) (clk : Nat) : Prop where
  heap : w.heap[r]? = some (.map es clk)
  kl : es.size = ks.length
  vl : es.size = vs.length
  key : ∀ (j : Nat) (p : PV), ks[j]? = some p → ∃ e, es[j]? = some e ∧ VRel n ι S w e.key p
  val : ∀ (j : Nat) (p : PV), vs[j]? = some p → ∃ e, es[j]? = some e ∧ VRel n ι S w e.val p

theorem Store.mapE (h : Store c ι S σ w) {b r : Nat} {ks vs : List PV} (hb : box σ b = some [.tup ks, .tup vs]) (hι : ι b = some r) : ∃ es clk, MapAt σ.length ι S w r ks vs es clk := by
  rcases h.boxes b _ hb with ⟨h', _⟩ | ⟨blk, c', o, hb', g1, g0, g2⟩
  · rw [h'] at hι; cases hι
  · rw [hb'] at hι; simp at hι; subst hι
    rcases g0 with ⟨e, rfl, g3⟩ | ⟨es, clk, ks', vs', rfl, rfl, ge⟩
    · have := g3 (.tup ks) (by simp); simp [PV.one] at this
    · simp at ge; obtain ⟨rfl, rfl⟩ := ge
      obtain ⟨v1, e1, h1⟩ := g2 0 _ rfl
      obtain ⟨v2, e2, h2⟩ := g2 1 _ rfl
      simp at e1 e2; subst e1; subst e2
      obtain ⟨x1, f1, l1, r1⟩ := mtup_inv h1
      obtain ⟨x2, f2, l2, r2⟩ := mtup_inv h2
      simp at f1 f2; subst f1; subst f2
      simp at l1 l2
      refine ⟨es, clk, g1, l1, l2, fun j p hj => ?_, fun j p hj => ?_⟩
      · have hlt : j < es.size := by rw [l1]; exact (List.getElem?_eq_some_iff.1 hj).1
        have := r1 j p hj
        simp [Array.getD, hlt] at this
        exact ⟨es[j], by simp [hlt], this⟩
      · have hlt : j < es.size := by rw [l2]; exact (List.getElem?_eq_some_iff.1 hj).1
        have := r2 j p hj
        simp [Array.getD, hlt] at this
        exact ⟨es[j], by simp [hlt], this⟩

theorem findNow_of {kd : IntKind} {k : Int} : ∀ (ks : List PV) (l : List MapEntry) (i : Nat) (o : Option Nat), keyAt kd k ks = some o → l.length = ks.length → (∀ (j : Nat) (p : PV), ks[j]? = some p → ∃ e, l[j]? = some e ∧ VRel n ι S w e.key p) →
    Instr.findNow (.int kd) (.int kd k) l i = some (o.map fun j => (i + j, ((l[j]?).map (·.val)).getD undef)) ∧ ∀ j, o = some j → j < l.length ∧ ∃ e, l[j]? = some e ∧ e.key = .int kd k
  | [], [], i, o, h, _, _ => by simp [keyAt] at h; subst h; simp [Instr.findNow]
  | [], _ :: _, _, _, _, hl, _ => by simp at hl
  | _ :: _, [], _, _, _, hl, _ => by simp at hl
  | p :: ks, e :: l, i, o, h, hl, hk => by
    unfold keyAt at h
    split at h
    · simp at *
    · rename_i a m r heq
      simp at heq; obtain ⟨rfl, rfl⟩ := heq
      split at h
      · rename_i ha; subst ha
        obtain ⟨e', he', hr⟩ := hk 0 _ rfl
        simp at he'; subst he'
        have hkey := hr.k_inv.1
        have hs : Instr.sameNow (.int a) (.int a k) e.key = some (k == m) := by rw [hkey]; simp [Instr.sameNow]
        split at h
        · rename_i hkm; subst hkm
          simp at h; subst h
          have hs' : Instr.sameNow (.int a) (.int a k) (.int a k) = some true := by simp [Instr.sameNow]
          simp [Instr.findNow, hs', hkey]
        · rename_i hkm
          simp only [Option.map_eq_some_iff] at h
          obtain ⟨o', ho', rfl⟩ := h
          have ih := findNow_of ks l (i + 1) o' ho' (by simpa using hl) (fun j p hj => hk (j + 1) p hj)
          refine ⟨?_, fun j hj => ?_⟩
          · simp only [Instr.findNow, hs, beq_false_of_ne hkm, ih.1, Option.map_map]
            congr 1
            cases o' with
            | none => rfl
            | some j' => simp; omega
          · cases o' with
            | none => simp at hj
            | some j' =>
              simp at hj; subst hj
              obtain ⟨h1, e2, h2, h3⟩ := ih.2 j' rfl
              exact ⟨by simpa using h1, e2, by simpa using h2, h3⟩
      · simp at h
    · simp at h

theorem run_findKey {kt : TypeId} {kd : IntKind} {k : Int} {l : List MapEntry} {r : Option (Nat × Value)} (hk : P.underlying kt = some (.int kd)) (h : Instr.findNow (.int kd) (.int kd k) l 0 = some r) :
    (Instr.findKey kt (.int kd k) l).run P w = .ok r w := by
  simp [Instr.findKey, run_underlying hk, h]
theorem run_checkKey {kt : TypeId} {kd : IntKind} {k : Int} {b : Bool} (hk : P.underlying kt = some (.int kd)) : (Instr.checkKey b 10000 kt (.int kd k)).run P w = .ok () w := by
  unfold Instr.checkKey
  simp [run_underlying hk]
theorem run_getMap {r : Nat} {es : Array MapEntry} {clk : Nat} (h : w.heap[r]? = some (.map es clk)) : (getObj r).run P w = .ok (.map es clk) w := by simp [getObj, Sem.run, h]
theorem run_setMap {r : Nat} {es : Array MapEntry} {clk : Nat} (h : w.heap[r]? = some (.map es clk)) (o : Obj) : (setObj r o).run P w = .ok () (putO w r o) := by simp [setObj, Sem.run, h, putO]

theorem zeroPV_some {t : TypeId} {p : PV} (h : zeroPV P t = some p) : ∃ v, (zeroValue t).run P w = .ok v w ∧ VRel n ι S w v p := by
  unfold zeroPV at h
  have hz : ∀ v, (P.info? t).bind (·.zero) = some v → (zeroValue t).run P w = .ok v w := fun v hv => by
    obtain ⟨it, hi, hzv⟩ := Option.bind_eq_some_iff.1 hv
    simp [zeroValue, typeInfo, hi, hzv]
  split at h
  · rename_i cs hv
    split at h
    · rename_i hsc
      simp at h; subst h
      refine ⟨_, hz _ hv, .imm (.agg (by simp) (fun p hp => ?_) (fun j p hj => ?_))⟩
      · simp at hp; obtain ⟨x, _, rfl⟩ := hp; rfl
      · simp at hj
        obtain ⟨x, hx, rfl⟩ := hj
        have hs : scal x = true := List.all_eq_true.1 hsc x (by simpa using Array.mem_of_getElem? hx)
        simp only [Array.getD_eq_getD_getElem?, hx, Option.getD_some]
        exact .k hs
    · simp at h
  · rename_i v _ hv
    split at h
    · rename_i hsc
      simp at h; subst h
      exact ⟨v, hz _ hv, .imm (.k hsc)⟩
    · simp at h
  · simp at h

/-- A new map. -/
theorem Store.newM (h : Store c ι S σ w) : ∃ ι', Store c ι' S (σ ++ [some [.tup [], .tup []]]) (w.alloc (.map #[] 0)) ∧ (∀ m v p, m ≤ σ.length → VRel m ι S w v p → VRel m ι' S (w.alloc (.map #[] 0)) v p) ∧ ι' σ.length = some w.heap.size ∧ ∀ b, b < σ.length → ι' b = ι b := by
  let ι' := upd ι σ.length (some w.heap.size)
  have hv : ∀ m v p, m ≤ σ.length → VRel m ι S w v p → VRel m ι' S (w.alloc (.map #[] 0)) v p := fun m v p hm hh =>
    hh.mono (Nat.le_refl _) (fun b hb => by simp [ι', upd]; omega) (fun _ h => h) (fun b o hb => cell_alloc _ _ _ _ (h.Slt b hb)) (fun b x hx => shape_alloc _ _ _ _ hx)
  have hv' : ∀ v p, VRel σ.length ι S w v p → VRel (σ ++ [some [PV.tup [], PV.tup []]]).length ι' S (w.alloc (.map #[] 0)) v p := fun v p hh =>
    (hv _ v p (Nat.le_refl _) hh).mono (by simp) (fun _ _ => rfl) (fun _ h => h) (fun _ _ _ => rfl) (fun _ _ h => h)
  have hb : ∀ i cs' blk, box σ i = some cs' → ι i = some blk → blk < w.heap.size := fun i cs' blk hi hblk => by
    rcases h.boxes i cs' hi with ⟨h', _⟩ | ⟨blk', c', e', hb', g1, _⟩
    · rw [h'] at hblk; simp at hblk
    · rw [hb'] at hblk; simp at hblk; subst hblk; exact (Array.getElem?_eq_some_iff.1 g1).1
  have hne : ∀ i, i ≠ σ.length → ι' i = ι i := fun i e => by simp [ι', upd, e]
  have hnew : ι' σ.length = some w.heap.size := by simp [ι', upd]
  refine ⟨ι', ⟨h.os, h.tape, h.output, by have := h.size; simp; omega, fun b hb hM => ?_, fun b x hx => shape_alloc _ _ _ _ (h.shape b x hx), ?_, ?_, ?_, ?_, fun b hb => by have := h.Slt b hb; simp; omega, h.S0, h.Snew, by have := h.klen; simp; omega, fun i hi => by have := h.klen; rw [hne i (by omega)]; exact h.kι i hi⟩, hv, hnew, fun b hb => hne b (by omega)⟩
  · rw [Below.heap_alloc _ _ _ (by have := h.size; omega)]; exact h.old b hb hM
  · intro i cs' hi
    rw [box_push] at hi
    by_cases e1 : i = σ.length
    · subst e1
      simp at hi
      subst hi
      refine .inr ⟨w.heap.size, _, _, hnew, heap_alloc_new w (Obj.map #[] 0), .inr ⟨#[], 0, [], [], rfl, rfl, rfl⟩, fun j p hj => ?_⟩
      match j, hj with
      | 0, hj => simp at hj; subst hj; exact ⟨_, rfl, .imm (.tup (by simp) (by simp))⟩
      | 1, hj => simp at hj; subst hj; exact ⟨_, rfl, .imm (.tup (by simp) (by simp))⟩
      | j + 2, hj => simp at hj
    · rw [if_neg e1] at hi
      rcases h.boxes i cs' hi with ⟨h', h''⟩ | ⟨blk, c', e', hb', g1, g0, g2⟩
      · exact .inl ⟨by rw [hne i e1]; exact h', h''⟩
      · refine .inr ⟨blk, c', e', by rw [hne i e1]; exact hb', ?_, g0, fun j p hj => ?_⟩
        · rw [Below.heap_alloc _ _ _ (Array.getElem?_eq_some_iff.1 g1).1]
          exact g1
        · obtain ⟨v, hv1, hv2⟩ := g2 j p hj
          exact ⟨v, hv1, hv' _ _ hv2⟩
  · intro i cs' blk hi hblk
    rw [box_push] at hi
    by_cases e1 : i = σ.length
    · subst e1; rw [hnew] at hblk; simp at hblk; subst hblk; intro hs; have := h.Slt _ hs; omega
    · rw [if_neg e1] at hi; rw [hne i e1] at hblk; exact h.notS i cs' blk hi hblk
  · intro i cs' blk hi hblk
    rw [box_push] at hi
    by_cases e1 : i = σ.length
    · subst e1; rw [hnew] at hblk; simp at hblk; subst hblk; exact .inr h.size
    · rw [if_neg e1] at hi; rw [hne i e1] at hblk; exact h.live i cs' blk hi hblk
  · intro i j ci cj blk hi hj hbi hbj
    rw [box_push] at hi hj
    by_cases e1 : i = σ.length <;> by_cases e2 : j = σ.length
    · omega
    · subst e1; rw [hnew] at hbi; simp at hbi; subst hbi
      rw [if_neg e2] at hj; rw [hne j e2] at hbj
      have := hb j cj _ hj hbj; omega
    · subst e2; rw [hnew] at hbj; simp at hbj; subst hbj
      rw [if_neg e1] at hi; rw [hne i e1] at hbi
      have := hb i ci _ hi hbi; omega
    · rw [if_neg e1] at hi; rw [if_neg e2] at hj; rw [hne i e1] at hbi; rw [hne j e2] at hbj
      exact h.inj i j ci cj blk hi hj hbi hbj

/-- A map's block turns. -/
theorem Store.putM (h : Store c ι S σ w) {b r : Nat} {cs0 ks vs : List PV} {es0 es : Array MapEntry} {clk0 clk : Nat} (hb : box σ b = some cs0) (hι : ι b = some r) (hr : w.heap[r]? = some (.map es0 clk0))
    (hk : VRel σ.length ι S w (.tuple (es.map (·.key))) (.tup ks)) (hv : VRel σ.length ι S w (.tuple (es.map (·.val))) (.tup vs)) :
    Store c ι S (σ.set b (some [.tup ks, .tup vs])) (putO w r (.map es clk)) ∧ (∀ m v p, VRel m ι S w v p → VRel m ι S (putO w r (.map es clk)) v p) := by
  have hnS := h.notS b cs0 r hb hι
  have hbl := box_lt hb
  have hrl : r < w.heap.size := (Array.getElem?_eq_some_iff.1 hr).1
  have hoth : ∀ blk', blk' ≠ r → (putO w r (.map es clk)).heap[blk']? = w.heap[blk']? := fun blk' hne => putO_other hne
  have hsh : ∀ q x, w.shape? q = some x → (putO w r (.map es clk)).shape? q = some x := fun q x hx => by
    have : q ≠ r := fun e => by subst e; simp [World.shape?, hr] at hx
    simp only [World.shape?] at hx ⊢
    rw [hoth q this]; exact hx
  have hm : ∀ m v p, VRel m ι S w v p → VRel m ι S (putO w r (.map es clk)) v p := fun m v p hh =>
    hh.mono (Nat.le_refl _) (fun _ _ => rfl) (fun _ h => h) (fun q o hS => World.cell?_of_block (hoth q (fun e => hnS (e ▸ hS)))) hsh
  have hlen : (σ.set b (some [.tup ks, .tup vs])).length = σ.length := by simp
  have hsome : ∀ i ci, box (σ.set b (some [.tup ks, .tup vs])) i = some ci → ∃ ci', box σ i = some ci' := fun i ci hi => by
    rw [box_set hbl] at hi
    split at hi
    · rename_i e; subst e; exact ⟨cs0, hb⟩
    · exact ⟨ci, hi⟩
  refine ⟨⟨h.os, h.tape, h.output, by simpa using h.size, fun q hq hM => ?_, fun q x hx => hsh q x (h.shape q x hx), fun i ci hi => ?_, fun i ci blk hi hbi => ?_, fun i ci blk hi hbi => ?_, fun i j ci cj blk hi hj hbi hbj => ?_, fun q hq => by simpa using h.Slt q hq, h.S0, h.Snew, by rw [hlen]; exact h.klen, h.kι⟩, hm⟩
  · rw [hoth q (fun e => ?_)]
    · exact h.old q hq hM
    · subst e
      rcases h.live b cs0 q hb hι with g | g
      · exact hM g
      · omega
  · rw [hlen]
    rw [box_set hbl] at hi
    split at hi
    · rename_i e; subst e; simp at hi; subst hi
      refine .inr ⟨r, _, _, hι, putO_same hrl, .inr ⟨es, clk, ks, vs, rfl, rfl, rfl⟩, fun j p hj => ?_⟩
      match j, hj with
      | 0, hj => simp at hj; subst hj; exact ⟨_, rfl, hm _ _ _ hk⟩
      | 1, hj => simp at hj; subst hj; exact ⟨_, rfl, hm _ _ _ hv⟩
      | j + 2, hj => simp at hj
    · rename_i hne
      rcases h.boxes i ci hi with g | ⟨blk, c', o, g1, g2, g3, g4⟩
      · exact .inl g
      · refine .inr ⟨blk, c', o, g1, ?_, g3, fun j p hj => by obtain ⟨v, hv1, hv2⟩ := g4 j p hj; exact ⟨v, hv1, hm _ _ _ hv2⟩⟩
        rw [hoth blk (fun e => hne (h.inj i b ci cs0 r hi hb (e ▸ g1) hι))]; exact g2
  · obtain ⟨ci', h'⟩ := hsome i ci hi; exact h.notS i ci' blk h' hbi
  · obtain ⟨ci', h'⟩ := hsome i ci hi; exact h.live i ci' blk h' hbi
  · obtain ⟨c1, k1⟩ := hsome i ci hi
    obtain ⟨c2, k2⟩ := hsome j cj hj
    exact h.inj i j c1 c2 blk k1 k2 hbi hbj

theorem tup_of {l : Array Value} {ps : List PV} (hl : l.size = ps.length) (h : ∀ (j : Nat) (p : PV), ps[j]? = some p → ∃ v, l[j]? = some v ∧ VRel n ι S w v p) : VRel n ι S w (.tuple l) (.tup ps) :=
  .tup hl fun j p hj => by
    obtain ⟨v, h1, h2⟩ := h j p hj
    simp only [Array.getD_eq_getD_getElem?, h1, Option.getD_some]; exact h2

theorem MapAt.keys {r : Nat} {ks vs : List PV} {es : Array MapEntry} {clk : Nat} (h : MapAt n ι S w r ks vs es clk) : VRel n ι S w (.tuple (es.map (·.key))) (.tup ks) :=
  tup_of (by simpa using h.kl) fun j p hj => by obtain ⟨e, h1, h2⟩ := h.key j p hj; exact ⟨e.key, by simp [h1], h2⟩
theorem MapAt.vals {r : Nat} {ks vs : List PV} {es : Array MapEntry} {clk : Nat} (h : MapAt n ι S w r ks vs es clk) : VRel n ι S w (.tuple (es.map (·.val))) (.tup vs) :=
  tup_of (by simpa using h.vl) fun j p hj => by obtain ⟨e, h1, h2⟩ := h.val j p hj; exact ⟨e.val, by simp [h1], h2⟩

theorem mref_inv {v : Value} {b : Nat} (h : VRel n ι S w v (.mref b)) : ∃ r, v = .map (some r) ∧ ι b = some r := by
  cases h with
  | imm h => cases h
  | mref h1 h2 => exact ⟨_, rfl, h2⟩

theorem getElem?_eraseIdxIf {α : Type} (es : Array α) (i : Nat) (h : i < es.size) : (es.eraseIdxIfInBounds i).toList = es.toList.eraseIdx i := by
  unfold Array.eraseIdxIfInBounds
  simp [h]

theorem keyStays (kd : IntKind) (m : Int) : (Instr.keyThatStays (.int kd m) (.int kd m)).run P w = .ok (.int kd m) w := by
  simp [Instr.keyThatStays, Instr.sameBits]

/-- A map's key and value put. -/
theorem put_map (hs : Store c ι S σ w) {t e : TypeId} {kd : IntKind} {k : Int} {b : Nat} {m y : Value} {ks vs : List PV} {p : PV} {o : Option Nat} (ht : mapKV P t = some (kd, e)) (hm : VRel σ.length ι S w m (.mref b)) (hb : mapBox σ b = some (ks, vs))
    (ho : keyAt kd k ks = some o) (hy : VRel σ.length ι S w y p) :
    ∃ w', (Instr.mapUpdate t m (.int kd k) y).run P w = .ok () w' ∧ Store c ι S (σ.set b (some (putMap ks vs (.k (.int kd k)) p o))) w' ∧ (∀ m v p, VRel m ι S w v p → VRel m ι S w' v p) := by
  obtain ⟨kt, hu, hk⟩ := mapKV_some ht
  obtain ⟨r, rfl, hι⟩ := mref_inv hm
  have hb' := mapBox_some hb
  obtain ⟨es, clk, hM⟩ := hs.mapE hb' hι
  obtain ⟨hf, hfo⟩ := findNow_of ks es.toList 0 o ho (by simpa using hM.kl) (fun j p hj => by obtain ⟨e, h1, h2⟩ := hM.key j p hj; exact ⟨e, by simpa using h1, h2⟩)
  have hfk := run_findKey (w := w) hk hf
  cases o with
  | none =>
    have key : VRel σ.length ι S w (.tuple ((es.push { key := .int kd k, val := y, born := clk }).map (·.key))) (.tup (ks ++ [.k (.int kd k)])) := by
      refine tup_of (by simp [hM.kl]) fun j q hj => ?_
      rcases Nat.lt_or_ge j ks.length with hlt | hge
      · rw [List.getElem?_append_left hlt] at hj
        obtain ⟨e, h1, h2⟩ := hM.key j q hj
        refine ⟨e.key, ?_, h2⟩
        rw [Array.getElem?_map, Array.getElem?_push, if_neg (by rw [hM.kl]; omega), h1]; rfl
      · rw [List.getElem?_append_right hge] at hj
        have hj0 : j = ks.length := by have := (List.getElem?_eq_some_iff.1 hj).1; simp at this; omega
        subst hj0
        simp at hj; subst hj
        refine ⟨.int kd k, ?_, .imm (.k rfl)⟩
        rw [Array.getElem?_map, Array.getElem?_push, if_pos hM.kl.symm]; rfl
    have val : VRel σ.length ι S w (.tuple ((es.push { key := .int kd k, val := y, born := clk }).map (·.val))) (.tup (vs ++ [p])) := by
      refine tup_of (by simp [hM.vl]) fun j q hj => ?_
      rcases Nat.lt_or_ge j vs.length with hlt | hge
      · rw [List.getElem?_append_left hlt] at hj
        obtain ⟨e, h1, h2⟩ := hM.val j q hj
        refine ⟨e.val, ?_, h2⟩
        rw [Array.getElem?_map, Array.getElem?_push, if_neg (by rw [hM.vl]; omega), h1]; rfl
      · rw [List.getElem?_append_right hge] at hj
        have hj0 : j = vs.length := by have := (List.getElem?_eq_some_iff.1 hj).1; simp at this; omega
        subst hj0
        simp at hj; subst hj
        refine ⟨y, ?_, hy⟩
        rw [Array.getElem?_map, Array.getElem?_push, if_pos hM.vl.symm]; rfl
    obtain ⟨h1, h2⟩ := hs.putM (clk := clk + 1) hb' hι hM.heap key val
    refine ⟨_, ?_, h1, h2⟩
    simp [Instr.mapUpdate, run_underlying hu, run_getMap hM.heap, run_checkKey hk, hfk, run_setMap hM.heap]
  | some j =>
    obtain ⟨hjl, e0, he0, hek⟩ := hfo j rfl
    have he0' : es[j]? = some e0 := by simpa using he0
    have hjs : j < es.size := (Array.getElem?_eq_some_iff.1 he0').1
    have key : VRel σ.length ι S w (.tuple ((es.modify j fun e => { e with key := .int kd k, val := y }).map (·.key))) (.tup ks) := by
      refine tup_of (by simp [hM.kl]) fun i q hi => ?_
      obtain ⟨e, h1, h2⟩ := hM.key i q hi
      rw [Array.getElem?_map, Array.getElem?_modify]
      by_cases hij : j = i
      · subst hij
        rw [if_pos rfl, h1]
        rw [he0'] at h1; simp at h1; subst h1
        exact ⟨.int kd k, rfl, by rw [← hek]; exact h2⟩
      · rw [if_neg hij, h1]; exact ⟨e.key, rfl, h2⟩
    have val : VRel σ.length ι S w (.tuple ((es.modify j fun e => { e with key := .int kd k, val := y }).map (·.val))) (.tup (vs.set j p)) := by
      refine tup_of (by simp [hM.vl]) fun i q hi => ?_
      rw [Array.getElem?_map, Array.getElem?_modify]
      by_cases hij : j = i
      · subst hij
        rw [List.getElem?_set_self (by rw [← hM.vl]; exact hjs)] at hi
        simp at hi; subst hi
        rw [if_pos rfl, he0']
        exact ⟨y, rfl, hy⟩
      · rw [List.getElem?_set_ne hij] at hi
        obtain ⟨e, h1, h2⟩ := hM.val i q hi
        rw [if_neg hij, h1]; exact ⟨e.val, rfl, h2⟩
    obtain ⟨h1, h2⟩ := hs.putM (clk := clk) hb' hι hM.heap key val
    refine ⟨_, ?_, h1, h2⟩
    simp only [Option.map_some, Nat.zero_add] at hfk
    simp [Instr.mapUpdate, run_underlying hu, run_getMap hM.heap, run_checkKey hk, hfk, he0', hek, keyStays, run_setMap hM.heap]

theorem map_rel (hr : Rel c ι S s a w) {o : Oper} {σ' : Boxes} {p : PV} (h : mapVal P s o.op = some (σ', p)) :
    ∃ v w' ι', ((execOp a.eval o).run P w = .ok (.value v) w' ∨ ((execOp a.eval o).run P w = .ok .skip w' ∧ v = undef)) ∧ Store c ι' S σ' w' ∧ (∀ v p, VRel s.σ.length ι S w v p → VRel σ'.length ι' S w' v p) ∧ VRel σ'.length ι' S w' v p ∧ ∀ b, b < s.σ.length → ι' b = ι b := by
  have hσ := hr.st
  unfold mapVal at h
  unfold execOp
  split at h
  · rename_i t hop
    simp only [hop]
    simp at h; obtain ⟨rfl, rfl⟩ := h
    obtain ⟨ι', h1, h2, h3⟩ := hσ.newM
    refine ⟨.map (some w.heap.size), _, ι', .inl (by simp [Instr.makeMap, newObj, Sem.run]), h1, fun v p hv => (h2 _ v p (Nat.le_refl _) hv).mono (by simp) (fun _ _ => rfl) (fun _ h => h) (fun _ _ _ => rfl) (fun _ _ h => h), .mref (by simp) h3.1, h3.2⟩
  · rename_i t x i ok hop
    simp only [hop]
    split at h
    · rename_i kd e b k n ht hx hi
      split at h
      · rename_i ks vs hb
        split at h
        · rename_i hkk; subst hkk
          split at h
          · rename_i o ho
            simp only [Option.map_eq_some_iff] at h
            obtain ⟨q, hq, h⟩ := h
            simp at h; obtain ⟨rfl, rfl⟩ := h
            obtain ⟨kt, hu, hk⟩ := mapKV_some ht
            obtain ⟨r, hxr, hι⟩ := mref_inv (opd_rel hr hx)
            have hiv := (opd_rel hr hi).k_inv.1
            obtain ⟨es, clk, hM⟩ := hσ.mapE (mapBox_some hb) hι
            obtain ⟨hf, hfo⟩ := findNow_of ks es.toList 0 o ho (by simpa using hM.kl) (fun j p hj => by obtain ⟨e, h1, h2⟩ := hM.key j p hj; exact ⟨e, by simpa using h1, h2⟩)
            have hfk := run_findKey (w := w) hk hf
            have hokr : ∀ v q b', VRel s.σ.length ι S w v q → VRel s.σ.length ι S w (if ok then .tuple #[v, .bool b'] else v) (okPV ok q b') := fun v q b' hv => by
              cases ok with
              | false => simpa [okPV] using hv
              | true =>
                simp only [okPV, if_true]
                refine tup_of rfl fun j p hj => ?_
                match j, hj with
                | 0, hj => simp at hj; subst hj; exact ⟨_, rfl, hv⟩
                | 1, hj => simp at hj; subst hj; exact ⟨_, rfl, .imm (.k rfl)⟩
                | j + 2, hj => simp at hj
            cases o with
            | none =>
              simp only [lookPV, Option.map_eq_some_iff] at hq
              obtain ⟨q0, hq0, rfl⟩ := hq
              obtain ⟨z, hz, hzr⟩ := zeroPV_some (n := s.σ.length) (ι := ι) (S := S) (w := w) hq0
              refine ⟨_, w, ι, .inl ?_, hσ, fun _ _ h => h, hokr z q0 false hzr, fun _ _ => rfl⟩
              simp [hxr, hiv, Instr.lookup, run_underlying hu, run_getMap hM.heap, run_checkKey hk, hfk, hz]
            | some j =>
              simp only [lookPV, Option.map_eq_some_iff] at hq
              obtain ⟨q0, hq0, rfl⟩ := hq
              obtain ⟨e0, he0, her⟩ := hM.val j q0 hq0
              refine ⟨_, w, ι, .inl ?_, hσ, fun _ _ h => h, hokr e0.val q0 true her, fun _ _ => rfl⟩
              simp only [Option.map_some, Nat.zero_add] at hfk
              simp [hxr, hiv, Instr.lookup, run_underlying hu, run_getMap hM.heap, run_checkKey hk, hfk, he0]
          · simp at h
        · simp at h
      · simp at h
    · simp at h
  · rename_i t x i y hop
    simp only [hop]
    split at h
    · rename_i kd e b k n p' ht hx hi hy
      split at h
      · rename_i ks vs hb
        split at h
        · rename_i hkk; subst hkk
          split at h
          · rename_i o ho
            simp at h; obtain ⟨rfl, rfl⟩ := h
            have hiv := (opd_rel hr hi).k_inv.1
            obtain ⟨w', hrun, h1, h2⟩ := put_map (P := P) hσ ht (opd_rel hr hx) hb ho (opd_rel hr hy)
            exact ⟨undef, w', ι, .inr ⟨by simp [hiv, hrun], rfl⟩, h1, fun v p hv => by rw [List.length_set]; exact h2 _ _ _ hv, .imm (IRel.und _ _), fun _ _ => rfl⟩
          · simp at h
        · simp at h
      · simp at h
    · simp at h
  · rename_i args ts hop
    simp only [hop]
    split at h
    · rename_i x i t t2 hargs hts
      split at h
      · rename_i kd e b k n ht hx hi
        split at h
        · rename_i ks vs hb
          split at h
          · rename_i hkk; subst hkk
            split at h
            · rename_i o ho
              simp at h; obtain ⟨rfl, rfl⟩ := h
              obtain ⟨kt, hu, hk⟩ := mapKV_some ht
              obtain ⟨r, hxr, hι⟩ := mref_inv (opd_rel hr hx)
              have hiv := (opd_rel hr hi).k_inv.1
              obtain ⟨es, clk, hM⟩ := hσ.mapE (mapBox_some hb) hι
              obtain ⟨hf, hfo⟩ := findNow_of ks es.toList 0 o ho (by simpa using hM.kl) (fun j p hj => by obtain ⟨e, h1, h2⟩ := hM.key j p hj; exact ⟨e, by simpa using h1, h2⟩)
              have hfk := run_findKey (w := w) hk hf
              have hts' : ts = #[t, t2] := Array.ext' (by simpa using hts)
              have hargs' : args.map a.eval = #[a.eval x, a.eval i] := Array.ext' (by simp [hargs])
              cases o with
              | none =>
                obtain ⟨h1, h2⟩ := hσ.putM (clk := clk) (mapBox_some hb) hι hM.heap hM.keys hM.vals
                refine ⟨.tuple #[], _, ι, .inl ?_, h1, fun v p hv => by rw [List.length_set]; exact h2 _ _ _ hv, .imm (.tup (by simp) (by simp)), fun _ _ => rfl⟩
                simp [resolve, invoke, builtin, hts', hargs', hxr, hiv, Builtin.delete_, run_underlying hu, run_getMap hM.heap, run_checkKey hk, hfk, run_setMap hM.heap]
              | some j =>
                obtain ⟨hjl, e0, he0, hek⟩ := hfo j rfl
                simp at hjl
                have key : VRel s.σ.length ι S w (.tuple ((es.eraseIdxIfInBounds j).map (·.key))) (.tup (ks.eraseIdx j)) := by
                  have hj2 : j < ks.length := by rw [← hM.kl]; exact hjl
                  refine tup_of (by simp [Array.eraseIdxIfInBounds, hjl, List.length_eraseIdx, hj2, hM.kl]) fun i' q hi' => ?_
                  rw [List.getElem?_eraseIdx] at hi'
                  rw [Array.getElem?_map, ← Array.getElem?_toList, getElem?_eraseIdxIf _ _ hjl, List.getElem?_eraseIdx]
                  split at hi' <;> rename_i hlt
                  · obtain ⟨e, h1, h2⟩ := hM.key _ q hi'
                    rw [if_pos hlt, Array.getElem?_toList, h1]; exact ⟨e.key, rfl, h2⟩
                  · obtain ⟨e, h1, h2⟩ := hM.key _ q hi'
                    rw [if_neg hlt, Array.getElem?_toList, h1]; exact ⟨e.key, rfl, h2⟩
                have val : VRel s.σ.length ι S w (.tuple ((es.eraseIdxIfInBounds j).map (·.val))) (.tup (vs.eraseIdx j)) := by
                  have hj2 : j < vs.length := by rw [← hM.vl]; exact hjl
                  refine tup_of (by simp [Array.eraseIdxIfInBounds, hjl, List.length_eraseIdx, hj2, hM.vl]) fun i' q hi' => ?_
                  rw [List.getElem?_eraseIdx] at hi'
                  rw [Array.getElem?_map, ← Array.getElem?_toList, getElem?_eraseIdxIf _ _ hjl, List.getElem?_eraseIdx]
                  split at hi' <;> rename_i hlt
                  · obtain ⟨e, h1, h2⟩ := hM.val _ q hi'
                    rw [if_pos hlt, Array.getElem?_toList, h1]; exact ⟨e.val, rfl, h2⟩
                  · obtain ⟨e, h1, h2⟩ := hM.val _ q hi'
                    rw [if_neg hlt, Array.getElem?_toList, h1]; exact ⟨e.val, rfl, h2⟩
                obtain ⟨h1, h2⟩ := hσ.putM (clk := clk) (mapBox_some hb) hι hM.heap key val
                refine ⟨.tuple #[], _, ι, .inl ?_, h1, fun v p hv => by rw [List.length_set]; exact h2 _ _ _ hv, .imm (.tup (by simp) (by simp)), fun _ _ => rfl⟩
                simp only [Option.map_some, Nat.zero_add] at hfk
                simp [resolve, invoke, builtin, hts', hargs', hxr, hiv, Builtin.delete_, run_underlying hu, run_getMap hM.heap, run_checkKey hk, hfk, run_setMap hM.heap]
            · simp at h
          · simp at h
        · simp at h
      · simp at h
    · simp at h
  · rename_i args ts hop
    simp only [hop]
    split at h
    · rename_i x t hargs hts
      split at h
      · rename_i kve b ht hx
        split at h
        · rename_i ks vs hb
          simp at h; obtain ⟨rfl, rfl⟩ := h
          obtain ⟨kd, e⟩ := kve
          obtain ⟨kt, hu, hk⟩ := mapKV_some ht
          obtain ⟨r, hxr, hι⟩ := mref_inv (opd_rel hr hx)
          obtain ⟨es, clk, hM⟩ := hσ.mapE (mapBox_some hb) hι
          have hts' : ts = #[t] := Array.ext' (by simpa using hts)
          have hargs' : args.map a.eval = #[a.eval x] := Array.ext' (by simp [hargs])
          refine ⟨goInt es.size, w, ι, .inl ?_, hσ, fun _ _ h => h, by rw [hM.kl]; exact .imm (.k rfl), fun _ _ => rfl⟩
          simp [resolve, invoke, builtin, hts', hargs', hxr, Builtin.len_, run_underlying hu, run_getMap hM.heap]
        · simp at h
      · simp at h
    · simp at h
  · simp at h
end

end Go.Proofs.YtidhdlhblhbahaaGreat.Am

/- The machine of values: rules for lists of operations, for calls, and for forgetting. -/
set_option linter.unusedVariables false
set_option linter.unusedSimpArgs false
namespace Go.Proofs.YtidhdlhblhbahaaGreat.Am
open Go Go.RowKit

/-- Is the operation wanted? -/
def wantedA (s : St) (ops : Array Oper) (o : Oper) : Option Bool :=
  match o.guard with
  | none => some true
  | some (i, b) =>
    match (ops[i]?).bind (·.dst) with
    | some d => match look s.T d with
      | some (.k (.bool x)) => some (x == b)
      | some (.tup _) => some false
      | _ => none
    | none => none

def OpsOk (P : Program) (ops : Array Oper) (l : List Oper) (s : St) (Q : St → Prop) : Prop :=
  ∀ c ι S a w, Rel c ι S s a w → ∀ QQ : Exit → Act → World → Prop, (∀ ι' S' s' a' w', Rel c ι' S' s' a' w' → Q s' → QQ .normal a' w') → wpListIn (wideR c.ro) 0 P ops QQ l a w

/-- A function's contract: called with these values, the boxes σ being all that it may write, it returns p and leaves the boxes σ'. -/
def cx (w : World) (ι : Nat → Option Nat) (S : Nat → Prop) (k : Nat) : Ctx := ⟨w, fun b => ∃ i, i < k ∧ ι i = some b, S, k, ι, none, []⟩

def FnG (P : Program) (f : FuncId) (args : List PV) (σ : List (List PV)) (R : PV → Boxes → Prop) : Prop :=
  ∀ (ι : Nat → Option Nat) (S : Nat → Prop) (w : World) (vals : List Value), Store (cx w ι S σ.length) ι S (σ.map some) w →
    vals.length = args.length → (∀ (j : Nat) (p : PV), args[j]? = some p → ∃ v, vals[j]? = some v ∧ VRel σ.length ι S w v p) →
    Calls P f vals.toArray w fun e w' => ∃ v p σ' ι' S', e = .returned v ∧ R p σ' ∧ Store (cx w ι S σ.length) ι' S' σ' w' ∧ VRel σ'.length ι' S' w' v p

section
variable {P : Program} {ops : Array Oper} {rest : List Oper} {o : Oper} {s : St} {Q : St → Prop}

theorem wanted_rel {c : Ctx} {ι : Nat → Option Nat} {S : Nat → Prop} {a : Act} {w : World} (hr : Rel c ι S s a w) {b : Bool} (h : wantedA s ops o = some b) : Region.wanted o (yielded ops a.tmps) = b := by
  unfold wantedA at h
  unfold Region.wanted
  split at h
  · rename_i hg; simp at h; subst h; rw [hg]
  · rename_i i b' hg
    rw [hg]
    simp only
    split at h
    · rename_i d hd
      split at h
      · rename_i x hx
        simp at h; subst h
        have hv := (hr.temps d _ hx).k_inv.1
        have : a.tmps[d]? = some (.bool x) := by
          rw [Array.getD_eq_getD_getElem?] at hv
          cases ht : a.tmps[d]? with
          | none => rw [ht] at hv; simp [undef] at hv
          | some u => rw [ht] at hv; simp at hv; rw [hv]
        simp only [yielded, hd, Option.bind_some, this]
        rw [Bool.eq_iff_iff]; simp
      · rename_i ps hx
        simp at h; subst h
        obtain ⟨vs, hv, _⟩ := tup_inv (hr.temps d _ hx)
        have : ∀ b : Bool, a.tmps[d]? ≠ some (.bool b) := fun b e => by
          rw [Array.getD_eq_getD_getElem?, e] at hv; simp at hv
        simp only [yielded, hd, Option.bind_some]
        cases ht : a.tmps[d]? with
        | none => rfl
        | some u => cases u <;> first | rfl | exact absurd ht (this _)
      · simp at h
    · simp at h

theorem ops_nil (h : Q s) : OpsOk P ops [] s Q := fun c ι S a w hr QQ hQ => wpListIn_nil (hQ ι S s a w hr h)

theorem ops_step (hw : wantedA s ops o = some true)
    (h : ∀ c ι S a w, Rel c ι S s a w → ∀ K QQ, (∀ ι' S' s' a' w', Rel c ι' S' s' a' w' → OpsOk P ops rest s' Q → K a' w') → o.wpIn (wideR c.ro) 0 P a w K QQ) : OpsOk P ops (o :: rest) s Q :=
  fun c ι S a w hr QQ hQ => wpListIn_step fun K hK => by
    rw [if_pos (wanted_rel hr hw)]
    exact h c ι S a w hr K QQ fun ι' S' s' a' w' hr' ho => hK _ _ (ho c ι' S' a' w' hr' QQ hQ)

theorem ops_skip (hw : wantedA s ops o = some false) (hd : dstOk o.dst s.N = true) (h : OpsOk P ops rest (s.put o.dst (.tup [])) Q) : OpsOk P ops (o :: rest) s Q :=
  fun c ι S a w hr QQ hQ => wpListIn_step fun K hK => by
    rw [wanted_rel hr hw]
    exact ⟨fun _ _ => trivial, hK _ _ (h c ι S _ w (hr.skip hd) QQ hQ)⟩

theorem ops_val {p : PV} (hw : wantedA s ops o = some true) (hp : pureVal P s o.op = some p) (hd : dstOk o.dst s.N = true) (h : OpsOk P ops rest (s.put o.dst p) Q) : OpsOk P ops (o :: rest) s Q :=
  ops_step hw fun c ι S a w hr K QQ hK => by
    obtain ⟨v, hv, hp'⟩ := pure_rel hr hp
    refine wpIn_val hv ?_
    exact hK ι S _ _ w (Rel.next hr hr.st (fun _ _ h => h) hd hp') h

theorem ops_mem {σ' : Boxes} {p : PV} (hw : wantedA s ops o = some true) (hp : memVal P s o.op = some (σ', p)) (hd : dstOk o.dst s.N = true) (h : OpsOk P ops rest (St.put { s with σ := σ' } o.dst p) Q) : OpsOk P ops (o :: rest) s Q :=
  ops_step hw fun c ι S a w hr K QQ hK => by
    obtain ⟨v, w', ι', hv, h1, h2, h3, _⟩ := mem_rel hr hp
    refine wpIn_val hv ?_
    exact hK ι' S _ _ w' (Rel.next hr h1 h2 hd h3) h

theorem ops_store {σ' : Boxes} (hw : wantedA s ops o = some true) (hp : storeVal P s o.op = some σ') (hd : dstOk o.dst s.N = true) (h : OpsOk P ops rest (St.put { s with σ := σ' } o.dst (.tup [])) Q) : OpsOk P ops (o :: rest) s Q :=
  ops_step hw fun c ι S a w hr K QQ hK => by
    unfold storeVal at hp
    split at hp
    · rename_i t ad x hop
      split at hp
      · rename_i z b off p hz had hx
        split at hp
        · rename_i cs hb
          split at hp
          · rename_i hc
            simp at hp; subst hp
            obtain ⟨w', hrun, h1, h2⟩ := storeVar_rel (P := P) (s := s) hr.st hz hb (opd_rel hr had) (opd_rel hr hx) hc.1 hc.2.1 hc.2.2
            have : (execOp a.eval o).run P w = .ok .skip w' := by
              unfold execOp
              simp only [hop, Sem.run_bind, hrun, Result.andThen_ok, Sem.run_pure]
            refine wpIn_skp this ?_
            exact hK ι S _ _ w' (Rel.next hr h1 (fun v p hv => by rw [List.length_set]; exact h2 _ v p hv) hd (.imm (IRel.und _ _))) h
          · simp at hp
        · simp at hp
      · simp at hp
    · simp at hp

theorem awp_region {id : Nat} {l : List Oper} {Q : Exit → St → Prop} (h : OpsOk P l.toArray l s (Q .normal)) : AWp P (.region id l.toArray false) s Q :=
  fun c ι S a w hr QQ hQ => wpIn_region_lit (h c ι S a w hr QQ fun ι' S' s' a' w' hr' hq => hQ _ ι' S' s' a' w' hr' hq)

theorem awp_cond {x y : Code} {cnd : Operand} {t : Bool} {Q : Exit → St → Prop} (hc : opd s cnd = some (.k (.bool t))) (h : if t then AWp P x s Q else AWp P y s Q) : AWp P (.cond cnd x y) s Q :=
  fun c ι S a w hr QQ hQ => by
    have hv := (opd_rel hr hc).k_inv.1
    cases t with
    | true => exact wpIn_cond_true hv (h c ι S a w hr QQ hQ)
    | false => exact wpIn_cond_false hv (h c ι S a w hr QQ hQ)
end

/-! ### Renaming boxes -/
mutual
def PV.ren (θ : Nat → Nat) : PV → PV
  | .k v => .k v
  | .sl z rows => .sl z rows
  | .eptr cs => .eptr cs
  | .osl b z off len => .osl (θ b) z off len
  | .osc b z off len cap => .osc (θ b) z off len cap
  | .ptr b off => .ptr (θ b) off
  | .mref b => .mref (θ b)
  | .clo fn caps => .clo fn (renL θ caps)
  | .agg cs => .agg (renL θ cs)
  | .tup ps => .tup (renL θ ps)
def renL (θ : Nat → Nat) : List PV → List PV
  | [] => []
  | p :: ps => p.ren θ :: renL θ ps
end

mutual
/-- All boxes that a value names lie below n. -/
def PV.lt (n : Nat) : PV → Bool
  | .k _ | .sl _ _ | .eptr _ => true
  | .osl b _ _ _ => decide (b < n)
  | .osc b _ _ _ _ => decide (b < n)
  | .ptr b _ => decide (b < n)
  | .mref b => decide (b < n)
  | .clo _ caps => ltL n caps
  | .agg cs => ltL n cs
  | .tup ps => ltL n ps
def ltL (n : Nat) : List PV → Bool
  | [] => true
  | p :: ps => p.lt n && ltL n ps
end

theorem renL_map (θ : Nat → Nat) : ∀ ps, renL θ ps = ps.map (PV.ren θ)
  | [] => rfl
  | p :: ps => by simp [renL, renL_map θ ps]
theorem ltL_all (n : Nat) : ∀ ps, ltL n ps = ps.all (PV.lt n)
  | [] => rfl
  | p :: ps => by simp [ltL, ltL_all n ps]
theorem one_ren (θ : Nat → Nat) (p : PV) : (p.ren θ).one = p.one := by cases p <;> simp [PV.ren, PV.one]
theorem View.ren {o : Obj} {c' : Array Value} {cs : List PV} (θ : Nat → Nat) (h : View o c' cs) : View o c' (renL θ cs) := by
  rw [renL_map]; exact h.mapP (one_ren θ) fun l => ⟨renL θ l, rfl⟩
theorem View.unren {o : Obj} {c' : Array Value} {cs : List PV} {θ : Nat → Nat} (h : View o c' (renL θ cs)) : View o c' cs := by
  rw [renL_map] at h; exact h.unmapP (one_ren θ) fun p l e => by cases p <;> simp [PV.ren] at e; exact ⟨_, rfl⟩

section
variable {n m : Nat} {ι ι' : Nat → Option Nat} {S : Nat → Prop} {w : World}

theorem IRel.ren (θ : Nat → Nat) {v : Value} {p : PV} (h : IRel S w v p) : IRel S w v (p.ren θ) := by
  induction h with
  | k h => exact .k h
  | sl g h1 h2 h3 h4 h5 h6 h7 h8 _ => exact .sl g h1 h2 h3 h4 h5 h6 h7 h8
  | eptr g h1 h2 h3 h4 _ => exact .eptr g h1 h2 h3 h4
  | clo h1 h2 _ ih =>
    simp only [PV.ren, renL_map]
    refine .clo (by simpa using h1) (fun p hp => ?_) (fun j p hj => ?_)
    · simp at hp; obtain ⟨q, hq, rfl⟩ := hp; rw [one_ren]; exact h2 q hq
    · simp at hj; obtain ⟨q, hq, rfl⟩ := hj; exact ih j q hq
  | agg h1 h2 _ ih =>
    simp only [PV.ren, renL_map]
    refine .agg (by simpa using h1) (fun p hp => ?_) (fun j p hj => ?_)
    · simp at hp; obtain ⟨q, hq, rfl⟩ := hp; rw [one_ren]; exact h2 q hq
    · simp at hj; obtain ⟨q, hq, rfl⟩ := hj; exact ih j q hq
  | tup h1 _ ih =>
    simp only [PV.ren, renL_map]
    refine .tup (by simpa using h1) (fun j p hj => ?_)
    simp at hj; obtain ⟨q, hq, rfl⟩ := hj; exact ih j q hq

/-- From small boxes to great ones. -/
theorem VRel.ren {θ : Nat → Nat} (hθ : ∀ b, b < n → θ b < m ∧ ι' (θ b) = ι b) {v : Value} {p : PV} (h : VRel n ι S w v p) : VRel m ι' S w v (p.ren θ) := by
  induction h with
  | imm h => exact .imm (h.ren θ)
  | osl h1 h2 h3 h4 h5 h6 => exact .osl (hθ _ h1).1 h2 h3 (by rw [(hθ _ h1).2]; exact h4) h5 h6
  | osl0 h1 => exact .osl0 (hθ _ h1).1
  | osc h1 h2 h3 h4 h5 h6 => exact .osc (hθ _ h1).1 h2 h3 (by rw [(hθ _ h1).2]; exact h4) h5 h6
  | osc0 h1 => exact .osc0 (hθ _ h1).1
  | ptr h1 h2 h3 => exact .ptr (hθ _ h1).1 (by rw [(hθ _ h1).2]; exact h2) h3
  | mref h1 h2 => exact .mref (hθ _ h1).1 (by rw [(hθ _ h1).2]; exact h2)
  | clo h1 h2 _ ih =>
    simp only [PV.ren, renL_map]
    refine .clo (by simpa using h1) (fun p hp => ?_) (fun j p hj => ?_)
    · simp at hp; obtain ⟨q, hq, rfl⟩ := hp; rw [one_ren]; exact h2 q hq
    · simp at hj; obtain ⟨q, hq, rfl⟩ := hj; exact ih j q hq
  | agg h1 h2 _ ih =>
    simp only [PV.ren, renL_map]
    refine .agg (by simpa using h1) (fun p hp => ?_) (fun j p hj => ?_)
    · simp at hp; obtain ⟨q, hq, rfl⟩ := hp; rw [one_ren]; exact h2 q hq
    · simp at hj; obtain ⟨q, hq, rfl⟩ := hj; exact ih j q hq
  | tup h1 _ ih =>
    simp only [PV.ren, renL_map]
    refine .tup (by simpa using h1) (fun j p hj => ?_)
    simp at hj; obtain ⟨q, hq, rfl⟩ := hj; exact ih j q hq

/-- And back: what is told with small numbers. -/
theorem seg_unren {θ : Nat → Nat} {vs : Array Value} {ps : List PV} (hall : ∀ q ∈ ps, ∀ v, VRel m ι' S w v (q.ren θ) → VRel n ι S w v q)
    (h : ∀ (j : Nat) (p : PV), (renL θ ps)[j]? = some p → VRel m ι' S w (vs.getD j undef) p) : ∀ (j : Nat) (p : PV), ps[j]? = some p → VRel n ι S w (vs.getD j undef) p := fun j p hj =>
  hall p (List.mem_of_getElem? hj) _ (h j _ (by rw [renL_map]; simp [hj]))

theorem ones_unren {θ : Nat → Nat} {ps : List PV} (h : ∀ p ∈ renL θ ps, PV.one p = true) : ∀ p ∈ ps, PV.one p = true := fun p hp => by
  have := h (p.ren θ) (by rw [renL_map]; exact List.mem_map_of_mem hp)
  rwa [one_ren] at this

mutual
theorem VRel.unren {θ : Nat → Nat} (hθ : ∀ b, b < n → ι' (θ b) = ι b) : (p : PV) → ∀ v, p.lt n = true → VRel m ι' S w v (p.ren θ) → VRel n ι S w v p
  | .k x, v, _, h => by
    obtain ⟨rfl, hs⟩ := h.k_inv
    exact .imm (.k hs)
  | .sl z rows, v, _, h => by
    cases h with | imm h => exact .imm h
  | .eptr cs, v, _, h => by
    cases h with | imm h => exact .imm h
  | .osl b z off len, v, hl, h => by
    have hb : b < n := by simpa [PV.lt] using hl
    cases h with
    | imm h => cases h
    | osl h1 h2 h3 h4 h5 h6 => exact .osl hb h2 h3 (by rw [← hθ b hb]; exact h4) h5 h6
    | osl0 h1 => exact .osl0 hb
  | .osc b z off len cap, v, hl, h => by
    have hb : b < n := by simpa [PV.lt] using hl
    cases h with
    | imm h => cases h
    | osc h1 h2 h3 h4 h5 h6 => exact .osc hb h2 h3 (by rw [← hθ b hb]; exact h4) h5 h6
    | osc0 h1 => exact .osc0 hb
  | .ptr b off, v, hl, h => by
    have hb : b < n := by simpa [PV.lt] using hl
    cases h with
    | imm h => cases h
    | ptr h1 h2 h3 => exact .ptr hb (by rw [← hθ b hb]; exact h2) h3
  | .mref b, v, hl, h => by
    have hb : b < n := by simpa [PV.lt] using hl
    cases h with
    | imm h => cases h
    | mref h1 h2 => exact .mref hb (by rw [← hθ b hb]; exact h2)
  | .clo fn caps, v, hl, h => by
    have hall := unrenL hθ caps (by simpa [PV.lt] using hl)
    have hlen : (renL θ caps).length = caps.length := by rw [renL_map]; simp
    cases h with
    | imm h => cases h with | clo h1 h2 h3 => exact .clo (by rw [h1, hlen]) (ones_unren h2) (seg_unren hall fun j p hj => .imm (h3 j p hj))
    | clo h1 h2 h3 => exact .clo (by rw [h1, hlen]) (ones_unren h2) (seg_unren hall h3)
  | .agg cs, v, hl, h => by
    have hall := unrenL hθ cs (by simpa [PV.lt] using hl)
    have hlen : (renL θ cs).length = cs.length := by rw [renL_map]; simp
    cases h with
    | imm h => cases h with | agg h1 h2 h3 => exact .agg (by rw [h1, hlen]) (ones_unren h2) (seg_unren hall fun j p hj => .imm (h3 j p hj))
    | agg h1 h2 h3 => exact .agg (by rw [h1, hlen]) (ones_unren h2) (seg_unren hall h3)
  | .tup ps, v, hl, h => by
    have hall := unrenL hθ ps (by simpa [PV.lt] using hl)
    have hlen : (renL θ ps).length = ps.length := by rw [renL_map]; simp
    cases h with
    | imm h => cases h with | tup h1 h3 => exact .tup (by rw [h1, hlen]) (seg_unren hall fun j p hj => .imm (h3 j p hj))
    | tup h1 h3 => exact .tup (by rw [h1, hlen]) (seg_unren hall h3)
theorem unrenL {θ : Nat → Nat} (hθ : ∀ b, b < n → ι' (θ b) = ι b) : (ps : List PV) → ltL n ps = true → ∀ q ∈ ps, ∀ v, VRel m ι' S w v (q.ren θ) → VRel n ι S w v q
  | [], _ => fun q hq => by simp at hq
  | p :: ps, hl => fun q hq v h => by
    have h2 : p.lt n = true ∧ ltL n ps = true := by simpa [ltL] using hl
    have hp := VRel.unren hθ p
    have hps := unrenL hθ ps h2.2
    rcases List.mem_cons.1 hq with e | hq
    · rw [e] at h ⊢; exact hp v h2.1 h
    · exact hps q hq v h
end
end

end Go.Proofs.YtidhdlhblhbahaaGreat.Am

/- The machine of values: entering a function, calling one, forgetting, freezing. -/
set_option linter.unusedVariables false
set_option linter.unusedSimpArgs false
namespace Go.Proofs.YtidhdlhblhbahaaGreat.Am
open Go Go.RowKit

/-! ### Entering a function -/
def resOne (P : Program) (s : St) : ResultVar → Option PV
  | .tmp t => look s.T t
  | .cell a t => match look s.T a with | some p => loadPV P s.σ t p | none => none

def resPV (P : Program) (s : St) (rs : List ResultVar) : Option PV :=
  match rs.mapM (resOne P s) with
  | some [p] => some p
  | some ps => some (.tup ps)
  | none => none

def entryT : Nat → List PV → List (Nat × PV)
  | _, [] => []
  | i, p :: ps => (i, p) :: entryT (i + 1) ps

def entry (fn : Func) (args : List PV) (σ : List (List PV)) : St := ⟨args.length + (fn.ntmps - args.length), entryT 0 args, σ.map some, σ.length⟩

theorem look_entryT : ∀ (ps : List PV) (i t : Nat) (p : PV), look (entryT i ps) t = some p → i ≤ t ∧ ps[t - i]? = some p
  | [], _, _, _, h => by simp [entryT, look] at h
  | q :: ps, i, t, p, h => by
    simp only [entryT, look] at h
    split at h
    · rename_i e; subst e; simp at h; subst h; simp
    · obtain ⟨h1, h2⟩ := look_entryT ps (i + 1) t p h
      refine ⟨by omega, ?_⟩
      rw [show t - i = (t - (i + 1)) + 1 by omega]
      simpa using h2

def enterable (P : Program) (f : FuncId) : Bool :=
  match P.funcs[f]? with
  | some fn => !(fn.name == "runtime.NumGoroutine") && fn.body.isSome
  | none => false

def readRes (tmps : Array Value) : ResultVar → Sem Value
  | .tmp t => pure (tmps.getD t undef)
  | .cell a t => do loadVar t (← asAddr (tmps.getD a undef))

theorem results_eq (fn : Func) (tmps : Array Value) : results fn tmps = (do
  let vs ← fn.results.mapM (readRes tmps)
  pure (if h : vs.size = 1 then vs[0] else .tuple vs)) := rfl

section
variable {P : Program} {c : Ctx} {ι : Nat → Option Nat} {S : Nat → Prop} {s : St} {a : Act} {w : World}

theorem resOne_rel (hr : Rel c ι S s a w) {r : ResultVar} {p : PV} (h : resOne P s r = some p) :
    ∃ v, (readRes a.tmps r).run P w = .ok v w ∧ VRel s.σ.length ι S w v p := by
  cases r with
  | tmp t => exact ⟨_, rfl, hr.temps t p h⟩
  | cell ad t =>
    simp only [resOne] at h
    split at h
    · rename_i q hq
      obtain ⟨v, hv, hp⟩ := load_rel hr (hr.temps ad q hq) h
      refine ⟨v, ?_, hp⟩
      have hh := hr.temps ad q hq
      simp only [readRes]
      generalize a.tmps.getD ad undef = x at hh hv ⊢
      have : ∃ ad', x = .pointer (some ad') := by
        cases hh with
        | imm hh => cases hh <;> first | exact ⟨_, rfl⟩ | (simp [loadPV] at h; done) | skip
                    all_goals (simp only [loadPV] at h; split at h <;> simp at h)
        | ptr _ _ _ => exact ⟨_, rfl⟩
        | _ => simp only [loadPV] at h; split at h <;> simp at h
      obtain ⟨ad', rfl⟩ := this
      simpa [asAddr, Instr.loadAt, Instr.sureAddr] using hv
    · simp at h

theorem results_rel (hr : Rel c ι S s a w) : ∀ (rs : List ResultVar) (ps : List PV), rs.mapM (resOne P s) = some ps →
    ∃ vs : List Value, (rs.mapM (readRes a.tmps)).run P w = .ok vs w ∧ vs.length = ps.length ∧ ∀ (j : Nat) (p : PV), ps[j]? = some p → ∃ v, vs[j]? = some v ∧ VRel s.σ.length ι S w v p
  | [], ps, h => by simp at h; subst h; exact ⟨[], by simp, rfl, by simp⟩
  | r :: rs, ps, h => by
    simp only [List.mapM_cons, Option.bind_eq_bind, Option.bind_eq_some_iff] at h
    obtain ⟨p, hp, ps', hps, h⟩ := h
    simp at h; subst h
    obtain ⟨v, hv, hvp⟩ := resOne_rel hr hp
    obtain ⟨vs, hvs, hl, hrel⟩ := results_rel hr rs ps' hps
    refine ⟨v :: vs, ?_, by simp [hl], fun j q hj => ?_⟩
    · simp only [List.mapM_cons, Sem.run_bind, hv, Result.andThen_ok, hvs, Sem.run_pure]
    · cases j with
      | zero => simp at hj; subst hj; exact ⟨v, rfl, hvp⟩
      | succ j => simpa using hrel j q (by simpa using hj)

theorem fng_of_awp {f : FuncId} {fn : Func} {code : Code} {args : List PV} {σ : List (List PV)} {R : PV → Boxes → Prop} (hf : P.funcs[f]? = some fn) (hb : fn.body = some code)
    (h : AWp P code (entry fn args σ) fun e s' => (e = .normal ∨ e = .ret) ∧ ∃ s'' p, Ent s' s'' ∧ resPV P s'' fn.results.toList = some p ∧ R p s''.σ) : FnG P f args σ R := by
  intro ι S w vals hs hl hv
  refine calls_of_wp hf hb ?_
  refine wpIn_wide (n := 0).1 ?_
  have hrel : Rel (cx w ι S σ.length) ι S (entry fn args σ) { tmps := vals.toArray ++ Array.replicate (fn.ntmps - vals.toArray.size) undef, defers := [] } w := by
    refine ⟨hs, rfl, by simp [entry, hl], rfl, fun t p ht => ?_⟩
    obtain ⟨_, hp⟩ := look_entryT args 0 t p ht
    simp only [Nat.sub_zero] at hp
    obtain ⟨v, hv1, hv2⟩ := hv t p hp
    have hlt := (List.getElem?_eq_some_iff.1 hv1).1
    have e : (vals.toArray ++ Array.replicate (fn.ntmps - vals.toArray.size) undef).getD t undef = v := by
      rw [Array.getD_eq_getD_getElem?, Array.getElem?_append_left (by simpa using hlt)]
      simp [hv1]
    rw [e]
    simpa [entry] using hv2
  refine h _ _ _ _ _ hrel _ fun e ι' S' s' a' w' hr' hq => ?_
  obtain ⟨he, s'', p, hent, hres, hR⟩ := hq
  obtain ⟨ι2, S2, hr2⟩ := hent _ _ _ _ _ hr'
  have hfin : ∃ v, (results fn a'.tmps).run P w' = .ok v w' ∧ VRel s''.σ.length ι2 S2 w' v p := by
    unfold resPV at hres
    split at hres
    · rename_i q hq
      simp at hres; subst hres
      obtain ⟨vs, hvs, hlv, hrv⟩ := results_rel hr2 _ _ hq
      match vs, hlv, hvs, hrv with
      | [v], _, hvs, hrv =>
        refine ⟨v, ?_, ?_⟩
        · simp only [results_eq, Array.mapM_eq_mapM_toList, Sem.run_bind, Sem.run_map, hvs, Result.andThen_ok, Sem.run_pure]
          simp
        · obtain ⟨u, hu, hr⟩ := hrv 0 q rfl
          simp at hu; subst hu; exact hr
    · rename_i ps hps hq
      simp at hres; subst hres
      obtain ⟨vs, hvs, hlv, hrv⟩ := results_rel hr2 _ _ hq
      have hne : vs.length ≠ 1 := fun e => by
        rw [hlv] at e
        match ps, e, hps with
        | [p], _, hps => exact hps p rfl
      refine ⟨.tuple vs.toArray, ?_, .tup (by simpa using hlv) (fun j p hj => ?_)⟩
      · simp only [results_eq, Array.mapM_eq_mapM_toList, Sem.run_bind, Sem.run_map, hvs, Result.andThen_ok, Sem.run_pure]
        simp [hne]
      · obtain ⟨u, hu, hr⟩ := hrv j p hj
        rw [Array.getD_eq_getD_getElem?]
        simp [hu, hr]
    · simp at hres
  obtain ⟨v, hrun, hvp⟩ := hfin
  have hpost : ∃ v, (results fn a'.tmps).run P w' = .ok v w' ∧ ∃ v' p σ' ι' S', Ending.returned v = .returned v' ∧ R p σ' ∧ Store (cx w ι S σ.length) ι' S' σ' w' ∧ VRel σ'.length ι' S' w' v' p :=
    ⟨v, hrun, v, p, s''.σ, ι2, S2, rfl, hR, hr2.st, hvp⟩
  rcases he with rfl | rfl
  · exact ⟨hr2.defers, hpost⟩
  · exact ⟨hr2.defers, hpost⟩
end

end Go.Proofs.YtidhdlhblhbahaaGreat.Am

/- The machine of values: calls. -/
set_option linter.unusedVariables false
set_option linter.unusedSimpArgs false
namespace Go.Proofs.YtidhdlhblhbahaaGreat.Am
open Go Go.RowKit

def calleePV (s : St) (f : Operand) : Option (FuncId × List PV) :=
  match opd s f with
  | some (.k (.func (.func g) _ _)) => some (g, [])
  | some (.clo (.func g) caps) => some (g, caps)
  | _ => none

/-- From the callee's numbers to the caller's. -/
def thF (th : List Nat) (n : Nat) : Nat → Nat := fun i => if i < th.length then th.getD i 0 else n + (i - th.length)

def setAll (σ : Boxes) (θ : Nat → Nat) : List Nat → Boxes → Boxes
  | [], _ => σ
  | t :: th, x :: xs => setAll (σ.set t (x.map (renL θ))) θ th xs
  | _ :: _, [] => σ

def merge (σ : Boxes) (th : List Nat) (σ' : Boxes) : Boxes :=
  setAll σ (thF th σ.length) th σ' ++ (σ'.drop th.length).map fun x => x.map (renL (thF th σ.length))

theorem setAll_length (θ : Nat → Nat) : ∀ (th : List Nat) (xs σ : Boxes), (setAll σ θ th xs).length = σ.length
  | [], _, _ => by simp [setAll]
  | _ :: _, [], _ => by simp [setAll]
  | t :: th, x :: xs, σ => by rw [setAll, setAll_length θ th xs]; simp

theorem box_setAll (θ : Nat → Nat) : ∀ (th : List Nat) (xs σ : Boxes) (i : Nat), th.Nodup → (∀ t ∈ th, t < σ.length) → th.length ≤ xs.length →
    (∀ j, th[j]? = some i → box (setAll σ θ th xs) i = (box xs j).map (renL θ)) ∧ (i ∉ th → box (setAll σ θ th xs) i = box σ i)
  | [], xs, σ, i, _, _, _ => ⟨fun j h => by simp at h, fun _ => by simp [setAll]⟩
  | t :: th, [], σ, i, _, _, h => by simp at h
  | t :: th, x :: xs, σ, i, hn, hl, h => by
    have hn2 := List.nodup_cons.1 hn
    have ih := box_setAll θ th xs (σ.set t (x.map (renL θ))) i hn2.2 (fun t' ht' => by rw [List.length_set]; exact hl t' (by simp [ht'])) (by simpa using h)
    refine ⟨fun j hj => ?_, fun hi => ?_⟩
    · cases j with
      | zero =>
        simp at hj; subst hj
        rw [setAll, ih.2 hn2.1, box_set (hl t (by simp)), if_pos rfl]
        simp [box]
      | succ j =>
        simp at hj
        rw [setAll, ih.1 j hj]
        simp [box]
    · simp at hi
      rw [setAll, ih.2 hi.2, box_set (hl t (by simp)), if_neg hi.1]

theorem nodup_inj : ∀ (th : List Nat), th.Nodup → ∀ (i j t : Nat), th[i]? = some t → th[j]? = some t → i = j
  | [], _, i, j, t, h, _ => by simp at h
  | x :: th, hn, i, j, t, hi, hj => by
    have h2 := List.nodup_cons.1 hn
    cases i <;> cases j
    · rfl
    · simp at hi hj; subst hi; exact absurd (List.mem_of_getElem? hj) h2.1
    · simp at hi hj; subst hj; exact absurd (List.mem_of_getElem? hi) h2.1
    · simp at hi hj; rw [nodup_inj th h2.2 _ _ t hi hj]

theorem box_drop {σ : Boxes} {k i : Nat} : box (σ.drop k) i = box σ (k + i) := by simp [box, List.getElem?_drop]
theorem box_map {σ : Boxes} {f : List PV → List PV} {i : Nat} : box (σ.map fun x => x.map f) i = (box σ i).map f := by
  simp only [box, List.getElem?_map]
  cases σ[i]? with
  | none => rfl
  | some x => cases x <;> rfl
theorem box_append {σ τ : Boxes} {i : Nat} : box (σ ++ τ) i = if i < σ.length then box σ i else box τ (i - σ.length) := by
  unfold box
  split
  · rename_i h; rw [List.getElem?_append_left h]
  · rename_i h; rw [List.getElem?_append_right (by omega)]
theorem box_some {σ : List (List PV)} {i : Nat} {cs : List PV} : box (σ.map some) i = some cs ↔ σ[i]? = some cs := by
  simp only [box, List.getElem?_map]
  cases σ[i]? <;> simp

section
variable {P : Program} {c : Ctx} {ι : Nat → Option Nat} {S : Nat → Prop} {s : St} {a : Act} {w : World}

theorem callee_rel (hr : Rel c ι S s a w) {f : Operand} {g : FuncId} {caps : List PV} (h : calleePV s f = some (g, caps)) :
    ∃ vs : Array Value, a.eval f = .func (.func g) #[] vs ∧ vs.size = caps.length ∧ ∀ (j : Nat) (p : PV), caps[j]? = some p → ∃ v, vs[j]? = some v ∧ VRel s.σ.length ι S w v p := by
  have get : ∀ (vs : Array Value), vs.size = caps.length → (∀ (j : Nat) (p : PV), caps[j]? = some p → VRel s.σ.length ι S w (vs.getD j undef) p) → ∀ (j : Nat) (p : PV), caps[j]? = some p → ∃ v, vs[j]? = some v ∧ VRel s.σ.length ι S w v p :=
    fun vs hsz hh j p hj => by
      have hlt := (List.getElem?_eq_some_iff.1 hj).1
      have h2 := hh j p hj
      have : j < vs.size := by omega
      rw [Array.getD_eq_getD_getElem?] at h2
      simp [this] at h2
      exact ⟨_, Array.getElem?_eq_getElem this, h2⟩
  unfold calleePV at h
  split at h
  · rename_i g' fs cs hx
    simp at h; obtain ⟨rfl, rfl⟩ := h
    obtain ⟨hv, hs⟩ := (opd_rel hr hx).k_inv
    simp [scal] at hs
    obtain ⟨rfl, rfl⟩ := hs
    exact ⟨#[], hv, rfl, by simp⟩
  · rename_i g' caps' hx
    simp at h; obtain ⟨rfl, rfl⟩ := h
    have hh := opd_rel hr hx
    generalize a.eval f = x at hh ⊢
    cases hh with
    | imm hh => cases hh with
      | clo h1 h2 h3 => exact ⟨_, rfl, h1, get _ h1 fun j p hj => .imm (h3 j p hj)⟩
    | clo h1 h2 h3 => exact ⟨_, rfl, h1, get _ h1 h3⟩
  · simp at h

theorem exec_call {o : Oper} {f : Operand} {args : Array Operand} {ts : Array TypeId} (ho : o.op = .call { callee := .value f, args := args, argTypes := ts }) {g : FuncId} {vs : Array Value}
    (hf : a.eval f = .func (.func g) #[] vs) (he : enterable P g = true) : (execOp a.eval o).run P w = .ok (.enter g (args.map a.eval ++ vs)) w := by
  unfold enterable at he
  split at he
  · rename_i fn hfn
    simp at he
    have hb : fn.body.isNone = false := by cases h : fn.body <;> simp_all
    unfold execOp
    simp only [ho, Sem.run_bind, resolve, hf, Deferred.ofValue, Sem.run_pure, Result.andThen_ok, invoke, callFunc, run_program, hfn, hb]
    simp [he.1]
  · simp at he

/-- What a call leaves in the caller. -/
theorem call_back (hr : Rel c ι S s a w) {th : List Nat} {σc : List (List PV)} (hl : th.length = σc.length) (hnd : th.Nodup)
    (hbox : ∀ (i t : Nat) (cs : List PV), th[i]? = some t → σc[i]? = some cs → box s.σ t = some (renL (thF th s.σ.length) cs))
    {w' : World} {ι' : Nat → Option Nat} {S' : Nat → Prop} {σ' : Boxes}
    (hst : Store (cx w (fun i => ι (thF th s.σ.length i)) S th.length) ι' S' σ' w') :
    ∃ ιn, Store c ιn S' (merge s.σ th σ') w' ∧ (∀ v p, VRel s.σ.length ι S w v p → VRel (merge s.σ th σ').length ιn S' w' v p) ∧
      (∀ v p, VRel σ'.length ι' S' w' v p → VRel (merge s.σ th σ').length ιn S' w' v (p.ren (thF th s.σ.length))) ∧ ∀ b, b < s.σ.length → ιn b = ι b := by
  have hσ := hr.st
  have hk : th.length ≤ σ'.length := hst.klen
  let θ := thF th s.σ.length
  let n := s.σ.length
  have hth : ∀ i, i < th.length → θ i = th.getD i 0 := fun i hi => by simp [θ, thF, hi]
  have hlive : ∀ i, i < th.length → ∃ cs, box s.σ (θ i) = some cs := fun i hi => by
    have hi' : i < σc.length := by omega
    have := hbox i (th.getD i 0) σc[i] (by simp [List.getElem?_eq_getElem hi]) (List.getElem?_eq_getElem hi')
    rw [hth i hi]; exact ⟨_, this⟩
  have htlt : ∀ t ∈ th, t < s.σ.length := fun t ht => by
    obtain ⟨i, hi, rfl⟩ := List.getElem_of_mem ht
    obtain ⟨cs, hcs⟩ := hlive i hi
    rw [hth i hi] at hcs
    simp [List.getElem?_eq_getElem hi] at hcs
    exact box_lt hcs
  have hmlen : (merge s.σ th σ').length = n + (σ'.length - th.length) := by
    simp [merge, setAll_length, n]
  let ιn : Nat → Option Nat := fun i => if i < n then ι i else ι' (th.length + (i - n))
  have hιn : ∀ b, b < σ'.length → θ b < (merge s.σ th σ').length ∧ ιn (θ b) = ι' b := fun b hb => by
    rw [hmlen]
    by_cases hbt : b < th.length
    · have h1 : θ b < n := by obtain ⟨cs, hcs⟩ := hlive b hbt; exact box_lt hcs
      refine ⟨by omega, ?_⟩
      simp only [ιn, if_pos h1]
      rw [hst.kι b hbt]
      rfl
    · have h1 : θ b = n + (b - th.length) := by simp [θ, thF, hbt, n]
      refine ⟨by omega, ?_⟩
      simp only [ιn]
      rw [if_neg (by omega), h1]
      congr 1; omega
  -- what the callee may have written
  have hM : ∀ b, (∃ i, i < th.length ∧ ι (θ i) = some b) → c.M b ∨ c.w0.heap.size ≤ b := fun b ⟨i, hi, hb⟩ => by
    obtain ⟨cs, hcs⟩ := hlive i hi
    exact hσ.live _ _ _ hcs hb
  have hMS : ∀ b, (∃ i, i < th.length ∧ ι (θ i) = some b) → ¬ S b := fun b ⟨i, hi, hb⟩ => by
    obtain ⟨cs, hcs⟩ := hlive i hi
    exact hσ.notS _ _ _ hcs hb
  have hold : ∀ b, b < w.heap.size → ¬ (∃ i, i < th.length ∧ ι (θ i) = some b) → w'.heap[b]? = w.heap[b]? := fun b hb hm => hst.old b hb hm
  have hold' : ∀ b, S b → w'.heap[b]? = w.heap[b]? := fun b hb => hold b (hσ.Slt b hb) (fun hm => hMS b hm hb)
  have hv0 : ∀ v p, VRel s.σ.length ι S w v p → VRel (merge s.σ th σ').length ιn S' w' v p := fun v p hh =>
    hh.mono (by rw [hmlen]; omega) (fun b hb => by simp [ιn, n, hb]) hst.S0 (fun b o hb => World.cell?_of_block (hold' b hb)) (fun b x hx => hst.shape b x hx)
  have hv1 : ∀ v p, VRel σ'.length ι' S' w' v p → VRel (merge s.σ th σ').length ιn S' w' v (p.ren θ) := fun v p hh => hh.ren hιn
  -- the caller's boxes: one that the callee did not have, or one of the callee's
  have hcase : ∀ i ci, box (merge s.σ th σ') i = some ci → (i < n ∧ i ∉ th ∧ box s.σ i = some ci) ∨ ∃ j cj, j < σ'.length ∧ θ j = i ∧ box σ' j = some cj ∧ ci = renL θ cj := fun i ci hi => by
    unfold merge at hi
    rw [box_append, setAll_length] at hi
    split at hi
    · rename_i hin
      by_cases hm : i ∈ th
      · obtain ⟨j, hj, hjt⟩ := List.getElem_of_mem hm
        have hb := (box_setAll (thF th s.σ.length) th σ' s.σ i hnd htlt hk).1 j (by rw [List.getElem?_eq_getElem hj, hjt])
        rw [hb] at hi
        simp only [Option.map_eq_some_iff] at hi
        obtain ⟨cj, hcj, rfl⟩ := hi
        refine .inr ⟨j, cj, by omega, ?_, hcj, rfl⟩
        rw [hth j hj]; simp [List.getElem?_eq_getElem hj, hjt]
      · have hb := (box_setAll (thF th s.σ.length) th σ' s.σ i hnd htlt hk).2 hm
        rw [hb] at hi
        exact .inl ⟨hin, hm, hi⟩
    · rename_i hin
      rw [box_map, box_drop] at hi
      simp only [Option.map_eq_some_iff] at hi
      obtain ⟨cj, hcj, rfl⟩ := hi
      refine .inr ⟨th.length + (i - s.σ.length), cj, box_lt hcj, ?_, hcj, rfl⟩
      simp only [θ, thF]
      rw [if_neg (by omega)]; omega
  have hnotin : ∀ i ci blk, i < n → i ∉ th → box s.σ i = some ci → ι i = some blk → ¬ ∃ j, j < th.length ∧ ι (θ j) = some blk := fun i ci blk hin hm hi hb ⟨j, hj, hjb⟩ => by
    obtain ⟨cs, hcs⟩ := hlive j hj
    have := hσ.inj i (θ j) ci cs blk hi hcs hb hjb
    subst this
    rw [hth j hj] at hm
    exact hm (by simp [List.getElem?_eq_getElem hj])
  have hblt : ∀ i ci blk, box s.σ i = some ci → ι i = some blk → blk < w.heap.size := fun i ci blk hi hb => by
    rcases hσ.boxes i ci hi with ⟨h', _⟩ | ⟨blk', c', e', hb', g1, _⟩
    · rw [h'] at hb; simp at hb
    · rw [hb'] at hb; simp at hb; subst hb; exact (Array.getElem?_eq_some_iff.1 g1).1
  have hιlt : ∀ i, i < n → ιn i = ι i := fun i hi => by simp [ιn, hi]
  refine ⟨ιn, ⟨hst.os.trans hσ.os, hst.tape.trans hσ.tape, hst.output.trans hσ.output, Nat.le_trans hσ.size hst.size, fun b hb hbM => ?_, fun b x hx => hst.shape b x (hσ.shape b x hx), ?_, ?_, ?_, ?_, hst.Slt, fun b hb => hst.S0 b (hσ.S0 b hb), fun b hb => ?_, ?_, fun i hi => ?_⟩, hv0, hv1, hιlt⟩
  · rw [hold b (by have := hσ.size; omega) (fun hm => by rcases hM b hm with h1 | h1; exact hbM h1; omega)]
    exact hσ.old b hb hbM
  · intro i ci hi
    rcases hcase i ci hi with ⟨hin, hm, hb⟩ | ⟨j, cj, hj, rfl, hb, rfl⟩
    · rcases hσ.boxes i ci hb with ⟨h', h''⟩ | ⟨blk, c', e', hb', g1, g0, g2⟩
      · exact .inl ⟨by rw [hιlt i hin]; exact h', h''⟩
      · refine .inr ⟨blk, c', e', by rw [hιlt i hin]; exact hb', ?_, g0, fun j p hj => ?_⟩
        · rw [hold blk (hblt i ci blk hb hb') (hnotin i ci blk hin hm hb hb')]; exact g1
        · obtain ⟨v, hv, hr⟩ := g2 j p hj; exact ⟨v, hv, hv0 _ _ hr⟩
    · rcases hst.boxes j cj hb with ⟨h', h''⟩ | ⟨blk, c', e', hb', g1, g0, g2⟩
      · exact .inl ⟨by rw [(hιn j hj).2]; exact h', by rw [h'']; rfl⟩
      · refine .inr ⟨blk, c', e', by rw [(hιn j hj).2]; exact hb', g1, g0.ren _, fun q p hq => ?_⟩
        · rw [renL_map] at hq; simp at hq; obtain ⟨p', hp', rfl⟩ := hq
          obtain ⟨v, hv, hr⟩ := g2 q p' hp'; exact ⟨v, hv, hv1 _ _ hr⟩
  · intro i ci blk hi hbi hSb
    rcases hcase i ci hi with ⟨hin, hm, hb⟩ | ⟨j, cj, hj, rfl, hb, rfl⟩
    · rw [hιlt i hin] at hbi
      rcases hst.Snew blk hSb with h1 | h1 | h1
      · exact hσ.notS i ci blk hb hbi h1
      · exact hnotin i ci blk hin hm hb hbi h1
      · have := hblt i ci blk hb hbi
        have h2 : w.heap.size ≤ blk := h1
        omega
    · rw [(hιn j hj).2] at hbi; exact hst.notS j cj blk hb hbi hSb
  · intro i ci blk hi hbi
    rcases hcase i ci hi with ⟨hin, hm, hb⟩ | ⟨j, cj, hj, rfl, hb, rfl⟩
    · rw [hιlt i hin] at hbi; exact hσ.live i ci blk hb hbi
    · rw [(hιn j hj).2] at hbi
      rcases hst.live j cj blk hb hbi with h1 | h1
      · exact hM blk h1
      · have h2 : w.heap.size ≤ blk := h1
        have := hσ.size; exact .inr (by omega)
  · intro i i' ci ci' blk hi hi' hbi hbi'
    have mixed : ∀ i ci j cj, i < n → i ∉ th → box s.σ i = some ci → ι i = some blk → j < σ'.length → box σ' j = some cj → ι' j = some blk → False := fun i ci j cj hin hm hb hbi hj hbj hbj' => by
      rcases hst.live j cj blk hbj hbj' with h1 | h1
      · exact hnotin i ci blk hin hm hb hbi h1
      · have := hblt i ci blk hb hbi
        have h2 : w.heap.size ≤ blk := h1
        omega
    rcases hcase i ci hi with ⟨hin, hm, hb⟩ | ⟨j, cj, hj, rfl, hb, rfl⟩ <;> rcases hcase i' ci' hi' with ⟨hin', hm', hb'⟩ | ⟨j', cj', hj', rfl, hb', rfl⟩
    · rw [hιlt i hin] at hbi; rw [hιlt i' hin'] at hbi'; exact hσ.inj i i' ci ci' blk hb hb' hbi hbi'
    · rw [hιlt i hin] at hbi; rw [(hιn j' hj').2] at hbi'; exact (mixed i ci j' cj' hin hm hb hbi hj' hb' hbi').elim
    · rw [hιlt i' hin'] at hbi'; rw [(hιn j hj).2] at hbi; exact (mixed i' ci' j cj hin' hm' hb' hbi' hj hb hbi).elim
    · rw [(hιn j hj).2] at hbi; rw [(hιn j' hj').2] at hbi'
      rw [hst.inj j j' cj cj' blk hb hb' hbi hbi']
  · rcases hst.Snew b hb with h1 | h1 | h1
    · exact hσ.Snew b h1
    · rcases hM b h1 with h2 | h2
      · exact .inr (.inl h2)
      · exact .inr (.inr h2)
    · have h2 : w.heap.size ≤ b := h1
      have := hσ.size; exact .inr (.inr (by omega))
  · rw [hmlen]; have := hσ.klen; omega
  · have := hσ.klen
    rw [hιlt i (by omega)]; exact hσ.kι i hi

theorem ops_call {ops : Array Oper} {rest : List Oper} {o : Oper} {Q : St → Prop} {f : Operand} {args : Array Operand} {ts : Array TypeId} {g : FuncId} {caps ps args' : List PV} {th : List Nat} {σc : List (List PV)} {R : PV → Boxes → Prop}
    (hw : wantedA s ops o = some true) (ho : o.op = .call { callee := .value f, args := args, argTypes := ts }) (hcal : calleePV s f = some (g, caps)) (hargs : opds s args.toList = some ps)
    (he : enterable P g = true) (hc : FnG P g args' σc R) (hl : th.length = σc.length) (hnd : th.Nodup)
    (hren : ps ++ caps = renL (thF th s.σ.length) args') (hlt : ltL th.length args' = true)
    (hbox : ∀ (i t : Nat) (cs : List PV), th[i]? = some t → σc[i]? = some cs → box s.σ t = some (renL (thF th s.σ.length) cs) ∧ ltL th.length cs = true)
    (hd : dstOk o.dst s.N = true)
    (h : ∀ p σ', R p σ' → OpsOk P ops rest (St.put { s with σ := merge s.σ th σ' } o.dst (p.ren (thF th s.σ.length))) Q) : OpsOk P ops (o :: rest) s Q :=
  ops_step hw fun c ι S a w hr K QQ hK => by
    obtain ⟨vs, hf, hvs, hcaps⟩ := callee_rel hr hcal
    obtain ⟨hal, harel⟩ := opds_rel hr hargs
    refine wpIn_ent (exec_call ho hf he) ?_
    have hσ := hr.st
    have hθ : ∀ b, b < th.length → (fun i => ι (thF th s.σ.length i)) b = ι (thF th s.σ.length b) := fun _ _ => rfl
    -- the arguments in the callee's numbers
    have hall : ∀ (j : Nat) (p : PV), args'[j]? = some p → ∃ v, ((args.toList.map a.eval) ++ vs.toList)[j]? = some v ∧ VRel th.length (fun i => ι (thF th s.σ.length i)) S w v p := fun j p hj => by
      have hj2 : (ps ++ caps)[j]? = some (p.ren (thF th s.σ.length)) := by rw [hren, renL_map]; simp [hj]
      have hpl : p.lt th.length = true := by rw [ltL_all] at hlt; exact List.all_eq_true.1 hlt p (List.mem_of_getElem? hj)
      have hv : ∃ v, ((args.toList.map a.eval) ++ vs.toList)[j]? = some v ∧ VRel s.σ.length ι S w v (p.ren (thF th s.σ.length)) := by
        rcases Nat.lt_or_ge j ps.length with h1 | h1
        · rw [List.getElem?_append_left h1] at hj2
          rw [List.getElem?_append_left (by rw [hal]; exact h1)]
          exact harel j _ hj2
        · rw [List.getElem?_append_right h1] at hj2
          rw [List.getElem?_append_right (by rw [hal]; exact h1), hal]
          obtain ⟨v, hv1, hv2⟩ := hcaps _ _ hj2
          exact ⟨v, by simpa using hv1, hv2⟩
      obtain ⟨v, hv1, hv2⟩ := hv
      exact ⟨v, hv1, VRel.unren (m := s.σ.length) (ι' := ι) (fun b _ => rfl) p v hpl hv2⟩
    have hpre : Store (cx w (fun i => ι (thF th s.σ.length i)) S σc.length) (fun i => ι (thF th s.σ.length i)) S (σc.map some) w := by
      have hbx : ∀ i ci, box (σc.map some) i = some ci → ∃ t, th[i]? = some t ∧ thF th s.σ.length i = t ∧ box s.σ t = some (renL (thF th s.σ.length) ci) ∧ ltL th.length ci = true := fun i ci hi => by
        rw [box_some] at hi
        have hil := (List.getElem?_eq_some_iff.1 hi).1
        have hit : i < th.length := by omega
        obtain ⟨h1, h2⟩ := hbox i th[i] ci (List.getElem?_eq_getElem hit) hi
        exact ⟨th[i], List.getElem?_eq_getElem hit, by simp [thF, hit], h1, h2⟩
      refine ⟨rfl, rfl, rfl, Nat.le_refl _, fun _ _ _ => rfl, fun _ _ h => h, fun i ci hi => ?_, fun i ci blk hi hb => ?_, fun i ci blk hi hb => ?_, fun i j ci cj blk hi hj hbi hbj => ?_, hσ.Slt, fun _ h => h, fun _ h => .inl h, by simp [cx], fun _ _ => rfl⟩
      · obtain ⟨t, ht, hθt, hbt, hlt'⟩ := hbx i ci hi
        rcases hσ.boxes t _ hbt with ⟨h', h''⟩ | ⟨blk, c', e', hb', g1, g0, g2⟩
        · refine .inl ⟨by simp only [hθt]; exact h', ?_⟩
          rw [renL_map] at h''
          simpa using h''
        · refine .inr ⟨blk, c', e', by simp only [hθt]; exact hb', g1, g0.unren, fun j p hj => ?_⟩
          obtain ⟨v, hv1, hv2⟩ := g2 j (p.ren (thF th s.σ.length)) (by rw [renL_map]; simp [hj])
          refine ⟨v, hv1, ?_⟩
          have hpl : p.lt th.length = true := by rw [ltL_all] at hlt'; exact List.all_eq_true.1 hlt' p (List.mem_of_getElem? hj)
          have := VRel.unren (n := th.length) (m := s.σ.length) (ι := fun i => ι (thF th s.σ.length i)) (ι' := ι) (θ := thF th s.σ.length) (fun b _ => rfl) p v hpl hv2
          rw [List.length_map, ← hl]; exact this
      · obtain ⟨t, ht, hθt, hbt, _⟩ := hbx i ci hi
        exact hσ.notS t _ blk hbt (by rw [← hθt]; exact hb)
      · have hil := box_lt hi
        exact .inl ⟨i, by simpa using hil, hb⟩
      · obtain ⟨t, ht, hθt, hbt, _⟩ := hbx i ci hi
        obtain ⟨t', ht', hθt', hbt', _⟩ := hbx j cj hj
        have e := hσ.inj t t' _ _ blk hbt hbt' (by rw [← hθt]; exact hbi) (by rw [← hθt']; exact hbj)
        subst e
        exact nodup_inj th hnd i j t ht ht'
    have hlen : ((args.toList.map a.eval) ++ vs.toList).length = args'.length := by
      have := congrArg List.length hren
      rw [renL_map] at this
      simp at this hal ⊢
      omega
    have hcall := hc _ S w ((args.toList.map a.eval) ++ vs.toList) hpre hlen (by rw [← hl]; exact hall)
    have hargs2 : ((args.toList.map a.eval) ++ vs.toList).toArray = args.map a.eval ++ vs := by apply Array.ext'; simp
    rw [hargs2] at hcall
    refine hcall.mono ?_
    rintro e w' ⟨v, p, σ', ι', S', rfl, hR, hst, hvp⟩
    rw [← hl] at hst
    obtain ⟨ιn, k1, k2, k3, _⟩ := call_back hr hl hnd (fun i t cs h1 h2 => (hbox i t cs h1 h2).1) hst
    exact hK ιn S' _ _ w' (Rel.next hr k1 k2 hd (k3 v p hvp)) (h p σ' hR)
end

end Go.Proofs.YtidhdlhblhbahaaGreat.Am
