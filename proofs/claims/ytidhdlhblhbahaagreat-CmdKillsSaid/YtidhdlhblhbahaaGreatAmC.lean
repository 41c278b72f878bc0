/- The machine of values: range over a function. -/
import Derived.Test.YtidhdlhblhbahaaGreatAmB
import Derived.RangeFuncRecord
import Derived.RangeFuncSeq
import Derived.Shelf.Abstract
/- The machine of values: range over a function: the walk that may push marks. -/
set_option linter.unusedVariables false
set_option linter.unusedSimpArgs false
namespace Go.Proofs.YtidhdlhblhbahaaGreat.Am
open Go Go.RowKit

/-- Nothing that lay has turned. -/
structure Grown (w w' : World) : Prop where
  os : w'.os = w.os
  tape : w'.tape = w.tape
  output : w'.output = w.output
  size : w.heap.size ≤ w'.heap.size
  old : ∀ b, b < w.heap.size → w'.heap[b]? = w.heap[b]?

theorem Grown.refl (w : World) : Grown w w := ⟨rfl, rfl, rfl, Nat.le_refl _, fun _ _ => rfl⟩
theorem Grown.trans {w w' w'' : World} (h : Grown w w') (k : Grown w' w'') : Grown w w'' :=
  ⟨k.os.trans h.os, k.tape.trans h.tape, k.output.trans h.output, Nat.le_trans h.size k.size, fun b hb => (k.old b (Nat.lt_of_lt_of_le hb h.size)).trans (h.old b hb)⟩
theorem Grown.alloc (w : World) (o : Obj) : Grown w (w.alloc o) := ⟨rfl, rfl, rfl, by simp, fun b hb => Below.heap_alloc _ _ _ hb⟩
theorem Grown.shape {w w' : World} (h : Grown w w') (b : Nat) (x : TypeId × Nat) (hx : w.shape? b = some x) : w'.shape? b = some x := by
  have hb : b < w.heap.size := by
    rcases Nat.lt_or_ge b w.heap.size with hh | hh
    · exact hh
    · simp [World.shape?, Array.getElem?_eq_none hh] at hx
  simp only [World.shape?] at hx ⊢
  rw [h.old b hb]; exact hx

section
variable {c : Ctx} {ι : Nat → Option Nat} {S : Nat → Prop} {σ : Boxes} {w w' : World}

theorem Store.grown (h : Store c ι S σ w) (g : Grown w w') : Store c ι S σ w' ∧ ∀ m v p, VRel m ι S w v p → VRel m ι S w' v p :=
  h.grow g.os g.tape g.output g.size g.old g.shape

/-- A block that is neither cells nor a map. -/
def quiet (w : World) (L : Nat) : Prop := w.shape? L = none ∧ ∀ es clk, w.heap[L]? ≠ some (.map es clk)
theorem View.loud {o : Obj} {c' : Array Value} {cs : List PV} {blk : Nat} (h : View o c' cs) (g : w.heap[blk]? = some o) : ¬ quiet w blk := fun ⟨q1, q2⟩ => by
  rcases h with ⟨e, rfl, _⟩ | ⟨es, clk, _, _, rfl, _⟩
  · simp [World.shape?, g] at q1
  · exact q2 _ _ g

/-- A block that is no cells, and that this walk did not find, turns. -/
theorem Store.turn (h : Store c ι S σ w) {L : Nat} (o' : Obj) (hL : quiet w L) (hS : ¬ S L) (hc : c.w0.heap.size ≤ L) :
    Store c ι S σ (w.putObj L o') ∧ ∀ m v p, VRel m ι S w v p → VRel m ι S (w.putObj L o') v p := by
  have hne : ∀ b, b ≠ L → (w.putObj L o').heap[b]? = w.heap[b]? := fun b hb => World.putObj_heap_other hb
  have hsh : ∀ b x, w.shape? b = some x → (w.putObj L o').shape? b = some x := fun b x hx => by
    have : b ≠ L := fun e => by rw [e, hL.1] at hx; cases hx
    simp only [World.shape?] at hx ⊢
    rw [hne b this]; exact hx
  have hv : ∀ m v p, VRel m ι S w v p → VRel m ι S (w.putObj L o') v p := fun m v p hh =>
    hh.mono (Nat.le_refl _) (fun _ _ => rfl) (fun _ h => h) (fun b o hb => World.cell?_of_block (hne b (fun e => hS (e ▸ hb)))) hsh
  refine ⟨⟨h.os, h.tape, h.output, by simpa using h.size, fun b hb hM => ?_, fun b x hx => hsh b x (h.shape b x hx), fun i cs hi => ?_, h.notS, h.live, h.inj, fun b hb => by simpa using h.Slt b hb, h.S0, h.Snew, h.klen, h.kι⟩, hv⟩
  · rw [hne b (by omega)]; exact h.old b hb hM
  · rcases h.boxes i cs hi with g | ⟨blk, c', e, g1, g2, g3, g4⟩
    · exact .inl g
    · refine .inr ⟨blk, c', e, g1, ?_, g3, fun j p hj => by obtain ⟨v, hv1, hv2⟩ := g4 j p hj; exact ⟨v, hv1, hv _ _ _ hv2⟩⟩
      rw [hne blk (fun e => g3.loud g2 (e ▸ hL))]; exact g2

/-- The same block turns where the walk began, too. -/
theorem Store.turn0 (h : Store c ι S σ w) {L : Nat} (o' : Obj) (hL : quiet w L) (hL0 : quiet c.w0 L) (hS : ¬ S L) (hc : L < c.w0.heap.size) {c2 : Ctx} (hw0 : c2.w0 = c.w0.putObj L o')
    (hM : c2.M = c.M) (hS0 : c2.S0 = c.S0) (hk : c2.k = c.k) (hι : c2.ι0 = c.ι0) :
    Store c2 ι S σ (w.putObj L o') ∧ ∀ m v p, VRel m ι S w v p → VRel m ι S (w.putObj L o') v p := by
  have hne : ∀ b, b ≠ L → (w.putObj L o').heap[b]? = w.heap[b]? := fun b hb => World.putObj_heap_other hb
  have hsh : ∀ b x, w.shape? b = some x → (w.putObj L o').shape? b = some x := fun b x hx => by
    have : b ≠ L := fun e => by rw [e, hL.1] at hx; cases hx
    simp only [World.shape?] at hx ⊢
    rw [hne b this]; exact hx
  have hv : ∀ m v p, VRel m ι S w v p → VRel m ι S (w.putObj L o') v p := fun m v p hh =>
    hh.mono (Nat.le_refl _) (fun _ _ => rfl) (fun _ h => h) (fun b o hb => World.cell?_of_block (hne b (fun e => hS (e ▸ hb)))) hsh
  have hsize : (c.w0.putObj L o').heap.size = c.w0.heap.size := by simp
  have hLw : L < w.heap.size := Nat.lt_of_lt_of_le hc h.size
  refine ⟨⟨by rw [hw0]; exact h.os, by rw [hw0]; exact h.tape, by rw [hw0]; exact h.output, by rw [hw0]; simpa using h.size, fun b hb hMb => ?_, fun b x hx => ?_, fun i cs hi => ?_, h.notS, fun i cs blk h1 h2 => ?_, h.inj, fun b hb => by simpa using h.Slt b hb, fun b hb => h.S0 b (by rw [← hS0]; exact hb), fun b hb => ?_, by rw [hk]; exact h.klen, fun i hi => by rw [hι]; exact h.kι i (by rw [← hk]; exact hi)⟩, hv⟩
  · rw [hw0] at hb ⊢
    by_cases e : b = L
    · subst e
      rw [World.putObj_heap_same hLw, World.putObj_heap_same hc]
    · rw [hne b e, World.putObj_heap_other e]; exact h.old b (by simpa using hb) (by rw [← hM]; exact hMb)
  · rw [hw0] at hx
    by_cases e : b = L
    · subst e
      simp only [World.shape?] at hx ⊢
      rw [World.putObj_heap_same hc] at hx
      rw [World.putObj_heap_same hLw]; exact hx
    · refine hsh b x (h.shape b x ?_)
      simp only [World.shape?] at hx ⊢
      rw [World.putObj_heap_other e] at hx; exact hx
  · rcases h.boxes i cs hi with g | ⟨blk, c', e, g1, g2, g3, g4⟩
    · exact .inl g
    · refine .inr ⟨blk, c', e, g1, ?_, g3, fun j p hj => by obtain ⟨v, hv1, hv2⟩ := g4 j p hj; exact ⟨v, hv1, hv _ _ _ hv2⟩⟩
      rw [hne blk (fun e => g3.loud g2 (e ▸ hL))]; exact g2
  · rw [hM, hw0, hsize]; exact h.live i cs blk h1 h2
  · rw [hS0, hM, hw0, hsize]; exact h.Snew b hb

/-- The walk's standing, begun anew at this world. -/
def Ctx.anew (ι : Nat → Option Nat) (S : Nat → Prop) (σ : Boxes) (w : World) (k : Nat) (ro : Option Nat) (dfs : List Deferred) : Ctx := ⟨w, fun b => ∃ i cs, box σ i = some cs ∧ ι i = some b, S, k, ι, ro, dfs⟩

theorem Store.begin (h : Store c ι S σ w) {k : Nat} (hk : k ≤ σ.length) (ro : Option Nat) (dfs : List Deferred) : Store (Ctx.anew ι S σ w k ro dfs) ι S σ w :=
  ⟨rfl, rfl, rfl, Nat.le_refl _, fun _ _ _ => rfl, fun _ _ h => h, h.boxes, h.notS, fun i cs blk hi hb => .inl ⟨i, cs, hi, hb⟩, h.inj, h.Slt, fun _ h => h, fun _ h => .inl h, hk, fun _ _ => rfl⟩

theorem Store.back (h : Store c ι S σ w) {k : Nat} (hk : c.k ≤ k) {ro : Option Nat} {dfs : List Deferred} {ι' : Nat → Option Nat} {S' : Nat → Prop} {σ' : Boxes}
    (h' : Store (Ctx.anew ι S σ w k ro dfs) ι' S' σ' w') : Store c ι' S' σ' w' := by
  have hM : ∀ b, (∃ i cs, box σ i = some cs ∧ ι i = some b) → c.M b ∨ c.w0.heap.size ≤ b := fun b ⟨i, cs, hcs, hb⟩ => h.live i cs b hcs hb
  refine ⟨h'.os.trans h.os, h'.tape.trans h.tape, h'.output.trans h.output, Nat.le_trans h.size h'.size, fun b hb hbM => ?_, fun b x hx => h'.shape b x (h.shape b x hx), h'.boxes, h'.notS, fun i cs blk hi hb => ?_, h'.inj, h'.Slt, fun b hb => h'.S0 b (h.S0 b hb), fun b hb => ?_, Nat.le_trans hk h'.klen, fun i hi => ?_⟩
  · have := h'.old b (by have := h.size; exact Nat.lt_of_lt_of_le hb this) (fun hm => by rcases hM b hm with h1 | h1; exact hbM h1; omega)
    exact this.trans (h.old b hb hbM)
  · rcases h'.live i cs blk hi hb with h1 | h1
    · exact hM blk h1
    · have h2 : w.heap.size ≤ blk := h1
      have := h.size; exact .inr (by omega)
  · rcases h'.Snew b hb with h1 | h1 | h1
    · exact h.Snew b h1
    · rcases hM b h1 with h2 | h2
      · exact .inr (.inl h2)
      · exact .inr (.inr h2)
    · have h2 : w.heap.size ≤ b := h1
      have := h.size; exact .inr (.inr (by omega))
  · exact (h'.kι i (Nat.lt_of_lt_of_le hi hk)).trans (h.kι i hi)

/-- What was told of values before such a walk is so behind it, the boxes that it had still bearing their numbers. -/
theorem Store.keeps (h : Store c ι S σ w) {k : Nat} {ro : Option Nat} {dfs : List Deferred} {ι' : Nat → Option Nat} {S' : Nat → Prop} {σ' : Boxes}
    (h' : Store (Ctx.anew ι S σ w k ro dfs) ι' S' σ' w') {m : Nat} (hm : m ≤ k) {n : Nat} (hn : m ≤ n) {v : Value} {p : PV} (hv : VRel m ι S w v p) : VRel n ι' S' w' v p :=
  hv.mono hn (fun b hb => h'.kι b (Nat.lt_of_lt_of_le hb hm)) h'.S0 (fun b o hb => World.cell?_of_block (h'.old b (h.Slt b hb) (fun ⟨i, cs, hcs, hib⟩ => h.notS i cs b hcs hib hb))) h'.shape

/-- A block that holds no cells is none of the boxes. -/
theorem Store.notM (h : Store c ι S σ w) {L : Nat} (hL : quiet w L) : ¬ ∃ i cs, box σ i = some cs ∧ ι i = some L := fun ⟨i, cs, hcs, hi⟩ => by
  rcases h.boxes i cs hcs with ⟨g, _⟩ | ⟨blk, c', e, g1, g2, g3, _⟩
  · rw [g] at hi; cases hi
  · rw [g1] at hi; cases hi; exact g3.loud g2 hL
end

/-! ### The walk that may push marks -/
def markOf (D : Nat) : Deferred := { target := .collected D, args := #[] }

structure Later (c c' : Ctx) : Prop where
  ro : c'.ro = none
  k : c'.k = c.k
  st : ∀ ι S σ w, Store c' ι S σ w → Store c ι S σ w
  old : ∀ b, b < c.w0.heap.size → ¬ c.M b → c'.w0.heap[b]? = c.w0.heap[b]? ∧ ¬ c'.M b
  size : c.w0.heap.size ≤ c'.w0.heap.size
  S0 : ∀ b, b < c.w0.heap.size → ¬ c.M b → ¬ c.S0 b → ¬ c'.S0 b
  marks : ∃ ms : List Nat, c'.dfs = ms.map markOf ++ c.dfs ∧ ms.Nodup ∧ ∀ D ∈ ms, c.w0.heap.size ≤ D ∧ c'.w0.heap[D]? = some (.deferred (some [])) ∧ ¬ c'.M D ∧ ¬ c'.S0 D

theorem Later.refl {c : Ctx} (h : c.ro = none) : Later c c := ⟨h, rfl, fun _ _ _ _ h => h, fun _ _ h => ⟨rfl, h⟩, Nat.le_refl _, fun _ _ _ h => h, [], rfl, List.nodup_nil, by simp⟩
theorem Later.trans {c c' c'' : Ctx} (h : Later c c') (g : Later c' c'') : Later c c'' := by
  obtain ⟨ms, e, hn, hm⟩ := h.marks
  obtain ⟨ms', e', hn', hm'⟩ := g.marks
  have hlt : ∀ D ∈ ms, D < c'.w0.heap.size := fun D hD => (Array.getElem?_eq_some_iff.1 (hm D hD).2.1).1
  refine ⟨g.ro, g.k.trans h.k, fun ι S σ w hs => h.st _ _ _ _ (g.st _ _ _ _ hs), fun b hb hM => ?_, Nat.le_trans h.size g.size, fun b hb hM hS => ?_, ms' ++ ms, by rw [e', e]; simp, ?_, fun D hD => ?_⟩
  · obtain ⟨h1, h2⟩ := h.old b hb hM
    obtain ⟨g1, g2⟩ := g.old b (Nat.lt_of_lt_of_le hb h.size) h2
    exact ⟨g1.trans h1, g2⟩
  · exact g.S0 b (Nat.lt_of_lt_of_le hb h.size) (h.old b hb hM).2 (h.S0 b hb hM hS)
  · rw [List.nodup_append]
    refine ⟨hn', hn, fun x hx y hy e => ?_⟩
    subst e
    have := (hm' x hx).1
    have := hlt x hy
    omega
  · rcases List.mem_append.1 hD with h1 | h1
    · obtain ⟨g1, g2⟩ := hm' D h1
      exact ⟨Nat.le_trans h.size g1, g2⟩
    · obtain ⟨g1, g2, g3, g4⟩ := hm D h1
      obtain ⟨k1, k2⟩ := g.old D (hlt D h1) g3
      exact ⟨g1, k1.trans g2, k2, g.S0 D (hlt D h1) g3 g4⟩

def AWp0 (P : Program) (c : Code) (s : St) (Q : Exit → St → Prop) : Prop :=
  ∀ ctx ι S a w, ctx.ro = none → Rel ctx ι S s a w → ∀ QQ : Exit → Act → World → Prop, (∀ e ctx' ι' S' s' a' w', Later ctx ctx' → Rel ctx' ι' S' s' a' w' → Q e s' → QQ e a' w') → c.wpIn Fence.wide 0 P QQ a w

section
variable {P : Program} {s : St} {Q : Exit → St → Prop}

theorem awp0_of {c : Code} (h : AWp P c s Q) : AWp0 P c s Q := fun ctx ι S a w hro hr QQ hQ => by
  have := h ctx ι S a w hr QQ fun e ι' S' s' a' w' hr' hq => hQ e ctx ι' S' s' a' w' (.refl hro) hr' hq
  rwa [hro] at this

theorem awp0_mono {c : Code} {Q' : Exit → St → Prop} (h : AWp0 P c s Q) (hq : ∀ e s', Q e s' → Q' e s') : AWp0 P c s Q' :=
  fun ctx ι S a w hro hr QQ hQ => h ctx ι S a w hro hr QQ fun e c' ι' S' s' a' w' hl hr' hq' => hQ e c' ι' S' s' a' w' hl hr' (hq e s' hq')

theorem awp0_ent {c : Code} {s' : St} (he : Ent s s') (h : AWp0 P c s' Q) : AWp0 P c s Q := fun ctx ι S a w hro hr QQ hQ => by
  obtain ⟨ι', S', hr'⟩ := he ctx ι S a w hr
  exact h ctx ι' S' a w hro hr' QQ hQ

theorem awp0_seq {x y : Code} (h : AWp0 P x s (thenA (fun s' => AWp0 P y s' Q) Q)) : AWp0 P (.seq x y) s Q :=
  fun ctx ι S a w hro hr QQ hQ => wpIn_seq (h ctx ι S a w hro hr _ fun e c' ι' S' s' a' w' hl hr' hq => by
    cases e with
    | normal => exact hq c' ι' S' a' w' hl.ro hr' QQ fun e c2 ι2 S2 s2 a2 w2 hl2 hr2 hq2 => hQ e c2 ι2 S2 s2 a2 w2 (hl.trans hl2) hr2 hq2
    | _ => exact hQ _ _ _ _ _ _ _ hl hr' hq)

theorem awp0_block {id : Nat} {c : Code} (h : AWp0 P c s (inBlockA id Q)) : AWp0 P (.block id c) s Q :=
  fun ctx ι S a w hro hr QQ hQ => wpIn_block (h ctx ι S a w hro hr _ fun e c' ι' S' s' a' w' hl hr' hq => by
    cases e with
    | exit id' =>
      simp only [inBlockA] at hq
      simp only [Exit.inBlock]
      split
      · rename_i hh; rw [if_pos hh] at hq; exact hQ _ _ _ _ _ _ _ hl hr' hq
      · rename_i hh; rw [if_neg hh] at hq; exact hQ _ _ _ _ _ _ _ hl hr' hq
    | _ => exact hQ _ _ _ _ _ _ _ hl hr' hq)

theorem awp0_cond {x y : Code} {cnd : Operand} {t : Bool} (hc : opd s cnd = some (.k (.bool t))) (h : if t then AWp0 P x s Q else AWp0 P y s Q) : AWp0 P (.cond cnd x y) s Q :=
  fun ctx ι S a w hro hr QQ hQ => by
    have hv := (opd_rel hr hc).k_inv.1
    cases t with
    | true => exact wpIn_cond_true hv (h ctx ι S a w hro hr QQ hQ)
    | false => exact wpIn_cond_false hv (h ctx ι S a w hro hr QQ hQ)

theorem awp0_loop {α : Type} {c : Code} (I : α → St) (J : α → Prop) (μ : α → Nat) (x0 : α) (h0 : Ent s (I x0)) (hJ : J x0)
    (round : ∀ x, J x → AWp0 P c (I x) (thenA (fun s' => ∃ y, J y ∧ μ y < μ x ∧ Ent s' (I y)) Q)) : AWp0 P (.loop c) s Q := by
  intro ctx0 ι S a w hro0 hr QQ hQ b k cs hro hb hrm
  have key : ∀ n : Nat, ∀ x, J x → μ x = n → ∀ ctx ι S a w, ctx.ro = none → Later ctx0 ctx → Rel ctx ι S (I x) a w →
      ∃ e a' w', QQ e a' w' ∧ ArrivesIn (Machine.fenced P Fence.wide) P (lone (b.atR a (.code c :: .inLoop c :: k)) cs w) b k cs e a' w' := by
    intro n
    induction n using Nat.strongRecOn with
    | _ n ih =>
      intro x hJx hμ ctx ι S a w hroc hlc hr
      obtain ⟨e, a₁, w₁, hq, harr⟩ := round x hJx ctx ι S a w hroc hr (fun e a' w' => (e = .normal ∧ ∃ y ctx' ι' S', J y ∧ μ y < n ∧ ctx'.ro = none ∧ Later ctx0 ctx' ∧ Rel ctx' ι' S' (I y) a' w') ∨ (e ≠ .normal ∧ QQ e a' w')) (fun e ctx' ι' S' s' a' w' hl hr' hq => by
        cases e with
        | normal =>
          obtain ⟨y, hJy, hlt, he⟩ := hq
          obtain ⟨ι2, S2, hr2⟩ := he _ _ _ _ _ hr'
          exact .inl ⟨rfl, y, ctx', ι2, S2, hJy, by omega, hl.ro, hlc.trans hl, hr2⟩
        | _ => exact .inr ⟨by simp, hQ _ _ _ _ _ _ _ (hlc.trans hl) hr' hq⟩) b (.inLoop c :: k) cs hro hb hrm
      rcases hq with ⟨rfl, y, ctx', ι', S', hJy, hlt, hroc', hl', hr'⟩ | ⟨hne, hq⟩
      · obtain ⟨e₂, a₂, w₂, hq₂, harr₂⟩ := ih (μ y) hlt y hJy rfl ctx' ι' S' a₁ w₁ hroc' hl' hr'
        exact ⟨e₂, a₂, w₂, hq₂, .of_steps (StepsIn.trans harr (.one (fenced_wide _ _) stepR_inLoop)) harr₂⟩
      · exact ⟨e, a₁, w₁, hq, .pass (x := .inLoop c) rfl (fun _ _ => .inl hne) harr⟩
  obtain ⟨ι2, S2, hr2⟩ := h0 _ _ _ _ _ hr
  obtain ⟨e, a', w', hq, harr⟩ := key _ x0 hJ rfl ctx0 ι2 S2 a w hro0 (.refl hro0) hr2
  exact ⟨e, a', w', hq, .of_steps (.one (fenced_wide _ _) stepR_loop) harr⟩

/-! ### The function's end -/
theorem leaves_marks {fn : Func} {tmps : Array Value} {R : Ending → World → Prop} (c : Ctx) (ι : Nat → Option Nat) (S : Nat → Prop) (σ : Boxes) : ∀ (ms : List Nat) (w : World), Store c ι S σ w → ms.Nodup →
    (∀ D ∈ ms, w.heap[D]? = some (.deferred (some [])) ∧ c.w0.heap.size ≤ D ∧ ¬ S D) →
    (∀ w', Store c ι S σ w' → (∀ m v p, VRel m ι S w v p → VRel m ι S w' v p) → ∃ v, (results fn tmps).run P w' = .ok v w' ∧ R (.returned v) w') →
    LeavesInM Fence.wide 0 P fn tmps R (ms.map markOf) .returning w
  | [], w, hst, _, _, h => h w hst (fun _ _ _ h => h)
  | D :: ms, w, hst, hn, hm, h => by
    obtain ⟨h1, h2, h3⟩ := hm D (by simp)
    have hn2 := List.nodup_cons.1 hn
    obtain ⟨hst', hv'⟩ := hst.turn (.deferred none) (L := D) ⟨by simp [World.shape?, h1], by simp [h1]⟩ h3 h2
    refine ⟨by simp, .inl ⟨D, _, rfl, run_takeDeferred h1, ?_⟩⟩
    refine leaves_marks c ι S σ ms _ hst' hn2.2 (fun D' hD' => ?_) (fun w' hw' hv => h w' hw' fun m v p hp => hv m v p (hv' m v p hp))
    obtain ⟨g1, g2, g3⟩ := hm D' (by simp [hD'])
    exact ⟨by rw [World.putObj_heap_other (fun e => by subst e; exact hn2.1 hD')]; exact g1, g2, g3⟩

theorem fng_of0 {f : FuncId} {fn : Func} {code : Code} {args : List PV} {σ : List (List PV)} {R : PV → Boxes → Prop} (hf : P.funcs[f]? = some fn) (hb : fn.body = some code)
    (h : AWp0 P code (entry fn args σ) fun e s' => RetOk e ∧ FinG P fn.results.toList R s') : FnG P f args σ R := by
  intro ι S w vals hs hl hv
  refine callsIn_wide.1 (callsIn_of_wp_marks (F := Fence.wide) (n := 0) hf hb trivial ?_)
  have hrel : Rel (cx w ι S σ.length) ι S (entry fn args σ) { tmps := vals.toArray ++ Array.replicate (fn.ntmps - vals.toArray.size) undef, defers := [] } w := by
    refine ⟨hs, rfl, by simp [entry, hl], rfl, fun t p ht => ?_⟩
    obtain ⟨_, hp⟩ := look_entryT args 0 t p ht
    simp only [Nat.sub_zero] at hp
    obtain ⟨v, hv1, hv2⟩ := hv t p hp
    have hlt := (List.getElem?_eq_some_iff.1 hv1).1
    have e : (vals.toArray ++ Array.replicate (fn.ntmps - vals.toArray.size) undef).getD t undef = v := by
      rw [Array.getD_eq_getD_getElem?, Array.getElem?_append_left (by simpa using hlt)]
      simp [hv1]
    rw [e]
    simpa [entry] using hv2
  refine h _ _ _ _ _ rfl hrel _ fun e c' ι' S' s' a' w' hlat hr' hq => ?_
  obtain ⟨he, s2, p, p2, th, σ2, hent, hres, rfl, h1, h2, h3, h4, h5, h6, hR⟩ := hq
  obtain ⟨ι2, S2, hr2⟩ := hent _ _ _ _ _ hr'
  obtain ⟨ms, hms, hnd, hm⟩ := hlat.marks
  have hdf : a'.defers = ms.map markOf := by rw [hr2.defers, hms]; simp [cx]
  have hst0 : Store (cx w ι S σ.length) ι2 S2 s2.σ w' := hlat.st _ _ _ _ hr2.st
  have hleave : LeavesInM Fence.wide 0 P fn a'.tmps (fun e w' => ∃ v p σ' ι' S', e = .returned v ∧ R p σ' ∧ Store (cx w ι S σ.length) ι' S' σ' w' ∧ VRel σ'.length ι' S' w' v p) a'.defers .returning w' := by
    rw [hdf]
    refine leaves_marks (cx w ι S σ.length) ι2 S2 s2.σ ms w' hst0 hnd (fun D hD => ?_) fun w2 hw2 hv2 => ?_
    · obtain ⟨g1, g2, g3, g4⟩ := hm D hD
      have hDlt := (Array.getElem?_eq_some_iff.1 g2).1
      refine ⟨(hr2.st.old D hDlt g3).trans g2, g1, fun hS => ?_⟩
      rcases hr2.st.Snew D hS with k1 | k1 | k1
      · exact g4 k1
      · exact g3 k1
      · omega
    · have hr3 : Rel (cx w ι S σ.length) ι2 S2 s2 { a' with defers := [] } w2 := ⟨hw2, hlat.k.symm.trans hr2.ck, hr2.tsz, rfl, fun t p ht => hv2 _ _ _ (hr2.temps t p ht)⟩
      obtain ⟨v, hrun, hvp⟩ := run_results (fn := fn) hr3 hres
      obtain ⟨ι3, hst, hvp2⟩ := store_ren hr3 th h2 h3 h4 h5 h6 hvp h1
      exact ⟨v, hrun, v, p2, σ2, ι3, S2, rfl, hR, hst, hvp2⟩
  cases e with
  | normal => exact hleave
  | ret => exact hleave
  | _ => exact he.elim
end
end Go.Proofs.YtidhdlhblhbahaaGreat.Am

/- The machine of values: range over a function: the statement. -/
set_option linter.unusedVariables false
set_option linter.unusedSimpArgs false
namespace Go.Proofs.YtidhdlhblhbahaaGreat.Am
open Go Go.RowKit

def Yields (P : Program) (l : Nat) (args : Array Value) (W : World) (R : World → Prop) : Prop := YieldAt Fence.wide 0 P l args W fun e W' => e = .returned (.bool true) ∧ R W'

/-- What the loop says to the function that it goes over: each row is taken, and what was frozen (K) lies as it lay. -/
def YieldsOk (P : Program) (l : Nat) (items : List (List PV × List (List PV))) (J : Nat → (Nat → Prop) → World → Prop) : Prop :=
  ∀ (i : Nat) (args : List PV) (σc : List (List PV)) (W0 W : World) (K : Nat → Prop) (ι : Nat → Option Nat) (S1 : Nat → Prop) (vals : List Value), items[i]? = some (args, σc) → J i K W0 → Grown W0 W →
      Store (cx W ι S1 σc.length) ι S1 (σc.map some) W → (∀ i blk, i < σc.length → ι i = some blk → W0.heap.size ≤ blk) → (∀ b, K b → S1 b) → (∀ b, S1 b → K b ∨ W0.heap.size ≤ b) →
      vals.length = args.length → (∀ (j : Nat) (p : PV), args[j]? = some p → ∃ v, vals[j]? = some v ∧ VRel σc.length ι S1 W v p) →
      Yields P l vals.toArray W fun W' => J (i + 1) S1 W' ∧ (∀ b, S1 b → W'.heap[b]? = W.heap[b]?) ∧ W.heap.size ≤ W'.heap.size

/-- The function gf over caps hands the rows of items to yield, one by one, as long as yield says true; between two of them it lays new blocks alone. Each row: the values, and the boxes that go with them. -/
def SeqOk (P : Program) (gf : FuncId) (caps : List PV) (items : List (List PV × List (List PV))) : Prop :=
  ∀ (K : Nat → Prop) (w : World) (lb : Array Value) (l : Nat) (J : Nat → (Nat → Prop) → World → Prop),
    (∀ b, K b → b < w.heap.size) → lb.size = caps.length → (∀ (j : Nat) (p : PV), caps[j]? = some p → IRel K w (lb.getD j undef) p) → YieldsOk P l items J →
    J 0 K w → Calls P gf (#[.func (.yield l) #[] #[]] ++ lb) w fun e W' => (∃ v, e = .returned v) ∧ ∃ W0 K', J items.length K' W0 ∧ Grown W0 W'

def parT (T : List (Nat × PV)) (l : List (Nat × PV)) : List (Nat × PV) := l.foldl (fun T x => x :: T) T

section
variable {c : Ctx} {ι ι1 : Nat → Option Nat} {S S0 S1 : Nat → Prop} {σ : Boxes} {w W0 W : World}

theorem parT_rel {n : Nat} {ι : Nat → Option Nat} {S : Nat → Prop} {w : World} {N : Nat} : ∀ (l : List (Nat × PV)) (vs : List Value) (T : List (Nat × PV)) (tmps : Array Value), tmps.size = N → l.length = vs.length → (∀ x ∈ l, x.1 < N) →
    (∀ (j : Nat) (x : Nat × PV) (v : Value), l[j]? = some x → vs[j]? = some v → VRel n ι S w v x.2) → (∀ t p, look T t = some p → VRel n ι S w (tmps.getD t undef) p) →
    (((l.map (·.1)).zip vs).foldl (fun t (x : Nat × Value) => t.setIfInBounds x.1 x.2) tmps).size = N ∧
    ∀ t p, look (parT T l) t = some p → VRel n ι S w ((((l.map (·.1)).zip vs).foldl (fun t (x : Nat × Value) => t.setIfInBounds x.1 x.2) tmps).getD t undef) p
  | [], vs, T, tmps, hN, _, _, _, hT => ⟨by simpa using hN, by simpa [parT] using hT⟩
  | x :: l, [], T, tmps, hN, hl, _, _, hT => by simp at hl
  | x :: l, v :: vs, T, tmps, hN, hl, hlt, hv, hT => by
    simp only [List.map_cons, List.zip_cons_cons, List.foldl_cons, parT]
    refine parT_rel l vs (x :: T) (tmps.setIfInBounds x.1 v) (by simpa using hN) (by simpa using hl) (fun y hy => hlt y (by simp [hy])) (fun j y u hj hu => hv (j + 1) y u (by simpa using hj) (by simpa using hu)) fun t p ht => ?_
    have hx := hlt x (by simp)
    obtain ⟨t0, p0⟩ := x
    simp only [look] at ht
    rw [Array.getD_eq_getD_getElem?]
    split at ht
    · rename_i e; subst e; simp at ht; subst ht
      rw [Array.getElem?_setIfInBounds_self_of_lt (by rw [hN]; exact hx)]
      exact hv 0 (t, p0) v rfl rfl
    · rename_i e
      rw [Array.getElem?_setIfInBounds_ne (fun h => e h.symm), ← Array.getD_eq_getD_getElem?]
      exact hT t p ht

/-- The boxes that come with a row are the walk's own. -/
theorem Store.adoptAll (h0 : Store c ι S σ W0) (g : Grown W0 W) {σc : List (List PV)} (h1 : Store (cx W ι1 S1 σc.length) ι1 S1 (σc.map some) W) (hf : ∀ i blk, i < σc.length → ι1 i = some blk → W0.heap.size ≤ blk)
    (hS0 : ∀ b, S0 b → S b) (hS1 : ∀ b, S1 b → S0 b ∨ W0.heap.size ≤ b) :
    ∃ ι2, Store c ι2 (fun b => S b ∨ S1 b) (σ ++ (σc.map (renL (fun j => σ.length + j))).map some) W ∧
      (∀ v p, VRel σ.length ι S W0 v p → VRel (σ.length + σc.length) ι2 (fun b => S b ∨ S1 b) W v p) ∧
      (∀ v p, VRel σc.length ι1 S1 W v p → VRel (σ.length + σc.length) ι2 (fun b => S b ∨ S1 b) W v (p.ren (fun j => σ.length + j))) := by
  obtain ⟨h, hg⟩ := h0.grown g
  let ι2 : Nat → Option Nat := fun i => if i < σ.length then ι i else ι1 (i - σ.length)
  have e1 : ∀ i, i < σ.length → ι2 i = ι i := fun i hi => by simp [ι2, hi]
  have e2 : ∀ j, ι2 (σ.length + j) = ι1 j := fun j => by simp only [ι2]; rw [if_neg (by omega)]; congr 1; omega
  have hv0 : ∀ v p, VRel σ.length ι S W v p → VRel (σ.length + σc.length) ι2 (fun b => S b ∨ S1 b) W v p := fun v p hh =>
    hh.mono (by omega) e1 (fun _ h => .inl h) (fun _ _ _ => rfl) (fun _ _ h => h)
  have hv1 : ∀ v p, VRel σc.length ι1 S1 W v p → VRel (σ.length + σc.length) ι2 (fun b => S b ∨ S1 b) W v (p.ren (fun j => σ.length + j)) := fun v p hh => by
    have hh : VRel σc.length ι1 (fun b => S b ∨ S1 b) W v p := hh.mono (Nat.le_refl _) (fun _ _ => rfl) (fun _ h => .inr h) (fun _ _ _ => rfl) (fun _ _ h => h)
    exact hh.ren fun b hb => ⟨by omega, e2 b⟩
  have hlen : (σ ++ (σc.map (renL (fun j => σ.length + j))).map some).length = σ.length + σc.length := by simp
  have hcase : ∀ i ci, box (σ ++ (σc.map (renL (fun j => σ.length + j))).map some) i = some ci → (i < σ.length ∧ box σ i = some ci) ∨ ∃ j cj, i = σ.length + j ∧ box (σc.map some) j = some cj ∧ ci = renL (fun j => σ.length + j) cj := fun i ci hi => by
    rw [box_append] at hi
    split at hi
    · exact .inl ⟨‹_›, hi⟩
    · refine .inr ⟨i - σ.length, ?_⟩
      rw [box_some, List.getElem?_map] at hi
      simp only [Option.map_eq_some_iff] at hi
      obtain ⟨cj, hcj, rfl⟩ := hi
      exact ⟨cj, by omega, by rw [box_some]; exact hcj, rfl⟩
  have hblt : ∀ i ci blk, box σ i = some ci → ι i = some blk → blk < W0.heap.size := fun i ci blk hi hb => by
    rcases h0.boxes i ci hi with ⟨h', _⟩ | ⟨blk', c', e', hb', g1, _⟩
    · rw [h'] at hb; simp at hb
    · rw [hb'] at hb; simp at hb; subst hb; exact (Array.getElem?_eq_some_iff.1 g1).1
  have hclt : ∀ j cj, box (σc.map some) j = some cj → j < σc.length := fun j cj hj => by simpa using box_lt hj
  refine ⟨ι2, ⟨h.os, h.tape, h.output, h.size, h.old, h.shape, fun i ci hi => ?_, fun i ci blk hi hb => ?_, fun i ci blk hi hb => ?_, fun i i' ci ci' blk hi hi' hb hb' => ?_, fun b hb => ?_, fun b hb => .inl (h.S0 b hb), fun b hb => ?_, ?_, fun i hi => ?_⟩, fun v p hv => hv0 v p (hg _ _ _ hv), hv1⟩
  · rw [hlen]
    rcases hcase i ci hi with ⟨hin, hb⟩ | ⟨j, cj, rfl, hb, rfl⟩
    · rcases h.boxes i ci hb with ⟨h', h''⟩ | ⟨blk, c', e', hb', g1, g0, g2⟩
      · exact .inl ⟨by rw [e1 i hin]; exact h', h''⟩
      · exact .inr ⟨blk, c', e', by rw [e1 i hin]; exact hb', g1, g0, fun j p hj => by obtain ⟨v, hv, hr⟩ := g2 j p hj; exact ⟨v, hv, hv0 _ _ hr⟩⟩
    · rcases h1.boxes j cj hb with ⟨h', h''⟩ | ⟨blk, c', e', hb', g1, g0, g2⟩
      · exact .inl ⟨by rw [e2]; exact h', by rw [h'']; rfl⟩
      · refine .inr ⟨blk, c', e', by rw [e2]; exact hb', g1, g0.ren _, fun q p hq => ?_⟩
        · rw [renL_map] at hq; simp at hq; obtain ⟨p', hp', rfl⟩ := hq
          obtain ⟨v, hv, hr⟩ := g2 q p' hp'; exact ⟨v, hv, hv1 _ _ (by simpa using hr)⟩
  · rcases hcase i ci hi with ⟨hin, hbx⟩ | ⟨j, cj, rfl, hbx, rfl⟩
    · rw [e1 i hin] at hb
      have hlt := hblt i ci blk hbx hb
      rintro (k | k)
      · exact h.notS i ci blk hbx hb k
      · rcases hS1 blk k with k1 | k1
        · exact h.notS i ci blk hbx hb (hS0 _ k1)
        · omega
    · rw [e2] at hb
      have hge := hf j blk (hclt j cj hbx) hb
      rintro (k | k)
      · have := h0.Slt blk k; omega
      · exact h1.notS j cj blk hbx hb k
  · rcases hcase i ci hi with ⟨hin, hbx⟩ | ⟨j, cj, rfl, hbx, rfl⟩
    · rw [e1 i hin] at hb; exact h.live i ci blk hbx hb
    · rw [e2] at hb
      have hge := hf j blk (hclt j cj hbx) hb
      have := h0.size
      exact .inr (by omega)
  · rcases hcase i ci hi with ⟨hin, hbx⟩ | ⟨j, cj, rfl, hbx, rfl⟩ <;> rcases hcase i' ci' hi' with ⟨hin', hbx'⟩ | ⟨j', cj', rfl, hbx', rfl⟩
    · rw [e1 i hin] at hb; rw [e1 i' hin'] at hb'; exact h.inj i i' ci ci' blk hbx hbx' hb hb'
    · rw [e1 i hin] at hb; rw [e2] at hb'
      have := hblt i ci blk hbx hb; have := hf j' blk (hclt j' cj' hbx') hb'; omega
    · rw [e1 i' hin'] at hb'; rw [e2] at hb
      have := hblt i' ci' blk hbx' hb'; have := hf j blk (hclt j cj hbx) hb; omega
    · rw [e2] at hb hb'
      rw [h1.inj j j' cj cj' blk hbx hbx' hb hb']
  · rcases hb with k | k
    · exact h.Slt b k
    · exact h1.Slt b k
  · rcases hb with k | k
    · exact h.Snew b k
    · rcases hS1 b k with k1 | k1
      · exact h.Snew b (hS0 b k1)
      · have := h0.size; exact .inr (.inr (by omega))
  · rw [hlen]; have := h.klen; omega
  · have := h.klen
    rw [e1 i (by omega)]; exact h.kι i hi
end

section
variable {P : Program} {s : St} {Q : Exit → St → Prop}

/-- The state in which a round begins. -/
def roundSt (s : St) (ps : Array Tmp) (σ : Boxes) (args : List PV) (σc : List (List PV)) : St :=
  ⟨s.N, parT s.T (ps.toList.zip (renL (fun j => σ.length + j) args)), σ ++ (σc.map (renL (fun j => σ.length + j))).map some, σ.length + σc.length⟩

theorem zip_fst {α β : Type} : ∀ (l : List α) (m : List β), l.length = m.length → (l.zip m).map (·.1) = l
  | [], _, _ => rfl
  | a :: l, [], h => by simp at h
  | a :: l, b :: m, h => by simp [zip_fst l m (by simpa using h)]

theorem awp0_range {g : Operand} {ps : Array Tmp} {assign body : Code} {gf : FuncId} {caps : List PV} {items : List (List PV × List (List PV))} (I : Nat → Boxes)
    (hseq : SeqOk P gf caps items) (hg : calleePV s g = some (gf, caps)) (he : enterable P gf = true) (hc : caps.all PV.immB = true) (h0 : s.σ = I 0)
    (hps : ∀ x ∈ items, x.1.length = ps.size) (hN : ∀ t ∈ ps.toList, t < s.N)
    (hround : ∀ i args σc, items[i]? = some (args, σc) → AWp P assign (roundSt s ps (I i) args σc) fun e s1 => e = .normal ∧ AWp P body s1 fun e s' => e = .normal ∧ ∃ s2, Ent s' s2 ∧ Ent ⟨s.N, s.T, s2.σ, s.k⟩ ⟨s.N, s.T, I (i + 1), s.k⟩)
    (h : Q .normal ⟨s.N, s.T, I items.length, s.k⟩) : AWp0 P (.rangeFunc g ps assign body) s Q := by
  intro ctx ι S a w hro hr QQ hQ
  obtain ⟨lb, hgv, hlb, hcaps⟩ := callee_rel hr hg
  have hcap : ∀ (j : Nat) (p : PV), caps[j]? = some p → IRel S w (lb.getD j undef) p := fun j p hj => by
    obtain ⟨v, hv1, hv2⟩ := hcaps j p hj
    have : lb.getD j undef = v := by rw [Array.getD_eq_getD_getElem?, hv1]; rfl
    rw [this]
    exact hv2.immI (List.all_eq_true.1 hc p (List.mem_of_getElem? hj))
  have hent : ∀ args w, (callFunc gf args).run P w = .ok (.enter gf args) w := fun args w => by
    unfold enterable at he
    split at he
    · rename_i fn hfn
      simp at he
      obtain ⟨cd, hb⟩ := Option.isSome_iff_exists.1 he.2
      exact enters_of hfn (by simpa using he.1) hb args w
    · simp at he
  have hσ := hr.st
  refine wpIn_rangeFunc ?_
  intro fn hfn
  obtain ⟨rec, hrec⟩ : ∃ rec : LoopState → Option Code → Loop, rec = fun st pe => { state := st, pending := pe, fn, tmps := a.tmps, params := ps, assign, body, defers := w.heap.size } := ⟨_, rfl⟩
  obtain ⟨W1, hW1⟩ : ∃ W1, (w.alloc (.deferred (some []))).alloc (.loop (rec .ready none)) = W1 := ⟨_, rfl⟩
  have hL1 : W1.heap[w.heap.size + 1]? = some (.loop (rec .ready none)) := by
    rw [← hW1]; have := World.alloc_heap_new (w.alloc (.deferred (some []))) (.loop (rec .ready none)); rwa [World.size_alloc] at this
  have hK1 : W1.heap[w.heap.size]? = some (.deferred (some [])) := by
    rw [← hW1]; exact (Below.heap_alloc _ _ _ (by simp)).trans (World.alloc_heap_new w _)
  have hG1 : Grown w W1 := by rw [← hW1]; exact (Grown.alloc w _).trans (.alloc _ _)
  have hsz1 : W1.heap.size = w.heap.size + 2 := by rw [← hW1]; simp
  let J : Nat → (Nat → Prop) → World → Prop := fun i K W => ∃ ι S', Rel ctx ι S' ⟨s.N, s.T, I i, s.k⟩ a W ∧ (∀ b, K b → S' b) ∧ ¬ S' (w.heap.size + 1) ∧ ¬ S' w.heap.size ∧
    W.heap[w.heap.size + 1]? = some (.loop (rec .ready none)) ∧ W.heap[w.heap.size]? = some (.deferred (some []))
  have hJ0 : J 0 S W1 := by
    obtain ⟨g1, g2⟩ := hσ.grown hG1
    refine ⟨ι, S, ⟨by rw [← h0]; exact g1, hr.ck, hr.tsz, hr.defers, fun t p ht => by rw [← h0]; exact g2 _ _ _ (hr.temps t p ht)⟩, fun _ h => h, fun hh => ?_, fun hh => ?_, hL1, hK1⟩
    · have := hσ.Slt _ hh; omega
    · have := hσ.Slt _ hh; omega
  have hshL : ∀ {W : World} {st : LoopState} {pe : Option Code}, W.heap[w.heap.size + 1]? = some (.loop (rec st pe)) → quiet W (w.heap.size + 1) := fun hh => ⟨by simp [World.shape?, hh], by simp [hh]⟩
  have hshL' : ∀ {W : World} {r : Loop}, W.heap[w.heap.size + 1]? = some (.loop r) → quiet W (w.heap.size + 1) := fun hh => ⟨by simp [World.shape?, hh], by simp [hh]⟩
  have hshD : ∀ {W : World} {d : Option (List Deferred)}, W.heap[w.heap.size]? = some (.deferred d) → quiet W w.heap.size := fun hh => ⟨by simp [World.shape?, hh], by simp [hh]⟩
  have hcs := hσ.size
  refine ⟨w.heap.size + 1, [markOf w.heap.size], W1, { target := .fn (.func gf) lb, args := #[.func (.yield (w.heap.size + 1)) #[] #[]] }, W1, gf,
    #[.func (.yield (w.heap.size + 1)) #[] #[]] ++ lb, W1, ?_, ?_, fun _ _ => trivial, ?_, (fun h => by cases h), ?_⟩
  · rw [← hW1, hrec]; exact run_enterLoop_outer _ _ _ _ _
  · simp only [resolve, hgv]
    simp [go_sem]
  · simp [invoke, go_sem, hent]
  · refine callsIn_wide.2 ((hseq S W1 lb (w.heap.size + 1) J (fun b hb => by have := hσ.Slt b hb; omega) hlb (fun j p hj => (hcap j p hj).mono (fun _ h => h) (fun b o hb => World.cell?_of_block (hG1.old b (hσ.Slt b hb)))) ?_ hJ0).mono ?_)
    · -- one round
      rintro i args σc W0 W K ι1 S1 vals hi ⟨ι0, S0, hr0, hSS, hSL, hSD, hL, hD⟩ hG hst1 hfr hS1a hS1b hvl hv
      have hlt0 : w.heap.size + 1 < W0.heap.size := (Array.getElem?_eq_some_iff.1 hL).1
      have hLW : W.heap[w.heap.size + 1]? = some (.loop (rec .ready none)) := (hG.old _ hlt0).trans hL
      have hDW : W.heap[w.heap.size]? = some (.deferred (some [])) := (hG.old _ (by omega)).trans hD
      have hltW : w.heap.size + 1 < W.heap.size := (Array.getElem?_eq_some_iff.1 hLW).1
      obtain ⟨ι2, hst2, hm0, hm1⟩ := hr0.st.adoptAll hG hst1 hfr hSS hS1b
      have hlenp : args.length = ps.size := hps _ (List.mem_of_getElem? hi)
      have hy := run_yield (P := P) (args := vals.toArray) hLW (by rw [hrec]; simp [hvl, hlenp])
      -- the round's first standing
      have hrz : (ps.toList.zip (renL (fun j => (I i).length + j) args)).map (·.1) = ps.toList := zip_fst _ _ (by rw [renL_map]; simp [hlenp])
      have hpar := parT_rel (n := (I i).length + σc.length) (ι := ι2) (S := fun b => S0 b ∨ S1 b) (w := W) (N := s.N) (ps.toList.zip (renL (fun j => (I i).length + j) args)) vals s.T a.tmps hr0.tsz
        (by rw [renL_map]; simp [hlenp, hvl]) (fun x hx => hN x.1 (List.of_mem_zip hx).1)
        (fun j x v hj hv' => by
          rw [List.getElem?_zip_eq_some] at hj
          obtain ⟨_, hj2⟩ := hj
          rw [renL_map, List.getElem?_map] at hj2
          simp only [Option.map_eq_some_iff] at hj2
          obtain ⟨p, hp, hp2⟩ := hj2
          obtain ⟨v', hv1, hv2⟩ := hv j p hp
          rw [hv1] at hv'; cases hv'
          rw [← hp2]
          exact hm1 _ _ hv2)
        (fun t p ht => hm0 _ _ (hr0.temps t p ht))
      rw [hrz] at hpar
      have hst2' := hst2.begin (k := (I i).length + σc.length) (by simp) (some (w.heap.size + 1)) []
      have hnS2L : ¬ (S0 (w.heap.size + 1) ∨ S1 (w.heap.size + 1)) := by
        rintro (k | k)
        · exact hSL k
        · rcases hS1b _ k with k1 | k1
          · exact hSL (hSS _ k1)
          · omega
      have hnS2D : ¬ (S0 w.heap.size ∨ S1 w.heap.size) := by
        rintro (k | k)
        · exact hSD k
        · rcases hS1b _ k with k1 | k1
          · exact hSD (hSS _ k1)
          · omega
      have hrel1 : Rel (Ctx.anew ι2 (fun b => S0 b ∨ S1 b) (I i ++ (σc.map (renL (fun j => (I i).length + j))).map some) W ((I i).length + σc.length) (some (w.heap.size + 1)) []) ι2 (fun b => S0 b ∨ S1 b) (roundSt s ps (I i) args σc)
          { tmps := (ps.toList.zip vals).foldl (fun t (x : Nat × Value) => t.setIfInBounds x.1 x.2) a.tmps, defers := [] } W :=
        ⟨hst2', rfl, hpar.1, rfl, fun t p ht => by simpa [roundSt] using hpar.2 t p ht⟩
      refine ⟨fn, _, assign, body, by rw [hrec] at hy; exact hy, roundIn_of_wpIn hfn ?_⟩
      have hfold : ((ps.zip vals.toArray).foldl (fun t (x : Nat × Value) => t.setIfInBounds x.1 x.2) a.tmps) = (ps.toList.zip vals).foldl (fun t (x : Nat × Value) => t.setIfInBounds x.1 x.2) a.tmps := by
        rw [← Array.foldl_toList]; simp
      have hold2 : ∀ b, S1 b → ¬ ∃ i' cs, box (I i ++ (σc.map (renL (fun j => (I i).length + j))).map some) i' = some cs ∧ ι2 i' = some b := fun b hb ⟨i', cs, k1, k2⟩ => hst2.notS i' cs b k1 k2 (.inr hb)
      have hnM1 := hst2.notM (hshL hLW)
      have hnMD := hst2.notM (hshD hDW)
      have key := hround i args σc hi _ _ _ _ _ hrel1 (Exit.then (fun a₁ w₁ => ∃ w₂, (Instr.beginRound (w.heap.size + 1)).run P w₁ = .ok () w₂ ∧ body.wpIn (Fence.wide.inRound (w.heap.size + 1)) 0 P
        (roundPost P (w.heap.size + 1) fun e W' => e = .returned (.bool true) ∧ J (i + 1) S1 W' ∧ (∀ b, S1 b → W'.heap[b]? = W.heap[b]?) ∧ W.heap.size ≤ W'.heap.size) a₁ w₂) (fun _ _ _ => False)) ?_
      · simp only
        have e : ((ps.zip vals.toArray).foldl (fun tmps (x : Tmp × Value) => match x with | (t, a) => tmps.setIfInBounds t a) a.tmps) = (ps.toList.zip vals).foldl (fun t (x : Nat × Value) => t.setIfInBounds x.1 x.2) a.tmps := by
          rw [← Array.foldl_toList]; simp
        rw [e]
        exact key
      · rintro e ι3 S3 s1 a1 w1 hr1 ⟨rfl, hb1⟩
        have hL3 : w1.heap[w.heap.size + 1]? = some (.loop (rec .ready none)) := (hr1.st.old _ hltW hnM1).trans hLW
        refine ⟨_, run_beginRound hL3 (by rw [hrec]), ?_⟩
        have hnS3 : ¬ S3 (w.heap.size + 1) := fun k => by
          rcases hr1.st.Snew _ k with k1 | k1 | k1
          · exact hnS2L k1
          · exact hnM1 k1
          · have : W.heap.size ≤ w.heap.size + 1 := k1
            omega
        -- the record is busy from here on
        obtain ⟨hst3, hm3⟩ := hr1.st.turn0 (.loop { rec .ready none with state := .busy }) (L := w.heap.size + 1) (hshL hL3) (hshL hLW) hnS3 hltW
          (c2 := Ctx.anew ι2 (fun b => S0 b ∨ S1 b) (I i ++ (σc.map (renL (fun j => (I i).length + j))).map some) (W.putObj (w.heap.size + 1) (.loop { rec .ready none with state := .busy })) ((I i).length + σc.length) (some (w.heap.size + 1)) []) rfl rfl rfl rfl rfl
        obtain ⟨hst2b, hm2b⟩ := hst2.turn (.loop { rec .ready none with state := .busy }) (L := w.heap.size + 1) (hshL hLW) hnS2L (by omega)
        have hrel3 : Rel (Ctx.anew ι2 (fun b => S0 b ∨ S1 b) (I i ++ (σc.map (renL (fun j => (I i).length + j))).map some) (W.putObj (w.heap.size + 1) (.loop { rec .ready none with state := .busy })) ((I i).length + σc.length) (some (w.heap.size + 1)) []) ι3 S3 s1 a1
            (w1.putObj (w.heap.size + 1) (.loop { rec .ready none with state := .busy })) := ⟨hst3, hr1.ck, hr1.tsz, hr1.defers, fun t p ht => hm3 _ _ _ (hr1.temps t p ht)⟩
        refine hb1 _ _ _ _ _ hrel3 _ ?_
        rintro e ι4 S4 s4 a4 w4 hr4 ⟨rfl, s5, he5, he6⟩
        obtain ⟨ι5, S5, hr5⟩ := he5 _ _ _ _ _ hr4
        have hszb : (W.putObj (w.heap.size + 1) (.loop { rec .ready none with state := .busy })).heap.size = W.heap.size := by simp
        have hL5 : w4.heap[w.heap.size + 1]? = some (.loop { rec .ready none with state := .busy }) := (hr5.st.old (w.heap.size + 1) (by show w.heap.size + 1 < (W.putObj _ _).heap.size; rw [hszb]; exact hltW) hnM1).trans (World.putObj_heap_same hltW)
        have hD5 : w4.heap[w.heap.size]? = some (.deferred (some [])) := (hr5.st.old w.heap.size (by show w.heap.size < (W.putObj _ _).heap.size; rw [hszb]; omega) hnMD).trans ((World.putObj_heap_other (by omega)).trans hDW)
        have hlt5 : w.heap.size + 1 < w4.heap.size := (Array.getElem?_eq_some_iff.1 hL5).1
        have hend := run_endRound (P := P) none hL5
        refine ⟨_, _, hend, rfl, ?_, fun b hb => ?_, ?_⟩
        · have hck : ctx.k ≤ (I i).length + σc.length := by have := hst2.klen; simpa using this
          have hnS5L : ¬ S5 (w.heap.size + 1) := fun k => by
            rcases hr5.st.Snew _ k with k1 | k1 | k1
            · exact hnS2L k1
            · exact hnM1 k1
            · have : (W.putObj (w.heap.size + 1) (.loop { rec .ready none with state := .busy })).heap.size ≤ w.heap.size + 1 := k1
              rw [hszb] at this
              omega
          have hnS5D : ¬ S5 w.heap.size := fun k => by
            rcases hr5.st.Snew _ k with k1 | k1 | k1
            · exact hnS2D k1
            · exact hnMD k1
            · have : (W.putObj (w.heap.size + 1) (.loop { rec .ready none with state := .busy })).heap.size ≤ w.heap.size := k1
              rw [hszb] at this
              omega
          have hst5 : Store ctx ι5 S5 s5.σ w4 := hst2b.back hck hr5.st
          have htmp5 : ∀ t p, look s.T t = some p → VRel s5.σ.length ι5 S5 w4 (a.tmps.getD t undef) p := fun t p ht =>
            hst2b.keeps hr5.st (Nat.le_refl _) hr5.st.klen (hm2b _ _ _ (hm0 _ _ (hr0.temps t p ht)))
          have hck5 : s.k ≤ s5.σ.length := by have h1 := hr5.st.klen; have h2 := hr0.ck; simp [Ctx.anew] at h1; simp at h2; omega
          have hst6 := hst5.begin hck5 none a.defers
          obtain ⟨ι6, S6, hr6⟩ := he6 _ _ _ _ _ (⟨hst6, rfl, hr0.tsz, rfl, htmp5⟩ : Rel (Ctx.anew ι5 S5 s5.σ w4 s.k none a.defers) ι5 S5 ⟨s.N, s.T, s5.σ, s.k⟩ a w4)
          have hst6' : Store ctx ι6 S6 (I (i + 1)) w4 := hst5.back (by have := hr0.ck; simp at this; omega) hr6.st
          have hnS6 : ∀ {x}, quiet w4 x → x < w4.heap.size → ¬ S5 x → ¬ S6 x := fun hx hlt hn k => by
            rcases hr6.st.Snew _ k with k1 | k1 | k1
            · exact hn k1
            · exact hst5.notM hx k1
            · have : w4.heap.size ≤ _ := k1
              omega
          have hnS6L := hnS6 (hshL' hL5) hlt5 hnS5L
          have hnS6D := hnS6 (hshD hD5) (by omega) hnS5D
          obtain ⟨hst7, hm7⟩ := hst6'.turn (.loop (rec .ready none)) (L := w.heap.size + 1) (hshL' hL5) hnS6L (by omega)
          have erec : ({ { rec .ready none with state := .busy } with state := if (none : Option Code).isNone then .ready else .done, pending := none } : Loop) = rec .ready none := by rw [hrec]; rfl
          rw [erec]
          refine ⟨ι6, S6, ⟨hst7, hr0.ck, hr0.tsz, hr0.defers, fun t p ht => hm7 _ _ _ (hr6.temps t p ht)⟩, fun b hb => hr6.st.S0 b (hr5.st.S0 b (.inr hb)), hnS6L, hnS6D, World.putObj_heap_same hlt5, (World.putObj_heap_other (by omega)).trans hD5⟩
        · have hbl : b < W.heap.size := hst1.Slt b hb
          have hne : b ≠ w.heap.size + 1 := fun e => hnS2L (.inr (e ▸ hb))
          rw [World.putObj_heap_other hne]
          refine (hr5.st.old b (by show b < (W.putObj _ _).heap.size; rw [hszb]; exact hbl) (hold2 b hb)).trans ?_
          exact World.putObj_heap_other hne
        · have := hr5.st.size
          have h2 : (W.putObj (w.heap.size + 1) (.loop { rec .ready none with state := .busy })).heap.size ≤ w4.heap.size := this
          rw [hszb] at h2
          simpa using h2
    · -- behind the iterator
      rintro e W2 ⟨⟨v, rfl⟩, W0, K', ⟨ι0, S0, hr0, hSS, hSL, hSD, hL, hD⟩, hG⟩
      have hlt0 : w.heap.size + 1 < W0.heap.size := (Array.getElem?_eq_some_iff.1 hL).1
      have hL2 : W2.heap[w.heap.size + 1]? = some (.loop (rec .ready none)) := (hG.old _ hlt0).trans hL
      have hD2 : W2.heap[w.heap.size]? = some (.deferred (some [])) := (hG.old _ (by omega)).trans hD
      have hlt2 : w.heap.size + 1 < W2.heap.size := (Array.getElem?_eq_some_iff.1 hL2).1
      refine ⟨none, _, by have := run_endLoop (P := P) hL2 (by rw [hrec]; simp); rw [hrec] at this; exact this, ?_⟩
      obtain ⟨g1, g2⟩ := hr0.st.grown hG
      obtain ⟨k1, k2⟩ := g1.turn (.loop (rec .exhausted none)) (L := w.heap.size + 1) (hshL hL2) hSL (by omega)
      have erec : rec .exhausted none = { state := .exhausted, pending := none, fn, tmps := a.tmps, params := ps, assign, body, defers := w.heap.size } := by rw [hrec]
      rw [erec] at k1 k2
      have hD3 : (W2.putObj (w.heap.size + 1) (.loop { state := .exhausted, pending := none, fn, tmps := a.tmps, params := ps, assign, body, defers := w.heap.size })).heap[w.heap.size]? = some (.deferred (some [])) := (World.putObj_heap_other (by omega)).trans hD2
      have hkk : s.k ≤ (I items.length).length := by have h1 := k1.klen; have h2 := hr0.ck; simp at h1 h2; omega
      have hst := k1.begin hkk none (markOf w.heap.size :: a.defers)
      refine hQ .normal _ ι0 S0 ⟨s.N, s.T, I items.length, s.k⟩ _ _ ?_ ⟨hst, rfl, hr0.tsz, rfl, fun t p ht => k2 _ _ _ (g2 _ _ _ (hr0.temps t p ht))⟩ h
      have hck := hr0.ck
      simp at hck
      refine ⟨rfl, hck.symm, fun ι S σ w' hh => k1.back (by omega) hh, fun b hb hM => ⟨k1.old b hb hM, fun ⟨i, cs, q1, q2⟩ => ?_⟩, k1.size, fun b hb hM hS hS' => ?_, [w.heap.size], by simp [Ctx.anew, hr.defers], by simp, fun D hD' => ?_⟩
      · rcases k1.live i cs b q1 q2 with q3 | q3
        · exact hM q3
        · omega
      · rcases k1.Snew b hS' with q | q | q
        · exact hS q
        · exact hM q
        · omega
      · simp at hD'; subst hD'
        exact ⟨hcs, hD3, k1.notM (hshD hD3), hSD⟩
end
end Go.Proofs.YtidhdlhblhbahaaGreat.Am

/- The machine of values: functions that are gone over: the iterator's own walk. -/
set_option linter.unusedVariables false
set_option linter.unusedSimpArgs false
namespace Go.Proofs.YtidhdlhblhbahaaGreat.Am
open Go Go.RowKit

/-- The iterator's standing since it last went on: nothing that lay then is its own. -/
def cI (W0 : World) (K : Nat → Prop) : Ctx := ⟨W0, fun _ => False, K, 0, fun _ => none, none, []⟩

def AWpI (P : Program) (J : Nat → (Nat → Prop) → World → Prop) (c : Code) (s : St) (i : Nat) (Q : Exit → Nat → St → Prop) : Prop :=
  ∀ W0 K ι S a w, J i K W0 → (∀ b, K b → b < W0.heap.size) → Rel (cI W0 K) ι S s a w → ∀ QQ : Exit → Act → World → Prop,
    (∀ e i' s' W0' K' ι' S' a' w', J i' K' W0' → (∀ b, K' b → b < W0'.heap.size) → Rel (cI W0' K') ι' S' s' a' w' → Q e i' s' → QQ e a' w') → c.wpIn Fence.wide 0 P QQ a w

def thenI (next : Nat → St → Prop) (Q : Exit → Nat → St → Prop) : Exit → Nat → St → Prop
  | .normal, i, s => next i s
  | e, i, s => Q e i s
def inBlockI (id : Nat) (Q : Exit → Nat → St → Prop) : Exit → Nat → St → Prop
  | .exit id', i, s => if id' = id then Q .normal i s else Q (.exit id') i s
  | e, i, s => Q e i s

section
variable {P : Program} {J : Nat → (Nat → Prop) → World → Prop} {s : St} {i : Nat} {Q : Exit → Nat → St → Prop}

theorem awpI_of {c : Code} (h : AWp P c s fun e s' => Q e i s') : AWpI P J c s i Q := fun W0 K ι S a w hJ hK hr QQ hQ =>
  h (cI W0 K) ι S a w hr QQ fun e ι' S' s' a' w' hr' hq => hQ e i s' W0 K ι' S' a' w' hJ hK hr' hq

theorem awpI_ent {c : Code} {s' : St} (he : Ent s s') (h : AWpI P J c s' i Q) : AWpI P J c s i Q := fun W0 K ι S a w hJ hK hr QQ hQ => by
  obtain ⟨ι', S', hr'⟩ := he _ ι S a w hr
  exact h W0 K ι' S' a w hJ hK hr' QQ hQ

theorem awpI_seq {x y : Code} (h : AWpI P J x s i (thenI (fun i' s' => AWpI P J y s' i' Q) Q)) : AWpI P J (.seq x y) s i Q := fun W0 K ι S a w hJ hK hr QQ hQ =>
  wpIn_seq (h W0 K ι S a w hJ hK hr _ fun e i' s' W0' K' ι' S' a' w' hJ' hK' hr' hq => by
    cases e with
    | normal => exact hq W0' K' ι' S' a' w' hJ' hK' hr' QQ hQ
    | _ => exact hQ _ _ _ _ _ _ _ _ _ hJ' hK' hr' hq)

theorem awpI_block {id : Nat} {c : Code} (h : AWpI P J c s i (inBlockI id Q)) : AWpI P J (.block id c) s i Q := fun W0 K ι S a w hJ hK hr QQ hQ =>
  wpIn_block (h W0 K ι S a w hJ hK hr _ fun e i' s' W0' K' ι' S' a' w' hJ' hK' hr' hq => by
    cases e with
    | exit id' =>
      simp only [inBlockI] at hq
      simp only [Exit.inBlock]
      split
      · rename_i hh; rw [if_pos hh] at hq; exact hQ _ _ _ _ _ _ _ _ _ hJ' hK' hr' hq
      · rename_i hh; rw [if_neg hh] at hq; exact hQ _ _ _ _ _ _ _ _ _ hJ' hK' hr' hq
    | _ => exact hQ _ _ _ _ _ _ _ _ _ hJ' hK' hr' hq)

theorem awpI_loop {c : Code} (I : Nat → St) (B : Nat → Prop) (μ : Nat → Nat) (h0 : Ent s (I i)) (hB : B i)
    (round : ∀ i, B i → AWpI P J c (I i) i (thenI (fun i' s' => B i' ∧ μ i' < μ i ∧ Ent s' (I i')) Q)) : AWpI P J (.loop c) s i Q := by
  intro W0 K ι S a w hJ hK hr QQ hQ b k cs hro hb hrm
  have key : ∀ n : Nat, ∀ i, B i → μ i = n → ∀ W0 K ι S a w, J i K W0 → (∀ b, K b → b < W0.heap.size) → Rel (cI W0 K) ι S (I i) a w →
      ∃ e a' w', QQ e a' w' ∧ ArrivesIn (Machine.fenced P Fence.wide) P (lone (b.atR a (.code c :: .inLoop c :: k)) cs w) b k cs e a' w' := by
    intro n
    induction n using Nat.strongRecOn with
    | _ n ih =>
      intro i hB hμ W0 K ι S a w hJ hK hr
      obtain ⟨e, a₁, w₁, hq, harr⟩ := round i hB W0 K ι S a w hJ hK hr (fun e a' w' => (e = .normal ∧ ∃ i' W0' K' ι' S', B i' ∧ μ i' < n ∧ J i' K' W0' ∧ (∀ b, K' b → b < W0'.heap.size) ∧ Rel (cI W0' K') ι' S' (I i') a' w') ∨ (e ≠ .normal ∧ QQ e a' w'))
        (fun e i' s' W0' K' ι' S' a' w' hJ' hK' hr' hq => by
          cases e with
          | normal =>
            obtain ⟨hB', hlt, he⟩ := hq
            obtain ⟨ι2, S2, hr2⟩ := he _ _ _ _ _ hr'
            exact .inl ⟨rfl, i', W0', K', ι2, S2, hB', by omega, hJ', hK', hr2⟩
          | _ => exact .inr ⟨by simp, hQ _ _ _ _ _ _ _ _ _ hJ' hK' hr' hq⟩) b (.inLoop c :: k) cs hro hb hrm
      rcases hq with ⟨rfl, i', W0', K', ι', S', hB', hlt, hJ', hK', hr'⟩ | ⟨hne, hq⟩
      · obtain ⟨e₂, a₂, w₂, hq₂, harr₂⟩ := ih (μ i') hlt i' hB' rfl W0' K' ι' S' a₁ w₁ hJ' hK' hr'
        exact ⟨e₂, a₂, w₂, hq₂, .of_steps (StepsIn.trans harr (.one (fenced_wide _ _) stepR_inLoop)) harr₂⟩
      · exact ⟨e, a₁, w₁, hq, .pass (x := .inLoop c) rfl (fun _ _ => .inl hne) harr⟩
  obtain ⟨ι2, S2, hr2⟩ := h0 _ _ _ _ _ hr
  obtain ⟨e, a', w', hq, harr⟩ := key _ i hB rfl W0 K ι2 S2 a w hJ hK hr2
  exact ⟨e, a', w', hq, .of_steps (.one (fenced_wide _ _) stepR_loop) harr⟩

/-- An iterator's contract, from its walk. -/
theorem seqOk_of {gf : FuncId} {fn : Func} {code : Code} {caps : List PV} {items : List (List PV × List (List PV))} (hf : P.funcs[gf]? = some fn) (hb : fn.body = some code) (hres : fn.results = #[])
    (h : ∀ l J, YieldsOk P l items J → AWpI P J code (entry fn (.k (.func (.yield l) #[] #[]) :: caps) []) 0 fun e i s' => RetOk e ∧ i = items.length) : SeqOk P gf caps items := by
  intro K w lb l J hK hlb hcaps hy hJ
  refine calls_of_wp hf hb ?_
  refine wpIn_wide (n := 0).1 ?_
  have hst : Store (cI w K) (fun _ => none) K ([] : Boxes) w := ⟨rfl, rfl, rfl, Nat.le_refl _, fun _ _ _ => rfl, fun _ _ h => h, fun i cs hi => by simp [box] at hi, fun i cs b hi => by simp [box] at hi, fun i cs b hi => by simp [box] at hi,
    fun i j ci cj b hi => by simp [box] at hi, hK, fun _ h => h, fun _ h => .inl h, by simp [cI], fun _ _ => rfl⟩
  have hrel : Rel (cI w K) (fun _ => none) K (entry fn (.k (.func (.yield l) #[] #[]) :: caps) []) { tmps := (#[Value.func (Fn.yield l) #[] #[]] ++ lb) ++ Array.replicate (fn.ntmps - (#[Value.func (Fn.yield l) #[] #[]] ++ lb).size) undef, defers := [] } w := by
    refine ⟨hst, rfl, by simp [entry, hlb]; omega, rfl, fun t p ht => ?_⟩
    obtain ⟨_, hp⟩ := look_entryT _ 0 t p ht
    simp only [Nat.sub_zero] at hp
    have hlt : t < (#[Value.func (Fn.yield l) #[] #[]] ++ lb).size := by have := (List.getElem?_eq_some_iff.1 hp).1; simp at this ⊢; omega
    rw [Array.getD_eq_getD_getElem?, Array.getElem?_append_left hlt]
    cases t with
    | zero =>
      simp at hp; subst hp
      rw [Array.getElem?_append_left (by simp)]
      exact .imm (.k rfl)
    | succ t =>
      have := hcaps t p (by simpa using hp)
      rw [Array.getD_eq_getD_getElem?] at this
      rw [Array.getElem?_append_right (by simp)]
      simpa using VRel.imm (n := 0) (ι := fun _ => none) this
  refine h l J hy w K _ _ _ _ hJ hK hrel _ fun e i s' W0' K' ι' S' a' w' hJ' hK' hr' ⟨he, hi⟩ => ?_
  subst hi
  have hG : Grown W0' w' := ⟨hr'.st.os, hr'.st.tape, hr'.st.output, hr'.st.size, fun b hb => hr'.st.old b hb (fun h => h.elim)⟩
  have hrun : (results fn a'.tmps).run P w' = .ok (.tuple #[]) w' := by
    rw [results_eq, hres]
    simp [Array.mapM_eq_mapM_toList]
  have hpost : ∃ v, (results fn a'.tmps).run P w' = .ok v w' ∧ (∃ v', Ending.returned v = .returned v') ∧ ∃ W0 K', J items.length K' W0 ∧ Grown W0 w' := ⟨_, hrun, ⟨_, rfl⟩, W0', K', hJ', hG⟩
  cases e with
  | normal => exact ⟨hr'.defers, hpost⟩
  | ret => exact ⟨hr'.defers, hpost⟩
  | _ => exact he.elim
end

/-! ### The operation at which it yields -/
section
variable {P : Program} {c : Ctx} {ι : Nat → Option Nat} {S : Nat → Prop} {s : St} {a : Act} {w : World}

/-- Some of the boxes, handed over. -/
theorem store_sub (hr : Rel c ι S s a w) {th : List Nat} {σc : List (List PV)} (hl : th.length = σc.length) (hnd : th.Nodup)
    (hbox : ∀ (i t : Nat) (cs : List PV), th[i]? = some t → σc[i]? = some cs → box s.σ t = some (renL (thF th s.σ.length) cs) ∧ ltL th.length cs = true) :
    Store (cx w (fun i => ι (thF th s.σ.length i)) S σc.length) (fun i => ι (thF th s.σ.length i)) S (σc.map some) w := by
  have hσ := hr.st
  have hbx : ∀ i ci, box (σc.map some) i = some ci → ∃ t, th[i]? = some t ∧ thF th s.σ.length i = t ∧ box s.σ t = some (renL (thF th s.σ.length) ci) ∧ ltL th.length ci = true := fun i ci hi => by
    rw [box_some] at hi
    have hil := (List.getElem?_eq_some_iff.1 hi).1
    have hit : i < th.length := by omega
    obtain ⟨h1, h2⟩ := hbox i th[i] ci (List.getElem?_eq_getElem hit) hi
    exact ⟨th[i], List.getElem?_eq_getElem hit, by simp [thF, hit], h1, h2⟩
  refine ⟨rfl, rfl, rfl, Nat.le_refl _, fun _ _ _ => rfl, fun _ _ h => h, fun i ci hi => ?_, fun i ci blk hi hb => ?_, fun i ci blk hi hb => ?_, fun i j ci cj blk hi hj hbi hbj => ?_, hσ.Slt, fun _ h => h, fun _ h => .inl h, by simp [cx], fun _ _ => rfl⟩
  · obtain ⟨t, ht, hθt, hbt, hlt'⟩ := hbx i ci hi
    rcases hσ.boxes t _ hbt with ⟨h', h''⟩ | ⟨blk, c', e', hb', g1, g0, g2⟩
    · refine .inl ⟨by simp only [hθt]; exact h', ?_⟩
      rw [renL_map] at h''
      simpa using h''
    · refine .inr ⟨blk, c', e', by simp only [hθt]; exact hb', g1, g0.unren, fun j p hj => ?_⟩
      obtain ⟨v, hv1, hv2⟩ := g2 j (p.ren (thF th s.σ.length)) (by rw [renL_map]; simp [hj])
      refine ⟨v, hv1, ?_⟩
      have hpl : p.lt th.length = true := by rw [ltL_all] at hlt'; exact List.all_eq_true.1 hlt' p (List.mem_of_getElem? hj)
      have := VRel.unren (n := th.length) (m := s.σ.length) (ι := fun i => ι (thF th s.σ.length i)) (ι' := ι) (θ := thF th s.σ.length) (fun b _ => rfl) p v hpl hv2
      rw [List.length_map, ← hl]; exact this
  · obtain ⟨t, ht, hθt, hbt, _⟩ := hbx i ci hi
    exact hσ.notS t _ blk hbt (by rw [← hθt]; exact hb)
  · have hil := box_lt hi
    exact .inl ⟨i, by simpa using hil, hb⟩
  · obtain ⟨t, ht, hθt, hbt, _⟩ := hbx i ci hi
    obtain ⟨t', ht', hθt', hbt', _⟩ := hbx j cj hj
    have e := hσ.inj t t' _ _ blk hbt hbt' (by rw [← hθt]; exact hbi) (by rw [← hθt']; exact hbj)
    subst e
    exact nodup_inj th hnd i j t ht ht'

/-- What stands when yield has said true: of the boxes nothing, of the values those that nobody writes. -/
def keepT (T T0 : List (Nat × PV)) : Prop := ∀ t p, look T0 t = some p → look T t = some p ∧ p.immB = true
def keepB (T : List (Nat × PV)) : List (Nat × PV) → Prop
  | [] => True
  | (t, p) :: r => (look T t = some p ∧ p.immB = true) ∧ keepB T r
theorem keepB_T {T : List (Nat × PV)} : ∀ {T0 : List (Nat × PV)}, keepB T T0 → keepT T T0
  | [], _, t, p, h => by simp [look] at h
  | (t', p') :: r, hl, t, p, h => by
    simp only [look] at h
    split at h
    · rename_i e; subst e; simp at h; subst h; exact hl.1
    · exact keepB_T hl.2 t p h

/-- The call of yield is due: its row, the boxes that go with it; what is kept. -/
structure Due (items : List (List PV × List (List PV))) (l i : Nat) (f : Operand) (args : List Operand) (T0 : List (Nat × PV)) (s1 : St) : Prop where
  fn : opd s1 f = some (.k (.func (.yield l) #[] #[]))
  row : ∃ (ps args' : List PV) (σc : List (List PV)) (th : List Nat), opds s1 args = some ps ∧ items[i]? = some (args', σc) ∧ th.length = σc.length ∧ th.Nodup ∧ ps = renL (thF th s1.σ.length) args' ∧ ltL th.length args' = true ∧
    (∀ (i t : Nat) (cs : List PV), th[i]? = some t → σc[i]? = some cs → box s1.σ t = some (renL (thF th s1.σ.length) cs) ∧ ltL th.length cs = true)
  keep : keepT s1.T T0

theorem exec_yield {o : Oper} {f : Operand} {args : Array Operand} {ts : Array TypeId} (ho : o.op = .call { callee := .value f, args := args, argTypes := ts }) {l : Nat}
    (hf : a.eval f = .func (.yield l) #[] #[]) : (execOp a.eval o).run P w = (Instr.yield l (args.map a.eval)).run P w := by
  unfold execOp
  simp only [ho, Sem.run_bind, resolve, hf, Deferred.ofValue, Sem.run_pure, Result.andThen_ok, invoke]
  simp

/-- One call of yield. -/
theorem yield_step {J : Nat → (Nat → Prop) → World → Prop} {items : List (List PV × List (List PV))} {l i : Nat} (hy : YieldsOk P l items J) {W0 : World} {K : Nat → Prop} (hJ : J i K W0) (hK : ∀ b, K b → b < W0.heap.size)
    (hr : Rel (cI W0 K) ι S s a w) {o : Oper} {f : Operand} {args : Array Operand} {ts : Array TypeId} (ho : o.op = .call { callee := .value f, args := args, argTypes := ts }) {T0 : List (Nat × PV)} (hdue : Due items l i f args.toList T0 s)
    (hd : dstOk o.dst s.N = true) {NK : Act → World → Prop} {QQ : Exit → Act → World → Prop}
    (hN : ∀ W', J (i + 1) S W' → (∀ b, S b → b < W'.heap.size) → Rel (cI W' S) (fun _ => none) S (St.put ⟨s.N, T0, [], 0⟩ o.dst (.k (.bool true))) (a.put o.dst (.bool true)) W' → NK (a.put o.dst (.bool true)) W') :
    o.wpIn Fence.wide 0 P a w NK QQ := by
  obtain ⟨hfn, ⟨ps, args', σc, th, hops, hitem, hl, hnd, hps, hlt, hbox⟩, hkeep⟩ := hdue
  have hfv := (opd_rel hr hfn).k_inv.1
  obtain ⟨hal, harel⟩ := opds_rel hr hops
  have hσ := hr.st
  have hG : Grown W0 w := ⟨hσ.os, hσ.tape, hσ.output, hσ.size, fun b hb => hσ.old b hb (fun h => h.elim)⟩
  have hsub := store_sub hr hl hnd hbox
  have hYA := hy i args' σc W0 w K _ S (args.toList.map a.eval) hitem hJ hG hsub (fun j blk hj hb => by
      have hj' : j < th.length := by omega
      obtain ⟨h1, _⟩ := hbox j th[j] σc[j] (List.getElem?_eq_getElem hj') (List.getElem?_eq_getElem hj)
      have e : thF th s.σ.length j = th[j] := by simp [thF, hj']
      simp only [e] at hb
      rcases hσ.live _ _ blk h1 hb with k | k
      · exact k.elim
      · exact k) hσ.S0 (fun b hb => by
        rcases hσ.Snew b hb with k | k | k
        · exact .inl k
        · exact k.elim
        · exact .inr k)
    (by rw [hal, hps, renL_map]; simp) (fun j p hj => by
      have hj2 : ps[j]? = some (p.ren (thF th s.σ.length)) := by rw [hps, renL_map]; simp [hj]
      obtain ⟨v, hv1, hv2⟩ := harel j _ hj2
      have hpl : p.lt th.length = true := by rw [ltL_all] at hlt; exact List.all_eq_true.1 hlt p (List.mem_of_getElem? hj)
      exact ⟨v, hv1, by rw [← hl]; exact VRel.unren (m := s.σ.length) (ι' := ι) (fun b _ => rfl) p v hpl hv2⟩)
  obtain ⟨fn, tmps, asg, body, hrun, hround⟩ := hYA
  have he : (execOp a.eval o).run P w = .ok (.round l fn tmps asg body) w := by
    rw [exec_yield ho hfv]
    have : args.map a.eval = (args.toList.map a.eval).toArray := by apply Array.ext'; simp
    rw [this]; exact hrun
  refine ⟨fun _ _ => trivial, ?_⟩
  rw [show (Fence.wide).round = none from rfl, Oper.semAt_none, he]
  refine ⟨(fun h => by cases h), hround.mono ?_⟩
  rintro e W' ⟨rfl, hJ', hS', hsz⟩
  have hSlt : ∀ b, S b → b < W'.heap.size := fun b hb => Nat.lt_of_lt_of_le (hσ.Slt b hb) hsz
  have hst' : Store (cI W' S) (fun _ => none) S ([] : Boxes) W' := ⟨rfl, rfl, rfl, Nat.le_refl _, fun _ _ _ => rfl, fun _ _ h => h, fun i cs hi => by simp [box] at hi, fun i cs b hi => by simp [box] at hi, fun i cs b hi => by simp [box] at hi,
    fun i j ci cj b hi => by simp [box] at hi, hSlt, fun _ h => h, fun _ h => .inl h, by simp [cI], fun _ _ => rfl⟩
  have hrel : Rel (cI W' S) (fun _ => none) S ⟨s.N, T0, [], 0⟩ a W' := ⟨hst', rfl, hr.tsz, hr.defers, fun t p ht => by
    obtain ⟨h1, h2⟩ := hkeep t p ht
    exact .imm (((hr.temps t p h1).immI h2).mono (fun _ h => h) (fun b o hb => World.cell?_of_block (hS' b hb)))⟩
  exact hN W' hJ' hSlt (Rel.next hrel hst' (fun _ _ h => h) hd (.imm (.k rfl)))

/-! ### A region in whatever order, whose last but one operation yields -/
theorem wpIn_monoQ {F : Fence} {n : Nat} {o : Oper} {K K' : Act → World → Prop} {QQ QQ' : Exit → Act → World → Prop} (hK : ∀ a w, K a w → K' a w) (hQ : ∀ e a w, e ≠ .normal → QQ e a w → QQ' e a w)
    (h : o.wpIn F n P a w K QQ) : o.wpIn F n P a w K' QQ' := by
  unfold Oper.wpIn at *
  refine ⟨h.1, ?_⟩
  have hh := h.2
  have hout : LetsOut QQ → LetsOut QQ' := fun ⟨a, w, h⟩ => ⟨a, w, hQ _ _ _ (by simp) h⟩
  generalize (o.semAt F.round a.eval).run P w = r at *
  cases r with
  | ok x w' =>
    cases x <;> simp only [Oper.uponIn] at hh ⊢ <;>
      first
        | exact hK _ _ hh
        | exact ⟨hh.1, CallsIn.mono hh.2 (fun e w'' he => by cases e <;> first | exact hK _ _ he | exact hQ _ _ _ (by simp) he | exact hout he)⟩
        | exact ⟨hh.1, RowsIn.mono hh.2 (fun _ _ he => hK _ _ he)⟩
        | exact ⟨hh.1, RoundIn.mono hh.2 (fun e w'' he => by cases e <;> first | exact hK _ _ he | exact hQ _ _ _ (by simp) he | exact hout he)⟩
  | halt x w' =>
    cases x <;> simp only [Oper.uponIn] at hh ⊢
    all_goals first | exact hh.elim | exact hQ _ _ _ (by simp) hh

/-- The shape of such a region. -/
def yieldShape (pre : List Oper) (oy ox : Oper) : Bool :=
  drawOk (pre ++ [oy, ox]) (clos (pre ++ [oy, ox]) []) && (List.range pre.length).all (fun j => ((clos (pre ++ [oy, ox]) []).getD pre.length []).contains j) && (edgesOf ox).contains pre.length &&
  pre.all (fun o => match o.guard with | some (g, _) => decide (g < pre.length) | none => true) && oy.guard.isNone && ox.guard.isNone

theorem any_pre {F : Fence} {n : Nat} {pre : List Oper} {oy ox : Oper} (hsh : yieldShape pre oy ox = true) {QQ : Exit → Act → World → Prop} : ∀ (fuel : Nat) (listed : Array Bool) (a : Act) (w : World), listed.size = pre.length →
    (List.range pre.length).countP (fun j => !listed.getD j false) = fuel →
    (∀ (i : Nat) (o : Oper), pre[i]? = some o → listed.getD i false = true → ∀ e ∈ edgesOf o, listed.getD e false = true) →
    wpAnyIn F n P .any pre.toArray (fun e a w => match e with | .normal => wpAnyIn F n P .any (pre ++ [oy, ox]).toArray QQ 2 (Array.replicate pre.length true ++ #[false, false]) a w | e => QQ e a w) fuel listed a w →
    wpAnyIn F n P .any (pre ++ [oy, ox]).toArray QQ (fuel + 2) (listed ++ #[false, false]) a w := by
  simp only [yieldShape, Bool.and_eq_true] at hsh
  obtain ⟨⟨⟨⟨⟨hok, hall⟩, hox⟩, hgd⟩, hgy⟩, hgx⟩ := hsh
  have hpl : ∀ (i : Nat) (o : Oper), pre[i]? = some o → (pre ++ [oy, ox])[i]? = some o := fun i o h => by
    rw [List.getElem?_append_left (List.getElem?_eq_some_iff.1 h).1]; exact h
  have hey : (pre ++ [oy, ox])[pre.length]? = some oy := by simp
  have hex : (pre ++ [oy, ox])[pre.length + 1]? = some ox := by rw [List.getElem?_append_right (by omega)]; simp
  have hgetl : ∀ (listed : Array Bool), listed.size = pre.length → ∀ i d, i < pre.length → (listed ++ #[false, false]).getD i d = listed.getD i d := fun listed hsz i d hi => by
    rw [Array.getD_eq_getD_getElem?, Array.getD_eq_getD_getElem?, Array.getElem?_append_left (by omega)]
  have hgetr : ∀ (listed : Array Bool), listed.size = pre.length → ∀ i, pre.length ≤ i → (listed ++ #[false, false]).getD i false = false := fun listed hsz i hi => by
    rw [Array.getD_eq_getD_getElem?, Array.getElem?_append_right (by omega)]
    match h : i - listed.size with
    | 0 => simp
    | 1 => simp
    | k + 2 => simp
  have hready : ∀ (listed : Array Bool), listed.size = pre.length → (∀ (i : Nat) (o : Oper), pre[i]? = some o → listed.getD i false = true → ∀ e ∈ edgesOf o, listed.getD e false = true) →
      (∃ j, j < pre.length ∧ listed.getD j false = false) → ∀ i, i ∈ Region.ready .any (pre ++ [oy, ox]).toArray (listed ++ #[false, false]) ↔ i ∈ Region.ready .any pre.toArray listed := fun listed hsz hcl ⟨j, hj, hjf⟩ i => by
    rw [mem_ready, mem_ready]
    constructor
    · rintro ⟨h1, o, ho, hed⟩
      have ho' : (pre ++ [oy, ox])[i]? = some o := by simpa using ho
      have hedge : ∀ e ∈ edgesOf o, (listed ++ #[false, false]).getD e false = true := fun e he => by
        obtain ⟨x, hx, hb, rfl⟩ := edges_mem.1 he
        exact hed x hx hb
      have hclA : ∀ (i : Nat) (o : Oper), (pre ++ [oy, ox])[i]? = some o → (listed ++ #[false, false]).getD i false = true → ∀ e ∈ edgesOf o, (listed ++ #[false, false]).getD e false = true := fun i o ho hi e he => by
        rcases Nat.lt_or_ge i pre.length with hlt | hge
        · rw [hgetl listed hsz i false hlt] at hi
          rw [List.getElem?_append_left hlt] at ho
          have he' : e < i := (drawOk_spec hok (hpl i o ho)).1 e he
          rw [hgetl listed hsz e false (by omega)]
          exact hcl i o ho hi e he
        · rw [hgetr listed hsz i hge] at hi; cases hi
      rcases Nat.lt_or_ge i pre.length with hlt | hge
      · rw [hgetl listed hsz i true hlt] at h1
        have hop : pre[i]? = some o := by rw [List.getElem?_append_left hlt] at ho'; exact ho'
        refine ⟨h1, o, by simpa using hop, fun e he hb => ?_⟩
        have he' : e.on < i := (drawOk_spec hok ho').1 e.on (edges_mem.2 ⟨e, he, hb, rfl⟩)
        rw [← hgetl listed hsz e.on false (by omega)]
        exact hed e he hb
      · exfalso
        have hi : i = pre.length ∨ i = pre.length + 1 := by
          have := (List.getElem?_eq_some_iff.1 ho').1
          simp at this; omega
        rcases hi with rfl | rfl
        · have := clos_in hok (A := fun i => (listed ++ #[false, false]).getD i false) hclA pre.length o ho' hedge j (by
            have := List.all_eq_true.1 hall j (by simpa using hj)
            simpa using this)
          have this : (listed ++ #[false, false]).getD j false = true := this
          rw [hgetl listed hsz j false hj, hjf] at this; cases this
        · rw [hex] at ho'; cases ho'
          have := hedge pre.length (by simpa using hox)
          rw [hgetr listed hsz pre.length (Nat.le_refl _)] at this; cases this
    · rintro ⟨h1, o, ho, hed⟩
      have ho' : pre[i]? = some o := by simpa using ho
      have hlt := (List.getElem?_eq_some_iff.1 ho').1
      refine ⟨by rw [hgetl listed hsz i true hlt]; exact h1, o, by simpa using hpl i o ho', fun e he hb => ?_⟩
      have he' : e.on < i := (drawOk_spec hok (hpl i o ho')).1 e.on (edges_mem.2 ⟨e, he, hb, rfl⟩)
      rw [hgetl listed hsz e.on false (by omega)]
      exact hed e he hb
  intro fuel
  induction fuel with
  | zero =>
    intro listed a w hsz hcnt hcl h
    have hallt : listed = Array.replicate pre.length true := by
      apply Array.ext
      · simp [hsz]
      · intro i h1 h2
        have := List.countP_eq_zero.1 hcnt i (by simpa [hsz] using h1)
        simp [Array.getD, h1] at this
        simp [this]
    have h2 : wpAnyIn F n P .any (pre ++ [oy, ox]).toArray QQ 2 (Array.replicate pre.length true ++ #[false, false]) a w := h.2
    rw [hallt]
    exact h2
  | succ fuel ih =>
    intro listed a w hsz hcnt hcl h
    have hex2 : ∃ j, j < pre.length ∧ listed.getD j false = false := by
      have : 0 < (List.range pre.length).countP (fun j => !listed.getD j false) := by omega
      obtain ⟨j, hj, hjf⟩ := List.countP_pos_iff.1 this
      exact ⟨j, by simpa using hj, by simpa using hjf⟩
    have hrd := hready listed hsz hcl hex2
    -- something is ready
    have hne : Region.ready .any pre.toArray listed ≠ [] := fun hnil => by
      have hallt : ∀ i, i < pre.length → listed.getD i false = true := by
        intro i
        induction i using Nat.strongRecOn with
        | _ i ihi =>
          intro hi
          cases hli : listed.getD i false with
          | true => rfl
          | false =>
            exfalso
            have hoi : pre[i]? = some pre[i] := List.getElem?_eq_getElem hi
            have hmem : i ∈ Region.ready .any pre.toArray listed := mem_ready.2 ⟨by
              rw [Array.getD_eq_getD_getElem?, Array.getElem?_eq_getElem (by omega)] at hli ⊢
              simpa using hli, pre[i], by simp [hi], fun e he hb => by
              have hedge := edges_mem.2 ⟨e, he, hb, rfl⟩
              have := (drawOk_spec hok (hpl i _ hoi)).1 _ hedge
              exact ihi _ this (by omega)⟩
            rw [hnil] at hmem
            simp at hmem
      obtain ⟨j, hj, hjf⟩ := hex2
      rw [hallt j hj] at hjf; cases hjf
    refine ⟨fun hnil => absurd ?_ hne, fun i hi => ?_⟩
    · rw [List.eq_nil_iff_forall_not_mem]
      intro j hj
      have hj := (hrd j).2 hj
      have hnil : Region.ready .any (pre ++ [oy, ox]).toArray (listed ++ #[false, false]) = [] := hnil
      rw [hnil] at hj; simp at hj
    · have hi' := (hrd i).1 hi
      have hstep := h.2 i hi'
      obtain ⟨h1, o, ho, hed⟩ := mem_ready.1 hi'
      have ho' : pre[i]? = some o := by simpa using ho
      have hlt := (List.getElem?_eq_some_iff.1 ho').1
      have hAi : listed.getD i false = false := by
        rw [Array.getD_eq_getD_getElem?, Array.getElem?_eq_getElem (by omega)] at h1 ⊢
        simpa using h1
      unfold wpOpIn at hstep ⊢
      rw [ho] at hstep
      rw [show (pre ++ [oy, ox]).toArray[i]? = some o by simpa using hpl i o ho']
      have hwant : Region.wanted o (yielded (pre ++ [oy, ox]).toArray a.tmps) = Region.wanted o (yielded pre.toArray a.tmps) := by
        unfold Region.wanted
        cases hg : o.guard with
        | none => rfl
        | some gb =>
          obtain ⟨g, b⟩ := gb
          have := List.all_eq_true.1 hgd o (List.mem_of_getElem? ho')
          rw [hg] at this
          simp at this
          simp only [yielded]
          have e : (pre ++ [oy, ox]).toArray[g]? = pre.toArray[g]? := by simp [List.getElem?_append_left this]
          rw [e]
      have hset : (listed ++ #[false, false]).setIfInBounds i true = listed.setIfInBounds i true ++ #[false, false] := by
        apply Array.ext_getElem?
        intro j
        by_cases hj : j < pre.length
        · rw [Array.getElem?_append_left (by simp; omega)]
          by_cases e : j = i
          · subst e
            rw [Array.getElem?_setIfInBounds_self_of_lt (by simp; omega), Array.getElem?_setIfInBounds_self_of_lt (by omega)]
          · rw [Array.getElem?_setIfInBounds_ne (fun h => e h.symm), Array.getElem?_setIfInBounds_ne (fun h => e h.symm), Array.getElem?_append_left (by omega)]
        · rw [Array.getElem?_setIfInBounds_ne (by omega), Array.getElem?_append_right (by omega), Array.getElem?_append_right (by simp; omega)]
          simp
      have hnext : ∀ a' w', wpAnyIn F n P .any pre.toArray (fun e a w => match e with | .normal => wpAnyIn F n P .any (pre ++ [oy, ox]).toArray QQ 2 (Array.replicate pre.length true ++ #[false, false]) a w | e => QQ e a w) fuel (listed.setIfInBounds i true) a' w' →
          wpAnyIn F n P .any (pre ++ [oy, ox]).toArray QQ (fuel + 2) ((listed ++ #[false, false]).setIfInBounds i true) a' w' := fun a' w' hh => by
        rw [hset]
        have hset' : ∀ j, (listed.setIfInBounds i true).getD j false = (listed.getD j false || decide (j = i)) := fun j => congrFun (listed_set (listed := listed) (i := i) (by omega)) j
        refine ih _ _ _ (by simpa using hsz) ?_ ?_ hh
        · have h3 := countP_one (f := fun _ => true) (A := fun j => listed.getD j false) hAi (List.range pre.length) List.nodup_range (by simpa using hlt)
          simp only [Bool.true_and, if_true] at h3
          have h4 := List.length_eq_countP_add_countP (fun j => listed.getD j false) (l := List.range pre.length)
          have h5 := List.length_eq_countP_add_countP (fun j => listed.getD j false || decide (j = i)) (l := List.range pre.length)
          have e1 : (List.range pre.length).countP (fun j => !(listed.setIfInBounds i true).getD j false) = (List.range pre.length).countP (fun a => decide ¬(fun j => listed.getD j false || decide (j = i)) a = true) := by
            refine List.countP_congr fun j _ => ?_
            rw [hset' j]; simp
          have e2 : (List.range pre.length).countP (fun j => !listed.getD j false) = (List.range pre.length).countP (fun a => decide ¬(fun j => listed.getD j false) a = true) := by
            refine List.countP_congr fun j _ => ?_
            simp
          rw [e1]
          rw [e2] at hcnt
          try simp only [] at h4 h5 hcnt ⊢
          generalize (List.range pre.length).countP (fun a => decide ¬(fun j => listed.getD j false || decide (j = i)) a = true) = x1 at *
          try simp only [] at h4 h5 hcnt h3 ⊢
          omega
        · intro j oj hj hlj e he
          rw [hset' j] at hlj
          rw [hset' e]
          simp only [Bool.or_eq_true, decide_eq_true_eq] at hlj ⊢
          rcases hlj with g | rfl
          · exact .inl (hcl j oj hj g e he)
          · rw [ho'] at hj; simp at hj; subst hj
            obtain ⟨x, hx, hb, rfl⟩ := edges_mem.1 he
            exact .inl (hed x hx hb)
      dsimp only at hstep ⊢
      rw [hwant]
      split at hstep
      · rename_i hw
        rw [if_pos hw]
        exact wpIn_monoQ hnext (fun e a w hne hh => by cases e <;> first | exact absurd rfl hne | exact hh) hstep
      · rename_i hw
        rw [if_neg hw]
        exact ⟨hstep.1, hnext _ _ hstep.2⟩

theorem awpI_yield {J : Nat → (Nat → Prop) → World → Prop} {items : List (List PV × List (List PV))} {l i : Nat} (hy : YieldsOk P l items J) (hm : P.follows .mixedOrders = true) {id : Nat} {ops : Array Oper} (pre : List Oper) {oy ox : Oper} {Q : Exit → Nat → St → Prop}
    (T0 : List (Nat × PV)) {f : Operand} {args : Array Operand} {ts : Array TypeId} {p : PV}
    (hops : ops = (pre ++ [oy, ox]).toArray) (hsh : yieldShape pre oy ox = true)
    (hr1 : Region.ready .any (pre ++ [oy, ox]).toArray (Array.replicate pre.length true ++ #[false, false]) = [pre.length])
    (hr2 : Region.ready .any (pre ++ [oy, ox]).toArray (Array.replicate pre.length true ++ #[true, false]) = [pre.length + 1])
    (hr3 : Region.ready .any (pre ++ [oy, ox]).toArray (Array.replicate pre.length true ++ #[true, true]) = [])
    (hoy : oy.op = .call { callee := .value f, args := args, argTypes := ts }) (hdy : dstOk oy.dst s.N = true) (hdx : dstOk ox.dst s.N = true)
    (hpre : DrawW P pre s fun s1 => s1.N = s.N ∧ Due items l i f args.toList T0 s1)
    (hpost : pureVal P (St.put ⟨s.N, T0, [], 0⟩ oy.dst (.k (.bool true))) ox.op = some p)
    (hQ : Q .normal (i + 1) ((St.put ⟨s.N, T0, [], 0⟩ oy.dst (.k (.bool true))).put ox.dst p)) : AWpI P J (.region id ops true) s i Q := by
  subst hops
  intro W0 K ι S a w hJ hK hr QQ hQQ
  have hsh0 := hsh
  simp only [yieldShape, Bool.and_eq_true] at hsh
  obtain ⟨⟨⟨⟨⟨hok, hall⟩, hox⟩, hgd⟩, hgy⟩, hgx⟩ := hsh
  refine wpIn_region_any hm ?_
  have h1 := hpre (cI W0 K) ι S a w hr (fun e a w => match e with | .normal => wpAnyIn Fence.wide 0 P .any (pre ++ [oy, ox]).toArray QQ 2 (Array.replicate pre.length true ++ #[false, false]) a w | e => QQ e a w) ?_
  · have h2 := any_pre (P := P) (F := Fence.wide) (n := 0) hsh0 (QQ := QQ) pre.length (Array.replicate pre.length false) a { w with drawn := w.drawn + 1 } (by simp)
      (by
        have : (List.range pre.length).countP (fun j => !(Array.replicate pre.length false).getD j false) = (List.range pre.length).length := by
          rw [List.countP_eq_length]
          intro j hj
          simp at hj
          simp [Array.getD, hj]
        rw [this]; simp) (fun i o _ h => by
        have : (Array.replicate pre.length false).getD i false = false := by
          rw [Array.getD_eq_getD_getElem?]
          by_cases h : i < pre.length <;> simp [h]
        rw [this] at h; cases h) (by have h3 := h1; rw [List.size_toArray] at h3; exact h3)
    have e : (Array.replicate (pre ++ [oy, ox]).toArray.size false) = Array.replicate pre.length false ++ #[false, false] := by
      apply Array.ext_getElem?
      intro j
      rw [Array.getElem?_append]
      simp only [List.size_toArray, List.length_append, List.length_cons, List.length_nil, Array.size_replicate, Array.getElem?_replicate]
      by_cases hj : j < pre.length
      · simp [hj]; omega
      · simp only [hj, if_false]
        match hjj : j - pre.length with
        | 0 => simp; omega
        | 1 => simp; omega
        | k + 2 => simp; omega
    have e2 : (pre ++ [oy, ox]).toArray.size = pre.length + 2 := by simp
    rw [e, e2]
    exact h2
  · rintro ι1 S1 s1 a1 w1 hr1' ⟨hN1, hdue⟩
    have hey : (pre ++ [oy, ox]).toArray[pre.length]? = some oy := by simp
    have hex : (pre ++ [oy, ox]).toArray[pre.length + 1]? = some ox := by
      rw [List.getElem?_toArray, List.getElem?_append_right (by omega)]; simp
    refine ⟨(fun h => by rw [hr1] at h; cases h), fun j hj => ?_⟩
    rw [hr1] at hj
    simp at hj; subst hj
    unfold wpOpIn
    rw [hey]
    simp only
    rw [if_pos (by unfold Region.wanted; rw [Option.isNone_iff_eq_none.1 hgy])]
    refine yield_step hy hJ hK hr1' hoy hdue (by rw [hN1]; exact hdy) fun W' hJ' hS' hr2' => ?_
    rw [hN1] at hr2'
    have eset : (Array.replicate pre.length true ++ #[false, false]).setIfInBounds pre.length true = Array.replicate pre.length true ++ #[true, false] := by
      apply Array.ext_getElem?
      intro j
      by_cases hj : j = pre.length
      · subst hj
        rw [Array.getElem?_setIfInBounds_self_of_lt (by simp), Array.getElem?_append_right (by simp)]; simp
      · rw [Array.getElem?_setIfInBounds_ne (fun h => hj h.symm), Array.getElem?_append, Array.getElem?_append]
        simp only [Array.size_replicate]
        split
        · rfl
        · match hjj : j - pre.length with
          | 0 => omega
          | 1 => rfl
          | k + 2 => simp
    rw [eset]
    refine ⟨(fun h => by rw [hr2] at h; cases h), fun j hj => ?_⟩
    rw [hr2] at hj
    simp at hj; subst hj
    unfold wpOpIn
    rw [hex]
    simp only
    rw [if_pos (by unfold Region.wanted; rw [Option.isNone_iff_eq_none.1 hgx])]
    obtain ⟨v, hv, hvp⟩ := pure_rel hr2' hpost
    refine wpIn_val (ro := none) hv ?_
    have eset2 : (Array.replicate pre.length true ++ #[true, false]).setIfInBounds (pre.length + 1) true = Array.replicate pre.length true ++ #[true, true] := by
      apply Array.ext_getElem?
      intro j
      by_cases hj : j = pre.length + 1
      · subst hj
        rw [Array.getElem?_setIfInBounds_self_of_lt (by simp), Array.getElem?_append_right (by simp)]; simp
      · rw [Array.getElem?_setIfInBounds_ne (fun h => hj h.symm), Array.getElem?_append, Array.getElem?_append]
        simp only [Array.size_replicate]
        split
        · rfl
        · match hjj : j - pre.length with
          | 0 => rfl
          | 1 => omega
          | k + 2 => simp
    rw [eset2]
    refine ⟨hr3, ?_⟩
    have eN : (St.put ⟨s.N, T0, [], 0⟩ oy.dst (.k (.bool true))).N = s.N := by cases oy.dst <;> rfl
    exact hQQ .normal (i + 1) _ W' S1 _ S1 _ _ hJ' hS' (Rel.next hr2' hr2'.st (fun _ _ h => h) (by rw [eN]; exact hdx) hvp) hQ

/-- The same, the region's operations being a list that is there. -/
theorem awpI_yieldK {J : Nat → (Nat → Prop) → World → Prop} {items : List (List PV × List (List PV))} {l i : Nat} (hy : YieldsOk P l items J) (hm : P.follows .mixedOrders = true) {id : Nat} {ops : List Oper} (k : Nat) {Q : Exit → Nat → St → Prop}
    (T0 : List (Nat × PV)) {oy ox : Oper} {f : Operand} {args : Array Operand} {ts : Array TypeId} {p : PV}
    (hpre : DrawW P (ops.take k) s fun s1 => s1.N = s.N ∧ Due items l i f args.toList T0 s1)
    (hQ : Q .normal (i + 1) ((St.put ⟨s.N, T0, [], 0⟩ oy.dst (.k (.bool true))).put ox.dst p))
    (hy1 : ops[k]? = some oy := by rfl) (hx1 : ops[k + 1]? = some ox := by rfl) (hlen : ops.length = k + 2 := by rfl)
    (hoy : oy.op = .call { callee := .value f, args := args, argTypes := ts } := by exact rfl) (hdy : dstOk oy.dst s.N = true := by exact rfl) (hdx : dstOk ox.dst s.N = true := by exact rfl)
    (hpost : pureVal P (St.put ⟨s.N, T0, [], 0⟩ oy.dst (.k (.bool true))) ox.op = some p := by exact rfl)
    (hsh : yieldShape (ops.take k) oy ox = true := by kernel_rfl)
    (hr1 : Region.ready .any ops.toArray (Array.replicate k true ++ #[false, false]) = [k] := by kernel_rfl)
    (hr2 : Region.ready .any ops.toArray (Array.replicate k true ++ #[true, false]) = [k + 1] := by kernel_rfl)
    (hr3 : Region.ready .any ops.toArray (Array.replicate k true ++ #[true, true]) = [] := by kernel_rfl) : AWpI P J (.region id ops.toArray true) s i Q := by
  have hops : ops = ops.take k ++ [oy, ox] := by
    refine List.ext_getElem? fun j => ?_
    rcases Nat.lt_trichotomy j k with h | h | h
    · rw [List.getElem?_append_left (by simp; omega), List.getElem?_take_of_lt h]
    · subst h; rw [hy1, List.getElem?_append_right (by simp; omega)]; simp [hlen]
    · rcases Nat.lt_or_ge j (k + 2) with h2 | h2
      · obtain rfl : j = k + 1 := by omega
        rw [hx1, List.getElem?_append_right (by simp; omega)]; simp [hlen]
      · rw [List.getElem?_eq_none (by omega), List.getElem?_eq_none (by simp; omega)]
  have hk : (ops.take k).length = k := by simp; omega
  rw [show ops.toArray = (ops.take k ++ [oy, ox]).toArray from congrArg List.toArray hops] at hr1 hr2 hr3 ⊢
  exact awpI_yield hy hm (ops.take k) T0 rfl hsh (by rw [hk]; exact hr1) (by rw [hk]; exact hr2) (by rw [hk]; exact hr3) hoy hdy hdx hpre hpost hQ
end
end Go.Proofs.YtidhdlhblhbahaaGreat.Am
