/- Package arch: how a world in tables lies in the boxes. -/
import Derived.Test.YtidhdlhblhbahaaGreatCol2
import Derived.Test.YtidhdlhblhbahaaGreatArc0
import Derived.Test.YtidhdlhblhbahaaGreatArc1
import Derived.Test.YtidhdlhblhbahaaGreatDeep1
set_option linter.unusedVariables false
set_option linter.unusedSimpArgs false
namespace Go.Proofs.YtidhdlhblhbahaaGreat.Am
open Go Go.RowKit

theorem awp_cut {P : Program} {x y : Code} {s : St} {Q : Exit → St → Prop} {α : Type} (I : α → St) (J : α → Prop) (h1 : AWp P x s (thenA (fun s' => ∃ a, J a ∧ Ent s' (I a)) Q)) (h2 : ∀ a, J a → AWp P y (I a) Q) : AWp P (.seq x y) s Q :=
  awp_seq (awp_mono h1 fun e s' h => by
    cases e with
    | normal => obtain ⟨a, ha, he⟩ := h; exact awp_ent he (h2 a ha)
    | _ => exact h)

/-- A table: all entities with some kinds. -/
structure GTab where
  kinds : List Int
  rows : List GItem
def GTab.slots (T : GTab) : List Int := T.rows.map fun it => it.Ent.N
def GTab.ents (T : GTab) : List GEnt := T.rows.map fun it => it.Ent
def GTab.col (T : GTab) (j : Nat) : List (List Int) := T.rows.map fun it => (it.Comps.getD j ⟨0, []⟩).Vals
theorem GTab.slots_len (T : GTab) : T.slots.length = T.rows.length := by simp [GTab.slots]
theorem GTab.ents_len (T : GTab) : T.ents.length = T.rows.length := by simp [GTab.ents]
theorem GTab.col_len (T : GTab) (j : Nat) : (T.col j).length = T.rows.length := by simp [GTab.col]

structure TabH (σ : Boxes) (g : Tag) (t : Nat) (ks : List Int) (e c : Nat) (cols : List Nat) : Prop where
  bt : box σ t = some [slI ks, .ptr e 0, .osl c 1 0 cols.length]
  bc : box σ c = some (cols.map fun s => PV.ptr s 0)
  cl : cols.length = ks.length
  gt : g t = (t + 2, 0, 0)
  gc : g c = (t + 2, 0, 1)
structure TabAt (σ : Boxes) (g : Tag) (t : Nat) (T : GTab) : Prop where
  ex : ∃ (e c : Nat) (cols : List Nat), TabH σ g t T.kinds e c cols ∧ StoreAt σ g (t + 2, 1) e 2 (T.ents.map GEnt.e).flatten T.slots ∧ ∀ j (h : j < cols.length), StoreAt σ g (t + 2, j + 2) cols[j] 1 (slsI (T.col j)) T.slots
structure ArchH (σ : Boxes) (g : Tag) (ab : Nat) (kinds : List GKind) (gens : List Int) (tabs : List (Nat × GTab)) (oks : List Int) (ofT : Int → Nat) : Prop where
  ex : ∃ gb tb mb : Nat, box σ ab = some [.sl 2 (kinds.map GKind.e), .osl gb 1 0 gens.length, .osl tb 1 0 tabs.length, .mref mb] ∧ box σ gb = some (gens.map kI) ∧ box σ tb = some (tabs.map fun x => PV.ptr x.1 0) ∧
    box σ mb = some [.tup (oks.map kI), .tup (oks.map fun n => PV.ptr (ofT n) 0)] ∧ g ab = (1, 0, 0) ∧ g gb = (1, 0, 1) ∧ g tb = (1, 0, 2) ∧ g mb = (1, 0, 3)
  tab : ∀ x ∈ tabs, TabAt σ g x.1 x.2
structure ArchP (tabs : List (Nat × GTab)) (oks : List Int) (ofT : Int → Nat) : Prop where
  idn : (tabs.map fun x => x.1).Nodup
  srt : tabs.Pairwise fun x y => cmpL x.2.kinds y.2.kinds < 0
  row : ∀ x ∈ tabs, ∀ it ∈ x.2.rows, it.Comps.map GComp.Kind = x.2.kinds ∧ 0 ≤ it.Ent.N ∧ it.Ent.N < 256
  ne : ∀ x ∈ tabs, x.2.rows ≠ []
  kl : ∀ x ∈ tabs, x.2.kinds.length ≤ 1000
  okn : oks.Nodup
  okm : ∀ n, n ∈ oks ↔ ∃ x ∈ tabs, n ∈ x.2.slots
  oft : ∀ x ∈ tabs, ∀ n ∈ x.2.slots, ofT n = x.1

theorem TabH.frame {σ τ : Boxes} {g g' : Tag} {O : Nat × Nat × Nat → Prop} {t e c : Nat} {ks : List Int} {cols : List Nat} (h : TabH σ g t ks e c cols) (hf : Fr σ τ g g' O) (hO : ∀ p, ¬ O (t + 2, 0, p)) : TabH τ g' t ks e c cols :=
  ⟨hf.box h.bt (by rw [h.gt]; exact hO _), hf.box h.bc (by rw [h.gc]; exact hO _), h.cl, (hf.tag h.bt).trans h.gt, (hf.tag h.bc).trans h.gc⟩
theorem TabAt.frame {σ τ : Boxes} {g g' : Tag} {O : Nat × Nat × Nat → Prop} {t : Nat} {T : GTab} (h : TabAt σ g t T) (hf : Fr σ τ g g' O) (hO : ∀ a p, ¬ O (t + 2, a, p)) : TabAt τ g' t T := by
  obtain ⟨e, c, cols, h1, h2, h3⟩ := h
  exact ⟨e, c, cols, h1.frame hf (hO 0), h2.frame hf (hO _), fun j hj => (h3 j hj).frame hf (hO _)⟩
theorem ArchH.frame {σ τ : Boxes} {g g' : Tag} {O : Nat × Nat × Nat → Prop} {ab : Nat} {kinds : List GKind} {gens oks : List Int} {tabs : List (Nat × GTab)} {ofT : Int → Nat} (h : ArchH σ g ab kinds gens tabs oks ofT) (hf : Fr σ τ g g' O) (hO : ∀ t, t.1 ≠ 0 → ¬ O t) : ArchH τ g' ab kinds gens tabs oks ofT := by
  obtain ⟨⟨gb, tb, mb, h1, h2, h3, h4, g1, g2, g3, g4⟩, h5⟩ := h
  refine ⟨⟨gb, tb, mb, hf.box h1 (hO _ (by rw [g1]; simp)), hf.box h2 (hO _ (by rw [g2]; simp)), hf.box h3 (hO _ (by rw [g3]; simp)), hf.box h4 (hO _ (by rw [g4]; simp)), (hf.tag h1).trans g1, (hf.tag h2).trans g2, (hf.tag h3).trans g3, (hf.tag h4).trans g4⟩, fun x hx => (h5 x hx).frame hf fun a p => hO _ (by simp)⟩

theorem rows_le {tabs : List (Nat × GTab)} : ∀ x ∈ tabs, x.2.rows.length ≤ (tabs.flatMap fun x => x.2.rows).length := fun x hx => by
  obtain ⟨l1, l2, rfl⟩ := List.append_of_mem hx
  simp only [List.flatMap_append, List.flatMap_cons, List.length_append]; omega
theorem tabs_le : ∀ {tabs : List (Nat × GTab)}, (∀ x ∈ tabs, x.2.rows ≠ []) → tabs.length ≤ (tabs.flatMap fun x => x.2.rows).length
  | [], _ => by simp
  | x :: tabs, h => by
    have h1 := tabs_le fun y hy => h y (List.mem_cons_of_mem _ hy)
    have h2 := List.length_pos_iff.2 (h x (by simp))
    simp only [List.flatMap_cons, List.length_append, List.length_cons]; omega

/-- Where a table with these kinds is, or would be. -/
def tabI (tabs : List (Nat × GTab)) (ks : List Int) : Nat := bs (fun x : Nat × GTab => cmpL x.2.kinds ks) tabs
def tabB (tabs : List (Nat × GTab)) (ks : List Int) : Bool := bsOk (fun x : Nat × GTab => cmpL x.2.kinds ks) tabs

set_option maxRecDepth 20000 in
theorem find_L {σ : Boxes} {g : Tag} {tb : Nat} {tabs : List (Nat × GTab)} (hT : ∀ x ∈ tabs, TabAt σ g x.1 x.2) (htb : box σ tb = some (tabs.map fun x => PV.ptr x.1 0)) (ks : List Int) (hk : ∀ x ∈ tabs, x.2.kinds.length ≤ 1000) (hl : tabs.length ≤ 1000000) (hks : ks.length ≤ 1000) :
    FnL Tryz.prog 133 [.osl tb 1 0 tabs.length, slI ks, .clo (.func 134) []] σ (fun p τ => p = .tup [kI (tabI tabs ks), kB (tabB tabs ks)] ∧ τ = σ) := by
  refine BinarySearchT_L tabs (fun x => x.1) ks 134 (fun x => cmpL x.2.kinds ks) htb (by omega) (by simp) fun x hx => ?_
  obtain ⟨e, c, cols, h1, _⟩ := hT x hx
  exact add1_L h1.bt (by have := hk x hx; omega) (by omega)
end Go.Proofs.YtidhdlhblhbahaaGreat.Am
