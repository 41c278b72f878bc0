/- Several texts in one. -/
import Derived.Test.YtidhdlhblhbahaaGreatW1
import Derived.Test.YtidhdlhblhbahaaGreatArcP
import Derived.Test.YtidhdlhblhbahaaGreatCLaw2
import Derived.Test.YtidhdlhblhbahaaGreatCopy1
import Derived.Test.YtidhdlhblhbahaaGreatSl5
import Derived.Test.YtidhdlhblhbahaaGreatLie
import Derived.LaidEqlPtr
import Derived.Test.YtidhdlhblhbahaaGreatSortB
import Derived.Test.YtidhdlhblhbahaaGreatWChk1
import Derived.Test.YtidhdlhblhbahaaGreatMake5
import Derived.Test.YtidhdlhblhbahaaGreatBaseW
import Derived.Test.YtidhdlhblhbahaaGreatWLaw1
import Derived.Test.YtidhdlhblhbahaaGreatKind7
set_option linter.unusedVariables false
set_option linter.unusedSimpArgs false
/- Package arch: add. -/
namespace Go.Proofs.YtidhdlhblhbahaaGreat.Am
open Go Go.RowKit

/-- In the middle of add: the table is there. -/
structure AddMid (ab b4 : Nat) (kinds : List GKind) (gens : List Int) (it : GItem) (oks : List Int) (ofT : Int → Nat) (tabs : List (Nat × GTab)) (i : Nat) (σ0 : Boxes) (g0 : Tag) (σ : Boxes) (g : Tag) (tabs1 : List (Nat × GTab)) (t : Nat) (T : GTab) : Prop where
  H : ArchH σ g ab kinds gens tabs1 oks ofT
  ti : tabs1[i]? = some (t, T)
  tk : T.kinds = it.Comps.map GComp.Kind
  bx4 : box σ b4 = some it.Ent.e
  g4 : g b4 = (0, 0, 0)
  fr : Fr σ0 σ g0 g (fun t => t.1 ≠ 0)
  wh : (tabs1 = tabs ∧ tabB tabs (it.Comps.map GComp.Kind) = true) ∨ (T.rows = [] ∧ σ0.length ≤ t ∧ tabs1 = tabs.take i ++ (t, T) :: tabs.drop i ∧ tabB tabs (it.Comps.map GComp.Kind) = false)

structure AddX where
  σ : Boxes
  g : Tag
  tabs : List (Nat × GTab)
  t : Nat
  T : GTab
structure ColX where
  j : Nat
  σ : Boxes
  g : Tag
/-- Some columns of the table have the new row. -/
structure ColMid (it : GItem) (t : Nat) (T : GTab) (e c : Nat) (cols : List Nat) (b4 : Nat) (σ2 : Boxes) (g2 : Tag) (j : Nat) (σ : Boxes) (g : Tag) : Prop where
  th : TabH σ g t T.kinds e c cols
  es : StoreAt σ g (t + 2, 1) e 2 ((T.ents ++ [it.Ent]).map GEnt.e).flatten (T.slots ++ [it.Ent.N])
  done : ∀ i (h : i < cols.length), i < j → StoreAt σ g (t + 2, i + 2) cols[i] 1 (slsI (T.col i ++ [(it.Comps.getD i ⟨0, []⟩).Vals])) (T.slots ++ [it.Ent.N])
  todo : ∀ i (h : i < cols.length), j ≤ i → StoreAt σ g (t + 2, i + 2) cols[i] 1 (slsI (T.col i)) T.slots
  b4 : box σ b4 = some it.Ent.e
  jl : j ≤ cols.length
  fr : Fr σ2 σ g2 g (fun x => x.1 = t + 2)
structure NewX where
  j : Nat
  σ : Boxes
  g : Tag
  cols : List Nat
  c : Nat
/-- A new table, some of whose columns are there. -/
structure NewMid (ks : List Int) (t : Nat) (σ0 : Boxes) (g0 : Tag) (j : Nat) (σ : Boxes) (g : Tag) (e c : Nat) (cols : List Nat) : Prop where
  bt : box σ t = some [slI ks, .ptr e 0, .osl c 1 0 cols.length]
  bc : box σ c = some (cols.map fun s => PV.ptr s 0)
  gt : g t = (t + 2, 0, 0)
  gc : g c = (t + 2, 0, 1)
  cj : cols.length = j
  jl : j ≤ ks.length
  st : StoreAt σ g (t + 2, 1) e 2 [] []
  co : ∀ i (h : i < cols.length), StoreAt σ g (t + 2, i + 2) cols[i] 1 [] []
  cg : σ0.length ≤ c
  fr : Fr σ0 σ g0 g (fun _ => False)

set_option maxRecDepth 20000 in
set_option maxHeartbeats 1000000 in
theorem add_L {σ : Boxes} {g : Tag} {ab : Nat} {kinds : List GKind} {gens oks : List Int} {tabs : List (Nat × GTab)} {ofT : Int → Nat} (hH : ArchH σ g ab kinds gens tabs oks ofT) (hP : ArchP tabs oks ofT) (it : GItem)
    (hn : 0 ≤ it.Ent.N ∧ it.Ent.N < 256) (hnew : it.Ent.N ∉ oks) (hsz : (tabs.flatMap fun x => x.2.rows).length ≤ 100000) (hcl : it.Comps.length ≤ 1000) :
    FnL Tryz.prog 78 [.ptr ab 0, .agg it.Ent.e, .sl 2 (it.Comps.map GComp.e)] σ (fun p τ => p = .tup [] ∧ ∃ g' tabs' ofT', ArchH τ g' ab kinds gens tabs' (oks ++ [it.Ent.N]) ofT' ∧ ArchP tabs' (oks ++ [it.Ent.N]) ofT' ∧
      (tabs'.flatMap fun x => x.2.rows).Perm ((tabs.flatMap fun x => x.2.rows) ++ [it]) ∧ Fr σ τ g g' (fun t => t.1 ≠ 0)) := by
  obtain ⟨ks, hks⟩ : ∃ ks, it.Comps.map GComp.Kind = ks := ⟨_, rfl⟩
  have hkl : ks.length = it.Comps.length := by rw [← hks]; simp
  refine fnl_of Tryz.func78 rfl fun hlt => ?_
  refine awp_seq (awp_go ?_)
  simp [Tryz.ntmps78, entryL]
  -- the entity's own box
  obtain ⟨b4, hb4⟩ : ∃ b4, σ.length = b4 := ⟨_, rfl⟩
  have hf1 : Fr σ (σ ++ [some it.Ent.e]) g (newTag g σ.length []) (fun _ => False) := ⟨by simp, fun b hb => newTag_old hb, fun b hb _ => by rw [box_append, if_pos hb]⟩
  have hH1 := hH.frame hf1 fun _ _ h => h
  obtain ⟨g1, hg1⟩ : ∃ g1, newTag g σ.length [] = g1 := ⟨_, rfl⟩
  have hg4 : g1 b4 = (0, 0, 0) := by
    have := newTag_new (g := g) (n := σ.length) (l := []) (j := 0)
    rw [Nat.add_zero] at this
    rw [← hg1, ← hb4, this]; rfl
  have hbx4 : box (σ ++ [some it.Ent.e]) b4 = some it.Ent.e := by rw [← hb4]; simp
  rw [hg1] at hf1 hH1
  obtain ⟨σ1, hσ1⟩ : ∃ σ1, σ ++ [some it.Ent.e] = σ1 := ⟨_, rfl⟩
  rw [hσ1] at hf1 hH1 hbx4 ⊢
  rw [hb4]
  refine awp_seq (awp_go ?_)
  simp
  refine cal (kindsOf_fn it.Comps (by omega)) ?_
  rw [hks]
  simp
  obtain ⟨⟨gb, tb, mb, e1, e2, e3, e4, t1, t2, t3, t4⟩, e5⟩ := hH1
  have htl : tabs.length ≤ 100000 := Nat.le_trans (tabs_le hP.ne) hsz
  refine awp_seq (awp_go ?_)
  simp [boxG e1]
  refine calL (find_L e5 e3 ks hP.kl (by omega) (by omega)) (fun p τ hp => ?_)
  obtain ⟨rfl, hτ⟩ := hp
  rw [hτ]
  simp
  have hH1 : ArchH σ1 g1 ab kinds gens tabs oks ofT := ⟨⟨gb, tb, mb, e1, e2, e3, e4, t1, t2, t3, t4⟩, e5⟩
  have hf1' : Fr σ σ1 g g1 (fun t => t.1 ≠ 0) := hf1.mono fun _ h => h.elim
  refine awp_cut (α := AddX) (fun x => ⟨98, [(0, .ptr ab 0), (2, .sl 2 (it.Comps.map GComp.e)), (4, .ptr b4 0), (7, kI (tabI tabs ks))], x.σ, b4⟩)
    (fun x => AddMid ab b4 kinds gens it oks ofT tabs (tabI tabs ks) σ g x.σ x.g x.tabs x.t x.T) (awp_go ?_) ?_
  · simp
    by_cases hB : tabB tabs ks = true
    · obtain ⟨hi, hc⟩ := bsOk_lt hB
      simp [hB]
      have hi : tabI tabs ks < tabs.length := hi
      refine ⟨⟨σ1, g1, tabs, (tabs[tabI tabs ks]'hi).1, (tabs[tabI tabs ks]'hi).2⟩, ⟨hH1, List.getElem?_eq_getElem hi, ?_, hbx4, hg4, hf1', .inl ⟨rfl, by rw [hks]; exact hB⟩⟩, ent_T _⟩
      rw [hks]
      exact cmpL_same.1 hc
    · have hB' : tabB tabs ks = false := by simpa using hB
      simp [hB']
      obtain ⟨t, ht⟩ : ∃ t, σ1.length + 4 = t := ⟨_, rfl⟩
      obtain ⟨υ, g2, hL, hS, hfr, hsame, hlen⟩ := newL (σ := σ1) (g := g1) (o := (t + 2, 1)) ColNewE_fn
      refine calL hL (fun p τ hp => ?_)
      obtain ⟨rfl, hτ⟩ := hp
      rw [hτ]
      simp
      refine awp_loop (fun x : NewX => ⟨98, [(0, .ptr ab 0), (2, .sl 2 (it.Comps.map GComp.e)), (4, .ptr b4 0), (6, slI ks), (7, kI (tabI tabs ks)), (9, .ptr t 0), (31, kI ks.length), (32, kI x.j)], x.σ, b4⟩)
        (fun x => NewMid ks t σ1 g1 x.j x.σ x.g σ1.length x.c x.cols) (fun x => ks.length - x.j) ⟨0, υ ++ [some [slI ks, .ptr σ1.length 0, .osl (t + 1) 1 0 0], some []], newTag g2 t [(t + 2, 0, 0), (t + 2, 0, 1)], [], t + 1⟩ ?_ ?_ ?_
      · have hυ : υ.length = t := by omega
        refine (ent_nilb (b := t) (j := 2) (z := 1) (cs := [slI ks, .ptr σ1.length 0, kNil]) (by rw [← hυ]; simp) rfl).trans ?_
        have hset : (υ ++ [some [slI ks, .ptr σ1.length 0, kNil]]).set t (some ([slI ks, .ptr σ1.length 0, kNil].set 2 (.osl (υ ++ [some [slI ks, .ptr σ1.length 0, kNil]]).length 1 0 0))) ++ [some []] = υ ++ [some [slI ks, .ptr σ1.length 0, .osl (t + 1) 1 0 0], some []] := by
          rw [List.set_append_right _ _ (by omega)]; simp [hυ]
        simp only [hset]
        exact ent_T _ (by simp [hυ])
      · have hυ : υ.length = t := by omega
        have hgn := newTag_new (g := g2) (n := t) (l := [(t + 2, 0, 0), (t + 2, 0, 1)]) (j := 0)
        rw [Nat.add_zero] at hgn
        have hfx : Fr υ (υ ++ [some [slI ks, .ptr σ1.length 0, .osl (t + 1) 1 0 0], some []]) g2 (newTag g2 t [(t + 2, 0, 0), (t + 2, 0, 1)]) (fun _ => False) :=
          ⟨by simp, fun b hb => newTag_old (by omega), fun b hb _ => by rw [box_append, if_pos hb]⟩
        refine ⟨?_, ?_, hgn, newTag_new, rfl, by simp, hS.frame hfx fun _ h => h, by simp, by show σ1.length ≤ t + 1; omega, hfr.trans hfx⟩
        · rw [box_append, if_neg (by omega), hυ]; simp
        · show box _ (t + 1) = _
          rw [box_append, if_neg (by omega), hυ]; simp
      · rintro ⟨j, σ3, g3, cols, c⟩ hJ
        simp only at hJ ⊢
        refine awp_go ?_
        by_cases hlt : j < ks.length
        · simp [hlt]
          refine awp_draw follows_mix [5] [(0, [0, 1, 2, 3]), (0, [0, 1, 2]), (0, [0, 1, 2]), (0, [0, 1, 2]), (0, [0, 1, 2]), (3, [0]), (1, [1]), (1, [2]), (0, [3]), (0, [3]), (1, [3])] 4 (by kernel_rfl) rfl ?_
          simp [boxG hJ.bt]
          obtain ⟨σ4, g4, hL4, hS4, hfr4, hsame4, hlen4⟩ := newL (σ := σ3) (g := g3) (o := (t + 2, j + 2)) ColNewI_fn
          refine gD_callW (.ptr σ3.length 0) σ4 ?_
          have b4t := boxG (hfr4.box hJ.bt (fun h => h))
          have b4c := boxG (hfr4.box hJ.bc (fun h => h))
          have l4t := box_lt (hfr4.box hJ.bt (fun h => h))
          have l4c := box_lt (hfr4.box hJ.bc (fun h => h))
          have hcl2 : cols.length ≤ 1000 := by have := hJ.cj; omega
          have hb1 : (cols.length + 1) * 8 ≤ 140737488355328 := by omega
          have hb2 : cols.length + 1 ≤ maxLen := by simp only [maxLen]; omega
          have htc : c ≠ t := fun e => by have h1 := hJ.gt; have h2 := hJ.gc; rw [e, h1] at h2; simp at h2
          have q1 : ∀ X Y : Option (List PV), ((σ4 ++ [X]).set c none ++ [Y])[t]? = some (some [slI ks, .ptr σ1.length 0, .osl c 1 0 cols.length]) := fun X Y => by
            rw [List.getElem?_append_left (by simp; omega), List.getElem?_set_ne htc, List.getElem?_append_left l4t, b4t]
          simp [boxG hJ.bt, b4t, b4c, List.getElem?_append_left l4t, List.getElem?_append_left l4c, hb1, hb2, q1]
          refine ⟨.inl ⟨rfl, doL hL4⟩, ?_⟩
          rw [wrap_id (by omega) (by omega)]
          obtain ⟨σ5, hσ5⟩ : ∃ σ5, ((σ4 ++ [some [PV.ptr σ3.length 0]]).set c none ++ [some (List.map (fun s => PV.ptr s 0) cols ++ [PV.ptr σ3.length 0])]).set t (some [slI ks, .ptr σ1.length 0, .osl (σ4.length + 1) 1 0 (cols.length + 1)]) = σ5 := ⟨_, rfl⟩
          rw [hσ5]
          have hlen5 : σ5.length = σ4.length + 2 := by rw [← hσ5]; simp
          have hb5 : ∀ b, b < σ4.length → b ≠ t → b ≠ c → box σ5 b = box σ4 b := fun b hb h1 h2 => by
            rw [← hσ5, box_set (by simp; omega), if_neg h1, box_append, if_pos (by simp; omega), box_set (by simp; omega), if_neg h2, box_append, if_pos hb]
          have hg5 : ∀ b, b < σ4.length → newTag g4 σ4.length [(0, 0, 0), (t + 2, 0, 1)] b = g4 b := fun b hb => newTag_old hb
          have hgt4 : g4 t = (t + 2, 0, 0) := (hfr4.tag hJ.bt).trans hJ.gt
          have hgc4 : g4 c = (t + 2, 0, 1) := (hfr4.tag hJ.bc).trans hJ.gc
          have hfr5 : Fr σ4 σ5 g4 (newTag g4 σ4.length [(0, 0, 0), (t + 2, 0, 1)]) (fun x => x.1 = t + 2 ∧ x.2.1 = 0) :=
            ⟨by omega, hg5, fun b hb hO => hb5 b hb (fun e => hO (by rw [e, hgt4]; exact ⟨rfl, rfl⟩)) (fun e => hO (by rw [e, hgc4]; exact ⟨rfl, rfl⟩))⟩
          refine ⟨⟨j + 1, σ5, newTag g4 σ4.length [(0, 0, 0), (t + 2, 0, 1)], cols ++ [σ3.length], σ4.length + 1⟩, ⟨?_, ?_, ?_, newTag_new, ?_, by simp; omega, ?_, ?_, ?_, ?_⟩, by simp; omega, ent_T _⟩
          · show box σ5 t = _
            rw [← hσ5, box_set (by simp; omega), if_pos rfl]; simp
          · show box σ5 (σ4.length + 1) = _
            rw [← hσ5, box_set (by simp; omega), if_neg (by omega), box_append, if_neg (by simp)]; simp
          · exact (hg5 t l4t).trans hgt4
          · simp [hJ.cj]
          · exact (hJ.st.frame hfr4 fun _ h => h).frame hfr5 fun p h => by simp at h
          · intro i hi
            simp only [List.length_append, List.length_cons, List.length_nil] at hi
            by_cases hic : i < cols.length
            · simp only [List.getElem_append_left hic]
              exact ((hJ.co i hic).frame hfr4 fun _ h => h).frame hfr5 fun p h => by simp at h
            · have hie : i = cols.length := by omega
              subst hie
              have := hS4.frame hfr5 fun p h => by simp at h
              rw [← hJ.cj] at this
              simpa using this
          · show σ1.length ≤ σ4.length + 1
            have := hJ.fr.le
            have := hfr4.le
            omega
          · have h1 := hJ.fr.trans hfr4
            refine ⟨by have := h1.le; show σ1.length ≤ σ5.length; omega, fun b hb => ?_, fun b hb _ => ?_⟩
            · exact (hg5 b (by have := h1.le; omega)).trans (h1.tg b hb)
            · have := h1.le
              have := hJ.cg
              exact (hb5 b (by omega) (by omega) (by omega)).trans (h1.bx b hb fun h => h)
        · have hjn : cols.length = ks.length := by have := hJ.cj; have := hJ.jl; omega
          have k1 := hJ.fr.box e1 fun h => h
          have k3 := hJ.fr.box e3 fun h => h
          simp [hlt, boxG k1]
          have hi : tabI tabs ks ≤ tabs.length := bs_le _ _
          have hbx : box (σ3 ++ [some [PV.ptr t 0]]) tb = some (tabs.map fun x => PV.ptr x.1 0) := by rw [box_append, if_pos (box_lt k3)]; exact k3
          have hIns := InsertT_L (σ := σ3 ++ [some [PV.ptr t 0]]) (b0 := tb) (b1 := σ3.length) (tabI tabs ks) (v := PV.ptr t 0) hbx (by rw [box_append, if_neg (by omega)]; simp) (by have := box_lt k3; omega) (by simpa using hi) (by simp; omega)
          simp only [List.length_map] at hIns
          refine calL hIns (fun p τ hp => ?_)
          obtain ⟨m, rfl, hm1, hm2, hm3, hm4⟩ := hp
          have k1τ : box τ ab = _ := (hm4 ab (by have := box_lt k1; simp; omega) (fun e => by rw [e, t3] at t1; simp at t1)).trans ((box_append.trans (if_pos (box_lt k1))).trans k1)
          simp [boxG k1τ]
          obtain ⟨σ6, hσ6⟩ : ∃ σ6, τ.set ab (some [.sl 2 (List.map GKind.e kinds), .osl gb 1 0 gens.length, .osl m 1 0 (tabs.length + 1), .mref mb]) = σ6 := ⟨_, rfl⟩
          rw [hσ6]
          have lτ : σ3.length + 1 ≤ τ.length := by simpa using hm2
          have lab := box_lt k1
          have ltb := box_lt k3
          have hb6 : ∀ b, b < σ3.length → b ≠ ab → b ≠ tb → box σ6 b = box σ3 b := fun b hb h1 h2 => by
            rw [← hσ6, box_set (by omega), if_neg h1, hm4 b (by simp; omega) h2, box_append, if_pos hb]
          obtain ⟨g6, hg6⟩ : ∃ g6 : Tag, (fun b => if b < σ3.length then g3 b else if b = m then (1, 0, 2) else (0, 0, 0)) = g6 := ⟨_, rfl⟩
          have hgo : ∀ b, b < σ3.length → g6 b = g3 b := fun b hb => by rw [← hg6]; exact if_pos hb
          have ta : g3 ab = (1, 0, 0) := (hJ.fr.tag e1).trans t1
          have tg : g3 gb = (1, 0, 1) := (hJ.fr.tag e2).trans t2
          have tt : g3 tb = (1, 0, 2) := (hJ.fr.tag e3).trans t3
          have tm : g3 mb = (1, 0, 3) := (hJ.fr.tag e4).trans t4
          have hfr6 : Fr σ3 σ6 g3 g6 (fun x => x.1 = 1) := ⟨by rw [← hσ6]; simp; omega, hgo, fun b hb hO => hb6 b hb (fun e => hO (by rw [e, ta])) (fun e => hO (by rw [e, tt]))⟩
          have k2 := hJ.fr.box e2 fun h => h
          have k4 := hJ.fr.box e4 fun h => h
          have hmab : m ≠ ab := fun e => by
            rcases hm3 with h | h
            · rw [← h, e, ta] at tt; simp at tt
            · simp at h; omega
          have hml := box_lt hm1
          have hlen1 : (tabs.take (tabI tabs ks) ++ ((t, (⟨ks, []⟩ : GTab)) :: tabs.drop (tabI tabs ks))).length = tabs.length + 1 := by simp; omega
          have hTn : TabAt σ3 g3 t ⟨ks, []⟩ := ⟨σ1.length, c, cols, ⟨hJ.bt, hJ.bc, hjn, hJ.gt, hJ.gc⟩, hJ.st, fun i hi => hJ.co i hi⟩
          have hb4l := box_lt hbx4
          have k5 := hJ.fr.box hbx4 fun h => h
          refine ⟨⟨σ6, g6, tabs.take (tabI tabs ks) ++ ((t, (⟨ks, []⟩ : GTab)) :: tabs.drop (tabI tabs ks)), t, ⟨ks, []⟩⟩, ⟨⟨⟨gb, m, mb, ?_, ?_, ?_, ?_, ?_, ?_, ?_, ?_⟩, fun x hx => ?_⟩, ?_, by rw [hks], ?_, ?_, ?_, ?_⟩, ent_T _⟩
          · show box σ6 ab = _
            rw [hlen1, ← hσ6, box_set (by omega), if_pos rfl]
          · exact (hb6 gb (box_lt k2) (fun e => by rw [e, ta] at tg; simp at tg) (fun e => by rw [e, tt] at tg; simp at tg)).trans k2
          · show box σ6 m = _
            rw [← hσ6, box_set (by omega), if_neg hmab, hm1]
            simp [List.map_take, List.map_drop]
          · exact (hb6 mb (box_lt k4) (fun e => by rw [e, ta] at tm; simp at tm) (fun e => by rw [e, tt] at tm; simp at tm)).trans k4
          · exact (hgo ab lab).trans ta
          · exact (hgo gb (box_lt k2)).trans tg
          · show g6 m = _
            rcases hm3 with h | h
            · rw [h]; exact (hgo tb ltb).trans tt
            · rw [← hg6]
              simp at h
              show (if m < σ3.length then g3 m else if m = m then (1, 0, 2) else (0, 0, 0)) = _
              rw [if_neg (by omega), if_pos rfl]
          · exact (hgo mb (box_lt k4)).trans tm
          · have hx' : x ∈ tabs ∨ x = (t, ⟨ks, []⟩) := by
              rcases List.mem_append.1 hx with h | h
              · exact .inl (List.mem_of_mem_take h)
              · rcases List.mem_cons.1 h with h | h
                · exact .inr h
                · exact .inl (List.mem_of_mem_drop h)
            rcases hx' with h | h
            · exact ((e5 x h).frame hJ.fr fun _ _ h => h).frame hfr6 fun a p h => by simp at h
            · subst h
              exact hTn.frame hfr6 fun a p h => by simp at h
          · show (tabs.take (tabI tabs ks) ++ ((t, (⟨ks, []⟩ : GTab)) :: tabs.drop (tabI tabs ks)))[tabI tabs ks]? = _
            rw [List.getElem?_append_right (by simp; omega)]
            simp [Nat.min_eq_left hi]
          · exact hfr6.box k5 (by rw [hJ.fr.tag hbx4, hg4]; simp)
          · exact (hgo b4 (box_lt k5)).trans ((hJ.fr.tag hbx4).trans hg4)
          · exact (hf1'.trans (hJ.fr.mono fun _ h => h.elim)).trans (hfr6.mono fun x h => by rw [h]; simp)
          · refine .inr ⟨rfl, ?_, rfl, by rw [hks]; exact hB'⟩
            have := hf1.le
            show σ.length ≤ t
            omega
  · rintro ⟨σ2, g2, tabs1, t, T⟩ hM
    simp only at hM ⊢
    obtain ⟨⟨⟨gb2, tb2, mb2, f1, f2, f3, f4, u1, u2, u3, u4⟩, f5⟩, hti, htk, hx4, hg42, hfr2, hwh⟩ := hM
    rw [hks] at htk hwh
    have hil : tabI tabs ks < tabs1.length := (List.getElem?_eq_some_iff.1 hti).1
    have hmem : (t, T) ∈ tabs1 := List.mem_of_getElem? hti
    obtain ⟨e, c, cols, hTH, hE, hC⟩ := f5 (t, T) hmem
    have hget : (tabs1.map fun x => PV.ptr x.1 0)[tabI tabs ks]? = some (.ptr t 0) := by rw [List.getElem?_map, hti]; rfl
    have hge : tabs1[tabI tabs ks] = (t, T) := (List.getElem?_eq_some_iff.1 hti).2
    have hNs : it.Ent.N ∉ T.slots := fun h => by
      rcases hwh with ⟨h1, _⟩ | ⟨h1, _⟩
      · subst h1
        exact hnew ((hP.okm _).2 ⟨_, hmem, h⟩)
      · simp [GTab.slots, h1] at h
    have hTr : T.rows.length ≤ 100000 := by
      rcases hwh with ⟨h1, _⟩ | ⟨h1, _⟩
      · subst h1
        exact Nat.le_trans (rows_le _ hmem) hsz
      · rw [h1]; simp
    refine awp_seq (awp_go ?_)
    simp [boxG f1, boxG f3, hil, hge]
    obtain ⟨σ3, g3, hL3, hS3, hfr3⟩ := putE_L hE it.Ent.N it.Ent hn hNs (by rw [T.ents_len, T.slots_len]) (by rw [T.slots_len]; omega)
    refine awp_seq (awp_go ?_)
    simp
    refine awp_draw follows_mix [7] [(0, [0]), (0, [0]), (0, [0]), (0, [0]), (0, [0]), (0, [0]), (0, [0]), (3, [0])] 1 (by kernel_rfl) rfl ?_
    simp [boxG hTH.bt, boxG hx4]
    refine gD_callW (kI 0) σ3 ?_
    simp [boxG hTH.bt, boxG hx4]
    refine ⟨.inl ⟨rfl, doL hL3⟩, ?_⟩
    refine awp_seq (awp_go ?_)
    simp
    have hcn : cols.length = it.Comps.length := by rw [hTH.cl, htk, hkl]
    have o4 : ∀ x : Nat × Nat × Nat, x.1 ≠ 0 → x ≠ g2 b4 := fun x h e => h (by rw [e, hg42])
    refine awp_loop (fun x : ColX => ⟨98, [(0, .ptr ab 0), (2, .sl 2 (it.Comps.map GComp.e)), (4, .ptr b4 0), (10, .ptr t 0), (71, .sl 2 (it.Comps.map GComp.e)), (72, kI it.Comps.length), (73, kI x.j)], x.σ, b4⟩)
      (fun x => ColMid it t T e c cols b4 σ2 g2 x.j x.σ x.g) (fun x => cols.length - x.j) ⟨0, σ3, g3⟩ ?_ ?_ ?_
    · exact ent_T _
    · refine ⟨hTH.frame hfr3 fun p h => by simp [OfS] at h, ?_, fun i h hi => by simp at hi, fun i h _ => (hC i h).frame hfr3 fun p h => by simp [OfS] at h, hfr3.box hx4 (by rw [hg42]; simp), by simp, hfr3.mono fun x h => h.1⟩
      simpa using hS3
    · rintro ⟨j, σ4, g4⟩ hJ
      simp only at hJ ⊢
      refine awp_go ?_
      by_cases hlt : j < it.Comps.length
      · have hjc : j < cols.length := by omega
        simp [hlt]
        have hfa : Fr σ4 (σ4 ++ [some (GComp.e (it.Comps[j]))]) g4 g4 (fun _ => False) := Fr.app
        obtain ⟨σ5, hσ5⟩ : ∃ σ5, σ4 ++ [some (GComp.e (it.Comps[j]))] = σ5 := ⟨_, rfl⟩
        have h12 : box σ5 σ4.length = some (GComp.e (it.Comps[j])) := by rw [← hσ5, box_append, if_neg (by omega)]; simp
        rw [hσ5] at hfa
        rw [hσ5]
        have hJ5 := (hJ.todo j hjc (Nat.le_refl _)).frame hfa fun _ h => h
        have hTH5 := hJ.th.frame hfa fun _ h => h
        have h45 := hfa.box hJ.b4 fun h => h
        obtain ⟨σ6, g6, hL6, hS6, hfr6⟩ := putI_L hJ5 it.Ent.N (it.Comps[j]).Vals hn hNs (by rw [T.col_len, T.slots_len]) (by rw [T.slots_len]; omega)
        refine awp_draw follows_mix [11] [(0, [0]), (0, [0]), (0, [0]), (0, [0]), (0, [0]), (0, [0]), (0, [0]), (0, [0]), (0, [0]), (0, [0]), (0, [0]), (3, [0])] 1 (by kernel_rfl) rfl ?_
        simp [boxG hTH5.bt, boxG hTH5.bc, boxG h45, boxG h12, hjc]
        refine gD_callW (kI 0) σ6 ?_
        simp [boxG hTH5.bt, boxG hTH5.bc, boxG h45, boxG h12, hjc]
        refine ⟨.inl ⟨rfl, doL hL6⟩, ?_⟩
        rw [wrap_id (by omega) (by omega)]
        have hg4b : g4 b4 = (0, 0, 0) := (hJ.fr.tag hx4).trans hg42
        refine ⟨⟨j + 1, σ6, g6⟩, ⟨hTH5.frame hfr6 fun p h => by simp [OfS] at h, (hJ.es.frame hfa fun _ h => h).frame hfr6 fun p h => by simp [OfS] at h, fun i h hi => ?_, fun i h hi => ?_, hfr6.box h45 (by rw [hg4b]; simp [OfS]), by show j + 1 ≤ _; omega, ?_⟩, by show _ - (j + 1) < _; omega, ent_T _⟩
        · by_cases hij : i < j
          · exact ((hJ.done i h hij).frame hfa fun _ h => h).frame hfr6 fun p h => by simp [OfS] at h; omega
          · have hij : i = j := by have hi : i < j + 1 := hi; omega
            subst hij
            have hgd : it.Comps.getD i ⟨0, []⟩ = it.Comps[i] := by simp [List.getD, hlt]
            rw [hgd]; exact hS6
        · have hi : j + 1 ≤ i := hi
          exact ((hJ.todo i h (by omega)).frame hfa fun _ h => h).frame hfr6 fun p h => by simp [OfS] at h; omega
        · exact (hJ.fr.trans (hfa.mono fun _ h => h.elim)).trans (hfr6.mono fun x h => h.1)
      · have hjn : j = cols.length := by have := hJ.jl; omega
        simp [hlt]
        have n1 : ∀ y z, ((1, y, z) : Nat × Nat × Nat).1 ≠ t + 2 := fun y z => by simp
        have f4' := hJ.fr.box f4 (by rw [u4]; simp)
        have f1' := hJ.fr.box f1 (by rw [u1]; simp)
        have hkey : keyAt .i64 it.Ent.N (oks.map kI) = some none := by
          rw [keyAt_ints]
          congr 1
          rw [List.findIdx?_eq_none_iff]
          intro x hx
          rw [decide_eq_false_iff_not]
          exact fun he => hnew (by rw [he]; exact hx)
        refine awp_draw follows_mix [7] [(0, [0]), (0, [0]), (0, [0]), (0, [0]), (0, [0]), (0, [0]), (0, [0]), (3, [0])] 1 (by kernel_rfl) rfl ?_
        simp [boxG f1', boxG hJ.b4]
        obtain ⟨σ7, hσ7⟩ : ∃ σ7, σ4.set mb2 (some [.tup ((oks ++ [it.Ent.N]).map kI), .tup ((oks.map fun n => PV.ptr (ofT n) 0) ++ [.ptr t 0])]) = σ7 := ⟨_, rfl⟩
        refine gD_callW (.tup []) σ7 ?_
        simp [boxG f1', boxG hJ.b4]
        refine ⟨.inl ⟨rfl, ?_⟩, ?_⟩
        · rw [← hσ7]
          exact does_one (x := (_, _)) (by simp [hkey, boxG f4'])
        have l4m := box_lt f4'
        have hb7 : ∀ b, b ≠ mb2 → box σ7 b = box σ4 b := fun b hb => by rw [← hσ7, box_set l4m, if_neg hb]
        have ga : g4 ab = (1, 0, 0) := (hJ.fr.tag f1).trans u1
        have gg : g4 gb2 = (1, 0, 1) := (hJ.fr.tag f2).trans u2
        have gt : g4 tb2 = (1, 0, 2) := (hJ.fr.tag f3).trans u3
        have gm : g4 mb2 = (1, 0, 3) := (hJ.fr.tag f4).trans u4
        have hfr7 : Fr σ4 σ7 g4 g4 (fun x => x = (1, 0, 3)) := by rw [← hσ7]; exact Fr.set l4m gm
        have f2' := hJ.fr.box f2 (by rw [u2]; simp)
        have f3' := hJ.fr.box f3 (by rw [u3]; simp)
        obtain ⟨A, hA⟩ : ∃ A, tabs1.take (tabI tabs ks) = A := ⟨_, rfl⟩
        obtain ⟨B, hB⟩ : ∃ B, tabs1.drop (tabI tabs ks + 1) = B := ⟨_, rfl⟩
        have hAB : tabs1 = A ++ (t, T) :: B := by
          rw [← hA, ← hB, ← hge, ← List.drop_eq_getElem_cons hil, List.take_append_drop]
        have hAl : A.length = tabI tabs ks := by rw [← hA]; simp; omega
        have hsort := tabI_spec hP.srt ks
        have hid : ((A ++ (t, T) :: B).map fun x => x.1).Nodup := by
          rw [← hAB]
          rcases hwh with ⟨h1, _⟩ | ⟨_, h1, h2, _⟩
          · rw [h1]; exact hP.idn
          · have hlt : ∀ x ∈ tabs, x.1 ≠ t := fun x hx e => by
              obtain ⟨_, _, _, h3, _⟩ := hH.tab x hx
              have := box_lt h3.bt
              omega
            have hnd := hP.idn
            rw [← List.take_append_drop (tabI tabs ks) tabs, List.map_append, List.nodup_append] at hnd
            rw [h2, List.map_append, List.nodup_append]
            refine ⟨hnd.1, List.nodup_cons.2 ⟨fun h => ?_, hnd.2.1⟩, fun a ha b hb => ?_⟩
            · obtain ⟨x, hx, hxe⟩ := List.mem_map.1 h
              exact hlt x (List.mem_of_mem_drop hx) hxe
            · rcases List.mem_cons.1 hb with e | hb
              · subst e
                obtain ⟨x, hx, rfl⟩ := List.mem_map.1 ha
                exact hlt x (List.mem_of_mem_take hx)
              · exact hnd.2.2 a ha b hb
        have hw : tabs = A ++ (t, T) :: B ∨ (T.rows = [] ∧ tabs = A ++ B ∧ (∀ x ∈ A, cmpL x.2.kinds T.kinds < 0) ∧ ∀ x ∈ B, cmpL T.kinds x.2.kinds < 0) := by
          rcases hwh with ⟨h1, _⟩ | ⟨h0, _, h2, h3⟩
          · exact .inl (by rw [← h1]; exact hAB)
          · have hil2 : (tabs.take (tabI tabs ks)).length = tabI tabs ks := by rw [List.length_take]; have := hsort.1; omega
            have eA : A = tabs.take (tabI tabs ks) := by rw [← hA, h2, List.take_left' hil2]
            have eB : B = tabs.drop (tabI tabs ks) := by
              rw [← hB, h2, ← List.drop_drop, List.drop_left' hil2]; rfl
            refine .inr ⟨h0, by rw [eA, eB, List.take_append_drop], ?_, ?_⟩
            · rw [eA, htk]; exact hsort.2.1
            · rw [eB, htk]; exact hsort.2.2 h3
        obtain ⟨hP', hpm⟩ := addP (it := it) hP hid (by rw [hks, htk]) (by rw [htk]; omega) hw hn hnew
        have hids : ∀ x ∈ A ++ B, x.1 ≠ t := fun x hx e => by
          rw [List.map_append, List.nodup_append] at hid
          rcases List.mem_append.1 hx with h | h
          · exact hid.2.2 x.1 (List.mem_map_of_mem h) t (by simp) e
          · have hm := List.mem_map_of_mem (f := fun x : Nat × GTab => x.1) h
            simp only [e] at hm
            exact (List.nodup_cons.1 hid.2.1).1 hm
        refine finL (p := .tup []) ⟨rfl, g4, A ++ (t, ⟨T.kinds, T.rows ++ [it]⟩) :: B, _, ⟨⟨gb2, tb2, mb2, ?_, ?_, ?_, ?_, ga, gg, gt, gm⟩, fun x hx => ?_⟩, hP', hpm, ?_⟩
        · show box σ7 ab = _
          rw [hb7 ab (fun e => by rw [e, gm] at ga; simp at ga), f1', hAB]; simp
        · exact (hb7 gb2 (fun e => by rw [e, gm] at gg; simp at gg)).trans f2'
        · show box σ7 tb2 = _
          rw [hb7 tb2 (fun e => by rw [e, gm] at gt; simp at gt), f3', hAB]; simp
        · show box σ7 mb2 = _
          rw [← hσ7, box_set l4m, if_pos rfl]
          have e1 : (oks ++ [it.Ent.N]).map (fun n => PV.ptr (if n = it.Ent.N then t else ofT n) 0) = oks.map (fun n => PV.ptr (ofT n) 0) ++ [.ptr t 0] := by
            rw [List.map_append, List.map_cons, List.map_nil, if_pos rfl]
            congr 1
            exact List.map_congr_left fun x hx => by rw [if_neg fun e => hnew (by rw [← e]; exact hx)]
          rw [e1]
        · have hx' : x ∈ A ++ B ∨ x = (t, ⟨T.kinds, T.rows ++ [it]⟩) := by
            rcases List.mem_append.1 hx with h | h
            · exact .inl (List.mem_append_left _ h)
            · rcases List.mem_cons.1 h with h | h
              · exact .inr h
              · exact .inl (List.mem_append_right _ h)
          rcases hx' with h | h
          · have hx1 : x ∈ tabs1 := by
              rw [hAB]
              rcases List.mem_append.1 h with h | h
              · exact List.mem_append_left _ h
              · exact List.mem_append_right _ (List.mem_cons_of_mem _ h)
            have hne := hids x h
            exact ((f5 x hx1).frame hJ.fr fun a p h => by simp at h; omega).frame hfr7 fun a p h => by simp at h
          · subst h
            have hes : (⟨T.kinds, T.rows ++ [it]⟩ : GTab).ents = T.ents ++ [it.Ent] := by simp [GTab.ents]
            have hsl : (⟨T.kinds, T.rows ++ [it]⟩ : GTab).slots = T.slots ++ [it.Ent.N] := by simp [GTab.slots]
            have hco : ∀ i, (⟨T.kinds, T.rows ++ [it]⟩ : GTab).col i = T.col i ++ [(it.Comps.getD i ⟨0, []⟩).Vals] := fun i => by simp [GTab.col]
            have hTA : TabAt σ4 g4 t ⟨T.kinds, T.rows ++ [it]⟩ := ⟨e, c, cols, hJ.th, by rw [hes, hsl]; exact hJ.es, fun i hi => by rw [hco, hsl]; exact hJ.done i hi (by omega)⟩
            exact hTA.frame hfr7 fun a p h => by simp at h
        · exact (hfr2.trans (hJ.fr.mono fun x h => by rw [h]; simp)).trans (hfr7.mono fun x h => by rw [h]; simp)
end Go.Proofs.YtidhdlhblhbahaaGreat.Am
/- Package arch: Of. -/
namespace Go.Proofs.YtidhdlhblhbahaaGreat.Am
open Go Go.RowKit

structure OfX where
  i : Nat
  σ : Boxes
  g : Tag
  tabs : List (Nat × GTab)
  ofT : Int → Nat
structure OfMid (w : GWorld) (ab : Nat) (i : Nat) (σ : Boxes) (g : Tag) (tabs : List (Nat × GTab)) (ofT : Int → Nat) : Prop where
  H : ArchH σ g ab w.Kinds w.Gens tabs ((w.Items.take i).map fun it => it.Ent.N) ofT
  P : ArchP tabs ((w.Items.take i).map fun it => it.Ent.N) ofT
  pm : (tabs.flatMap fun x => x.2.rows).Perm (w.Items.take i)
  il : i ≤ w.Items.length

set_option maxRecDepth 20000 in
set_option maxHeartbeats 1000000 in
theorem Of_C (w : GWorld) (hw : checkW w = 0) : FnC Tryz.prog 23 [.agg w.e] [] (fun p τ => ∃ ab g tabs ofT, p = .tup [.ptr ab 0, kI 0] ∧ OfMid w ab w.Items.length τ g tabs ofT) := by
  obtain ⟨hfi, hfc⟩ := checkW_fine hw
  obtain ⟨w1, w2, w3, w4, w5⟩ := checkW_iff.1 hw
  obtain ⟨w6, w7⟩ := items_iff.1 w5
  have hWC := WCheck_fn w hfi (fun it hi c hc => by have := ((hfc it hi).2 c hc).2.2.2; omega)
  rw [hw] at hWC
  refine fnc_of Tryz.func23 rfl fun _ => ?_
  refine awp_seq (awp_go ?_)
  simp [Tryz.ntmps23, entryL]
  refine awp_seq (awp_go ?_)
  simp
  refine cal hWC ?_
  simp
  refine awp_seq (awp_go ?_)
  simp
  have hKC := KCopy_fn w.Kinds (by have := hfi.kl; omega) (fun k hk => by have := hfi.kf k hk; omega)
  have hCl := CloneI_own w.Gens (by omega)
  refine awp_drawS follows_mix [(0, 0), (0, 0), (2, 0), (0, 0), (0, 0), (5, 1), (4, 2), (0, 0), (4, 3), (0, 0)] 1 4 [(0, 6), (1, 6), (2, 6), (3, 6), (4, 6), (5, 6)] (by kernel_rfl) rfl rfl ?_
  simp
  refine gE_call (.sl 2 (w.Kinds.map GKind.e)) ?_ ?_
  · exact calO hKC
  simp
  refine gE_call5 (.osl 1 1 0 w.Gens.length) [] (w.Gens.map kI) rfl (fun y => ?_) (by simp) (by simp) (by simp) (by simp) ?_
  · simp
    exact does_fnd [] hCl rfl rfl rfl (by simp) rfl (by simp) (by simp) (by simp) (by simp) (by simp) (by simp)
  simp
  refine awp_seq (awp_go ?_)
  simp
  refine awp_loop (fun x : OfX => ⟨38, [(5, .ptr 3 0), (23, .sl 3 (w.Items.map GItem.e)), (24, kI w.Items.length), (25, kI x.i)], x.σ, 0⟩)
    (fun x => OfMid w 3 x.i x.σ x.g x.tabs x.ofT) (fun x => w.Items.length - x.i)
    ⟨0, [some w.e, some (w.Gens.map kI), some [.tup [], .tup []], some [.sl 2 (w.Kinds.map GKind.e), .osl 1 1 0 w.Gens.length, .osl 4 1 0 0, .mref 2], some []], fun b => if b = 3 then (1, 0, 0) else if b = 1 then (1, 0, 1) else if b = 4 then (1, 0, 2) else if b = 2 then (1, 0, 3) else (0, 0, 0), [], fun _ => 0⟩ ?_ ?_ ?_
  · refine (ent_nilb (b := 3) (j := 2) (z := 1) rfl rfl).trans ?_
    exact ent_T _
  · refine ⟨⟨⟨1, 4, 2, rfl, rfl, rfl, rfl, rfl, rfl, rfl, rfl⟩, by simp⟩, ⟨by simp, by simp, by simp, by simp, by simp, by simp, by simp, by simp⟩, by simp, by simp⟩
  · rintro ⟨i, σ, g, tabs, ofT⟩ hJ
    simp only at hJ ⊢
    refine awp_go ?_
    by_cases hlt : i < w.Items.length
    · obtain ⟨it, hit⟩ : ∃ it, w.Items[i] = it := ⟨_, rfl⟩
      have hm : it ∈ w.Items := hit ▸ List.getElem_mem hlt
      simp [hlt, hit]
      obtain ⟨σ2, hσ2⟩ : ∃ σ2, σ ++ [some it.e] = σ2 := ⟨_, rfl⟩
      have hfa : Fr σ (σ ++ [some it.e]) g g (fun _ => False) := Fr.app
      have h7 : box (σ ++ [some it.e]) σ.length = some it.e := by rw [box_append, if_neg (by omega)]; simp
      rw [hσ2] at hfa h7 ⊢
      have hH2 := hJ.H.frame hfa fun _ _ h => h
      refine awp_drawL follows_mix [] [] [(0, [0]), (0, [0]), (0, [0]), (0, [0]), (0, [0]), (2, [0])] 0 (by kernel_rfl) rfl rfl ?_
      simp [boxG h7]
      refine gD_call (.sl 2 (it.Comps.map GComp.e)) ?_
      simp [boxG h7]
      refine ⟨calO (CopyComps_fn it.Comps (by have := hfi.ic it hm; omega) (fun c hc => by have := hfi.iv it hm c hc; omega)), ?_⟩
      obtain ⟨k1, k2⟩ := w7 it hm
      obtain ⟨k3, k4, k5, k6⟩ := k2
      have htk : w.Items.take (i + 1) = w.Items.take i ++ [it] := by rw [List.take_succ_eq_append_getElem hlt, hit]
      have hnew : it.Ent.N ∉ (w.Items.take i).map fun it => it.Ent.N := fun h => by
        obtain ⟨x, hx, hxe⟩ := List.mem_map.1 h
        obtain ⟨j, hj, rfl⟩ := List.getElem_of_mem hx
        rw [List.getElem_take] at hxe
        rw [List.length_take] at hj
        have := List.pairwise_iff_getElem.1 w6 j i (by omega) hlt (by omega)
        rw [hit] at this
        omega
      refine lastL (add_L hH2 hJ.P it (by omega) hnew (by rw [hJ.pm.length_eq, List.length_take]; omega) (by have := (hfc it hm).1; omega)) (fun p τ hp => ?_)
      obtain ⟨rfl, g', tabs', ofT', q1, q2, q3, q4⟩ := hp
      simp
      rw [wrap_id (by omega) (by omega)]
      refine ⟨⟨i + 1, τ, g', tabs', ofT'⟩, ⟨?_, ?_, ?_, hlt⟩, by show _ - (i + 1) < _; omega, ent_T _⟩
      · show ArchH τ g' 3 w.Kinds w.Gens tabs' ((w.Items.take (i + 1)).map fun it => it.Ent.N) ofT'
        rw [htk, List.map_append]; exact q1
      · show ArchP tabs' ((w.Items.take (i + 1)).map fun it => it.Ent.N) ofT'
        rw [htk, List.map_append]; exact q2
      · show (tabs'.flatMap fun x => x.2.rows).Perm (w.Items.take (i + 1))
        rw [htk]
        exact q3.trans (List.Perm.append_right _ hJ.pm)
    · have hin : i = w.Items.length := by have := hJ.il; omega
      subst hin
      simp
      refine awp_go ?_
      simp
      exact finL (p := .tup [.ptr 3 0, kI 0]) ⟨3, rfl, g, tabs, ofT, hJ⟩
end Go.Proofs.YtidhdlhblhbahaaGreat.Am
/- Package arch: Of, called where other boxes are. -/
namespace Go.Proofs.YtidhdlhblhbahaaGreat.Am
open Go Go.RowKit

/-- A world in tables. -/
structure ArchAt (σ : Boxes) (g : Tag) (ab : Nat) (kinds : List GKind) (gens : List Int) (items : List GItem) : Prop where
  ex : ∃ tabs oks ofT, ArchH σ g ab kinds gens tabs oks ofT ∧ ArchP tabs oks ofT ∧ (tabs.flatMap fun x => x.2.rows).Perm items

def shB (σ τ : Boxes) : Boxes := σ ++ τ.map fun x => x.map (renL fun i => σ.length + i)
def shT (σ : Boxes) (g0 g : Tag) : Tag := fun b => if b < σ.length then g0 b else (if (g (b - σ.length)).1 ≤ 1 then (g (b - σ.length)).1 else (g (b - σ.length)).1 + σ.length, (g (b - σ.length)).2)
theorem shB_box {σ τ : Boxes} {b : Nat} {cs : List PV} (h : box τ b = some cs) : box (shB σ τ) (σ.length + b) = some (renL (fun i => σ.length + i) cs) := by
  unfold shB
  rw [box_append, if_neg (by omega), show σ.length + b - σ.length = b by omega, box_map, h]; rfl
theorem shT_0 {σ : Boxes} {g0 g : Tag} {b x y z : Nat} (h : g b = (x, y, z)) (hx : x ≤ 1) : shT σ g0 g (σ.length + b) = (x, y, z) := by
  unfold shT
  rw [if_neg (by omega), show σ.length + b - σ.length = b by omega, h, if_pos hx]
theorem shT_t {σ : Boxes} {g0 g : Tag} {b t y z : Nat} (h : g b = (t + 2, y, z)) : shT σ g0 g (σ.length + b) = (σ.length + t + 2, y, z) := by
  unfold shT
  rw [if_neg (by omega), show σ.length + b - σ.length = b by omega, h, if_neg (by simp)]
  show (t + 2 + σ.length, y, z) = _
  congr 1; omega

theorem StoreAt.shift {σ τ : Boxes} {g0 g : Tag} {t k s z : Nat} {cells : List PV} {rows : List Int} (h : StoreAt τ g (t + 2, k) s z cells rows) : StoreAt (shB σ τ) (shT σ g0 g) (σ.length + t + 2, k) (σ.length + s) z cells rows := by
  obtain ⟨⟨v, r, m, ks, h1, h2, h3, h4, h5, h6, g1, g2, g3, g4⟩, h7, h8⟩ := h
  refine ⟨⟨σ.length + v, σ.length + r, σ.length + m, ks, by rw [shB_box h1]; rfl, by rw [shB_box h2, imms_ren h8], by rw [shB_box h3, ints_ren], ?_, h5, h6, shT_t g1, shT_t g2, shT_t g3, shT_t g4⟩, h7, h8⟩
  rw [shB_box h4]
  simp only [renL, PV.ren, ints_ren]
theorem ptrs_ren {α : Type} (f : α → Nat) (n : Nat) (l : List α) : renL (fun i => n + i) (l.map fun x => PV.ptr (f x) 0) = l.map fun x => PV.ptr (n + f x) 0 := by
  induction l with
  | nil => rfl
  | cons x l ih => simp only [List.map_cons, renL, PV.ren, ih]
theorem TabAt.shift {σ τ : Boxes} {g0 g : Tag} {t : Nat} {T : GTab} (h : TabAt τ g t T) : TabAt (shB σ τ) (shT σ g0 g) (σ.length + t) T := by
  obtain ⟨e, c, cols, h1, h2, h3⟩ := h
  refine ⟨σ.length + e, σ.length + c, cols.map fun s => σ.length + s, ⟨?_, ?_, by simp [h1.cl], shT_t h1.gt, shT_t h1.gc⟩, h2.shift, fun j hj => ?_⟩
  · rw [shB_box h1.bt]; simp [renL, PV.ren, slI_def]
  · rw [shB_box h1.bc, ptrs_ren]; simp
  · simp only [List.getElem_map]
    exact (h3 j (by simpa using hj)).shift
theorem ArchH.shift {σ τ : Boxes} {g0 g : Tag} {ab : Nat} {kinds : List GKind} {gens oks : List Int} {tabs : List (Nat × GTab)} {ofT : Int → Nat} (h : ArchH τ g ab kinds gens tabs oks ofT) :
    ArchH (shB σ τ) (shT σ g0 g) (σ.length + ab) kinds gens (tabs.map fun x => (σ.length + x.1, x.2)) oks (fun n => σ.length + ofT n) := by
  obtain ⟨⟨gb, tb, mb, h1, h2, h3, h4, g1, g2, g3, g4⟩, h5⟩ := h
  refine ⟨⟨σ.length + gb, σ.length + tb, σ.length + mb, ?_, ?_, ?_, ?_, shT_0 g1 (Nat.le_refl 1), shT_0 g2 (Nat.le_refl 1), shT_0 g3 (Nat.le_refl 1), shT_0 g4 (Nat.le_refl 1)⟩, fun x hx => ?_⟩
  · rw [shB_box h1]; simp [renL, PV.ren]
  · rw [shB_box h2, ints_ren]
  · rw [shB_box h3, ptrs_ren]; simp
  · rw [shB_box h4]
    simp only [renL, PV.ren, ints_ren, ptrs_ren]
  · obtain ⟨y, hy, rfl⟩ := List.mem_map.1 hx
    exact (h5 y hy).shift
theorem ArchP.shift {oks : List Int} {tabs : List (Nat × GTab)} {ofT : Int → Nat} (n : Nat) (h : ArchP tabs oks ofT) : ArchP (tabs.map fun x => (n + x.1, x.2)) oks (fun k => n + ofT k) := by
  refine ⟨?_, ?_, fun x hx => ?_, fun x hx => ?_, fun x hx => ?_, h.okn, fun k => ?_, fun x hx k hk => ?_⟩
  · have := h.idn
    rw [List.map_map]
    have e : ((fun x : Nat × GTab => x.1) ∘ fun x : Nat × GTab => (n + x.1, x.2)) = (fun b => n + b) ∘ fun x : Nat × GTab => x.1 := rfl
    rw [e, ← List.map_map]
    exact List.Pairwise.map _ (fun a b hab e => hab (by omega)) this
  · rw [List.pairwise_map]; exact h.srt
  · obtain ⟨y, hy, rfl⟩ := List.mem_map.1 hx
    exact h.row y hy
  · obtain ⟨y, hy, rfl⟩ := List.mem_map.1 hx
    exact h.ne y hy
  · obtain ⟨y, hy, rfl⟩ := List.mem_map.1 hx
    exact h.kl y hy
  · rw [h.okm k]
    constructor
    · rintro ⟨x, hx, hk⟩; exact ⟨_, List.mem_map_of_mem hx, hk⟩
    · rintro ⟨x, hx, hk⟩
      obtain ⟨y, hy, rfl⟩ := List.mem_map.1 hx
      exact ⟨y, hy, hk⟩
  · obtain ⟨y, hy, rfl⟩ := List.mem_map.1 hx
    rw [h.oft y hy k hk]

theorem Of_L {σ : Boxes} (w : GWorld) (hw : checkW w = 0) : FnL Tryz.prog 23 [.agg w.e] σ (fun p τ => ∃ ab g, p = .tup [.ptr ab 0, kI 0] ∧ ArchAt τ g ab w.Kinds w.Gens w.Items ∧ Fr σ τ (fun _ => (0, 0, 0)) g (fun _ => False)) := by
  refine fnl_mono (fnl_new (Of_C w hw)) fun p τ hp => ?_
  obtain ⟨p0, τ0, ⟨ab, g, tabs, ofT, rfl, hM⟩, rfl, rfl⟩ := hp
  refine ⟨σ.length + ab, shT σ (fun _ => (0, 0, 0)) g, by simp [PV.ren, renL], ⟨_, _, _, hM.H.shift (σ := σ) (g0 := fun _ => (0, 0, 0)), hM.P.shift σ.length, ?_⟩, ⟨by simp, fun b hb => if_pos hb, fun b hb _ => by rw [box_append, if_pos hb]⟩⟩
  rw [List.flatMap_map]
  have := hM.pm
  rw [List.take_length] at this
  exact this
end Go.Proofs.YtidhdlhblhbahaaGreat.Am
/- Package arch: comps. -/
namespace Go.Proofs.YtidhdlhblhbahaaGreat.Am
open Go Go.RowKit

theorem idxI_at {rows : List Int} (hnd : rows.Nodup) {n : Int} {i : Nat} (h : rows[i]? = some n) : idxI rows n = (i : Int) := by
  unfold idxI
  have hm : n ∈ rows := List.mem_of_getElem? h
  have hlt : rows.findIdx (fun y => decide (y = n)) < rows.length := List.findIdx_lt_length.2 ⟨n, hm, by simp⟩
  have hat := List.findIdx_getElem (xs := rows) (p := fun y => decide (y = n)) (w := hlt)
  obtain ⟨hil, hie⟩ := List.getElem?_eq_some_iff.1 h
  obtain ⟨k, hk⟩ : ∃ k, rows.findIdx (fun y => decide (y = n)) = k := ⟨_, rfl⟩
  simp only [hk] at hlt hat ⊢
  have hpw := List.pairwise_iff_getElem.1 hnd
  have hke : rows[k] = n := by simpa using hat
  rcases Nat.lt_trichotomy k i with h' | h' | h'
  · exact absurd (hke.trans hie.symm) (hpw k i hlt hil h')
  · rw [h']
  · exact absurd (hie.trans hke.symm) (hpw i k hil hlt h')

set_option maxRecDepth 20000 in
theorem getI_L {σ : Boxes} {g : Tag} {o : Nat × Nat} {s : Nat} {vs : List (List Int)} {rows : List Int} (hS : StoreAt σ g o s 1 (slsI vs) rows) {n : Int} {i : Nat} {v : List Int} (hi : rows[i]? = some n) (hv : vs[i]? = some v) (hl : vs.length = rows.length) :
    FnL Tryz.prog 143 [.ptr s 0, kI n] σ (fun p τ => p = .tup [slI v, kB true] ∧ τ = σ) := by
  obtain ⟨⟨vb, r, m, ks, h1, h2, h3, h4, h5, h6, _⟩, hnd, _⟩ := hS
  obtain ⟨hil, hie⟩ := List.getElem?_eq_some_iff.1 hi
  have hnk : n ∈ ks := (h6 n).2 (List.mem_of_getElem? hi)
  obtain ⟨j, hj⟩ : ∃ j, ks.findIdx? (fun x => decide (n = x)) = some j := by
    cases hf : ks.findIdx? (fun x => decide (n = x)) with
    | some j => exact ⟨j, rfl⟩
    | none =>
      rw [List.findIdx?_eq_none_iff] at hf
      have := hf n hnk
      simp at this
  obtain ⟨hjl, hje, _⟩ := List.findIdx?_eq_some_iff_getElem.1 hj
  have hje' : ks[j] = n := by simpa using Eq.symm (by simpa using hje)
  have hkey : keyAt .i64 n (ks.map kI) = some (some j) := by rw [keyAt_ints, hj]
  have hij : ((ks.map (idxI rows)).map kI)[j]? = some (kI i) := by
    rw [List.getElem?_map, List.getElem?_map, List.getElem?_eq_getElem hjl, hje']
    simp [idxI_at hnd hi]
  have hvi : (slsI vs)[i]? = some (slI v) := by simp [slsI, hv]
  have hvl : i < vs.length := (List.getElem?_eq_some_iff.1 hv).1
  refine fnl_go Tryz.func143 rfl fun _ => ?_
  obtain ⟨C, hC⟩ : ∃ C, (ks.map (idxI rows)).map kI = C := ⟨_, rfl⟩
  rw [hC] at h4 hij
  have hCl : j < C.length := (List.getElem?_eq_some_iff.1 hij).1
  have hCe : C[j] = kI i := (List.getElem?_eq_some_iff.1 hij).2
  simp [Tryz.ntmps143, entryL, boxG h1, boxG h2, boxG h4, hkey, hCl, hCe, hil, hvi]
  exact finL ⟨rfl, rfl⟩

set_option maxRecDepth 20000 in
set_option maxHeartbeats 1000000 in
theorem comps_L {σ : Boxes} {g : Tag} {t : Nat} {T : GTab} (hT : TabAt σ g t T) {i : Nat} {it : GItem} (hi : T.rows[i]? = some it) (hk : it.Comps.map GComp.Kind = T.kinds) (hl : it.Comps.length ≤ 1000) :
    FnL Tryz.prog 80 [.ptr t 0, kI it.Ent.N] σ (fun p τ => p = .sl 2 (it.Comps.map GComp.e) ∧ τ = σ) := by
  obtain ⟨e, c, cols, h1, h2, h3⟩ := hT
  have hkl : T.kinds.length = it.Comps.length := by rw [← hk]; simp
  have hcl : cols.length = it.Comps.length := by rw [h1.cl, hkl]
  have hsi : T.slots[i]? = some it.Ent.N := by simp [GTab.slots, hi]
  have b1 : 32 * (it.Comps.length : Int) ≤ 281474976710656 := by omega
  have b2 : (it.Comps.length : Int) ≤ 9223372036854775807 := by omega
  refine fnl_trim ?_ (by simp)
  refine fnl_of Tryz.func80 rfl fun hlt0 => ?_
  refine awp_seq (awp_go ?_)
  simp [Tryz.ntmps80, entryL]
  refine awp_seq (awp_go ?_)
  simp [boxG h1.bt, hkl, b1, b2]
  have hb : ∀ x : Option (List PV), (σ ++ [x])[t]? = some (some [slI T.kinds, .ptr e 0, .osl c 1 0 cols.length]) := fun x => by rw [List.getElem?_append_left (box_lt h1.bt)]; exact boxG h1.bt
  have hbc : ∀ x : Option (List PV), (σ ++ [x])[c]? = some (some (cols.map fun s => PV.ptr s 0)) := fun x => by rw [List.getElem?_append_left (box_lt h1.bc)]; exact boxG h1.bc
  refine awp_seq (awp_go ?_)
  simp [hb, hkl]
  refine awp_loop (fun j : Nat => ⟨46, [(0, .ptr t 0), (1, kI it.Ent.N), (5, .osl σ.length 2 0 it.Comps.length), (19, slI T.kinds), (20, kI it.Comps.length), (21, kI j)], σ ++ [some (fillB GComp.e [kI 0, kNil] it.Comps j)], σ.length⟩) (fun j => j ≤ it.Comps.length) (fun j => it.Comps.length - j) 0 ?_ ?_ ?_
  · rw [fillB_0 GComp.e]
    exact ent_T _
  · simp
  · intro j hj
    refine awp_go ?_
    by_cases hlt : j < it.Comps.length
    · have hbl := fillB_len GComp.e_len (zr := [kI 0, kNil]) rfl it.Comps j hj
      have hrow := fillB_row GComp.e_len (zr := [kI 0, kNil]) rfl it.Comps j hlt
      generalize fillB GComp.e [kI 0, kNil] it.Comps j = B at hbl hrow ⊢
      have hjk : j < T.kinds.length := by omega
      have hjc : j < cols.length := by omega
      have hkj : T.kinds[j] = (it.Comps[j]).Kind := by simp only [← hk, List.getElem_map]
      have hvj : (T.col j)[i]? = some (it.Comps[j]).Vals := by simp [GTab.col, hi, List.getD, hlt]
      have hS := (h3 j hjc).frame (Fr.app (ext := [some B]) (O := fun _ => False)) fun _ h => h
      have hq : j * 2 + 2 ≤ it.Comps.length * 2 := by omega
      simp [hlt, hb, hbc, hjc, hkl, hjk, hkj]
      refine calL (getI_L hS hsi hvj (by rw [T.col_len, T.slots_len])) (fun p τ hp => ?_)
      obtain ⟨rfl, rfl⟩ := hp
      simp [hbl, hq, hlt]
      rw [wrap_id (by omega) (by omega), show kI (it.Comps[j]).Kind :: slI (it.Comps[j]).Vals :: List.drop (j * 2 + 2) B = (it.Comps[j]).e ++ List.drop (j * 2 + 2) B from rfl, hrow]
      exact ⟨j + 1, by omega, by omega, ent_T _⟩
    · simp [hlt]
      have : j = it.Comps.length := by omega
      subst this
      rw [fillB_end]
      refine awp_go ?_
      simp
      refine finL_ent (ent_fz σ.length (it.Comps.map GComp.e).flatten (by simp) (by simp) (by simp)) ?_
      simp [St.fz, ltS_fz hlt0]
      exact finL ⟨rfl, [none], rfl⟩
end Go.Proofs.YtidhdlhblhbahaaGreat.Am
/- Range over a function, the boxes after each round told by a property. -/
namespace Go.Proofs.YtidhdlhblhbahaaGreat.Am
open Go Go.RowKit

section
variable {P : Program} {s : St} {Q : Exit → St → Prop}
theorem awp0_rangeN {g : Operand} {ps : Array Tmp} {assign body : Code} {gf : FuncId} {caps : List PV} {items : List (List PV × List (List PV))} (I : Nat → Boxes → Prop)
    (hseq : SeqOk P gf caps items) (hg : calleePV s g = some (gf, caps)) (he : enterable P gf = true) (hc : caps.all PV.immB = true) (h0 : I 0 s.σ)
    (hps : ∀ x ∈ items, x.1.length = ps.size) (hN : ∀ t ∈ ps.toList, t < s.N)
    (hround : ∀ i args σc σi, I i σi → items[i]? = some (args, σc) → AWp P assign (roundSt s ps σi args σc) fun e s1 => e = .normal ∧ AWp P body s1 fun e s' => e = .normal ∧ ∃ s2, Ent s' s2 ∧ ∃ σ6, I (i + 1) σ6 ∧ Ent ⟨s.N, s.T, s2.σ, s.k⟩ ⟨s.N, s.T, σ6, s.k⟩)
    (h : ∀ σn, I items.length σn → Q .normal ⟨s.N, s.T, σn, s.k⟩) : AWp0 P (.rangeFunc g ps assign body) s Q := by
  intro ctx ι S a w hro hr QQ hQ
  obtain ⟨lb, hgv, hlb, hcaps⟩ := callee_rel hr hg
  have hcap : ∀ (j : Nat) (p : PV), caps[j]? = some p → IRel S w (lb.getD j undef) p := fun j p hj => by
    obtain ⟨v, hv1, hv2⟩ := hcaps j p hj
    have : lb.getD j undef = v := by rw [Array.getD_eq_getD_getElem?, hv1]; rfl
    rw [this]
    exact hv2.immI (List.all_eq_true.1 hc p (List.mem_of_getElem? hj))
  have hent : ∀ args w, (callFunc gf args).run P w = .ok (.enter gf args) w := fun args w => by
    unfold enterable at he
    split at he
    · rename_i fn hfn
      simp at he
      obtain ⟨cd, hb⟩ := Option.isSome_iff_exists.1 he.2
      exact enters_of hfn (by simpa using he.1) hb args w
    · simp at he
  have hσ := hr.st
  refine wpIn_rangeFunc ?_
  intro fn hfn
  obtain ⟨rec, hrec⟩ : ∃ rec : LoopState → Option Code → Loop, rec = fun st pe => { state := st, pending := pe, fn, tmps := a.tmps, params := ps, assign, body, defers := w.heap.size } := ⟨_, rfl⟩
  obtain ⟨W1, hW1⟩ : ∃ W1, (w.alloc (.deferred (some []))).alloc (.loop (rec .ready none)) = W1 := ⟨_, rfl⟩
  have hL1 : W1.heap[w.heap.size + 1]? = some (.loop (rec .ready none)) := by
    rw [← hW1]; have := World.alloc_heap_new (w.alloc (.deferred (some []))) (.loop (rec .ready none)); rwa [World.size_alloc] at this
  have hK1 : W1.heap[w.heap.size]? = some (.deferred (some [])) := by
    rw [← hW1]; exact (Below.heap_alloc _ _ _ (by simp)).trans (World.alloc_heap_new w _)
  have hG1 : Grown w W1 := by rw [← hW1]; exact (Grown.alloc w _).trans (.alloc _ _)
  have hsz1 : W1.heap.size = w.heap.size + 2 := by rw [← hW1]; simp
  let J : Nat → (Nat → Prop) → World → Prop := fun i K W => ∃ σi, I i σi ∧ ∃ ι S', Rel ctx ι S' ⟨s.N, s.T, σi, s.k⟩ a W ∧ (∀ b, K b → S' b) ∧ ¬ S' (w.heap.size + 1) ∧ ¬ S' w.heap.size ∧
    W.heap[w.heap.size + 1]? = some (.loop (rec .ready none)) ∧ W.heap[w.heap.size]? = some (.deferred (some []))
  have hJ0 : J 0 S W1 := by
    obtain ⟨g1, g2⟩ := hσ.grown hG1
    refine ⟨s.σ, h0, ι, S, ⟨g1, hr.ck, hr.tsz, hr.defers, fun t p ht => g2 _ _ _ (hr.temps t p ht)⟩, fun _ h => h, fun hh => ?_, fun hh => ?_, hL1, hK1⟩
    · have := hσ.Slt _ hh; omega
    · have := hσ.Slt _ hh; omega
  have hshL : ∀ {W : World} {st : LoopState} {pe : Option Code}, W.heap[w.heap.size + 1]? = some (.loop (rec st pe)) → quiet W (w.heap.size + 1) := fun hh => ⟨by simp [World.shape?, hh], by simp [hh]⟩
  have hshL' : ∀ {W : World} {r : Loop}, W.heap[w.heap.size + 1]? = some (.loop r) → quiet W (w.heap.size + 1) := fun hh => ⟨by simp [World.shape?, hh], by simp [hh]⟩
  have hshD : ∀ {W : World} {d : Option (List Deferred)}, W.heap[w.heap.size]? = some (.deferred d) → quiet W w.heap.size := fun hh => ⟨by simp [World.shape?, hh], by simp [hh]⟩
  have hcs := hσ.size
  refine ⟨w.heap.size + 1, [markOf w.heap.size], W1, { target := .fn (.func gf) lb, args := #[.func (.yield (w.heap.size + 1)) #[] #[]] }, W1, gf,
    #[.func (.yield (w.heap.size + 1)) #[] #[]] ++ lb, W1, ?_, ?_, fun _ _ => trivial, ?_, (fun h => by cases h), ?_⟩
  · rw [← hW1, hrec]; exact run_enterLoop_outer _ _ _ _ _
  · simp only [resolve, hgv]
    simp [go_sem]
  · simp [invoke, go_sem, hent]
  · refine callsIn_wide.2 ((hseq S W1 lb (w.heap.size + 1) J (fun b hb => by have := hσ.Slt b hb; omega) hlb (fun j p hj => (hcap j p hj).mono (fun _ h => h) (fun b o hb => World.cell?_of_block (hG1.old b (hσ.Slt b hb)))) ?_ hJ0).mono ?_)
    · -- one round
      rintro i args σc W0 W K ι1 S1 vals hi ⟨σi, hIi, ι0, S0, hr0, hSS, hSL, hSD, hL, hD⟩ hG hst1 hfr hS1a hS1b hvl hv
      have hlt0 : w.heap.size + 1 < W0.heap.size := (Array.getElem?_eq_some_iff.1 hL).1
      have hLW : W.heap[w.heap.size + 1]? = some (.loop (rec .ready none)) := (hG.old _ hlt0).trans hL
      have hDW : W.heap[w.heap.size]? = some (.deferred (some [])) := (hG.old _ (by omega)).trans hD
      have hltW : w.heap.size + 1 < W.heap.size := (Array.getElem?_eq_some_iff.1 hLW).1
      obtain ⟨ι2, hst2, hm0, hm1⟩ := hr0.st.adoptAll hG hst1 hfr hSS hS1b
      have hlenp : args.length = ps.size := hps _ (List.mem_of_getElem? hi)
      have hy := run_yield (P := P) (args := vals.toArray) hLW (by rw [hrec]; simp [hvl, hlenp])
      -- the round's first standing
      have hrz : (ps.toList.zip (renL (fun j => σi.length + j) args)).map (·.1) = ps.toList := zip_fst _ _ (by rw [renL_map]; simp [hlenp])
      have hpar := parT_rel (n := σi.length + σc.length) (ι := ι2) (S := fun b => S0 b ∨ S1 b) (w := W) (N := s.N) (ps.toList.zip (renL (fun j => σi.length + j) args)) vals s.T a.tmps hr0.tsz
        (by rw [renL_map]; simp [hlenp, hvl]) (fun x hx => hN x.1 (List.of_mem_zip hx).1)
        (fun j x v hj hv' => by
          rw [List.getElem?_zip_eq_some] at hj
          obtain ⟨_, hj2⟩ := hj
          rw [renL_map, List.getElem?_map] at hj2
          simp only [Option.map_eq_some_iff] at hj2
          obtain ⟨p, hp, hp2⟩ := hj2
          obtain ⟨v', hv1, hv2⟩ := hv j p hp
          rw [hv1] at hv'; cases hv'
          rw [← hp2]
          exact hm1 _ _ hv2)
        (fun t p ht => hm0 _ _ (hr0.temps t p ht))
      rw [hrz] at hpar
      have hst2' := hst2.begin (k := σi.length + σc.length) (by simp) (some (w.heap.size + 1)) []
      have hnS2L : ¬ (S0 (w.heap.size + 1) ∨ S1 (w.heap.size + 1)) := by
        rintro (k | k)
        · exact hSL k
        · rcases hS1b _ k with k1 | k1
          · exact hSL (hSS _ k1)
          · omega
      have hnS2D : ¬ (S0 w.heap.size ∨ S1 w.heap.size) := by
        rintro (k | k)
        · exact hSD k
        · rcases hS1b _ k with k1 | k1
          · exact hSD (hSS _ k1)
          · omega
      have hrel1 : Rel (Ctx.anew ι2 (fun b => S0 b ∨ S1 b) (σi ++ (σc.map (renL (fun j => σi.length + j))).map some) W (σi.length + σc.length) (some (w.heap.size + 1)) []) ι2 (fun b => S0 b ∨ S1 b) (roundSt s ps σi args σc)
          { tmps := (ps.toList.zip vals).foldl (fun t (x : Nat × Value) => t.setIfInBounds x.1 x.2) a.tmps, defers := [] } W :=
        ⟨hst2', rfl, hpar.1, rfl, fun t p ht => by simpa [roundSt] using hpar.2 t p ht⟩
      refine ⟨fn, _, assign, body, by rw [hrec] at hy; exact hy, roundIn_of_wpIn hfn ?_⟩
      have hfold : ((ps.zip vals.toArray).foldl (fun t (x : Nat × Value) => t.setIfInBounds x.1 x.2) a.tmps) = (ps.toList.zip vals).foldl (fun t (x : Nat × Value) => t.setIfInBounds x.1 x.2) a.tmps := by
        rw [← Array.foldl_toList]; simp
      have hold2 : ∀ b, S1 b → ¬ ∃ i' cs, box (σi ++ (σc.map (renL (fun j => σi.length + j))).map some) i' = some cs ∧ ι2 i' = some b := fun b hb ⟨i', cs, k1, k2⟩ => hst2.notS i' cs b k1 k2 (.inr hb)
      have hnM1 := hst2.notM (hshL hLW)
      have hnMD := hst2.notM (hshD hDW)
      have key := hround i args σc σi hIi hi _ _ _ _ _ hrel1 (Exit.then (fun a₁ w₁ => ∃ w₂, (Instr.beginRound (w.heap.size + 1)).run P w₁ = .ok () w₂ ∧ body.wpIn (Fence.wide.inRound (w.heap.size + 1)) 0 P
        (roundPost P (w.heap.size + 1) fun e W' => e = .returned (.bool true) ∧ J (i + 1) S1 W' ∧ (∀ b, S1 b → W'.heap[b]? = W.heap[b]?) ∧ W.heap.size ≤ W'.heap.size) a₁ w₂) (fun _ _ _ => False)) ?_
      · simp only
        have e : ((ps.zip vals.toArray).foldl (fun tmps (x : Tmp × Value) => match x with | (t, a) => tmps.setIfInBounds t a) a.tmps) = (ps.toList.zip vals).foldl (fun t (x : Nat × Value) => t.setIfInBounds x.1 x.2) a.tmps := by
          rw [← Array.foldl_toList]; simp
        rw [e]
        exact key
      · rintro e ι3 S3 s1 a1 w1 hr1 ⟨rfl, hb1⟩
        have hL3 : w1.heap[w.heap.size + 1]? = some (.loop (rec .ready none)) := (hr1.st.old _ hltW hnM1).trans hLW
        refine ⟨_, run_beginRound hL3 (by rw [hrec]), ?_⟩
        have hnS3 : ¬ S3 (w.heap.size + 1) := fun k => by
          rcases hr1.st.Snew _ k with k1 | k1 | k1
          · exact hnS2L k1
          · exact hnM1 k1
          · have : W.heap.size ≤ w.heap.size + 1 := k1
            omega
        -- the record is busy from here on
        obtain ⟨hst3, hm3⟩ := hr1.st.turn0 (.loop { rec .ready none with state := .busy }) (L := w.heap.size + 1) (hshL hL3) (hshL hLW) hnS3 hltW
          (c2 := Ctx.anew ι2 (fun b => S0 b ∨ S1 b) (σi ++ (σc.map (renL (fun j => σi.length + j))).map some) (W.putObj (w.heap.size + 1) (.loop { rec .ready none with state := .busy })) (σi.length + σc.length) (some (w.heap.size + 1)) []) rfl rfl rfl rfl rfl
        obtain ⟨hst2b, hm2b⟩ := hst2.turn (.loop { rec .ready none with state := .busy }) (L := w.heap.size + 1) (hshL hLW) hnS2L (by omega)
        have hrel3 : Rel (Ctx.anew ι2 (fun b => S0 b ∨ S1 b) (σi ++ (σc.map (renL (fun j => σi.length + j))).map some) (W.putObj (w.heap.size + 1) (.loop { rec .ready none with state := .busy })) (σi.length + σc.length) (some (w.heap.size + 1)) []) ι3 S3 s1 a1
            (w1.putObj (w.heap.size + 1) (.loop { rec .ready none with state := .busy })) := ⟨hst3, hr1.ck, hr1.tsz, hr1.defers, fun t p ht => hm3 _ _ _ (hr1.temps t p ht)⟩
        refine hb1 _ _ _ _ _ hrel3 _ ?_
        rintro e ι4 S4 s4 a4 w4 hr4 ⟨rfl, s5, he5, σ6, hI6, he6⟩
        obtain ⟨ι5, S5, hr5⟩ := he5 _ _ _ _ _ hr4
        have hszb : (W.putObj (w.heap.size + 1) (.loop { rec .ready none with state := .busy })).heap.size = W.heap.size := by simp
        have hL5 : w4.heap[w.heap.size + 1]? = some (.loop { rec .ready none with state := .busy }) := (hr5.st.old (w.heap.size + 1) (by show w.heap.size + 1 < (W.putObj _ _).heap.size; rw [hszb]; exact hltW) hnM1).trans (World.putObj_heap_same hltW)
        have hD5 : w4.heap[w.heap.size]? = some (.deferred (some [])) := (hr5.st.old w.heap.size (by show w.heap.size < (W.putObj _ _).heap.size; rw [hszb]; omega) hnMD).trans ((World.putObj_heap_other (by omega)).trans hDW)
        have hlt5 : w.heap.size + 1 < w4.heap.size := (Array.getElem?_eq_some_iff.1 hL5).1
        have hend := run_endRound (P := P) none hL5
        refine ⟨_, _, hend, rfl, ?_, fun b hb => ?_, ?_⟩
        · have hck : ctx.k ≤ σi.length + σc.length := by have := hst2.klen; simpa using this
          have hnS5L : ¬ S5 (w.heap.size + 1) := fun k => by
            rcases hr5.st.Snew _ k with k1 | k1 | k1
            · exact hnS2L k1
            · exact hnM1 k1
            · have : (W.putObj (w.heap.size + 1) (.loop { rec .ready none with state := .busy })).heap.size ≤ w.heap.size + 1 := k1
              rw [hszb] at this
              omega
          have hnS5D : ¬ S5 w.heap.size := fun k => by
            rcases hr5.st.Snew _ k with k1 | k1 | k1
            · exact hnS2D k1
            · exact hnMD k1
            · have : (W.putObj (w.heap.size + 1) (.loop { rec .ready none with state := .busy })).heap.size ≤ w.heap.size := k1
              rw [hszb] at this
              omega
          have hst5 : Store ctx ι5 S5 s5.σ w4 := hst2b.back hck hr5.st
          have htmp5 : ∀ t p, look s.T t = some p → VRel s5.σ.length ι5 S5 w4 (a.tmps.getD t undef) p := fun t p ht =>
            hst2b.keeps hr5.st (Nat.le_refl _) hr5.st.klen (hm2b _ _ _ (hm0 _ _ (hr0.temps t p ht)))
          have hck5 : s.k ≤ s5.σ.length := by have h1 := hr5.st.klen; have h2 := hr0.ck; simp [Ctx.anew] at h1; simp at h2; omega
          have hst6 := hst5.begin hck5 none a.defers
          obtain ⟨ι6, S6, hr6⟩ := he6 _ _ _ _ _ (⟨hst6, rfl, hr0.tsz, rfl, htmp5⟩ : Rel (Ctx.anew ι5 S5 s5.σ w4 s.k none a.defers) ι5 S5 ⟨s.N, s.T, s5.σ, s.k⟩ a w4)
          have hst6' : Store ctx ι6 S6 σ6 w4 := hst5.back (by have := hr0.ck; simp at this; omega) hr6.st
          have hnS6 : ∀ {x}, quiet w4 x → x < w4.heap.size → ¬ S5 x → ¬ S6 x := fun hx hlt hn k => by
            rcases hr6.st.Snew _ k with k1 | k1 | k1
            · exact hn k1
            · exact hst5.notM hx k1
            · have : w4.heap.size ≤ _ := k1
              omega
          have hnS6L := hnS6 (hshL' hL5) hlt5 hnS5L
          have hnS6D := hnS6 (hshD hD5) (by omega) hnS5D
          obtain ⟨hst7, hm7⟩ := hst6'.turn (.loop (rec .ready none)) (L := w.heap.size + 1) (hshL' hL5) hnS6L (by omega)
          have erec : ({ { rec .ready none with state := .busy } with state := if (none : Option Code).isNone then .ready else .done, pending := none } : Loop) = rec .ready none := by rw [hrec]; rfl
          rw [erec]
          refine ⟨σ6, hI6, ι6, S6, ⟨hst7, hr0.ck, hr0.tsz, hr0.defers, fun t p ht => hm7 _ _ _ (hr6.temps t p ht)⟩, fun b hb => hr6.st.S0 b (hr5.st.S0 b (.inr hb)), hnS6L, hnS6D, World.putObj_heap_same hlt5, (World.putObj_heap_other (by omega)).trans hD5⟩
        · have hbl : b < W.heap.size := hst1.Slt b hb
          have hne : b ≠ w.heap.size + 1 := fun e => hnS2L (.inr (e ▸ hb))
          rw [World.putObj_heap_other hne]
          refine (hr5.st.old b (by show b < (W.putObj _ _).heap.size; rw [hszb]; exact hbl) (hold2 b hb)).trans ?_
          exact World.putObj_heap_other hne
        · have := hr5.st.size
          have h2 : (W.putObj (w.heap.size + 1) (.loop { rec .ready none with state := .busy })).heap.size ≤ w4.heap.size := this
          rw [hszb] at h2
          simpa using h2
    · -- behind the iterator
      rintro e W2 ⟨⟨v, rfl⟩, W0, K', ⟨σn, hIn, ι0, S0, hr0, hSS, hSL, hSD, hL, hD⟩, hG⟩
      have hlt0 : w.heap.size + 1 < W0.heap.size := (Array.getElem?_eq_some_iff.1 hL).1
      have hL2 : W2.heap[w.heap.size + 1]? = some (.loop (rec .ready none)) := (hG.old _ hlt0).trans hL
      have hD2 : W2.heap[w.heap.size]? = some (.deferred (some [])) := (hG.old _ (by omega)).trans hD
      have hlt2 : w.heap.size + 1 < W2.heap.size := (Array.getElem?_eq_some_iff.1 hL2).1
      refine ⟨none, _, by have := run_endLoop (P := P) hL2 (by rw [hrec]; simp); rw [hrec] at this; exact this, ?_⟩
      obtain ⟨g1, g2⟩ := hr0.st.grown hG
      obtain ⟨k1, k2⟩ := g1.turn (.loop (rec .exhausted none)) (L := w.heap.size + 1) (hshL hL2) hSL (by omega)
      have erec : rec .exhausted none = { state := .exhausted, pending := none, fn, tmps := a.tmps, params := ps, assign, body, defers := w.heap.size } := by rw [hrec]
      rw [erec] at k1 k2
      have hD3 : (W2.putObj (w.heap.size + 1) (.loop { state := .exhausted, pending := none, fn, tmps := a.tmps, params := ps, assign, body, defers := w.heap.size })).heap[w.heap.size]? = some (.deferred (some [])) := (World.putObj_heap_other (by omega)).trans hD2
      have hkk : s.k ≤ σn.length := by have h1 := k1.klen; have h2 := hr0.ck; simp at h1 h2; omega
      have hst := k1.begin hkk none (markOf w.heap.size :: a.defers)
      refine hQ .normal _ ι0 S0 ⟨s.N, s.T, σn, s.k⟩ _ _ ?_ ⟨hst, rfl, hr0.tsz, rfl, fun t p ht => k2 _ _ _ (g2 _ _ _ (hr0.temps t p ht))⟩ (h σn hIn)
      have hck := hr0.ck
      simp at hck
      refine ⟨rfl, hck.symm, fun ι S σ w' hh => k1.back (by omega) hh, fun b hb hM => ⟨k1.old b hb hM, fun ⟨i, cs, q1, q2⟩ => ?_⟩, k1.size, fun b hb hM hS hS' => ?_, [w.heap.size], by simp [Ctx.anew, hr.defers], by simp, fun D hD' => ?_⟩
      · rcases k1.live i cs b q1 q2 with q3 | q3
        · exact hM q3
        · omega
      · rcases k1.Snew b hS' with q | q | q
        · exact hS q
        · exact hM q
        · omega
      · simp at hD'; subst hD'
        exact ⟨hcs, hD3, k1.notM (hshD hD3), hSD⟩
end

theorem wpList_app {F : Fence} {n : Nat} {P : Program} {ops : Array Oper} {QQ QQ' : Exit → Act → World → Prop} {post : List Oper} (hn : ∀ a w, QQ' .normal a w → wpListIn F n P ops QQ post a w) (hQ : ∀ e a w, e ≠ .normal → QQ' e a w → QQ e a w) :
    ∀ (pre : List Oper) (a : Act) (w : World), wpListIn F n P ops QQ' pre a w → wpListIn F n P ops QQ (pre ++ post) a w
  | [], a, w, h => hn a w h
  | o :: pre, a, w, h => by
    rw [List.cons_append]
    unfold wpListIn at h ⊢
    split
    · rename_i hw
      rw [if_pos hw] at h
      exact wpIn_monoQ (fun a w hk => wpList_app hn hQ pre a w hk) hQ h
    · rename_i hw
      rw [if_neg hw] at h
      exact ⟨h.1, wpList_app hn hQ pre _ _ h.2⟩

/-- A yield in a region whose order is fixed. -/
theorem awpI_yieldC {P : Program} {s : St} {J : Nat → (Nat → Prop) → World → Prop} {items : List (List PV × List (List PV))} {l i : Nat} (hy : YieldsOk P l items J) {id : Nat} {ops : List Oper} (k : Nat) {Q : Exit → Nat → St → Prop}
    (T0 : List (Nat × PV)) {oy ox : Oper} {f : Operand} {args : Array Operand} {ts : Array TypeId} {p : PV}
    (hpre : OpsOk P ops.toArray (ops.take k) s fun s1 => s1.N = s.N ∧ Due items l i f args.toList T0 s1)
    (hQ : Q .normal (i + 1) ((St.put ⟨s.N, T0, [], 0⟩ oy.dst (.k (.bool true))).put ox.dst p))
    (hy1 : ops[k]? = some oy := by rfl) (hx1 : ops[k + 1]? = some ox := by rfl) (hlen : ops.length = k + 2 := by rfl)
    (hoy : oy.op = .call { callee := .value f, args := args, argTypes := ts } := by exact rfl) (hdy : dstOk oy.dst s.N = true := by exact rfl) (hdx : dstOk ox.dst s.N = true := by exact rfl)
    (hpost : pureVal P (St.put ⟨s.N, T0, [], 0⟩ oy.dst (.k (.bool true))) ox.op = some p := by exact rfl) (hgy : oy.guard = none := by rfl) (hgx : ox.guard = none := by rfl) : AWpI P J (.region id ops.toArray false) s i Q := by
  have hops : ops = ops.take k ++ [oy, ox] := by
    refine List.ext_getElem? fun j => ?_
    rcases Nat.lt_trichotomy j k with h | h | h
    · rw [List.getElem?_append_left (by simp; omega), List.getElem?_take_of_lt h]
    · subst h; rw [hy1, List.getElem?_append_right (by simp; omega)]; simp [hlen]
    · rcases Nat.lt_or_ge j (k + 2) with h2 | h2
      · obtain rfl : j = k + 1 := by omega
        rw [hx1, List.getElem?_append_right (by simp; omega)]; simp [hlen]
      · rw [List.getElem?_eq_none (by omega), List.getElem?_eq_none (by simp; omega)]
  intro W0 K ι S a w hJ hK hr QQ hQQ
  refine wpIn_region_lit ?_
  have h1 := hpre (cI W0 K) ι S a w hr (fun e a w => match e with | .normal => wpListIn Fence.wide 0 P ops.toArray QQ [oy, ox] a w | e => QQ e a w) ?_
  · have h2 := wpList_app (QQ := QQ) (post := [oy, ox]) (fun a w h => h) (fun e a w hne h => by cases e <;> first | exact absurd rfl hne | exact h) (ops.take k) a w h1
    rw [← hops] at h2
    exact h2
  · rintro ι1 S1 s1 a1 w1 hr1' ⟨hN1, hdue⟩
    refine wpListIn_plain hgy fun KK hKK => ?_
    refine yield_step hy hJ hK hr1' hoy hdue (by rw [hN1]; exact hdy) fun W' hJ' hS' hr2' => ?_
    rw [hN1] at hr2'
    refine hKK _ _ (wpListIn_plain hgx fun K3 hK3 => ?_)
    obtain ⟨v, hv, hvp⟩ := pure_rel hr2' hpost
    refine wpIn_val (ro := none) hv ?_
    have eN : (St.put ⟨s.N, T0, [], 0⟩ oy.dst (.k (.bool true))).N = s.N := by cases oy.dst <;> rfl
    refine hK3 _ _ (wpListIn_nil ?_)
    exact hQQ .normal (i + 1) _ W' S1 _ S1 _ _ hJ' hS' (Rel.next hr2' hr2'.st (fun _ _ h => h) (by rw [eN]; exact hdx) hvp) hQ

theorem fnc_of0 {P : Program} {f : FuncId} {fn : Func} {code : Code} {args : List PV} {σ : Boxes} {R : PV → Boxes → Prop} (hf : P.funcs[f]? = some fn) (hb : fn.body = some code)
    (h : ltS σ → AWp0 P code (entryL fn args σ) fun e s' => RetOk e ∧ FinL P fn.results.toList R s') : FnC P f args σ R := by
  intro ι S w vals hs hl hv
  refine callsIn_wide.1 (callsIn_of_wp_marks (F := Fence.wide) (n := 0) hf hb trivial ?_)
  refine h (store_ltS hs) _ _ _ _ _ rfl (entryL_rel hs hl hv) _ fun e c' ι' S' s' a' w' hlat hr' hq => ?_
  obtain ⟨he, s2, p, hent, hres, hR⟩ := hq
  obtain ⟨ι2, S2, hr2⟩ := hent _ _ _ _ _ hr'
  obtain ⟨ms, hms, hnd, hm⟩ := hlat.marks
  have hdf : a'.defers = ms.map markOf := by rw [hr2.defers, hms]; simp [cxL]
  have hst0 : Store (cxL w ι S σ) ι2 S2 s2.σ w' := hlat.st _ _ _ _ hr2.st
  have hleave : LeavesInM Fence.wide 0 P fn a'.tmps (fun e w' => ∃ v p τ ι' S', e = .returned v ∧ R p τ ∧ Store (cxL w ι S σ) ι' S' τ w' ∧ VRel τ.length ι' S' w' v p) a'.defers .returning w' := by
    rw [hdf]
    refine leaves_marks (cxL w ι S σ) ι2 S2 s2.σ ms w' hst0 hnd (fun D hD => ?_) fun w2 hw2 hv2 => ?_
    · obtain ⟨g1, g2, g3, g4⟩ := hm D hD
      have hDlt := (Array.getElem?_eq_some_iff.1 g2).1
      refine ⟨(hr2.st.old D hDlt g3).trans g2, g1, fun hS => ?_⟩
      rcases hr2.st.Snew D hS with k1 | k1 | k1
      · exact g4 k1
      · exact g3 k1
      · omega
    · have hr3 : Rel (cxL w ι S σ) ι2 S2 s2 { a' with defers := [] } w2 := ⟨hw2, hlat.k.symm.trans hr2.ck, hr2.tsz, rfl, fun t p ht => hv2 _ _ _ (hr2.temps t p ht)⟩
      obtain ⟨v, hrun, hvp⟩ := run_results (fn := fn) hr3 hres
      exact ⟨v, hrun, v, p, s2.σ, ι2, S2, rfl, hR, hw2, hvp⟩
  cases e with
  | normal => exact hleave
  | ret => exact hleave
  | _ => exact he.elim
theorem fnl_of0 {P : Program} {f : FuncId} {fn : Func} {code : Code} {args : List PV} {σ : Boxes} {R : PV → Boxes → Prop} (hf : P.funcs[f]? = some fn) (hb : fn.body = some code)
    (h : ltS σ → AWp0 P code (entryL fn args σ) fun e s' => RetOk e ∧ FinL P fn.results.toList R s') : FnL P f args σ R := fnl_calls fun _ => fnc_of0 hf hb h
end Go.Proofs.YtidhdlhblhbahaaGreat.Am
/- Copies of slices that lie in boxes; column.Store.All. -/
namespace Go.Proofs.YtidhdlhblhbahaaGreat.Am
open Go Go.RowKit

theorem CloneI_box (l : List Int) (hl : l.length ≤ 1000000) : FnD Tryz.prog 27 [.osl 0 1 0 l.length] [l.map kI] (slI l) [some (l.map kI)] := by
  refine fnd_go Tryz.func27 rfl ?_
  simp [Tryz.ntmps27]
  refine calNil (neq := false) (fun b hb => ?_) (hp := rfl)
  cases b with
  | true =>
    have : l = [] := by
      cases l with
      | nil => rfl
      | cons x r => exact absurd (hb (by simp)) (by simp)
    subst this
    simp
    exact finG_ent (ent_nilsl (t := 2) (z := 1) rfl) (finGm [0] (hres := by simp [slI_def]))
  | false =>
    have h1 : l.length * 8 ≤ 140737488355328 := by omega
    have h2 : l.length ≤ maxLen := by simp only [maxLen]; omega
    have h3 : (l.map kI).take l.length = l.map kI := List.take_of_length_le (by simp)
    simp [h1, h2, h3, -List.map_take]
    refine finG_fz 2 (l.map kI) ?_
    simp
    exact finGm [0] (hres := by simp [slI_def, chunks_ints])
theorem CloneEnt_box (l : List GEnt) (hl : l.length ≤ 1000000) : FnD Tryz.prog 141 [.osl 0 2 0 l.length] [(l.map GEnt.e).flatten] (.sl 2 (l.map GEnt.e)) [some (l.map GEnt.e).flatten] := by
  refine fnd_go Tryz.func141 rfl ?_
  simp [Tryz.ntmps141]
  refine calNil (neq := false) (fun b hb => ?_) (hp := rfl)
  cases b with
  | true =>
    have : l = [] := by
      cases l with
      | nil => rfl
      | cons x r => exact absurd (hb (by simp)) (by simp)
    subst this
    simp
    exact finG_ent (ent_nilsl (t := 2) (z := 2) rfl) (finGm [0])
  | false =>
    have h1 : l.length * 16 ≤ 140737488355328 := by omega
    have h2 : l.length ≤ maxLen := by simp only [maxLen]; omega
    have hel : (l.map GEnt.e).flatten.length = l.length * 2 := flat_lenE GEnt.e_len l
    have h3 : (l.map GEnt.e).flatten.take (l.length * 2) = (l.map GEnt.e).flatten := List.take_of_length_le (by omega)
    simp [h1, h2, hel, h3]
    refine finG_fz 2 (l.map GEnt.e).flatten ?_
    simp
    exact finGm [0]

set_option maxRecDepth 20000 in
set_option maxHeartbeats 1000000 in
theorem AllE_fn (es : List GEnt) (rows ks is : List Int) (hl : es.length = rows.length) (hl2 : rows.length ≤ 1000000) :
    FnD Tryz.prog 79 [.ptr 0 0] [[.osl 1 2 0 es.length, .osl 2 1 0 rows.length, .mref 3], (es.map GEnt.e).flatten, rows.map kI, [.tup (ks.map kI), .tup (is.map kI)]]
      (.clo (.func 142) [.eptr [slI rows], .eptr [.sl 2 (es.map GEnt.e)]])
      [some [.osl 1 2 0 es.length, .osl 2 1 0 rows.length, .mref 3], some (es.map GEnt.e).flatten, some (rows.map kI), some [.tup (ks.map kI), .tup (is.map kI)]] := by
  refine fnd_go Tryz.func79 rfl ?_
  simp [Tryz.ntmps79]
  refine awp_drawS follows_mix [(0, 0), (0, 0), (0, 0), (0, 0), (3, 0), (0, 0), (0, 0), (0, 0), (0, 0), (3, 0), (4, 4), (4, 5), (1, 0), (1, 0)] 4 6 [(0, 10), (0, 11), (1, 10), (1, 11), (2, 10), (2, 11), (3, 10), (3, 11), (4, 5), (4, 6), (4, 7), (4, 8), (4, 10), (4, 11), (5, 10), (5, 11), (6, 10), (6, 11), (7, 10), (7, 11), (8, 10), (8, 11), (9, 10), (9, 11), (10, 11)] (by kernel_rfl) rfl rfl ?_
  simp
  refine gE_callW (slI rows) [2] [] rfl (fun y => ?_) ?_
  · simp
    exact doD [2] (CloneI_box rows hl2) (hren := by simp) (hbox := by simp) (h2 := by simp [List.range, List.range.loop])
  simp
  refine gE_callW (.sl 2 (es.map GEnt.e)) [1] [] rfl (fun y => ?_) ?_
  · simp
    exact doD [1] (CloneEnt_box es (by omega)) (hren := by simp) (hbox := by simp) (h2 := by simp [List.range, List.range.loop])
  simp
  refine finG_fz 4 [slI rows] ?_
  simp
  refine finG_fz 5 [.sl 2 (es.map GEnt.e)] ?_
  simp
  exact finGm [0, 1, 2, 3]

theorem boxesExt {σ τ : Boxes} (hl : σ.length = τ.length) (h : ∀ i, i < σ.length → box σ i = box τ i) : σ = τ := by
  refine List.ext_getElem hl fun i h1 h2 => ?_
  have := h i h1
  unfold box at this
  rw [List.getElem?_eq_getElem h1, List.getElem?_eq_getElem h2] at this
  simpa using this
theorem merge_idem {σ : Boxes} {th : List Nat} {σc : List (List PV)} (hnd : th.Nodup) (hl : th.length = σc.length) (hlt : ∀ t ∈ th, t < σ.length) (hbox : hboxL σ (thF th σ.length) th.length th σc) : merge σ th (σc.map some) = σ := by
  have hm := boxM (σ := σ) (σ' := σc.map some) hnd hlt (by simp [hl])
  refine boxesExt (by rw [mergeM_len]; simp [hl]) fun i hi => ?_
  rw [mergeM_len] at hi
  simp only [List.length_map, hl, Nat.sub_self, Nat.add_zero] at hi
  by_cases h : i ∈ th
  · obtain ⟨j, hj, rfl⟩ := List.getElem_of_mem h
    have hjt : th[j]? = some th[j] := List.getElem?_eq_getElem hj
    have hjc : σc[j]? = some (σc[j]'(by omega)) := List.getElem?_eq_getElem (by omega)
    rw [(hm _).1 j hjt, (hboxL_spec hbox j _ _ hjt hjc).1, box_some.2 hjc]; rfl
  · exact (hm i).2.1 h hi
theorem fnl_same {P : Program} {g : FuncId} {args args' : List PV} {σc : List (List PV)} {r r2 : PV} {σ : Boxes} (th : List Nat) (hc : FnD P g args' σc r (σc.map some)) (hargs : args = renL (thF th σ.length) args' := by simp) (hr2 : r.ren (thF th σ.length) = r2 := by first | exact rfl | simp)
    (hl : th.length = σc.length := by first | exact rfl | simp) (hnd : th.Nodup := by simp) (hlt : ltL th.length args' = true := by simp) (hbox : hboxL σ (thF th σ.length) th.length th σc := by simp) : FnL P g args σ (fun p τ => p = r2 ∧ τ = σ) := by
  have hm := merge_idem hnd hl (fun t ht => by
    obtain ⟨j, hj, rfl⟩ := List.getElem_of_mem ht
    exact box_lt (hboxL_spec hbox j _ (σc[j]'(by omega)) (List.getElem?_eq_getElem hj) (List.getElem?_eq_getElem (by omega))).1) hbox
  have := fnl_fnd th hc hargs hr2 hl hnd hlt hbox
  rw [hm] at this
  exact this

theorem cloneI_L {σ : Boxes} {b : Nat} {l : List Int} (h : box σ b = some (l.map kI)) (hl : l.length ≤ 1000000) : FnL Tryz.prog 27 [.osl b 1 0 l.length] σ (fun p τ => p = slI l ∧ τ = σ) :=
  fnl_same (σ := σ) [b] (CloneI_box l hl) (by simp [thF]) (by simp [PV.ren, slI_def]) rfl (by simp) (by simp) ⟨⟨by rw [h]; simp, by simp⟩, trivial⟩
theorem allE_L {σ : Boxes} {g : Tag} {o : Nat × Nat} {s : Nat} {es : List GEnt} {rows : List Int} (hS : StoreAt σ g o s 2 (es.map GEnt.e).flatten rows) (hl : es.length = rows.length) (hl2 : rows.length ≤ 1000000) :
    FnL Tryz.prog 79 [.ptr s 0] σ (fun p τ => p = .clo (.func 142) [.eptr [slI rows], .eptr [.sl 2 (es.map GEnt.e)]] ∧ τ = σ) := by
  obtain ⟨⟨v, r, m, ks, h1, h2, h3, h4, h5, h6, g1, g2, g3, g4⟩, h7, h8⟩ := hS
  have hsv : s ≠ v := fun e => by rw [e, g2] at g1; simp at g1
  have hsr : s ≠ r := fun e => by rw [e, g3] at g1; simp at g1
  have hsm : s ≠ m := fun e => by rw [e, g4] at g1; simp at g1
  have hvr : v ≠ r := fun e => by rw [e, g3] at g2; simp at g2
  have hvm : v ≠ m := fun e => by rw [e, g4] at g2; simp at g2
  have hrm : r ≠ m := fun e => by rw [e, g4] at g3; simp at g3
  have hnd : [s, v, r, m].Nodup := by simp [hsv, hsr, hsm, hvr, hvm, hrm]
  have t0 : thF [s, v, r, m] σ.length 0 = s := by simp [thF]
  have t1 : thF [s, v, r, m] σ.length 1 = v := by simp [thF]
  have t2 : thF [s, v, r, m] σ.length 2 = r := by simp [thF]
  have t3 : thF [s, v, r, m] σ.length 3 = m := by simp [thF]
  refine fnl_same (σ := σ) [s, v, r, m] (AllE_fn es rows ks (ks.map (idxI rows)) hl hl2) (by simp [t0]) (by simp [PV.ren, renL, slI_def]) rfl hnd (by simp) ⟨⟨by rw [h1, hl]; simp [t1, t2, t3], by simp⟩, ⟨by rw [h2, imms_ren h8], imms_lt h8 _⟩, ⟨by rw [h3]; simp, by simp⟩, ⟨by rw [h4]; simp only [renL, PV.ren, ints_ren], by simp only [ltL, PV.lt, ints_lt]; rfl⟩, trivial⟩

/-- A row as the iterator hands it over. -/
def yEnt (e : GEnt) : List PV × List (List PV) := ([kI e.N, .agg e.e], [])
set_option maxRecDepth 20000 in
theorem AllE1_seq (es : List GEnt) (hl : es.length ≤ 1000000) :
    SeqOk Tryz.prog 142 [.eptr [slI (es.map GEnt.N)], .eptr [.sl 2 (es.map GEnt.e)]] (es.map yEnt) := by
  obtain ⟨rows, hr⟩ : ∃ rows, es.map GEnt.N = rows := ⟨_, rfl⟩
  have hrl : rows.length = es.length := by rw [← hr]; simp
  rw [hr]
  refine seqOk_of Tryz.func142 rfl rfl ?_
  intro l J hy
  refine awpI_seq (awpI_of (awp_go ?_))
  simp [Tryz.ntmps142, thenI, hrl]
  refine awpI_block (awpI_loop (fun i => ⟨22, [(0, .k (.func (.yield l) #[] #[])), (2, .eptr [.sl 2 (es.map GEnt.e)]), (6, slI rows), (7, kI es.length), (8, kI i)], [], 0⟩) (fun i => i ≤ es.length) (fun i => es.length - i) (entm []) (by omega) ?_)
  intro i hi
  refine awpI_seq (awpI_of (awp_go ?_))
  by_cases hlt : i < es.length
  · have hlr : i < rows.length := by omega
    obtain ⟨x, hx⟩ : ∃ x, es[i] = x := ⟨_, rfl⟩
    have hxr : rows[i] = x.N := by simp [← hr, hx]
    simp [hlt, thenI]
    refine awpI_seq (awpI_of (awp_go ?_))
    simp [thenI]
    refine awpI_seq (awpI_block (awpI_seq (awpI_of (awp_go ?_))))
    simp [hlt, hlr, hx, hxr, thenI]
    refine awpI_seq (awpI_yieldC hy 6 [(0, .k (.func (.yield l) #[] #[])), (2, .eptr [.sl 2 (es.map GEnt.e)]), (6, slI rows), (7, kI es.length), (8, kI i)] ?_ ?_)
    · simp only [List.take_succ_cons, List.take_zero]
      refine ops_goH ?_
      simp [hlt, hx]
      exact ⟨rfl, ⟨_, [kI x.N, .agg x.e], [], [], rfl, by simp [hlt, hx, yEnt], rfl, List.nodup_nil, by simp, by simp, fun _ _ _ h => by simp at h⟩, keepB_T (by simp [keepB])⟩
    · simp only [thenI]
      refine awpI_of (awp_go ?_)
      simp [inBlockI, thenI]
      refine awpI_of (awp_go ?_)
      simp [thenI]
      rw [wrap_id (by omega) (by omega)]
      exact ⟨by omega, by omega, entm []⟩
  · simp [hlt, thenI]
    refine awpI_seq (awpI_of (awp_go ?_))
    simp [inBlockI, thenI]
    omega
end Go.Proofs.YtidhdlhblhbahaaGreat.Am
/- Stores: what Drop keeps, in plain Lean. -/
namespace Go.Proofs.YtidhdlhblhbahaaGreat.Am
open Go Go.RowKit

/-- States one after the other. -/
theorem seq_ex {α : Type} {n : Nat} {J : Nat → α → Prop} {T : Nat → α → α → Prop} (a0 : α) (h0 : J 0 a0) (hs : ∀ j a, j < n → J j a → ∃ b, T j a b ∧ J (j + 1) b) : ∃ q : Nat → α, q 0 = a0 ∧ (∀ j, j ≤ n → J j (q j)) ∧ ∀ j, j < n → T j (q j) (q (j + 1)) := by
  classical
  let f : Nat → α := fun j => Nat.rec a0 (fun j a => if h : ∃ b, T j a b ∧ J (j + 1) b then h.choose else a) j
  have hf : ∀ j, f (j + 1) = if h : ∃ b, T j (f j) b ∧ J (j + 1) b then h.choose else f j := fun j => rfl
  have hJ : ∀ j, j ≤ n → J j (f j) := by
    intro j
    induction j with
    | zero => exact fun _ => h0
    | succ j ih =>
      intro hj
      have h := hs j (f j) (by omega) (ih (by omega))
      rw [hf, dif_pos h]
      exact h.choose_spec.2
  refine ⟨f, rfl, hJ, fun j hj => ?_⟩
  have h := hs j (f j) hj (hJ j (by omega))
  rw [hf, dif_pos h]
  exact h.choose_spec.1

theorem eraseIdx_congr {α : Type} {a b : List α} {j : Nat} (h : ∀ t, t ≠ j → a[t]? = b[t]?) : a.eraseIdx j = b.eraseIdx j := by
  refine List.ext_getElem? fun t => ?_
  rw [List.getElem?_eraseIdx, List.getElem?_eraseIdx]
  split
  · exact h t (by omega)
  · exact h (t + 1) (by omega)
theorem map_eraseIdx {α β : Type} (f : α → β) (l : List α) (j : Nat) : (l.map f).eraseIdx j = (l.eraseIdx j).map f := by
  refine List.ext_getElem? fun t => ?_
  simp only [List.getElem?_eraseIdx, List.getElem?_map]
  split <;> rfl

/-- The rows without row i: the last one takes its place. -/
def dropR {α : Type} (rows : List α) (i : Nat) : List α := match rows[rows.length - 1]? with
  | some x => (rows.set i x).take (rows.length - 1)
  | none => rows
theorem dropR_eq {α : Type} {rows : List α} {i : Nat} {x : α} (h : rows[rows.length - 1]? = some x) : dropR rows i = (rows.set i x).take (rows.length - 1) := by unfold dropR; rw [h]
theorem dropR_len {α : Type} {rows : List α} (i : Nat) : (dropR rows i).length = rows.length - 1 := by
  cases h : rows[rows.length - 1]? with
  | some x => rw [dropR_eq h]; simp
  | none => have := List.getElem?_eq_none_iff.1 h; unfold dropR; rw [h]; simp only; omega
theorem dropR_map {α β : Type} (f : α → β) (rows : List α) (i : Nat) : dropR (rows.map f) i = (dropR rows i).map f := by
  cases h : rows[rows.length - 1]? with
  | some x =>
    have h2 : (rows.map f)[(rows.map f).length - 1]? = some (f x) := by rw [List.getElem?_map, List.length_map, h]; rfl
    rw [dropR_eq h, dropR_eq h2, List.length_map, List.map_take, List.map_set]
  | none =>
    have h2 : (rows.map f)[(rows.map f).length - 1]? = none := by rw [List.getElem?_map, List.length_map, h]; rfl
    unfold dropR; rw [h, h2]
theorem dropR_perm {α : Type} {rows : List α} {i : Nat} {it : α} (h : rows[i]? = some it) : (it :: dropR rows i).Perm rows := by
  obtain ⟨hi, he⟩ := List.getElem?_eq_some_iff.1 h
  have hl : rows.length - 1 < rows.length := by omega
  have hx : rows[rows.length - 1]? = some rows[rows.length - 1] := List.getElem?_eq_getElem hl
  rw [dropR_eq hx]
  have hlast : rows = rows.take (rows.length - 1) ++ [rows[rows.length - 1]] := by
    rw [← List.take_succ_eq_append_getElem hl]; exact (List.take_of_length_le (by omega)).symm
  by_cases h1 : i = rows.length - 1
  · subst h1
    rw [List.take_set_of_le (Nat.le_refl _)]
    refine List.Perm.trans ?_ (List.Perm.of_eq hlast.symm)
    rw [← he]
    exact (List.perm_append_singleton _ _).symm
  · have h2 : i < rows.length - 1 := by omega
    rw [List.take_set]
    obtain ⟨A, hA⟩ : ∃ A, rows.take (rows.length - 1) = A := ⟨_, rfl⟩
    obtain ⟨x, hxx⟩ : ∃ x, rows[rows.length - 1] = x := ⟨_, rfl⟩
    rw [hA, hxx] at hlast
    rw [hA, hxx]
    have hAi : A[i]? = some it := by rw [← hA, List.getElem?_take_of_lt h2]; exact h
    obtain ⟨hAl, hAe⟩ := List.getElem?_eq_some_iff.1 hAi
    have e1 : A = A.take i ++ it :: A.drop (i + 1) := by rw [← hAe, ← List.drop_eq_getElem_cons hAl, List.take_append_drop]
    have e2 : A.set i x = A.take i ++ x :: A.drop (i + 1) := by rw [List.set_eq_take_append_cons_drop, if_pos hAl]
    rw [e2]
    refine List.Perm.trans ?_ (List.Perm.of_eq hlast.symm)
    refine List.Perm.trans (l₂ := it :: x :: (A.take i ++ A.drop (i + 1))) (List.Perm.cons _ List.perm_middle) ?_
    refine List.Perm.trans (List.Perm.swap _ _ _) ?_
    refine List.Perm.trans ?_ (List.perm_append_singleton _ _).symm
    refine List.Perm.cons _ ?_
    conv => rhs; rw [e1]
    exact List.perm_middle.symm

theorem dropR_get {rows : List Int} {i : Nat} (hi : i < rows.length) {q : Nat} (hq : q < rows.length - 1) : (dropR rows i)[q]? = if q = i then rows[rows.length - 1]? else rows[q]? := by
  have hl : rows.length - 1 < rows.length := by omega
  have hx : rows[rows.length - 1]? = some rows[rows.length - 1] := List.getElem?_eq_getElem hl
  rw [dropR_eq hx, List.getElem?_take_of_lt hq]
  by_cases h : q = i
  · subst h; rw [if_pos rfl, List.getElem?_set_self hi, hx]
  · rw [if_neg h, List.getElem?_set_ne (Ne.symm h)]

theorem drop_nodup {rows : List Int} (hnd : rows.Nodup) {i : Nat} {n : Int} (hi : rows[i]? = some n) : (dropR rows i).Nodup ∧ ∀ x, x ∈ dropR rows i ↔ x ∈ rows ∧ x ≠ n := by
  have hp := dropR_perm hi
  have h1 := hp.nodup_iff.2 hnd
  obtain ⟨a, b⟩ := List.nodup_cons.1 h1
  refine ⟨b, fun x => ?_⟩
  have h2 := hp.mem_iff (a := x)
  rw [List.mem_cons] at h2
  constructor
  · exact fun h => ⟨h2.1 (.inr h), fun e => a (e ▸ h)⟩
  · rintro ⟨h, hne⟩
    exact (h2.2 h).resolve_left hne

theorem drop_keys {rows ks : List Int} (hnd : rows.Nodup) (hks : ks.Nodup) (hmem : ∀ x, x ∈ ks ↔ x ∈ rows) {i j p : Nat} {n last : Int} (hi : rows[i]? = some n) (hL : rows[rows.length - 1]? = some last) (hj : ks[j]? = some n) (hp : ks[p]? = some last) :
    ((ks.map (idxI rows)).set p (i : Int)).eraseIdx j = (ks.eraseIdx j).map (idxI (dropR rows i)) := by
  rw [← map_eraseIdx]
  obtain ⟨hnd', hm'⟩ := drop_nodup hnd hi
  obtain ⟨hil, hie⟩ := List.getElem?_eq_some_iff.1 hi
  have hkp := List.pairwise_iff_getElem.1 hks
  have kinj : ∀ {a b : Nat} {x : Int}, ks[a]? = some x → ks[b]? = some x → a = b := fun {a b x} ha hb => by
    obtain ⟨ha1, ha2⟩ := List.getElem?_eq_some_iff.1 ha
    obtain ⟨hb1, hb2⟩ := List.getElem?_eq_some_iff.1 hb
    rcases Nat.lt_trichotomy a b with h | h | h
    · exact absurd (ha2.trans hb2.symm) (hkp a b ha1 hb1 h)
    · exact h
    · exact absurd (hb2.trans ha2.symm) (hkp b a hb1 ha1 h)
  have rinj : ∀ {a b : Nat} {x : Int}, rows[a]? = some x → rows[b]? = some x → a = b := fun {a b x} ha hb => by
    have h1 := idxI_at hnd ha
    have h2 := idxI_at hnd hb
    omega
  refine eraseIdx_congr fun t ht => ?_
  rcases Nat.lt_or_ge t ks.length with htl | htl
  · obtain ⟨k, hk⟩ : ∃ k, ks[t]? = some k := ⟨_, List.getElem?_eq_getElem htl⟩
    have hkn : k ≠ n := fun e => ht (kinj hk (by rw [hj, e]))
    by_cases htp : t = p
    · subst htp
      have hkl : k = last := by rw [hk] at hp; simpa using hp
      have hiL : i ≠ rows.length - 1 := fun e => hkn (by rw [e, hL] at hi; rw [hkl]; simpa using hi)
      rw [List.getElem?_set_self (by simpa using htl), List.getElem?_map, hk, Option.map_some]
      have := idxI_at hnd' (n := k) (i := i) (by rw [dropR_get hil (by omega), if_pos rfl, hL, hkl])
      rw [this]
    · rw [List.getElem?_set_ne (Ne.symm htp), List.getElem?_map, List.getElem?_map, hk, Option.map_some, Option.map_some]
      have hkr : k ∈ rows := (hmem k).1 (List.mem_of_getElem? hk)
      obtain ⟨q, hq, hqe⟩ := List.getElem_of_mem hkr
      have hq2 : rows[q]? = some k := by rw [List.getElem?_eq_getElem hq, hqe]
      have hqi : q ≠ i := fun e => hkn (by subst e; rw [hq2] at hi; simpa using hi)
      have hqL : q ≠ rows.length - 1 := fun e => htp (kinj hk (by rw [hp]; subst e; rw [hq2] at hL; simpa using hL.symm))
      have e1 := idxI_at hnd hq2
      have e2 := idxI_at hnd' (n := k) (i := q) (by rw [dropR_get hil (by omega), if_neg hqi, hq2])
      rw [e1, e2]
  · rw [List.getElem?_eq_none (by simpa using htl), List.getElem?_eq_none (by simpa using htl)]
theorem erase_mem {ks : List Int} (hks : ks.Nodup) {j : Nat} {n : Int} (hj : ks[j]? = some n) : (ks.eraseIdx j).Nodup ∧ ∀ x, x ∈ ks.eraseIdx j ↔ x ∈ ks ∧ x ≠ n := by
  obtain ⟨hjl, hje⟩ := List.getElem?_eq_some_iff.1 hj
  have e : ks.eraseIdx j = ks.take j ++ ks.drop (j + 1) := List.eraseIdx_eq_take_drop_succ ks j
  have e2 : ks = ks.take j ++ n :: ks.drop (j + 1) := by rw [← hje, ← List.drop_eq_getElem_cons hjl, List.take_append_drop]
  have hp : (n :: ks.eraseIdx j).Perm ks := by
    rw [e]
    refine List.Perm.trans ?_ (List.Perm.of_eq e2.symm)
    exact List.perm_middle.symm
  have h1 := hp.nodup_iff.2 hks
  obtain ⟨a, b⟩ := List.nodup_cons.1 h1
  refine ⟨b, fun x => ?_⟩
  have h2 := hp.mem_iff (a := x)
  rw [List.mem_cons] at h2
  constructor
  · exact fun h => ⟨h2.1 (.inr h), fun e => a (e ▸ h)⟩
  · rintro ⟨h, hne⟩
    exact (h2.2 h).resolve_left hne
end Go.Proofs.YtidhdlhblhbahaaGreat.Am
/- Package column: Drop, Get of entities, Len. -/
namespace Go.Proofs.YtidhdlhblhbahaaGreat.Am
open Go Go.RowKit

theorem dropR_at {α : Type} {rows : List α} {m : Nat} (hl : rows.length = m + 1) (i : Nat) (hm : m < rows.length) : dropR rows i = (rows.set i rows[m]).take m := by
  have e : rows.length - 1 = m := by omega
  rw [dropR_eq (x := rows[m]) (by rw [e]; exact List.getElem?_eq_getElem hm), e]

theorem imm_nm {l : List PV} (h : l.all PV.immB = true) (ks vs : List PV) : l ≠ [.tup ks, .tup vs] := fun e => by
  rw [e] at h; simp [PV.immB] at h
set_option maxRecDepth 20000 in
set_option maxHeartbeats 1000000 in
theorem ColDropE_fn (es : List GEnt) (rows ks is : List Int) (n : Int) (j i p m : Nat) (hk : ks.findIdx? (fun x => decide (n = x)) = some j) (hi : is[j]? = some (i : Int)) (him : i ≤ m) (hr : rows.length = m + 1) (he : es.length = m + 1) (hm2 : m ≤ 1000000)
    (hp : ks.findIdx? (fun x => decide ((rows[m]'(by omega)) = x)) = some p) (hpl : p < is.length) :
    FnD Tryz.prog 288 [.ptr 0 0, kI n] [[.osl 1 2 0 (m + 1), .osl 2 1 0 (m + 1), .mref 3], (es.map GEnt.e).flatten, rows.map kI, [.tup (ks.map kI), .tup (is.map kI)]] (kI 0)
      [some [.osl 1 2 0 m, .osl 2 1 0 m, .mref 3], some ((dropR es i).map GEnt.e).flatten, some ((dropR rows i).map kI), some [.tup ((ks.eraseIdx j).map kI), .tup (((is.set p i).eraseIdx j).map kI)]] := by
  have hkey : keyAt .i64 n (ks.map kI) = some (some j) := by rw [keyAt_ints, hk]
  have hij : (is.map kI)[j]? = some (kI i) := by rw [List.getElem?_map, hi]; rfl
  have hrm : m < rows.length := by omega
  have hem : m < es.length := by omega
  obtain ⟨last, hlast⟩ : ∃ last, rows[m] = last := ⟨_, rfl⟩
  obtain ⟨le, hle⟩ : ∃ le, es[m] = le := ⟨_, rfl⟩
  rw [hlast] at hp
  have hkey2 : keyAt .i64 last (ks.map kI) = some (some p) := by rw [keyAt_ints, hp]
  obtain ⟨hjl, hje⟩ := List.getElem?_eq_some_iff.1 hij
  refine fnd_go Tryz.func288 rfl ?_
  have hwm : IntKind.i64.wrap (m : Int) = m := wrap_id (by omega) (by omega)
  have hel : (es.map GEnt.e).flatten.length = es.length * 2 := flat_lenE GEnt.e_len es
  simp [Tryz.ntmps288, hkey, hij, hwm]
  refine awp_draw follows_mix [] [(0, [0]), (0, [0]), (0, [0]), (0, [0]), (0, [0]), (0, [0]), (0, [0]), (0, [0]), (0, [0]), (0, [0, 1]), (0, [0]), (0, [0]), (0, [0]), (0, [0]), (0, [0]), (0, [0]), (0, [0]), (0, [0]), (0, [0]), (0, [0]), (0, [0]), (0, [0]), (0, [0]), (0, [0]), (0, [0]), (1, [0]), (0, [1]), (1, [1])] 2 (by kernel_rfl) rfl ?_
  have hm1 : (m : Int) < (m : Int) + 1 := by omega
  have hi1 : (i : Int) < (m : Int) + 1 := by omega
  have hi2 : i < m + 1 := by omega
  simp [hwm, hr, he, hel, hlast, hm1, hi1, hi2, him, hrm, hem]
  rw [row_set GEnt.e_len es i es[m] (by omega), set_ints (by omega) last]
  have hdE : (dropR es i) = (es.set i es[m]).take m := dropR_at he i hem
  have hdR : (dropR rows i) = (rows.set i last).take m := by rw [dropR_at hr i hrm, hlast]
  rw [hdE, hdR]
  have hes1 : (es.set i es[m]).length = m + 1 := by simp [he]
  have hrs1 : (rows.set i last).length = m + 1 := by simp [hr]
  have hat : (rows.set i last)[i]? = some last := by rw [List.getElem?_set_self (by omega)]
  generalize es.set i es[m] = es1 at hes1 ⊢
  generalize rows.set i last = rows1 at hrs1 hat ⊢
  obtain ⟨hil1, hie1⟩ := List.getElem?_eq_some_iff.1 hat
  have hel1 : (es1.map GEnt.e).flatten.length = es1.length * 2 := flat_lenE GEnt.e_len es1
  have hplm : p < (is.map kI).length := by simpa using hpl
  refine awp_draw follows_mix [12] [(0, [0]), (0, [0]), (0, [0]), (0, [0]), (0, [0]), (0, [0]), (0, [0]), (0, [0]), (0, [0]), (0, [0]), (0, [0]), (0, [0]), (3, [0])] 1 (by kernel_rfl) rfl ?_
  simp [hi1, hil1, hie1]
  refine gD_callW (.tup []) [some [.osl 1 2 0 (m + 1), .osl 2 1 0 (m + 1), .mref 3], some (es1.map GEnt.e).flatten, some (rows1.map kI), some [.tup (ks.map kI), .tup ((is.set p (i : Int)).map kI)]] ?_
  simp [hi1, hil1, hie1]
  refine ⟨.inl ⟨rfl, ?_⟩, ?_⟩
  · exact does_one (x := (_, _)) (by simp [hkey2])
  simp [hkey]
  refine awp_draw follows_mix [] [(0, [0]), (0, [0]), (0, [0]), (0, [0]), (0, [0]), (0, [0]), (0, [0]), (1, [0])] 1 (by kernel_rfl) rfl ?_
  simp [hm1, hel1, hes1]
  refine awp_draw follows_mix [] [(0, [0]), (0, [0, 1]), (0, [0]), (0, [0]), (0, [0]), (0, [0]), (0, [0]), (0, [0]), (0, [0]), (0, [0]), (0, [0]), (0, [0]), (0, [0, 1]), (0, [0, 1]), (0, [0]), (0, [0]), (1, [0]), (0, [1]), (0, [1]), (1, [1])] 2 (by kernel_rfl) rfl ?_
  have hm3 : (m : Int) ≤ (m : Int) + 1 := by omega
  simp [hm3]
  have e2 : List.take (m * 2) ((es1.map GEnt.e).flatten.take (m * 2) ++ (kI 0 :: kI 0 :: (es1.map GEnt.e).flatten.drop (m * 2 + 2))) = ((es1.take m).map GEnt.e).flatten := by
    rw [List.take_left' (by rw [List.length_take, hel1, hes1]; omega), flat_take GEnt.e_len es1 m]
  have hF := List.all_eq_true.1 (flat_imm GEnt.e_imm es1)
  have hZ : ((es1.map GEnt.e).flatten.take (m * 2) ++ (kI 0 :: kI 0 :: (es1.map GEnt.e).flatten.drop (m * 2 + 2))).all PV.immB = true := by
    refine List.all_eq_true.2 fun x hx => ?_
    rcases List.mem_append.1 hx with h | h
    · exact hF x (List.mem_of_mem_take h)
    · rcases List.mem_cons.1 h with h | h
      · rw [h]; rfl
      · rcases List.mem_cons.1 h with h | h
        · rw [h]; rfl
        · exact hF x (List.mem_of_mem_drop h)
  have e3 : (rows1.map kI).take m = (rows1.take m).map kI := by rw [List.map_take]
  have e4 : ((is.map kI).set p (kI (i : Int))).eraseIdx j = ((is.set p (i : Int)).eraseIdx j).map kI := by rw [← map_eraseIdx, List.map_set]
  have e5 : (List.take m (es1.map GEnt.e)).flatten = ((es1.take m).map GEnt.e).flatten := by rw [List.map_take]
  generalize es1.take m = es2 at e2 e5 ⊢
  generalize rows1.take m = rows2 at e3 ⊢
  refine finG_ent ((ent_trunc 1 (m * 2) (hct := imm_nm hZ)).trans (ent_trunc 2 m)) ?_
  simp [e2, e3]
  exact finGm [0, 1, 2, 3] (hB := by simp [e4, e5, map_eraseIdx])
end Go.Proofs.YtidhdlhblhbahaaGreat.Am
/- Package column: Drop of values. -/
namespace Go.Proofs.YtidhdlhblhbahaaGreat.Am
open Go Go.RowKit

theorem set_sls {A : List (List Int)} {i : Nat} (hi : i < A.length) (v : List Int) : (A.map slI).take i ++ slI v :: (A.map slI).drop (i + 1) = (A.set i v).map slI := by
  rw [List.set_eq_take_append_cons_drop, if_pos hi]; simp
theorem sls_ren (l : List (List Int)) (θ : Nat → Nat) : renL θ (l.map slI) = l.map slI := slsI_ren l θ
theorem sls_lt (l : List (List Int)) (n : Nat) : ltL n (l.map slI) = true := slsI_lt l n
set_option maxRecDepth 20000 in
set_option maxHeartbeats 1000000 in
theorem ColDropI_fn (es : List (List Int)) (rows ks is : List Int) (n : Int) (j i p m : Nat) (hk : ks.findIdx? (fun x => decide (n = x)) = some j) (hi : is[j]? = some (i : Int)) (him : i ≤ m) (hr : rows.length = m + 1) (he : es.length = m + 1) (hm2 : m ≤ 1000000)
    (hp : ks.findIdx? (fun x => decide ((rows[m]'(by omega)) = x)) = some p) (hpl : p < is.length) :
    FnD Tryz.prog 289 [.ptr 0 0, kI n] [[.osl 1 1 0 (m + 1), .osl 2 1 0 (m + 1), .mref 3], es.map slI, rows.map kI, [.tup (ks.map kI), .tup (is.map kI)]] (kI 0)
      [some [.osl 1 1 0 m, .osl 2 1 0 m, .mref 3], some ((dropR es i).map slI), some ((dropR rows i).map kI), some [.tup ((ks.eraseIdx j).map kI), .tup (((is.set p i).eraseIdx j).map kI)]] := by
  have hkey : keyAt .i64 n (ks.map kI) = some (some j) := by rw [keyAt_ints, hk]
  have hij : (is.map kI)[j]? = some (kI i) := by rw [List.getElem?_map, hi]; rfl
  have hrm : m < rows.length := by omega
  have hem : m < es.length := by omega
  obtain ⟨last, hlast⟩ : ∃ last, rows[m] = last := ⟨_, rfl⟩
  obtain ⟨le, hle⟩ : ∃ le, es[m] = le := ⟨_, rfl⟩
  rw [hlast] at hp
  have hkey2 : keyAt .i64 last (ks.map kI) = some (some p) := by rw [keyAt_ints, hp]
  obtain ⟨hjl, hje⟩ := List.getElem?_eq_some_iff.1 hij
  refine fnd_go Tryz.func289 rfl ?_
  have hwm : IntKind.i64.wrap (m : Int) = m := wrap_id (by omega) (by omega)
  simp [Tryz.ntmps289, hkey, hij, hwm]
  refine awp_draw follows_mix [] [(0, [0]), (0, [0]), (0, [0]), (0, [0]), (0, [0]), (0, [0]), (0, [0]), (0, [0]), (0, [0]), (0, [0, 1]), (0, [0]), (0, [0]), (0, [0]), (0, [0]), (0, [0]), (0, [0]), (0, [0]), (0, [0]), (0, [0]), (0, [0]), (0, [0]), (0, [0]), (0, [0]), (0, [0]), (0, [0]), (1, [0]), (0, [1]), (1, [1])] 2 (by kernel_rfl) rfl ?_
  have hm1 : (m : Int) < (m : Int) + 1 := by omega
  have hi1 : (i : Int) < (m : Int) + 1 := by omega
  have hi2 : i < m + 1 := by omega
  simp [hwm, hr, he, hlast, hm1, hi1, hi2, him, hrm, hem]
  rw [set_sls (by omega) es[m], set_ints (by omega) last]
  have hdE : (dropR es i) = (es.set i es[m]).take m := dropR_at he i hem
  have hdR : (dropR rows i) = (rows.set i last).take m := by rw [dropR_at hr i hrm, hlast]
  rw [hdE, hdR]
  have hes1 : (es.set i es[m]).length = m + 1 := by simp [he]
  have hrs1 : (rows.set i last).length = m + 1 := by simp [hr]
  have hat : (rows.set i last)[i]? = some last := by rw [List.getElem?_set_self (by omega)]
  generalize es.set i es[m] = es1 at hes1 ⊢
  generalize rows.set i last = rows1 at hrs1 hat ⊢
  obtain ⟨hil1, hie1⟩ := List.getElem?_eq_some_iff.1 hat
  have hplm : p < (is.map kI).length := by simpa using hpl
  refine awp_draw follows_mix [12] [(0, [0]), (0, [0]), (0, [0]), (0, [0]), (0, [0]), (0, [0]), (0, [0]), (0, [0]), (0, [0]), (0, [0]), (0, [0]), (0, [0]), (3, [0])] 1 (by kernel_rfl) rfl ?_
  simp [hi1, hil1, hie1]
  refine gD_callW (.tup []) [some [.osl 1 1 0 (m + 1), .osl 2 1 0 (m + 1), .mref 3], some (es1.map slI), some (rows1.map kI), some [.tup (ks.map kI), .tup ((is.set p (i : Int)).map kI)]] ?_
  simp [hi1, hil1, hie1]
  refine ⟨.inl ⟨rfl, ?_⟩, ?_⟩
  · exact does_one (x := (_, _)) (by simp [hkey2])
  simp [hkey, hm1, hes1]
  refine awp_draw follows_mix [] [(0, [0]), (0, [0, 1]), (0, [0]), (0, [0]), (0, [0]), (0, [0]), (0, [0]), (0, [0]), (0, [0]), (0, [0]), (0, [0]), (0, [0]), (0, [0, 1]), (0, [0, 1]), (0, [0]), (0, [0]), (1, [0]), (0, [1]), (0, [1]), (1, [1])] 2 (by kernel_rfl) rfl ?_
  have hm3 : (m : Int) ≤ (m : Int) + 1 := by omega
  simp [hm3]
  have e2 : List.take m ((es1.map slI).take m ++ (kNil :: (es1.map slI).drop (m + 1))) = (es1.take m).map slI := by
    rw [List.take_left' (by simp [hes1]), List.map_take]
  have hF := List.all_eq_true.1 (slsI_imm es1)
  have hZ : ((es1.map slI).take m ++ (kNil :: (es1.map slI).drop (m + 1))).all PV.immB = true := by
    refine List.all_eq_true.2 fun x hx => ?_
    rcases List.mem_append.1 hx with h | h
    · exact hF x (List.mem_of_mem_take h)
    · rcases List.mem_cons.1 h with h | h
      · rw [h]; rfl
      · exact hF x (List.mem_of_mem_drop h)
  have e3 : (rows1.map kI).take m = (rows1.take m).map kI := by rw [List.map_take]
  have e4 : ((is.map kI).set p (kI (i : Int))).eraseIdx j = ((is.set p (i : Int)).eraseIdx j).map kI := by rw [← map_eraseIdx, List.map_set]
  have e5 : List.take m (es1.map slI) = (es1.take m).map slI := by rw [List.map_take]
  generalize es1.take m = es2 at e2 e5 ⊢
  generalize rows1.take m = rows2 at e3 ⊢
  refine finG_ent ((ent_trunc 1 m (hct := imm_nm hZ)).trans (ent_trunc 2 m)) ?_
  simp [e2, e3]
  exact finGm [0, 1, 2, 3] (hB := by simp [e4, e5, map_eraseIdx, sls_ren, sls_lt])
end Go.Proofs.YtidhdlhblhbahaaGreat.Am
/- Stores among other boxes: Drop, Len, Get, Put of an old slot. -/
namespace Go.Proofs.YtidhdlhblhbahaaGreat.Am
open Go Go.RowKit

theorem key_ex {ks : List Int} {n : Int} (h : n ∈ ks) : ∃ j, ks.findIdx? (fun x => decide (n = x)) = some j ∧ ks[j]? = some n := by
  cases hf : ks.findIdx? (fun x => decide (n = x)) with
  | some j =>
    obtain ⟨hjl, hje, _⟩ := List.findIdx?_eq_some_iff_getElem.1 hf
    refine ⟨j, rfl, ?_⟩
    rw [List.getElem?_eq_getElem hjl]
    have : n = ks[j] := by simpa using hje
    rw [this]
  | none =>
    rw [List.findIdx?_eq_none_iff] at hf
    have := hf n h
    simp at this

set_option maxHeartbeats 1000000 in
/-- A slot's value is taken out. -/
theorem dropL {P : Program} {f : FuncId} {z : Nat} {σ : Boxes} {g : Tag} {o : Nat × Nat} {s : Nat} {cells cells2 : List PV} {rows : List Int} {n : Int} {i : Nat} (hS : StoreAt σ g o s z cells rows) (hi : rows[i]? = some n) (hc2 : cells2.all PV.immB = true)
    (hF : ∀ (ks : List Int) (j p : Nat) (hL : rows.length - 1 < rows.length), ks.findIdx? (fun x => decide (n = x)) = some j → ks.findIdx? (fun x => decide (rows[rows.length - 1] = x)) = some p → (ks.map (idxI rows))[j]? = some (i : Int) → p < (ks.map (idxI rows)).length →
      FnD P f [.ptr 0 0, kI n] [[.osl 1 z 0 rows.length, .osl 2 1 0 rows.length, .mref 3], cells, rows.map kI, [.tup (ks.map kI), .tup ((ks.map (idxI rows)).map kI)]] (kI 0)
      [some [.osl 1 z 0 (rows.length - 1), .osl 2 1 0 (rows.length - 1), .mref 3], some cells2, some ((dropR rows i).map kI), some [.tup ((ks.eraseIdx j).map kI), .tup ((((ks.map (idxI rows)).set p (i : Int)).eraseIdx j).map kI)]]) :
    ∃ τ, FnL P f [.ptr s 0, kI n] σ (fun p τ' => p = kI 0 ∧ τ' = τ) ∧ StoreAt τ g o s z cells2 (dropR rows i) ∧ Fr σ τ g g (OfS o) := by
  obtain ⟨⟨v, r, m, ks, h1, h2, h3, h4, h5, h6, g1, g2, g3, g4⟩, h7, h8⟩ := hS
  obtain ⟨hil, hie⟩ := List.getElem?_eq_some_iff.1 hi
  have hL : rows.length - 1 < rows.length := by omega
  obtain ⟨j, hj, hj2⟩ := key_ex ((h6 n).2 (List.mem_of_getElem? hi))
  obtain ⟨p, hp, hp2⟩ := key_ex ((h6 rows[rows.length - 1]).2 (List.getElem_mem hL))
  have hpl : p < (ks.map (idxI rows)).length := by have := (List.getElem?_eq_some_iff.1 hp2).1; simpa using this
  have hij : (ks.map (idxI rows))[j]? = some (i : Int) := by rw [List.getElem?_map, hj2, Option.map_some, idxI_at h7 hi]
  have hD := hF ks j p hL hj hp hij hpl
  rw [drop_keys h7 h5 h6 hi (List.getElem?_eq_getElem hL) hj2 hp2] at hD
  obtain ⟨dn1, dn2⟩ := drop_nodup h7 hi
  obtain ⟨en1, en2⟩ := erase_mem h5 hj2
  have hsv : s ≠ v := fun e => by rw [e, g2] at g1; simp at g1
  have hsr : s ≠ r := fun e => by rw [e, g3] at g1; simp at g1
  have hsm : s ≠ m := fun e => by rw [e, g4] at g1; simp at g1
  have hvr : v ≠ r := fun e => by rw [e, g3] at g2; simp at g2
  have hvm : v ≠ m := fun e => by rw [e, g4] at g2; simp at g2
  have hrm : r ≠ m := fun e => by rw [e, g4] at g3; simp at g3
  have hnd : [s, v, r, m].Nodup := by simp [hsv, hsr, hsm, hvr, hvm, hrm]
  have t0 : thF [s, v, r, m] σ.length 0 = s := by simp [thF]
  have t1 : thF [s, v, r, m] σ.length 1 = v := by simp [thF]
  have t2 : thF [s, v, r, m] σ.length 2 = r := by simp [thF]
  have t3 : thF [s, v, r, m] σ.length 3 = m := by simp [thF]
  have hLn := fnl_fnd (σ := σ) (args := [.ptr s 0, kI n]) (r2 := kI 0) [s, v, r, m] hD (by simp [t0]) (by simp) rfl hnd
    (by simp) ⟨⟨by rw [h1]; simp [t1, t2, t3], by simp⟩, ⟨by rw [h2, imms_ren h8], imms_lt h8 _⟩, ⟨by rw [h3]; simp, by simp⟩, ⟨by rw [h4]; simp only [renL, PV.ren, ints_ren], by simp only [ltL, PV.lt, ints_lt]; rfl⟩, trivial⟩
  have hTl : ∀ t ∈ [s, v, r, m], t < σ.length := fun t ht => by
    simp only [List.mem_cons, List.not_mem_nil, or_false] at ht
    rcases ht with rfl | rfl | rfl | rfl
    · exact box_lt h1
    · exact box_lt h2
    · exact box_lt h3
    · exact box_lt h4
  obtain ⟨σ', hσ'⟩ : ∃ σ', [some [.osl 1 z 0 (rows.length - 1), .osl 2 1 0 (rows.length - 1), .mref 3], some cells2, some ((dropR rows i).map kI), some [.tup ((ks.eraseIdx j).map kI), .tup (((ks.eraseIdx j).map (idxI (dropR rows i))).map kI)]] = (σ' : Boxes) := ⟨_, rfl⟩
  rw [hσ'] at hLn
  have hl' : σ'.length = 4 := by rw [← hσ']; rfl
  have hmg := boxM (σ := σ) (σ' := σ') hnd hTl (by rw [hl']; simp)
  refine ⟨merge σ [s, v, r, m] σ', hLn, ⟨⟨v, r, m, ks.eraseIdx j, ?_, ?_, ?_, ?_, en1, fun x => ?_, g1, g2, g3, g4⟩, dn1, hc2⟩, ⟨?_, fun b hb => rfl, fun b hb hO => ?_⟩⟩
  · rw [(hmg s).1 0 rfl, ← hσ', dropR_len]
    simp [box, t1, t2, t3]
  · rw [(hmg v).1 1 rfl, ← hσ']
    simp [box, imms_ren hc2]
  · rw [(hmg r).1 2 rfl, ← hσ']
    simp [box]
  · rw [(hmg m).1 3 rfl, ← hσ']
    simp only [box, List.getElem?_cons_succ, List.getElem?_cons_zero, Option.join_some, Option.map_some, renL, PV.ren, ints_ren]
  · rw [en2, dn2, h6]
  · rw [mergeM_len, hl']; simp
  · refine (hmg b).2.1 (fun hm => hO ?_) hb
    simp only [List.mem_cons, List.not_mem_nil, or_false] at hm
    rcases hm with rfl | rfl | rfl | rfl
    · rw [g1]; exact ⟨rfl, rfl⟩
    · rw [g2]; exact ⟨rfl, rfl⟩
    · rw [g3]; exact ⟨rfl, rfl⟩
    · rw [g4]; exact ⟨rfl, rfl⟩

theorem dropE_L {σ : Boxes} {g : Tag} {o : Nat × Nat} {s : Nat} {es : List GEnt} {rows : List Int} (hS : StoreAt σ g o s 2 (es.map GEnt.e).flatten rows) {n : Int} {i : Nat} (hi : rows[i]? = some n) (hl : es.length = rows.length) (hl2 : rows.length ≤ 1000000) :
    ∃ τ, FnL Tryz.prog 288 [.ptr s 0, kI n] σ (fun p τ' => p = kI 0 ∧ τ' = τ) ∧ StoreAt τ g o s 2 ((dropR es i).map GEnt.e).flatten (dropR rows i) ∧ Fr σ τ g g (OfS o) := by
  refine dropL hS hi (flat_imm GEnt.e_imm _) fun ks j p hL hj hp hij hpl => ?_
  obtain ⟨hil, _⟩ := List.getElem?_eq_some_iff.1 hi
  obtain ⟨m, hm⟩ : ∃ m, rows.length = m + 1 := ⟨rows.length - 1, by omega⟩
  have e1 : rows.length - 1 = m := by omega
  simp only [e1] at hp hL ⊢
  rw [hm]
  exact ColDropE_fn es rows ks _ n j i p m hj hij (by omega) hm (by omega) (by omega) hp hpl
theorem dropI_L {σ : Boxes} {g : Tag} {o : Nat × Nat} {s : Nat} {vs : List (List Int)} {rows : List Int} (hS : StoreAt σ g o s 1 (slsI vs) rows) {n : Int} {i : Nat} (hi : rows[i]? = some n) (hl : vs.length = rows.length) (hl2 : rows.length ≤ 1000000) :
    ∃ τ, FnL Tryz.prog 289 [.ptr s 0, kI n] σ (fun p τ' => p = kI 0 ∧ τ' = τ) ∧ StoreAt τ g o s 1 (slsI (dropR vs i)) (dropR rows i) ∧ Fr σ τ g g (OfS o) := by
  refine dropL hS hi (slsI_imm _) fun ks j p hL hj hp hij hpl => ?_
  obtain ⟨hil, _⟩ := List.getElem?_eq_some_iff.1 hi
  obtain ⟨m, hm⟩ : ∃ m, rows.length = m + 1 := ⟨rows.length - 1, by omega⟩
  have e1 : rows.length - 1 = m := by omega
  simp only [e1] at hp hL ⊢
  rw [hm]
  exact ColDropI_fn vs rows ks _ n j i p m hj hij (by omega) hm (by omega) (by omega) hp hpl

theorem lenE_L {σ : Boxes} {g : Tag} {o : Nat × Nat} {s : Nat} {cells : List PV} {rows : List Int} (hS : StoreAt σ g o s 2 cells rows) :
    FnL Tryz.prog 290 [.ptr s 0] σ (fun p τ => p = kI rows.length ∧ τ = σ) := by
  obtain ⟨⟨v, r, m, ks, h1, _⟩, _, _⟩ := hS
  refine fnl_go Tryz.func290 rfl fun _ => ?_
  simp [Tryz.ntmps290, entryL, boxG h1]
  exact finL ⟨rfl, rfl⟩

set_option maxRecDepth 20000 in
theorem getE_L {σ : Boxes} {g : Tag} {o : Nat × Nat} {s : Nat} {es : List GEnt} {rows : List Int} (hS : StoreAt σ g o s 2 (es.map GEnt.e).flatten rows) {n : Int} {i : Nat} {en : GEnt} (hi : rows[i]? = some n) (hv : es[i]? = some en) (hl : es.length = rows.length) :
    FnL Tryz.prog 285 [.ptr s 0, kI n] σ (fun p τ => p = .tup [.agg en.e, kB true] ∧ τ = σ) := by
  obtain ⟨⟨vb, r, m, ks, h1, h2, h3, h4, h5, h6, _⟩, hnd, _⟩ := hS
  obtain ⟨hil, hie⟩ := List.getElem?_eq_some_iff.1 hi
  obtain ⟨j, hj, hj2⟩ := key_ex ((h6 n).2 (List.mem_of_getElem? hi))
  have hkey : keyAt .i64 n (ks.map kI) = some (some j) := by rw [keyAt_ints, hj]
  have hij : ((ks.map (idxI rows)).map kI)[j]? = some (kI i) := by rw [List.getElem?_map, List.getElem?_map, hj2]; simp [idxI_at hnd hi]
  have hvl : i < es.length := (List.getElem?_eq_some_iff.1 hv).1
  have hve : es[i] = en := (List.getElem?_eq_some_iff.1 hv).2
  refine fnl_trim ?_ (by simp)
  refine fnl_go Tryz.func285 rfl fun _ => ?_
  obtain ⟨C, hC⟩ : ∃ C, (ks.map (idxI rows)).map kI = C := ⟨_, rfl⟩
  rw [hC] at h4 hij
  have hCl : j < C.length := (List.getElem?_eq_some_iff.1 hij).1
  have hCe : C[j] = kI i := (List.getElem?_eq_some_iff.1 hij).2
  have c1 : ∀ x : Boxes, (σ ++ x)[s]? = _ := fun x => (List.getElem?_append_left (box_lt h1)).trans (boxG h1)
  have c2 : ∀ x : Boxes, (σ ++ x)[vb]? = _ := fun x => (List.getElem?_append_left (box_lt h2)).trans (boxG h2)
  have c4 : ∀ x : Boxes, (σ ++ x)[m]? = _ := fun x => (List.getElem?_append_left (box_lt h4)).trans (boxG h4)
  have hel : (es.map GEnt.e).flatten.length = es.length * 2 := flat_lenE GEnt.e_len es
  simp [Tryz.ntmps285, entryL, c1, c2, c4, hkey, hCl, hCe, hil, hel, hvl, hve]
  exact finL ⟨rfl, [some en.e], rfl⟩

end Go.Proofs.YtidhdlhblhbahaaGreat.Am
/- Pointers into boxes are compared. -/
namespace Go.Proofs.YtidhdlhblhbahaaGreat.Am
open Go Go.RowKit

/-- A pointer's type, to something that takes room. -/
def ptrOk (P : Program) (t : TypeId) : Bool := match P.underlying t with
  | some (.pointer te) => match P.info? te with
    | some j => decide (j.size ≠ 0)
    | none => false
  | _ => false
theorem ptrOk_spec {P : Program} {t : TypeId} (h : ptrOk P t = true) : ∃ te j, P.underlying t = some (.pointer te) ∧ P.info? te = some j ∧ j.size ≠ 0 := by
  unfold ptrOk at h
  split at h
  · rename_i te hu
    split at h
    · rename_i j hj
      exact ⟨te, j, hu, hj, by simpa using h⟩
    · cases h
  · cases h

theorem ops_ptr {P : Program} {ops : Array Oper} {rest : List Oper} {o : Oper} {s : St} {Q : St → Prop} {t ty : TypeId} {x y : Operand} {b off b' off' : Nat} {cs cs' : List PV} (hb : box s.σ b = some cs) (hb' : box s.σ b' = some cs')
    (h : @gOps (s.put o.dst (.k (.bool (decide (b = b' ∧ off = off'))))) ⟨P, ops, rest, Q⟩)
    (ht : ptrOk P t = true := by kernel_rfl) (ho : o.op = .binOp .eql t x y ty := by exact rfl) (hx : opd s x = some (.ptr b off) := by first | exact rfl | simp) (hy : opd s y = some (.ptr b' off') := by first | exact rfl | simp)
    (hw : wantedA s ops o = some true := by simp) (hd : dstOk o.dst s.N = true := by first | exact rfl | simp) : OpsOk P ops (o :: rest) s Q :=
  ops_step hw fun c ι S a w hr K QQ hK => by
    obtain ⟨te, j, hu, hj, hsz⟩ := ptrOk_spec ht
    have v1 := opd_rel hr hx
    have v2 := opd_rel hr hy
    obtain ⟨q1, i1, e1, s1⟩ : ∃ blk x', ι b = some blk ∧ w.shape? blk = some x' ∧ a.eval x = .pointer (some ⟨blk, off, none⟩) := by
      generalize a.eval x = v at v1
      cases v1 with
      | imm h => cases h
      | ptr h1 h2 h3 => exact ⟨_, _, h2, h3, rfl⟩
    obtain ⟨q2, i2, e2, s2⟩ : ∃ blk x', ι b' = some blk ∧ w.shape? blk = some x' ∧ a.eval y = .pointer (some ⟨blk, off', none⟩) := by
      generalize a.eval y = v at v2
      cases v2 with
      | imm h => cases h
      | ptr h1 h2 h3 => exact ⟨_, _, h2, h3, rfl⟩
    obtain ⟨k1, c1, t1, f1, g1, _⟩ := hr.st.cellsE hb e1 s1.1
    obtain ⟨k2, c2, t2, f2, g2, _⟩ := hr.st.cellsE hb' e2 s2.1
    rw [f1] at e1; simp at e1; subst e1
    rw [f2] at e2; simp at e2; subst e2
    have hg : ∀ (u v : Option Addr), (eqGuard .eql t x y (.pointer u) (.pointer v)).run P w = .ok () w := fun u v => by
      unfold eqGuard; simp
    have hrun : (execOp a.eval o).run P w = .ok (.value (.bool (decide (b = b' ∧ off = off')))) w := by
      unfold execOp
      simp only [ho, s1.2, s2.2, Sem.run_bind, hg, Result.andThen_ok]
      by_cases he : b = b' ∧ off = off'
      · obtain ⟨rfl, rfl⟩ := he
        rw [f1] at f2; simp at f2; subst f2
        rw [run_eql_ptr_same w _ hu hj]
        simp [Sem.run_bind]
      · have hne : (⟨k1, off, none⟩ : Addr) ≠ ⟨k2, off', none⟩ := fun e => he (by
          simp at e
          obtain ⟨rfl, rfl⟩ := e
          exact ⟨hr.st.inj b b' cs cs' k1 hb hb' f1 f2, rfl⟩)
        rw [run_eql_ptr_other w hu hj hsz hne g1 g2]
        simp [Sem.run_bind, he]
    refine wpIn_val hrun ?_
    exact hK ι S _ _ w (Rel.next hr hr.st (fun _ _ h => h) hd (.imm (.k rfl))) (ops_goH h)
end Go.Proofs.YtidhdlhblhbahaaGreat.Am
/- Package arch: comps that may be written; a table deleted from the tables. -/
namespace Go.Proofs.YtidhdlhblhbahaaGreat.Am
open Go Go.RowKit

set_option maxRecDepth 20000 in
set_option maxHeartbeats 1000000 in
theorem comps_O {σ : Boxes} {g : Tag} {t : Nat} {T : GTab} (hT : TabAt σ g t T) {i : Nat} {it : GItem} (hi : T.rows[i]? = some it) (hk : it.Comps.map GComp.Kind = T.kinds) (hl : it.Comps.length ≤ 1000) :
    FnL Tryz.prog 80 [.ptr t 0, kI it.Ent.N] σ (fun p τ => p = .osl σ.length 2 0 it.Comps.length ∧ τ = σ ++ [some (it.Comps.map GComp.e).flatten]) := by
  obtain ⟨e, c, cols, h1, h2, h3⟩ := hT
  have hkl : T.kinds.length = it.Comps.length := by rw [← hk]; simp
  have hcl : cols.length = it.Comps.length := by rw [h1.cl, hkl]
  have hsi : T.slots[i]? = some it.Ent.N := by simp [GTab.slots, hi]
  have b1 : 32 * (it.Comps.length : Int) ≤ 281474976710656 := by omega
  have b2 : (it.Comps.length : Int) ≤ 9223372036854775807 := by omega
  refine fnl_of Tryz.func80 rfl fun hlt0 => ?_
  refine awp_seq (awp_go ?_)
  simp [Tryz.ntmps80, entryL]
  refine awp_seq (awp_go ?_)
  simp [boxG h1.bt, hkl, b1, b2]
  have hb : ∀ x : Option (List PV), (σ ++ [x])[t]? = some (some [slI T.kinds, .ptr e 0, .osl c 1 0 cols.length]) := fun x => by rw [List.getElem?_append_left (box_lt h1.bt)]; exact boxG h1.bt
  have hbc : ∀ x : Option (List PV), (σ ++ [x])[c]? = some (some (cols.map fun s => PV.ptr s 0)) := fun x => by rw [List.getElem?_append_left (box_lt h1.bc)]; exact boxG h1.bc
  refine awp_seq (awp_go ?_)
  simp [hb, hkl]
  refine awp_loop (fun j : Nat => ⟨46, [(0, .ptr t 0), (1, kI it.Ent.N), (5, .osl σ.length 2 0 it.Comps.length), (19, slI T.kinds), (20, kI it.Comps.length), (21, kI j)], σ ++ [some (fillB GComp.e [kI 0, kNil] it.Comps j)], σ.length⟩) (fun j => j ≤ it.Comps.length) (fun j => it.Comps.length - j) 0 ?_ ?_ ?_
  · rw [fillB_0 GComp.e]
    exact ent_T _
  · simp
  · intro j hj
    refine awp_go ?_
    by_cases hlt : j < it.Comps.length
    · have hbl := fillB_len GComp.e_len (zr := [kI 0, kNil]) rfl it.Comps j hj
      have hrow := fillB_row GComp.e_len (zr := [kI 0, kNil]) rfl it.Comps j hlt
      generalize fillB GComp.e [kI 0, kNil] it.Comps j = B at hbl hrow ⊢
      have hjk : j < T.kinds.length := by omega
      have hjc : j < cols.length := by omega
      have hkj : T.kinds[j] = (it.Comps[j]).Kind := by simp only [← hk, List.getElem_map]
      have hvj : (T.col j)[i]? = some (it.Comps[j]).Vals := by simp [GTab.col, hi, List.getD, hlt]
      have hS := (h3 j hjc).frame (Fr.app (ext := [some B]) (O := fun _ => False)) fun _ h => h
      have hq : j * 2 + 2 ≤ it.Comps.length * 2 := by omega
      simp [hlt, hb, hbc, hjc, hkl, hjk, hkj]
      refine calL (getI_L hS hsi hvj (by rw [T.col_len, T.slots_len])) (fun p τ hp => ?_)
      obtain ⟨rfl, rfl⟩ := hp
      simp [hbl, hq, hlt]
      rw [wrap_id (by omega) (by omega), show kI (it.Comps[j]).Kind :: slI (it.Comps[j]).Vals :: List.drop (j * 2 + 2) B = (it.Comps[j]).e ++ List.drop (j * 2 + 2) B from rfl, hrow]
      exact ⟨j + 1, by omega, by omega, ent_T _⟩
    · simp [hlt]
      have : j = it.Comps.length := by omega
      subst this
      rw [fillB_end]
      refine awp_go ?_
      simp
      exact finL ⟨rfl, rfl⟩

theorem Take1_L {σ : Boxes} {bt t x : Nat} {cx ct : List PV} (h : box σ bt = some [.ptr t 0]) (hx : box σ x = some cx) (ht : box σ t = some ct) : FnL Tryz.prog 292 [.ptr x 0, .ptr bt 0] σ (fun p τ => p = kB (decide (x = t)) ∧ τ = σ) := by
  refine fnl_go Tryz.func292 rfl fun _ => ?_
  simp [Tryz.ntmps292, entryL, boxG h]
  refine ops_ptr (s := ⟨7, _, σ, σ.length⟩) hx ht ?_
  simp
  exact finL (p := kB (decide (x = t))) ⟨rfl, rfl⟩

/-- The tables as pointers. -/
abbrev ptrs (l : List Nat) : List PV := l.map fun x => PV.ptr x 0
def Live (σ : Boxes) (l : List Nat) : Prop := ∀ x ∈ l, ∃ cs, box σ x = some cs
set_option maxRecDepth 20000 in
theorem IndexT_L {σ : Boxes} {tb bt t : Nat} {ct : List PV} (l : List Nat) (hl : l.length ≤ 1000000) (h1 : box σ tb = some (ptrs l)) (h2 : box σ bt = some [.ptr t 0]) (h3 : Live σ l) (h4 : box σ t = some ct) :
    FnL Tryz.prog 297 [.osl tb 1 0 l.length, .clo (.func 292) [.ptr bt 0]] σ (fun p τ => p = kI (idxB (fun x => decide (x = t)) l) ∧ τ = σ) := by
  refine fnl_of Tryz.func297 rfl fun hlt0 => ?_
  refine awp_go ?_
  simp [Tryz.ntmps297, entryL]
  refine awp_loop (fun i : Nat => ⟨19, [(0, .osl tb 1 0 l.length), (1, .clo (.func 292) [.ptr bt 0]), (7, kI l.length), (8, kI i)], σ, σ.length⟩) (fun i => i ≤ l.length ∧ ∀ j, j < i → ∀ x, l[j]? = some x → decide (x = t) = false) (fun i => l.length - i) 0 ?_ ?_ ?_
  · exact ent_T _
  · simp
  · intro i ⟨hi, hno⟩
    refine awp_go ?_
    by_cases hlt : i < l.length
    · obtain ⟨cx, hcx⟩ := h3 l[i] (List.getElem_mem hlt)
      simp [hlt, boxG h1]
      refine calL (Take1_L h2 hcx h4) (fun p τ hp => ?_)
      obtain ⟨rfl, hτ⟩ := hp
      rw [hτ]
      by_cases hp : l[i] = t
      · simp [hp]
        exact finL (p := kI i) ⟨by rw [idxB_some (p := fun x => decide (x = t)) hlt hno (by simpa using hp)], rfl⟩
      · simp [hp]
        rw [wrap_id (by omega) (by omega)]
        exact ⟨i + 1, ⟨by omega, by simpa using no_succ (p := fun x => decide (x = t)) hlt hno (by simpa using hp)⟩, by omega, ent_T _⟩
    · simp [hlt]
      have : i = l.length := by omega
      subst this
      exact finL (p := kI (-1)) ⟨by rw [idxB_none hno], rfl⟩

theorem Live.set {σ : Boxes} {l : List Nat} (h : Live σ l) {b : Nat} (hb : b < σ.length) (c : List PV) : Live (σ.set b (some c)) l := fun x hx => by
  rw [box_set hb]
  split
  · exact ⟨c, rfl⟩
  · exact h x hx
set_option maxRecDepth 20000 in
set_option maxHeartbeats 1000000 in
/-- A table is deleted from the tables. -/
theorem DeleteT_L {σ : Boxes} {tb bt t : Nat} {ct : List PV} (l : List Nat) (hl : l.length ≤ 1000000) (h1 : box σ tb = some (ptrs l)) (h2 : box σ bt = some [.ptr t 0]) (h3 : Live σ l) (h4 : box σ t = some ct) (hne : bt ≠ tb) (htt : t ≠ tb) (htl : tb ∉ l) :
    FnL Tryz.prog 291 [.osl tb 1 0 l.length, .clo (.func 292) [.ptr bt 0]] σ
      (fun p τ => p = .osl tb 1 0 (l.filter fun x => !decide (x = t)).length ∧ τ = σ.set tb (some (ptrs (l.filter fun x => !decide (x = t))))) := by
  have ltb := box_lt h1
  refine fnl_of Tryz.func291 rfl fun hlt0 => ?_
  refine awp_go ?_
  simp [Tryz.ntmps291, entryL]
  refine calL (IndexT_L l hl h1 h2 h3 h4) (fun p τ hp => ?_)
  obtain ⟨rfl, hτ⟩ := hp
  rw [hτ]
  obtain ⟨pp, hpp⟩ : ∃ pp : Nat → Bool, pp = fun x => decide (x = t) := ⟨_, rfl⟩
  have hpx : ∀ x, decide (x = t) = pp x := fun x => by rw [hpp]
  simp only [hpx]
  cases hidx : l.findIdx? pp with
  | none =>
    have hi : idxB pp l = -1 := by simp [idxB, hidx]
    have hall : l.filter (fun x => !pp x) = l := by
      rw [List.findIdx?_eq_none_iff] at hidx
      rw [List.filter_eq_self]; intro x hx; simp [hidx x hx]
    have hset : σ.set tb (some (ptrs l)) = σ := boxes_set_same h1
    have hall2 : l.filter (fun x => !decide (x = t)) = l := by rw [hpp] at hall; exact hall
    simp [hi]
    exact finL (p := .osl tb 1 0 l.length) ⟨by rw [hall2], by rw [hall2]; exact hset.symm⟩
  | some i0 =>
    have hi : idxB pp l = i0 := by simp [idxB, hidx]
    rw [List.findIdx?_eq_some_iff_getElem] at hidx
    obtain ⟨hi0, hp0, hno⟩ := hidx
    have hne1 : ¬ ((i0 : Int) = -1) := by omega
    simp [hi, hne1]
    rw [wrap_id (by omega) (by omega)]
    have hF0 : (l.take (i0 + 1)).filter (fun x => !pp x) = l.take i0 := by
      rw [← List.take_append_getElem hi0, List.filter_append]
      have : (l.take i0).filter (fun x => !pp x) = l.take i0 := by
        rw [List.filter_eq_self]; intro x hx
        obtain ⟨j, hj, rfl⟩ := List.getElem_of_mem hx
        have hj' : j < i0 := by simp at hj; omega
        simpa using hno j hj'
      rw [this]; simp [hp0]
    have hcnt : ∀ j, i0 + 1 ≤ j → ((l.take j).filter (fun x => !pp x)).length < j := fun j hj => by
      have h1 : l.take j = l.take (i0 + 1) ++ (l.take j).drop (i0 + 1) := by
        have := List.take_append_drop (i0 + 1) (l.take j)
        rw [List.take_take, Nat.min_eq_left hj] at this
        exact this.symm
      rw [h1, List.filter_append, hF0, List.length_append]
      have h2 := List.length_filter_le (fun x => !pp x) ((l.take j).drop (i0 + 1))
      simp at h2 ⊢
      omega
    refine awp_loop (fun x : Nat × List Nat × List Nat => ⟨42, [(0, .osl tb 1 0 l.length), (1, .clo (.func 292) [.ptr bt 0]), (5, kI x.2.1.length), (6, kI x.1)], σ.set tb (some (ptrs x.2.2)), σ.length⟩)
      (fun x => i0 + 1 ≤ x.1 ∧ x.1 ≤ l.length ∧ x.2.1 = (l.take x.1).filter (fun x => !pp x) ∧ x.2.2 = x.2.1 ++ l.drop x.2.1.length) (fun x => l.length - x.1) (i0 + 1, l.take i0, l) ?_ ?_ ?_
    · have hset : σ.set tb (some (ptrs l)) = σ := boxes_set_same h1
      have : min i0 l.length = i0 := by omega
      simp only [hset, List.length_take, this]
      exact ent_T _
    · have hlt : (l.take i0).length = i0 := by simp; omega
      exact ⟨Nat.le_refl _, hi0, hF0.symm, by simp only [hlt, List.take_append_drop]⟩
    · rintro ⟨j, F, B⟩ ⟨hj0, hj, hF, hB⟩
      simp only at hj0 hj hF hB
      have hc1 := hcnt j hj0
      rw [← hF] at hc1
      have hBl : B.length = l.length := by rw [hB]; simp; omega
      have k1 : box (σ.set tb (some (ptrs B))) tb = some (ptrs B) := by rw [box_set ltb, if_pos rfl]
      have k2 : box (σ.set tb (some (ptrs B))) bt = some [.ptr t 0] := by rw [box_set ltb, if_neg hne]; exact h2
      have k4 : box (σ.set tb (some (ptrs B))) t = some ct := by rw [box_set ltb, if_neg htt]; exact h4
      refine awp_go ?_
      by_cases hlt : j < l.length
      · have hBj : B[j]? = some l[j] := by
          rw [hB, List.getElem?_append_right (by omega), List.getElem?_drop, show F.length + (j - F.length) = j by omega, List.getElem?_eq_getElem hlt]
        obtain ⟨cx, hcx⟩ := (h3.set ltb (ptrs B)) l[j] (List.getElem_mem hlt)
        simp [hlt, boxG k1, hBj]
        refine calL (Take1_L k2 hcx k4) (fun p τ2 hp => ?_)
        obtain ⟨rfl, hτ2⟩ := hp
        rw [hτ2]
        simp only [hpx]
        by_cases hp : pp l[j] = true
        · simp [hp]
          rw [wrap_id (by omega) (by omega)]
          refine ⟨j + 1, F, B, ⟨by omega, by omega, ?_, hB⟩, by omega, ent_T _⟩
          rw [← List.take_append_getElem hlt, List.filter_append, hF]; simp [hp]
        · simp only [Bool.not_eq_true] at hp
          have h1 : (F.length : Int) < l.length := by omega
          have h2 : F.length + 1 ≤ B.length := by omega
          simp [hp, h1, h2, boxG k1]
          rw [wrap_id (by omega) (by omega), wrap_id (by omega) (by omega)]
          have e1 : B.take F.length = F := by rw [hB]; simp
          have e2 : B.drop (F.length + 1) = l.drop (F.length + 1) := by
            rw [hB, List.drop_append]; simp
          refine ⟨j + 1, F ++ [l[j]], F ++ l[j] :: l.drop (F.length + 1), ⟨by omega, by omega, ?_, by simp⟩, by omega, ?_⟩
          · rw [← List.take_append_getElem hlt, List.filter_append, hF]; simp [hp]
          · have e3 : (ptrs B).take F.length ++ PV.ptr l[j] 0 :: (ptrs B).drop (F.length + 1) = ptrs (F ++ l[j] :: l.drop (F.length + 1)) := by
              simp only [ptrs, ← List.map_take, ← List.map_drop, e1, e2, List.map_append, List.map_cons]
            rw [e3]
            exact ent_T _
      · have hjl : j = l.length := by omega
        subst hjl
        rw [List.take_of_length_le (Nat.le_refl _)] at hF
        have h1 : (F.length : Int) ≤ l.length := by omega
        have h2 : F.length ≤ B.length := by omega
        simp [h1, h2, boxG k1]
        have e1 : (ptrs B).take F.length = ptrs F := by
          have : B.take F.length = F := by rw [hB]; simp
          simp only [ptrs, ← List.map_take, this]
        have hF2 : l.filter (fun x => !decide (x = t)) = F := by rw [hF, hpp]
        obtain ⟨Y, hY⟩ : ∃ Y, List.replicate (l.length - F.length) (PV.k (.pointer none)) ++ List.drop (F.length + (l.length - F.length)) (ptrs B) = Y := ⟨_, rfl⟩
        rw [e1, hY]
        have hYp : ∀ p ∈ ptrs F ++ Y, ∀ ks, p ≠ .tup ks := fun p hp ks e => by
          subst e
          rcases List.mem_append.1 hp with h | h
          · obtain ⟨x, _, hx⟩ := List.mem_map.1 h; cases hx
          · rw [← hY] at h
            rcases List.mem_append.1 h with h | h
            · have := List.eq_of_mem_replicate h; cases this
            · obtain ⟨x, _, hx⟩ := List.mem_map.1 (List.mem_of_mem_drop h); cases hx
        refine finL_ent (ent_trunc tb F.length (cs := ptrs F ++ Y) (by rw [box_set ltb, if_pos rfl]) (hct := fun ks vs e => hYp (.tup ks) (by rw [e]; simp) ks rfl)) ?_
        have e4 : (ptrs F ++ Y).take F.length = ptrs F := List.take_left' (by simp [ptrs])
        exact finL (p := .osl tb 1 0 F.length) ⟨by rw [hF2], by simp only [e4, List.set_set, hF2]⟩
end Go.Proofs.YtidhdlhblhbahaaGreat.Am
/- Tables: what take and Put keep, in plain Lean. -/
namespace Go.Proofs.YtidhdlhblhbahaaGreat.Am
open Go Go.RowKit

theorem nodup_inj2 {α β : Type} {f : α → β} : ∀ {l : List α}, (l.map f).Nodup → ∀ {x y : α}, x ∈ l → y ∈ l → f x = f y → x = y
  | [], _, x, y, hx, _, _ => by simp at hx
  | a :: l, h, x, y, hx, hy, he => by
    rw [List.map_cons, List.nodup_cons] at h
    rcases List.mem_cons.1 hx with h1 | h1 <;> rcases List.mem_cons.1 hy with h2 | h2
    · rw [h1, h2]
    · exact absurd (by rw [← h1, he]; exact List.mem_map_of_mem h2) h.1
    · exact absurd (by rw [← h2, ← he]; exact List.mem_map_of_mem h1) h.1
    · exact nodup_inj2 h.2 h1 h2 he
theorem ArchP.disj {tabs : List (Nat × GTab)} {oks : List Int} {ofT : Int → Nat} (hP : ArchP tabs oks ofT) {x y : Nat × GTab} (hx : x ∈ tabs) (hy : y ∈ tabs) {n : Int} (h1 : n ∈ x.2.slots) (h2 : n ∈ y.2.slots) : x = y :=
  nodup_inj2 hP.idn hx hy ((hP.oft x hx n h1).symm.trans (hP.oft y hy n h2))

/-- A table with other rows, some of them maybe gone. -/
def dropT (T : GTab) (i : Nat) : GTab := ⟨T.kinds, dropR T.rows i⟩
theorem dropT_slots (T : GTab) (i : Nat) : (dropT T i).slots = dropR T.slots i := (dropR_map _ _ _).symm
theorem dropT_ents (T : GTab) (i : Nat) : (dropT T i).ents = dropR T.ents i := (dropR_map _ _ _).symm
theorem dropT_col (T : GTab) (i j : Nat) : (dropT T i).col j = dropR (T.col j) i := (dropR_map _ _ _).symm

/-- The tables without a row. -/
def takeTabs (A : List (Nat × GTab)) (t : Nat) (T : GTab) (B : List (Nat × GTab)) (i : Nat) : List (Nat × GTab) := if T.rows.length = 1 then A ++ B else A ++ (t, dropT T i) :: B

theorem takeP {A B : List (Nat × GTab)} {oks : List Int} {ofT : Int → Nat} {t : Nat} {T : GTab} {i j : Nat} {it : GItem} (hP : ArchP (A ++ (t, T) :: B) oks ofT) (hnd : T.slots.Nodup) (hi : T.rows[i]? = some it) (hj : oks[j]? = some it.Ent.N) :
    ArchP (takeTabs A t T B i) (oks.eraseIdx j) ofT ∧ (it :: (takeTabs A t T B i).flatMap fun x => x.2.rows).Perm ((A ++ (t, T) :: B).flatMap fun x => x.2.rows) := by
  obtain ⟨hil, hie⟩ := List.getElem?_eq_some_iff.1 hi
  have hsi : T.slots[i]? = some it.Ent.N := by simp [GTab.slots, hi]
  have hTm : (t, T) ∈ A ++ (t, T) :: B := by simp
  have hAB : ∀ x, x ∈ A ++ B → x ∈ A ++ (t, T) :: B := fun x hx => by
    rcases List.mem_append.1 hx with h | h
    · exact List.mem_append_left _ h
    · exact List.mem_append_right _ (List.mem_cons_of_mem _ h)
  have hne : ∀ x ∈ A ++ B, x.1 ≠ t := fun x hx e => by
    have hid := hP.idn
    rw [List.map_append, List.map_cons, List.nodup_append] at hid
    rcases List.mem_append.1 hx with h | h
    · exact hid.2.2 x.1 (List.mem_map_of_mem h) t (by simp) e
    · have hm := List.mem_map_of_mem (f := fun x : Nat × GTab => x.1) h
      simp only [e] at hm
      exact (List.nodup_cons.1 hid.2.1).1 hm
  obtain ⟨dn1, dn2⟩ := drop_nodup hnd hsi
  obtain ⟨en1, en2⟩ := erase_mem hP.okn hj
  have hdl : (dropT T i).rows.length = T.rows.length - 1 := dropR_len i
  have hmem : ∀ x, x ∈ takeTabs A t T B i ↔ x ∈ A ++ B ∨ (x = (t, dropT T i) ∧ T.rows.length ≠ 1) := fun x => by
    unfold takeTabs
    split
    · rename_i h; simp [h]
    · rename_i h
      simp only [List.mem_append, List.mem_cons, h, ne_eq, not_false_eq_true, and_true]
      constructor
      · rintro (h | h | h)
        · exact .inl (.inl h)
        · exact .inr h
        · exact .inl (.inr h)
      · rintro ((h | h) | h)
        · exact .inl h
        · exact .inr (.inr h)
        · exact .inr (.inl h)
  have hsub : ∀ {R : (Nat × GTab) → (Nat × GTab) → Prop}, (∀ x y, R (t, T) y → R (t, dropT T i) y) → (∀ x, R x (t, T) → R x (t, dropT T i)) → (A ++ (t, T) :: B).Pairwise R → (takeTabs A t T B i).Pairwise R := fun {R} h1 h2 h => by
    rw [List.pairwise_append] at h
    obtain ⟨p1, p2, p3⟩ := h
    obtain ⟨p4, p5⟩ := List.pairwise_cons.1 p2
    unfold takeTabs
    split
    · exact List.pairwise_append.2 ⟨p1, p5, fun x hx y hy => p3 x hx y (List.mem_cons_of_mem _ hy)⟩
    · refine List.pairwise_append.2 ⟨p1, List.pairwise_cons.2 ⟨fun y hy => h1 y y (p4 y hy), p5⟩, fun x hx y hy => ?_⟩
      rcases List.mem_cons.1 hy with e | hy
      · subst e; exact h2 x (p3 x hx (t, T) (by simp))
      · exact p3 x hx y (List.mem_cons_of_mem _ hy)
  refine ⟨⟨?_, ?_, fun x hx y hy => ?_, fun x hx => ?_, fun x hx => ?_, en1, fun n => ?_, fun x hx n hn => ?_⟩, ?_⟩
  · have h := hP.idn
    unfold List.Nodup at h ⊢
    rw [List.pairwise_map] at h ⊢
    exact hsub (R := fun x y => x.1 ≠ y.1) (fun _ y h => h) (fun x h => h) h
  · exact hsub (R := fun x y => cmpL x.2.kinds y.2.kinds < 0) (fun _ y h => h) (fun x h => h) hP.srt
  · rcases (hmem x).1 hx with h | ⟨h, _⟩
    · exact hP.row x (hAB x h) y hy
    · subst h
      exact hP.row _ hTm y ((dropR_perm hi).subset (List.mem_cons_of_mem _ hy))
  · rcases (hmem x).1 hx with h | ⟨h, h1⟩
    · exact hP.ne x (hAB x h)
    · subst h
      intro e
      have : (dropT T i).rows.length = 0 := by rw [show (dropT T i).rows = [] from e]; rfl
      omega
  · rcases (hmem x).1 hx with h | ⟨h, _⟩
    · exact hP.kl x (hAB x h)
    · subst h; exact hP.kl (t, T) hTm
  · rw [en2, hP.okm]
    constructor
    · rintro ⟨⟨x, hx, hn⟩, hnn⟩
      by_cases hxT : x = (t, T)
      · subst hxT
        have h1 : T.rows.length ≠ 1 := fun h1 => by
          have h2 : T.slots.length = 1 := by rw [T.slots_len, h1]
          obtain ⟨a, ha⟩ := List.length_eq_one_iff.1 h2
          have h3 : i = 0 := by omega
          subst h3
          rw [ha] at hsi hn
          simp at hsi hn
          exact hnn (by rw [hn, hsi])
        refine ⟨(t, dropT T i), (hmem _).2 (.inr ⟨rfl, h1⟩), ?_⟩
        rw [dropT_slots]
        exact (dn2 n).2 ⟨hn, hnn⟩
      · refine ⟨x, (hmem x).2 (.inl ?_), hn⟩
        rcases List.mem_append.1 hx with h | h
        · exact List.mem_append_left _ h
        · rcases List.mem_cons.1 h with h | h
          · exact absurd h hxT
          · exact List.mem_append_right _ h
    · rintro ⟨x, hx, hn⟩
      rcases (hmem x).1 hx with h | ⟨h, _⟩
      · refine ⟨⟨x, hAB x h, hn⟩, fun e => ?_⟩
        subst e
        have := hP.disj (hAB x h) hTm hn (List.mem_of_getElem? hsi)
        exact hne x h (by rw [this])
      · subst h
        rw [dropT_slots] at hn
        obtain ⟨h1, h2⟩ := (dn2 n).1 hn
        exact ⟨⟨_, hTm, h1⟩, h2⟩
  · rcases (hmem x).1 hx with h | ⟨h, _⟩
    · exact hP.oft x (hAB x h) n hn
    · subst h
      rw [dropT_slots] at hn
      exact hP.oft _ hTm n ((dn2 n).1 hn).1
  · have hp := dropR_perm hi
    unfold takeTabs
    split
    · rename_i h1
      have h2 : dropR T.rows i = [] := List.eq_nil_of_length_eq_zero (by rw [dropR_len]; omega)
      rw [h2] at hp
      simp only [List.flatMap_append, List.flatMap_cons]
      refine List.Perm.trans ?_ (List.Perm.append_left _ (List.Perm.append_right _ hp))
      exact List.perm_middle.symm
    · simp only [List.flatMap_append, List.flatMap_cons]
      refine List.Perm.trans ?_ (List.Perm.append_left _ (List.Perm.append_right _ hp))
      exact List.perm_middle.symm

/-- One row with other values. -/
def setT (T : GTab) (i : Nat) (it : GItem) : GTab := ⟨T.kinds, T.rows.set i it⟩
end Go.Proofs.YtidhdlhblhbahaaGreat.Am
/- Package arch: take. -/
namespace Go.Proofs.YtidhdlhblhbahaaGreat.Am
open Go Go.RowKit

/-- Some columns are without the row. -/
structure TakeMid (t : Nat) (T : GTab) (i : Nat) (cols : List Nat) (σ3 : Boxes) (g : Tag) (j : Nat) (σ : Boxes) : Prop where
  done : ∀ q (h : q < cols.length), q < j → StoreAt σ g (t + 2, q + 2) cols[q] 1 (slsI (dropR (T.col q) i)) (dropR T.slots i)
  todo : ∀ q (h : q < cols.length), j ≤ q → StoreAt σ g (t + 2, q + 2) cols[q] 1 (slsI (T.col q)) T.slots
  fr : Fr σ3 σ g g (fun x => x.1 = t + 2 ∧ 2 ≤ x.2.1)
structure TkX where
  j : Nat

theorem cols_seq {t : Nat} {T : GTab} {i : Nat} {it : GItem} {cols : List Nat} {σ3 : Boxes} {g : Tag} (hi : T.rows[i]? = some it) (hsl : T.slots.length ≤ 100000) (hC : ∀ q (h : q < cols.length), StoreAt σ3 g (t + 2, q + 2) cols[q] 1 (slsI (T.col q)) T.slots) :
    ∃ f : Nat → Boxes, f 0 = σ3 ∧ (∀ j, j ≤ cols.length → TakeMid t T i cols σ3 g j (f j)) ∧ ∀ j, j < cols.length → FnL Tryz.prog 289 [.ptr (cols.getD j 0) 0, kI it.Ent.N] (f j) (fun p τ' => p = kI 0 ∧ τ' = f (j + 1)) := by
  have hsi : T.slots[i]? = some it.Ent.N := by simp [GTab.slots, hi]
  refine seq_ex (T := fun j a b => FnL Tryz.prog 289 [.ptr (cols.getD j 0) 0, kI it.Ent.N] a (fun p τ' => p = kI 0 ∧ τ' = b)) σ3 ⟨fun q h hq => by omega, fun q h _ => hC q h, Fr.rfl⟩ fun j σ hj hM => ?_
  obtain ⟨τ, hL, hS, hF⟩ := dropI_L (hM.todo j hj (Nat.le_refl _)) hsi (by rw [T.col_len, T.slots_len]) (by omega)
  have hg : cols.getD j 0 = cols[j] := by simp [List.getD, hj]
  refine ⟨τ, by rw [hg]; exact hL, fun q h hq => ?_, fun q h hq => ?_, hM.fr.trans (hF.mono fun x h => ⟨h.1, by rw [h.2]; simp⟩)⟩
  · by_cases hqj : q < j
    · exact (hM.done q h hqj).frame hF fun p h => by simp [OfS] at h; omega
    · have : q = j := by omega
      subst this; exact hS
  · exact (hM.todo q h (by omega)).frame hF fun p h => by simp [OfS] at h; omega

set_option maxRecDepth 20000 in
set_option maxHeartbeats 2000000 in
theorem take_L {σ : Boxes} {g : Tag} {ab : Nat} {kinds : List GKind} {gens oks : List Int} {A B : List (Nat × GTab)} {t : Nat} {T : GTab} {ofT : Int → Nat} (hH : ArchH σ g ab kinds gens (A ++ (t, T) :: B) oks ofT) (hP : ArchP (A ++ (t, T) :: B) oks ofT)
    {i j : Nat} {it : GItem} (hi : T.rows[i]? = some it) (hj : oks[j]? = some it.Ent.N) (hsz : ((A ++ (t, T) :: B).flatMap fun x => x.2.rows).length ≤ 100000) (hcl : it.Comps.length ≤ 1000) :
    ∃ τ g' lb, FnL Tryz.prog 259 [.ptr ab 0, kI it.Ent.N] σ (fun p τ' => p = .osl lb 2 0 it.Comps.length ∧ τ' = τ) ∧ ArchH τ g' ab kinds gens (takeTabs A t T B i) (oks.eraseIdx j) ofT ∧
      box τ lb = some (it.Comps.map GComp.e).flatten ∧ σ.length ≤ lb ∧ (g' lb).1 = 0 ∧ Fr σ τ g g' (fun t => t.1 ≠ 0) := by
  have hTm : (t, T) ∈ A ++ (t, T) :: B := by simp
  have hrow := hP.row _ hTm it (List.mem_of_getElem? hi)
  have hTr : T.rows.length ≤ 100000 := Nat.le_trans (rows_le _ hTm) hsz
  have hsi : T.slots[i]? = some it.Ent.N := by simp [GTab.slots, hi]
  have htl : (A ++ (t, T) :: B).length ≤ 100000 := Nat.le_trans (tabs_le hP.ne) hsz
  obtain ⟨⟨gb, tb, mb, e1, e2, e3, e4, u1, u2, u3, u4⟩, e5⟩ := hH
  obtain ⟨e, c, cols, hTH, hE, hC⟩ := e5 (t, T) hTm
  have hsnd : T.slots.Nodup := hE.nd
  -- the boxes of take's own
  obtain ⟨σ2, hσ2⟩ : ∃ σ2, σ ++ [some [.ptr t 0], some (it.Comps.map GComp.e).flatten] = σ2 := ⟨_, rfl⟩
  obtain ⟨g2, hg2⟩ : ∃ g2, newTag g σ.length [] = g2 := ⟨_, rfl⟩
  have hf2 : Fr σ σ2 g g2 (fun _ => False) := by
    rw [← hσ2, ← hg2]
    exact ⟨by simp, fun b hb => newTag_old hb, fun b hb _ => by rw [box_append, if_pos hb]⟩
  have hnew : ∀ k, g2 (σ.length + k) = (0, 0, 0) := fun k => by rw [← hg2, newTag_new]; simp [List.getD]
  have hb0 : box σ2 σ.length = some [.ptr t 0] := by rw [← hσ2, box_append, if_neg (by omega)]; simp
  have hb1 : box σ2 (σ.length + 1) = some (it.Comps.map GComp.e).flatten := by rw [← hσ2, box_append, if_neg (by omega), show σ.length + 1 - σ.length = 1 by omega]; rfl
  have g20 : g2 σ.length = (0, 0, 0) := hnew 0
  have g21 : g2 (σ.length + 1) = (0, 0, 0) := hnew 1
  have hE2 := hE.frame hf2 fun _ h => h
  obtain ⟨σ3, hL3, hS3, hF3⟩ := dropE_L hE2 hsi (by rw [T.ents_len, T.slots_len]) (by rw [T.slots_len]; omega)
  have hC3 : ∀ q (h : q < cols.length), StoreAt σ3 g2 (t + 2, q + 2) cols[q] 1 (slsI (T.col q)) T.slots := fun q h => ((hC q h).frame hf2 fun _ h => h).frame hF3 fun p h => by simp [OfS] at h
  obtain ⟨f, f0, fJ, fT⟩ := cols_seq hi (by rw [T.slots_len]; omega) hC3
  have hM := fJ cols.length (Nat.le_refl _)
  obtain ⟨σ4, hσ4⟩ : ∃ σ4, f cols.length = σ4 := ⟨_, rfl⟩
  rw [hσ4] at hM
  have hF4 : Fr σ2 σ4 g2 g2 (fun x => x.1 = t + 2 ∧ x.2.1 ≠ 0) := (hF3.mono fun x h => ⟨h.1, by rw [h.2]; simp⟩).trans (hM.fr.mono fun x h => ⟨h.1, by omega⟩)
  have hF04 : Fr σ σ4 g g2 (fun x => x.1 = t + 2 ∧ x.2.1 ≠ 0) := (hf2.mono fun _ h => h.elim).trans hF4
  have hone : ∀ y z, ¬ (((1, y, z) : Nat × Nat × Nat).1 = t + 2 ∧ ((1, y, z) : Nat × Nat × Nat).2.1 ≠ 0) := fun y z h => by simp at h
  have k1 := hF04.box e1 (by rw [u1]; exact hone _ _)
  have k2 := hF04.box e2 (by rw [u2]; exact hone _ _)
  have k3 := hF04.box e3 (by rw [u3]; exact hone _ _)
  have k4 := hF04.box e4 (by rw [u4]; exact hone _ _)
  have v1 : g2 ab = (1, 0, 0) := (hF04.tag e1).trans u1
  have v2 : g2 gb = (1, 0, 1) := (hF04.tag e2).trans u2
  have v3 : g2 tb = (1, 0, 2) := (hF04.tag e3).trans u3
  have v4 : g2 mb = (1, 0, 3) := (hF04.tag e4).trans u4
  have kb0 := hF4.box hb0 (by rw [g20]; simp)
  have kb1 := hF4.box hb1 (by rw [g21]; simp)
  have hTH4 := hTH.frame hF04 fun p h => by simp at h
  have hS4 : StoreAt σ4 g2 (t + 2, 1) e 2 ((dropR T.ents i).map GEnt.e).flatten (dropR T.slots i) := hS3.frame hM.fr fun p h => by simp at h
  have hj' := (List.getElem?_eq_some_iff.1 hj)
  obtain ⟨j', hj1, hj2⟩ := key_ex (List.mem_of_getElem? hj)
  have hjj : j' = j := by
    obtain ⟨a1, a2⟩ := List.getElem?_eq_some_iff.1 hj2
    have hpw := List.pairwise_iff_getElem.1 hP.okn
    rcases Nat.lt_trichotomy j' j with h | h | h
    · exact absurd (a2.trans hj'.2.symm) (hpw j' j a1 hj'.1 h)
    · exact h
    · exact absurd (hj'.2.trans a2.symm) (hpw j j' hj'.1 a1 h)
  subst hjj
  have hkey : keyAt .i64 it.Ent.N (oks.map kI) = some (some j') := by rw [keyAt_ints, hj1]
  have hof : ofT it.Ent.N = t := hP.oft _ hTm _ (List.mem_of_getElem? hsi)
  obtain ⟨V, hV⟩ : ∃ V, (oks.map fun n => PV.ptr (ofT n) 0) = V := ⟨_, rfl⟩
  have hVj : V[j']? = some (.ptr t 0) := by rw [← hV, List.getElem?_map, hj, Option.map_some, hof]
  have hVl : j' < V.length := (List.getElem?_eq_some_iff.1 hVj).1
  have hVe : V[j'] = .ptr t 0 := (List.getElem?_eq_some_iff.1 hVj).2
  obtain ⟨σ5, hσ5⟩ : ∃ σ5, σ4.set mb (some [.tup ((oks.map kI).eraseIdx j'), .tup (V.eraseIdx j')]) = σ5 := ⟨_, rfl⟩
  have hF5 : Fr σ4 σ5 g2 g2 (fun x => x = (1, 0, 3)) := by rw [← hσ5]; exact Fr.set (box_lt k4) v4
  have m1 := hF5.box k1 (by rw [v1]; simp)
  have m2 := hF5.box k2 (by rw [v2]; simp)
  have m3 := hF5.box k3 (by rw [v3]; simp)
  have m4 : box σ5 mb = some [.tup ((oks.eraseIdx j').map kI), .tup ((oks.eraseIdx j').map fun n => PV.ptr (ofT n) 0)] := by
    rw [← hσ5, box_set (box_lt k4), if_pos rfl, ← hV, map_eraseIdx, map_eraseIdx]
  have mb0 := hF5.box kb0 (by rw [g20]; simp)
  have mb1 := hF5.box kb1 (by rw [g21]; simp)
  have hTH5 := hTH4.frame hF5 fun p h => by simp at h
  have hS5 := hS4.frame hF5 fun p h => by simp at h
  have hC5 : ∀ q (h : q < cols.length), StoreAt σ5 g2 (t + 2, q + 2) cols[q] 1 (slsI (dropR (T.col q) i)) (dropR T.slots i) := fun q h => (hM.done q h h).frame hF5 fun p h => by simp at h
  have hF05 : Fr σ σ5 g g2 (fun x => x.1 = t + 2 ∧ x.2.1 ≠ 0 ∨ x = (1, 0, 3)) := (hF04.mono fun x h => .inl h).trans (hF5.mono fun x h => .inr h)
  have hT5 : TabAt σ5 g2 t (dropT T i) := ⟨e, c, cols, hTH5, by rw [dropT_ents, dropT_slots]; exact hS5, fun q h => by rw [dropT_col, dropT_slots]; exact hC5 q h⟩
  have hne : ∀ x ∈ A ++ B, x.1 ≠ t := fun x hx e => by
    have hid := hP.idn
    rw [List.map_append, List.map_cons, List.nodup_append] at hid
    rcases List.mem_append.1 hx with h | h
    · exact hid.2.2 x.1 (List.mem_map_of_mem h) t (by simp) e
    · have hm := List.mem_map_of_mem (f := fun x : Nat × GTab => x.1) h
      simp only [e] at hm
      exact (List.nodup_cons.1 hid.2.1).1 hm
  have hABm : ∀ x, x ∈ A ++ B → x ∈ A ++ (t, T) :: B := fun x hx => by
    rcases List.mem_append.1 hx with h | h
    · exact List.mem_append_left _ h
    · exact List.mem_append_right _ (List.mem_cons_of_mem _ h)
  have hAB5 : ∀ x ∈ A ++ B, TabAt σ5 g2 x.1 x.2 := fun x hx => (e5 x (hABm x hx)).frame hF05 fun a p h => by
    have := hne x hx
    simp at h; omega
  obtain ⟨ids, hids⟩ : ∃ ids : List Nat, (A ++ (t, T) :: B).map (fun x => x.1) = ids := ⟨_, rfl⟩
  have hfil : ids.filter (fun x => !decide (x = t)) = (A ++ B).map fun x => x.1 := by
    have hk : ∀ l : List (Nat × GTab), (∀ x ∈ l, x.1 ≠ t) → (l.map fun x => x.1).filter (fun x => !decide (x = t)) = l.map fun x => x.1 := fun l hl => by
      refine List.filter_eq_self.2 fun x hx => ?_
      obtain ⟨y, hy, rfl⟩ := List.mem_map.1 hx
      simpa using hl y hy
    rw [← hids, List.map_append, List.map_cons, List.filter_append, List.filter_cons, if_neg (by simp), hk A fun x hx => hne x (List.mem_append_left _ hx), hk B fun x hx => hne x (List.mem_append_right _ hx), List.map_append]
  have hidl : ids.length = (A ++ (t, T) :: B).length := by rw [← hids]; simp
  have hptr : ((A ++ (t, T) :: B).map fun x => PV.ptr x.1 0) = ptrs ids := by rw [← hids, ptrs, List.map_map]; rfl
  have m3' : box σ5 tb = some (ptrs ids) := by rw [m3, hptr]
  obtain ⟨σ6, hσ6⟩ : ∃ σ6, σ5.set tb (some (ptrs (ids.filter fun x => !decide (x = t)))) = σ6 := ⟨_, rfl⟩
  have hF6 : Fr σ5 σ6 g2 g2 (fun x => x = (1, 0, 2)) := by rw [← hσ6]; exact Fr.set (box_lt m3) v3
  have n1 := hF6.box m1 (by rw [v1]; simp)
  obtain ⟨σ7, hσ7⟩ : ∃ σ7, σ6.set ab (some [.sl 2 (kinds.map GKind.e), .osl gb 1 0 gens.length, .osl tb 1 0 (ids.filter fun x => !decide (x = t)).length, .mref mb]) = σ7 := ⟨_, rfl⟩
  have hF7 : Fr σ6 σ7 g2 g2 (fun x => x = (1, 0, 0)) := by rw [← hσ7]; exact Fr.set (box_lt n1) v1
  obtain ⟨τF, hτF⟩ : ∃ τF, (if T.rows.length = 1 then σ7 else σ5) = τF := ⟨_, rfl⟩
  have hlive : Live σ5 ids := fun x hx => by
    rw [← hids] at hx
    obtain ⟨y, hy, rfl⟩ := List.mem_map.1 hx
    rcases List.mem_append.1 hy with h | h
    · obtain ⟨_, _, _, q1, _⟩ := hAB5 y (List.mem_append_left _ h)
      exact ⟨_, q1.bt⟩
    · rcases List.mem_cons.1 h with h | h
      · subst h; exact ⟨_, hTH5.bt⟩
      · obtain ⟨_, _, _, q1, _⟩ := hAB5 y (List.mem_append_right _ h)
        exact ⟨_, q1.bt⟩
  have gt2 : g2 t = (t + 2, 0, 0) := hTH5.gt
  have htb : tb ∉ ids := fun hm => by
    rw [← hids] at hm
    obtain ⟨y, hy, he⟩ := List.mem_map.1 hm
    have hgy : g2 y.1 = (y.1 + 2, 0, 0) := by
      rcases List.mem_append.1 hy with h | h
      · obtain ⟨_, _, _, q1, _⟩ := hAB5 y (List.mem_append_left _ h)
        exact q1.gt
      · rcases List.mem_cons.1 h with h | h
        · subst h; exact gt2
        · obtain ⟨_, _, _, q1, _⟩ := hAB5 y (List.mem_append_right _ h)
          exact q1.gt
    rw [he, v3] at hgy
    simp at hgy
  have htt : t ≠ tb := fun h => by rw [h, v3] at gt2; simp at gt2
  have hbt : σ.length ≠ tb := fun h => by rw [h, v3] at g20; simp at g20
  have hbt1 : σ.length ≠ ab := fun h => by rw [h, v1] at g20; simp at g20
  have hDel := DeleteT_L ids (by omega) m3' mb0 hlive hTH5.bt hbt htt htb
  rw [hσ6] at hDel
  have hT1 : TabAt (σ ++ [some [.ptr t 0]]) g t T := (e5 _ hTm).frame (Fr.app (O := fun _ => False)) fun _ _ h => h
  have hlen2 : σ.length + 1 = (σ ++ [some [PV.ptr t 0]]).length := by simp
  have happ : (σ ++ [some [PV.ptr t 0]]) ++ [some (it.Comps.map GComp.e).flatten] = σ2 := by rw [← hσ2]; simp
  have hTH2 := hTH.frame hf2 fun _ h => h
  have hTH3 := hTH2.frame hF3 fun p h => by simp [OfS] at h
  have kb03 := hF3.box hb0 (by rw [g20]; simp [OfS])
  have hRun : FnL Tryz.prog 259 [.ptr ab 0, kI it.Ent.N] σ (fun p τ' => p = .osl (σ.length + 1) 2 0 it.Comps.length ∧ τ' = τF) := by
    refine fnl_of Tryz.func259 rfl fun hlt0 => ?_
    refine awp_seq (awp_go ?_)
    simp [Tryz.ntmps259, entryL]
    refine awp_seq (awp_go ?_)
    rw [hV] at e4
    simp [boxG e1, boxG e4, hkey, hVl, hVe]
    refine awp_seq (awp_go ?_)
    simp
    refine calL (comps_O hT1 hi hrow.1 hcl) (fun p τ hp => ?_)
    obtain ⟨rfl, hτ⟩ := hp
    rw [hτ, ← hlen2, happ]
    simp
    refine awp_seq (awp_go ?_)
    simp [boxG hb0, boxG hTH2.bt]
    refine calL hL3 (fun p τ hp => ?_)
    obtain ⟨rfl, hτ⟩ := hp
    rw [hτ]
    simp
    refine awp_seq (awp_go ?_)
    simp [boxG kb03, boxG hTH3.bt]
    refine awp_loop (fun x : TkX => ⟨58, [(0, .ptr ab 0), (1, kI it.Ent.N), (5, .ptr σ.length 0), (6, .osl (σ.length + 1) 2 0 it.Comps.length), (27, .osl c 1 0 cols.length), (28, kI cols.length), (29, kI x.j)], f x.j, σ.length⟩)
      (fun x => x.j ≤ cols.length) (fun x => cols.length - x.j) ⟨0⟩ ?_ ?_ ?_
    · rw [f0]; exact ent_T _
    · simp
    · rintro ⟨q⟩ hq
      simp only at hq ⊢
      refine awp_go ?_
      have hMq := fJ q hq
      have hTHq := hTH3.frame hMq.fr fun p h => by simp at h
      by_cases hlt : q < cols.length
      · have hfq := fT q hlt
        have hg : cols.getD q 0 = cols[q] := by simp [List.getD, hlt]
        rw [hg] at hfq
        have hcl2 : cols.length = T.kinds.length := hTH.cl
        have hkl : T.kinds.length ≤ 1000 := hP.kl (t, T) hTm
        simp [hlt, boxG hTHq.bc]
        refine calL hfq (fun p τ hp => ?_)
        obtain ⟨rfl, hτ⟩ := hp
        rw [hτ]
        simp
        rw [wrap_id (by omega) (by omega)]
        exact ⟨⟨q + 1⟩, hlt, by simp only; omega, ent_T _⟩
      · have hqn : q = cols.length := by omega
        subst hqn
        rw [hσ4]
        rw [hV] at k4
        simp
        refine awp_seq (awp_go ?_)
        simp [boxG k1, boxG k4, hkey]
        rw [hσ5]
        refine awp_seq (awp_go ?_)
        simp [boxG mb0, boxG hTH5.bt]
        refine calL (lenE_L hS5) (fun p τ hp => ?_)
        obtain ⟨rfl, hτ⟩ := hp
        rw [hτ]
        have hdl : (dropR T.slots i).length = T.rows.length - 1 := by rw [dropR_len, T.slots_len]
        rw [hdl]
        rw [← hidl] at m1
        by_cases h1 : T.rows.length = 1
        · simp [h1, boxG m1]
          refine calL hDel (fun p τ hp => ?_)
          obtain ⟨rfl, hτ⟩ := hp
          rw [hτ]
          rw [← hidl] at n1
          simp [boxG n1]
          rw [if_pos h1] at hτF
          rw [hσ7, hτF]
          refine awp_seq (awp_go ?_)
          simp
          refine awp_go ?_
          simp
          exact finL ⟨rfl, rfl⟩
        · have h2 : T.rows.length ≠ 0 := fun h => by
            have := (List.getElem?_eq_some_iff.1 hi).1; omega
          have h3 : T.rows.length - 1 ≠ 0 := by omega
          rw [if_neg h1] at hτF
          simp [h3]
          refine awp_seq (awp_go ?_)
          simp
          refine awp_go ?_
          simp
          exact finL ⟨rfl, hτF⟩
  have hkeep : ∀ x : Nat × Nat × Nat, (x.1 = t + 2 ∧ x.2.1 ≠ 0 ∨ x = (1, 0, 3)) → x.1 ≠ 0 := fun x h => by
    rcases h with h | h
    · omega
    · rw [h]; simp
  by_cases h1 : T.rows.length = 1
  · rw [if_pos h1] at hτF
    subst hτF
    have hF57 : Fr σ5 σ7 g2 g2 (fun x => x = (1, 0, 2) ∨ x = (1, 0, 0)) := (hF6.mono fun x h => .inl h).trans (hF7.mono fun x h => .inr h)
    have htk : takeTabs A t T B i = A ++ B := by unfold takeTabs; rw [if_pos h1]
    have hfl : (ids.filter fun x => !decide (x = t)).length = (A ++ B).length := by rw [hfil]; simp
    rw [htk]
    refine ⟨σ7, g2, σ.length + 1, hRun, ⟨⟨gb, tb, mb, ?_, ?_, ?_, ?_, v1, v2, v3, v4⟩, fun x hx => ?_⟩, ?_, by omega, by rw [g21], ?_⟩
    · rw [← hσ7, box_set (box_lt n1), if_pos rfl, hfl]
    · exact hF57.box m2 (by rw [v2]; simp)
    · have hb6 : box σ6 tb = some (ptrs (ids.filter fun x => !decide (x = t))) := by rw [← hσ6, box_set (box_lt m3), if_pos rfl]
      have := hF7.box hb6 (by rw [v3]; simp)
      rw [this, hfil, ptrs, List.map_map]; rfl
    · exact hF57.box m4 (by rw [v4]; simp)
    · exact (hAB5 x hx).frame hF57 fun a p h => by simp at h
    · exact hF57.box mb1 (by rw [g21]; simp)
    · refine (hF05.mono hkeep).trans (hF57.mono fun x h => ?_)
      rcases h with h | h <;> rw [h] <;> simp
  · rw [if_neg h1] at hτF
    subst hτF
    have htk : takeTabs A t T B i = A ++ (t, dropT T i) :: B := by unfold takeTabs; rw [if_neg h1]
    rw [htk]
    refine ⟨σ5, g2, σ.length + 1, hRun, ⟨⟨gb, tb, mb, ?_, m2, ?_, m4, v1, v2, v3, v4⟩, fun x hx => ?_⟩, mb1, by omega, by rw [g21], hF05.mono hkeep⟩
    · rw [m1]; simp
    · rw [m3]; simp
    · rcases List.mem_append.1 hx with h | h
      · exact hAB5 x (List.mem_append_left _ h)
      · rcases List.mem_cons.1 h with h | h
        · subst h; exact hT5
        · exact hAB5 x (List.mem_append_right _ h)
end Go.Proofs.YtidhdlhblhbahaaGreat.Am
/- Regions in which calls look at boxes. -/
namespace Go.Proofs.YtidhdlhblhbahaaGreat.Am
open Go Go.RowKit

/-- A call that changes no box: so it is, whenever its turn may come. -/
def CallR (P : Program) (ops : Array Oper) (o : Oper) (N k : Nat) (T : List (Nat × PV)) (σs : List Boxes) (p : PV) : List Nat → Prop
  | [] => True
  | m :: ms => StepD P ops o ⟨N, T, σs.getD m [], k⟩ (σs.getD m []) p ∧ CallR P ops o N k T σs p ms
theorem callR_spec {P : Program} {ops : Array Oper} {o : Oper} {N k : Nat} {T : List (Nat × PV)} {σs : List Boxes} {p : PV} : ∀ {ms : List Nat}, CallR P ops o N k T σs p ms → ∀ m ∈ ms, StepD P ops o ⟨N, T, σs.getD m [], k⟩ (σs.getD m []) p
  | [], _, m, hm => by simp at hm
  | m' :: ms, h, m, hm => by
    rcases List.mem_cons.1 hm with rfl | hm
    · exact h.1
    · exact callR_spec h.2 m hm
theorem callR_ok {P : Program} {ops : Array Oper} {o : Oper} {N k : Nat} {T : List (Nat × PV)} {σs : List Boxes} {p : PV} (h : CallOk P ops o N k T p) : ∀ {ms : List Nat}, CallR P ops o N k T σs p ms
  | [] => trivial
  | m :: ms => ⟨h _, callR_ok h⟩
def chkR (P : Program) (ops : Array Oper) (N k : Nat) (T : List (Nat × PV)) (σs : List Boxes) : List Oper → List (Nat × List Nat) → List PV → Prop
  | o :: l, (cls, ms) :: rg, p :: ps => (if cls = 2 then CallR P ops o N k (seen ops o T) σs p ms else if cls = 3 then CallW P ops o N k (seen ops o T) σs p ms else chkM P ops o N k (seen ops o T) σs cls p ms) ∧ chkR P ops N k T σs l rg ps
  | [], _, [] => True
  | _, _, _ => False

theorem chkR_spec {P : Program} {ops : Array Oper} {N k : Nat} {T : List (Nat × PV)} {σs : List Boxes} : ∀ {l : List Oper} {rg : List (Nat × List Nat)} {ps : List PV}, chkR P ops N k T σs l rg ps →
    ps.length = l.length ∧ ∀ (i : Nat) (o : Oper) (p : PV) (cls : Nat) (ms : List Nat), l[i]? = some o → ps[i]? = some p → rg[i]? = some (cls, ms) → ∀ m ∈ ms,
      StepD P ops o ⟨N, seen ops o T, σs.getD m [], k⟩ (σs.getD (m + wrN cls) []) p
  | [], rg, [], _ => ⟨rfl, fun i o p cls ms h => by simp at h⟩
  | [], rg, _ :: _, h => by unfold chkR at h; exact h.elim
  | _ :: _, [], _, h => by unfold chkR at h; exact h.elim
  | _ :: _, _ :: _, [], h => by unfold chkR at h; exact h.elim
  | o :: l, (cls, ms) :: rg, p :: ps, h => by
    unfold chkR at h
    obtain ⟨h1, h2⟩ := h
    obtain ⟨h3, h4⟩ := chkR_spec h2
    refine ⟨by simp [h3], fun i o' p' cls' ms' ho hp hr m hm => ?_⟩
    cases i with
    | zero =>
      simp only [List.getElem?_cons_zero, Option.some.injEq, Prod.mk.injEq] at ho hp hr
      subst ho hp
      obtain ⟨rfl, rfl⟩ := hr
      split at h1
      · rename_i e; subst e
        exact callR_spec h1 m hm
      · split at h1
        · rename_i e; subst e
          exact callW_spec h1 m hm
        · exact chkM_spec h1 m hm
    | succ i => exact h4 i o' p' cls' ms' (by simpa using ho) (by simpa using hp) (by simpa using hr) m hm

theorem draw_DR {P : Program} {l : List Oper} {s : St} {Q : St → Prop} (pc wc : List Nat) (rg : List (Nat × List Nat)) (W : Nat) (hp : planWX pc wc l = some (rg, W))
    (hdst : l.all (fun o => dstOk o.dst s.N) = true)
    (h : @gD s [] [s.σ] ⟨P, l.toArray, l, rg, fun s' ps σs => (chkR P l.toArray s.N s.k s'.T σs l rg ps ∧ σs.getD 0 [] = s.σ ∧ s'.σ = σs.getD W []) ∧ Q s'⟩) : DrawW P l s Q := by
  simp only [planWX, Option.map_eq_some_iff, Prod.mk.injEq] at hp
  obtain ⟨rg', hplan, rfl, rfl⟩ := hp
  unfold planX at hplan
  split at hplan
  · rename_i hok2
    obtain ⟨hok, hrd⟩ := hok2
    obtain ⟨ps, σs, s', ⟨⟨hchk, hσ0, hσ⟩, hQ⟩, hN, hk, hT⟩ := goD_spec 0 rfl rfl h
    rw [List.nil_append] at hchk
    replace hT : s'.T = TA (fun _ => true) 0 l ps s.T := hT
    obtain ⟨hlen, hall⟩ := chkR_spec hchk
    refine draw_TX (pc := pc) (wc := wc) (ps := ps) (σs := fun m => σs.getD m []) hok hrd hσ0 hlen (fun o ho => List.all_eq_true.1 hdst o ho) (fun i o p ho hp m hlo hhi => ?_) ?_
    · refine ⟨seen l.toArray o s'.T, fun t q hq => ?_, ?_⟩
      · obtain ⟨h1, h2⟩ := look_seen hq
        exact ⟨h1, by rw [← hT]; exact h2⟩
      · have hil := (List.getElem?_eq_some_iff.1 ho).1
        simp only [Option.some.injEq] at hplan
        have hrg : rg'[i]? = some (clsX pc wc l i, (List.range (hiX pc wc l (clos l []) i + 1)).filter (loX pc wc l (clos l []) i ≤ ·)) := by
          rw [← hplan]
          simp [hil]
        have := hall i o p _ _ ho hp hrg m (by simp; omega)
        have hw : wrN (clsX pc wc l i) = if wrX pc wc l i = true then 1 else 0 := by
          have h3 : clsOf o.op ≠ 3 := clsOf_ne o.op
          by_cases hpc : i ∈ pc
          · simp [clsX, wrX, hpc, wrN]
          · by_cases hc : i ∈ wc
            · simp [clsX, wrX, wrN, clsAt, wrAt, ho, hpc, hc]
            · simp [clsX, wrX, wrN, clsAt, wrAt, ho, hpc, hc, h3]
        rw [← hw]; exact this
    · have : (⟨s.N, TA (fun _ => true) 0 l ps s.T, σs.getD ((List.range l.length).countP (wrX pc wc l)) [], s.k⟩ : St) = s' := by
        rw [← hT, ← hσ, ← hN, ← hk]
      rw [this]; exact hQ
  · simp at hplan

theorem awp_drawR {P : Program} (hm : P.follows .mixedOrders = true) {id : Nat} {l : List Oper} {s : St} {Q : Exit → St → Prop} (pc wc : List Nat) (rg : List (Nat × List Nat)) (W : Nat) (hp : planWX pc wc l = some (rg, W))
    (hdst : l.all (fun o => dstOk o.dst s.N) = true)
    (h : @gD s [] [s.σ] ⟨P, l.toArray, l, rg, fun s' ps σs => (chkR P l.toArray s.N s.k s'.T σs l rg ps ∧ σs.getD 0 [] = s.σ ∧ s'.σ = σs.getD W []) ∧ Q .normal s'⟩) : AWp P (.region id l.toArray true) s Q :=
  awp_of_draw hm (draw_DR pc wc rg W hp hdst h)
attribute [simp] chkR
end Go.Proofs.YtidhdlhblhbahaaGreat.Am
/- Package arch: has. -/
namespace Go.Proofs.YtidhdlhblhbahaaGreat.Am
open Go Go.RowKit

/-- Where an item lies. -/
theorem find_tab {tabs : List (Nat × GTab)} {oks : List Int} {ofT : Int → Nat} (hP : ArchP tabs oks ofT) {it : GItem} (h : it ∈ tabs.flatMap fun x => x.2.rows) : ∃ (A : List (Nat × GTab)) (t : Nat) (T : GTab) (B : List (Nat × GTab)) (i j : Nat), tabs = A ++ (t, T) :: B ∧ T.rows[i]? = some it ∧ oks[j]? = some it.Ent.N := by
  obtain ⟨⟨t, T⟩, hx, hr⟩ := List.mem_flatMap.1 h
  obtain ⟨A, B, hAB⟩ := List.append_of_mem hx
  obtain ⟨i, hi, hie⟩ := List.getElem_of_mem hr
  have ho : it.Ent.N ∈ oks := (hP.okm _).2 ⟨_, hx, by rw [← hie]; simp only [GTab.slots]; exact List.mem_map_of_mem (List.getElem_mem hi)⟩
  obtain ⟨j, hj, hje⟩ := List.getElem_of_mem ho
  exact ⟨A, t, T, B, i, j, hAB, by rw [List.getElem?_eq_getElem hi, hie], by rw [List.getElem?_eq_getElem hj, hje]⟩

def hasB (tabs : List (Nat × GTab)) (e : GEnt) : Bool := (tabs.flatMap fun x => x.2.rows).any fun it => decide (it.Ent = e)

set_option maxRecDepth 20000 in
set_option maxHeartbeats 1000000 in
theorem has_L {σ : Boxes} {g : Tag} {ab : Nat} {kinds : List GKind} {gens oks : List Int} {tabs : List (Nat × GTab)} {ofT : Int → Nat} (hH : ArchH σ g ab kinds gens tabs oks ofT) (hP : ArchP tabs oks ofT) (en : GEnt) :
    FnL Tryz.prog 257 [.ptr ab 0, .agg en.e] σ (fun p τ => p = kB (hasB tabs en) ∧ τ = σ) := by
  obtain ⟨⟨gb, tb, mb, e1, e2, e3, e4, u1, u2, u3, u4⟩, e5⟩ := hH
  have c1 : ∀ x : Boxes, (σ ++ x)[ab]? = _ := fun x => (List.getElem?_append_left (box_lt e1)).trans (boxG e1)
  refine fnl_trim ?_ (by simp)
  refine fnl_of Tryz.func257 rfl fun hlt0 => ?_
  refine awp_seq (awp_go ?_)
  simp [Tryz.ntmps257, entryL]
  obtain ⟨σ1, hσ1⟩ : ∃ σ1, σ ++ [some en.e] = σ1 := ⟨_, rfl⟩
  have b0 : box σ1 σ.length = some en.e := by rw [← hσ1]; simp
  have hF1 : Fr σ σ1 g g (fun _ => False) := by rw [← hσ1]; exact Fr.app
  have k1 := hF1.box e1 fun h => h
  have k4 := hF1.box e4 fun h => h
  rw [hσ1]
  refine awp_seq (awp_go ?_)
  by_cases hok : en.N ∈ oks
  · obtain ⟨x, hx, hs⟩ := (hP.okm _).1 hok
    obtain ⟨i, hi, hie⟩ := List.getElem_of_mem hs
    have hsi : x.2.slots[i]? = some en.N := by rw [List.getElem?_eq_getElem hi, hie]
    have hil : i < x.2.rows.length := by rw [← x.2.slots_len]; exact hi
    obtain ⟨it, hit⟩ : ∃ it, x.2.rows[i] = it := ⟨_, rfl⟩
    have hei : x.2.ents[i]? = some it.Ent := by simp [GTab.ents, hil, hit]
    have hN : it.Ent.N = en.N := by
      simp only [GTab.slots, List.getElem_map, hit] at hie; exact hie
    have hof : ofT en.N = x.1 := hP.oft x hx _ (List.mem_of_getElem? hsi)
    obtain ⟨j, hj1, hj2⟩ := key_ex hok
    have hkey : keyAt .i64 en.N (oks.map kI) = some (some j) := by rw [keyAt_ints, hj1]
    obtain ⟨V, hV⟩ : ∃ V, (oks.map fun n => PV.ptr (ofT n) 0) = V := ⟨_, rfl⟩
    have hVj : V[j]? = some (.ptr x.1 0) := by rw [← hV, List.getElem?_map, hj2, Option.map_some, hof]
    have hVl : j < V.length := (List.getElem?_eq_some_iff.1 hVj).1
    have hVe : V[j] = .ptr x.1 0 := (List.getElem?_eq_some_iff.1 hVj).2
    rw [hV] at k4
    obtain ⟨e, c, cols, t1, t2, t3⟩ := (e5 x hx).frame hF1 fun _ _ h => h
    have hB : hasB tabs en = decide (it.Ent = en) := by
      unfold hasB
      by_cases h : it.Ent = en
      · rw [decide_eq_true h]
        exact List.any_eq_true.2 ⟨it, List.mem_flatMap.2 ⟨x, hx, hit ▸ List.getElem_mem hil⟩, by simpa using h⟩
      · rw [decide_eq_false h, List.any_eq_false]
        intro y hy he
        have he : y.Ent = en := by simpa using he
        obtain ⟨z, hz, hyz⟩ := List.mem_flatMap.1 hy
        have hys : en.N ∈ z.2.slots := by rw [← he]; exact List.mem_map_of_mem hyz
        have hzx := hP.disj hz hx hys (List.mem_of_getElem? hsi)
        subst hzx
        obtain ⟨q, hq, hqe⟩ := List.getElem_of_mem hyz
        have hsq : z.2.slots[q]? = some en.N := by simp [GTab.slots, hq, hqe, he]
        have h1 := idxI_at t2.nd hsi
        have h2 := idxI_at t2.nd hsq
        have hqi : q = i := by omega
        subst hqi
        rw [hit] at hqe
        exact h (by rw [hqe]; exact he)
    rw [hB]
    refine awp_draw follows_mix [] [(0, [0]), (0, [0]), (0, [0]), (0, [0]), (0, [0]), (0, [0]), (0, [0]), (0, [0])] 0 (by kernel_rfl) rfl ?_
    simp [boxG k1, boxG k4, boxG b0, hkey, hVl, hVe]
    refine awp_seq (awp_go ?_)
    simp
    refine awp_seq (awp_go ?_)
    refine awp_drawR follows_mix [] [] [(0, [0, 1]), (0, [0, 1]), (0, [0, 1]), (0, [0, 1]), (0, [0, 1]), (0, [0, 1]), (2, [0, 1]), (0, [0, 1]), (0, [0, 1]), (0, [0, 1, 2]), (1, [0]), (1, [1]), (0, [2])] 2 (by kernel_rfl) rfl ?_
    have j0 : σ1[σ.length]?.join = some en.e := b0
    have j1 : σ1[x.1]?.join = some _ := t1.bt
    have en0 : en.e[0]? = some (kI en.N) := rfl
    simp [j0, j1, en0]
    have j0a : ∀ z : Boxes, (σ1 ++ z)[σ.length]?.join = some en.e := fun z => (box_append (i := σ.length)).trans ((if_pos (box_lt b0)).trans b0)
    have j1a : ∀ z : Boxes, (σ1 ++ z)[x.1]?.join = _ := fun z => (box_append (i := x.1)).trans ((if_pos (box_lt t1.bt)).trans t1.bt)
    refine gD_call (.tup [.agg it.Ent.e, kB true]) ?_
    simp [j0, j1, en0, j0a, j1a]
    have hsl : x.2.ents.length = x.2.slots.length := by rw [x.2.ents_len, x.2.slots_len]
    have t2' := t2.frame (Fr.app (ext := [some [kI 0, kI 0]]) (O := fun _ => False)) fun _ h => h
    refine ⟨⟨.inl ⟨rfl, doL (getE_L t2 hsi hei hsl)⟩, .inl ⟨rfl, doL (getE_L t2' hsi hei hsl)⟩, trivial⟩, ?_⟩
    refine awp_seq (awp_go ?_)
    have b0x : ∀ z : Boxes, (σ1 ++ z)[σ.length]? = some (some en.e) := fun z => (List.getElem?_append_left (box_lt b0)).trans (boxG b0)
    simp [b0x]
    refine awp_go ?_
    simp
    exact finL ⟨rfl, [some en.e, some it.Ent.e], by rw [← hσ1]; simp⟩
  · have hB : hasB tabs en = false := by
      unfold hasB
      rw [List.any_eq_false]
      intro y hy he
      have he : y.Ent = en := by simpa using he
      obtain ⟨z, hz, hyz⟩ := List.mem_flatMap.1 hy
      exact hok ((hP.okm _).2 ⟨z, hz, by rw [← he]; exact List.mem_map_of_mem hyz⟩)
    rw [hB]
    have hkey : keyAt .i64 en.N (oks.map kI) = some none := by
      rw [keyAt_ints]
      congr 1
      rw [List.findIdx?_eq_none_iff]
      intro x hx
      rw [decide_eq_false_iff_not]
      exact fun he => hok (by rw [he]; exact hx)
    refine awp_draw follows_mix [] [(0, [0]), (0, [0]), (0, [0]), (0, [0]), (0, [0]), (0, [0]), (0, [0]), (0, [0])] 0 (by kernel_rfl) rfl ?_
    simp [boxG k1, boxG k4, boxG b0, hkey]
    refine awp_seq (awp_go ?_)
    simp
    exact finL ⟨rfl, [some en.e], hσ1.symm⟩
end Go.Proofs.YtidhdlhblhbahaaGreat.Am
/- Package arch: Kill. -/
namespace Go.Proofs.YtidhdlhblhbahaaGreat.Am
open Go Go.RowKit

abbrev WAt (σ : Boxes) (g : Tag) (ab : Nat) (w : GWorld) : Prop := ArchAt σ g ab w.Kinds w.Gens w.Items
theorem ArchAt.frame {σ τ : Boxes} {g g' : Tag} {O : Nat × Nat × Nat → Prop} {ab : Nat} {kinds : List GKind} {gens : List Int} {items : List GItem} (h : ArchAt σ g ab kinds gens items) (hf : Fr σ τ g g' O) (hO : ∀ t, t.1 ≠ 0 → ¬ O t) : ArchAt τ g' ab kinds gens items := by
  obtain ⟨tabs, oks, ofT, h1, h2, h3⟩ := h
  exact ⟨tabs, oks, ofT, h1.frame hf hO, h2, h3⟩

theorem has_find {w : GWorld} {tabs : List (Nat × GTab)} (hpm : (tabs.flatMap fun x => x.2.rows).Perm w.Items) (e : GEnt) : hasB tabs e = (findI w e).isSome := by
  unfold hasB findI
  rw [hpm.any_eq]
  cases hf : w.Items.findIdx? (fun it => decide (it.Ent = e)) with
  | none =>
    rw [List.findIdx?_eq_none_iff] at hf
    rw [List.any_eq_false.2 fun x hx => by simp [hf x hx]]; rfl
  | some i =>
    obtain ⟨hi, he, _⟩ := List.findIdx?_eq_some_iff_getElem.1 hf
    rw [List.any_eq_true.2 ⟨_, List.getElem_mem hi, he⟩]; rfl
theorem items_cut {w : GWorld} {i : Nat} (hi : i < w.Items.length) : w.Items.Perm (w.Items[i] :: (w.Items.take i ++ w.Items.drop (i + 1))) := by
  have e1 : w.Items = w.Items.take i ++ w.Items[i] :: w.Items.drop (i + 1) := by rw [← List.drop_eq_getElem_cons hi, List.take_append_drop]
  exact (List.Perm.of_eq e1).trans List.perm_middle

set_option maxRecDepth 20000 in
set_option maxHeartbeats 1000000 in
theorem Kill_A {σ : Boxes} {g : Tag} {ab : Nat} {w : GWorld} (hA : WAt σ g ab w) (hw : checkW w = 0) (en : GEnt) :
    FnL Tryz.prog 192 [.ptr ab 0, .agg en.e] σ (fun p τ => p = kI (killA w en).2 ∧ ∃ g', WAt τ g' ab (killA w en).1 ∧ Fr σ τ g g' (fun t => t.1 ≠ 0)) := by
  obtain ⟨hfi, hfc⟩ := checkW_fine hw
  obtain ⟨w1, w2, w3, w4, w5⟩ := checkW_iff.1 hw
  obtain ⟨w6, w7⟩ := items_iff.1 w5
  obtain ⟨σ1, hσ1⟩ : ∃ σ1, σ ++ [some en.e] = σ1 := ⟨_, rfl⟩
  have hF1 : Fr σ σ1 g (newTag g σ.length []) (fun _ => False) := by rw [← hσ1]; exact ⟨by simp, fun b hb => newTag_old hb, fun b hb _ => by rw [box_append, if_pos hb]⟩
  obtain ⟨g1, hg1⟩ : ∃ g1, newTag g σ.length [] = g1 := ⟨_, rfl⟩
  rw [hg1] at hF1
  have b0 : box σ1 σ.length = some en.e := by rw [← hσ1]; simp
  have g10 : g1 σ.length = (0, 0, 0) := by
    have := newTag_new (g := g) (n := σ.length) (l := []) (j := 0)
    rw [Nat.add_zero] at this
    rw [← hg1, this]; rfl
  have hA1 := hA.frame hF1 fun _ _ h => h
  have hF1' : Fr σ σ1 g g1 (fun t => t.1 ≠ 0) := hF1.mono fun _ h => h.elim
  obtain ⟨tabs, oks, ofT, hH, hP, hpm⟩ := hA1
  have hhas := has_L hH hP en
  rw [has_find hpm] at hhas
  refine fnl_of Tryz.func192 rfl fun hlt0 => ?_
  refine awp_seq (awp_go ?_)
  simp [Tryz.ntmps192, entryL]
  rw [hσ1]
  refine awp_seq (awp_go ?_)
  simp [boxG b0]
  refine calL hhas (fun p τ hp => ?_)
  obtain ⟨rfl, hτ⟩ := hp
  rw [hτ]
  unfold killA
  cases hf : findI w en with
  | none =>
    simp
    exact finL ⟨rfl, g1, ⟨tabs, oks, ofT, hH, hP, hpm⟩, hF1'⟩
  | some k =>
    obtain ⟨hk, hke⟩ := findI_lt hf
    obtain ⟨it, hit⟩ : ∃ it, w.Items[k] = it := ⟨_, rfl⟩
    have hitm : it ∈ w.Items := hit ▸ List.getElem_mem hk
    have hie : it.Ent = en := by rw [← hit]; exact hke
    obtain ⟨A, t, T, B, i, j, hAB, hi, hj⟩ := find_tab hP (hpm.symm.subset hitm)
    subst hAB
    have hsz : ((A ++ (t, T) :: B).flatMap fun x => x.2.rows).length ≤ 100000 := by rw [hpm.length_eq]; omega
    obtain ⟨τ, g', lb, hL, hH', hlb, hlbg, hlb0, hF'⟩ := take_L hH hP hi hj hsz (by have := (hfc it hitm).1; omega)
    have hsnd : T.slots.Nodup := by obtain ⟨_, _, _, _, h2, _⟩ := hH.tab (t, T) (by simp); exact h2.nd
    obtain ⟨hP', hpm'⟩ := takeP hP hsnd hi hj
    rw [hie] at hL
    simp
    refine awp_seq (awp_go ?_)
    have en0 : en.e[0]? = some (kI en.N) := rfl
    simp [boxG b0, en0]
    refine calL hL (fun p τ2 hp => ?_)
    obtain ⟨rfl, hτ2⟩ := hp
    rw [hτ2]
    simp
    refine awp_seq (awp_go ?_)
    obtain ⟨⟨gb, tb, mb, e1, e2, e3, e4, u1, u2, u3, u4⟩, e5⟩ := hH'
    have b1 : box τ σ.length = some en.e := hF'.box b0 (by rw [g10]; simp)
    obtain ⟨g0, g2, g3, g4, g5⟩ := w7 it hitm
    obtain ⟨N, hN⟩ : ∃ N : Nat, it.Ent.N = N := ⟨it.Ent.N.toNat, by omega⟩
    rw [hie] at hN
    have hNl : N < w.Gens.length := by rw [hie] at g2; omega
    have hgv : w.Gens.getD N 0 = w.Gens[N] := by simp [List.getD, hNl]
    have hgb := List.any_eq_false.1 w4 w.Gens[N] (List.getElem_mem hNl)
    simp only [Bool.or_eq_true, decide_eq_true_eq, not_or] at hgb
    have lgb := box_lt e2
    obtain ⟨σ9, hσ9⟩ : ∃ σ9, τ.set gb (some ((w.Gens.set N (w.Gens[N] + 1)).map kI)) = σ9 := ⟨_, rfl⟩
    have hst : (w.Gens.map kI).take N ++ kI (w.Gens[N] + 1) :: (w.Gens.map kI).drop (N + 1) = (w.Gens.set N (w.Gens[N] + 1)).map kI := set_ints hNl _
    have hN1 : N + 1 ≤ w.Gens.length := by omega
    have hw1 : IntKind.i64.wrap (w.Gens[N] + 1) = w.Gens[N] + 1 := wrap_id (by omega) (by omega)
    have en1 : en.e[0]? = some (kI (N : Int)) := by rw [en0, hN]
    refine awp_draw follows_mix [] [(0, [0]), (0, [0]), (0, [0]), (0, [0]), (0, [0]), (0, [0]), (0, [0]), (0, [0]), (0, [0]), (0, [0]), (1, [0])] 1 (by kernel_rfl) rfl ?_
    simp [boxG e1, boxG b1, boxG e2, en1, hNl, hw1, hN1, hst]
    rw [← List.map_set, hσ9]
    have hF9 : Fr τ σ9 g' g' (fun x => x = (1, 0, 1)) := by rw [← hσ9]; exact Fr.set lgb u2
    refine awp_seq (awp_go ?_)
    simp
    refine awp_go ?_
    simp
    have hNt : en.N.toNat = N := by omega
    have hpI : ((takeTabs A t T B i).flatMap fun x => x.2.rows).Perm (w.Items.take k ++ w.Items.drop (k + 1)) := by
      have h1 := items_cut hk
      rw [hit] at h1
      exact List.Perm.cons_inv ((hpm'.trans hpm).trans h1)
    refine finL ⟨rfl, g', ⟨takeTabs A t T B i, oks.eraseIdx j, ofT, ⟨⟨gb, tb, mb, ?_, ?_, ?_, ?_, u1, u2, u3, u4⟩, fun x hx => (e5 x hx).frame hF9 fun a p h => by simp at h⟩, hP', hpI⟩, ?_⟩
    · have := hF9.box e1 (by rw [u1]; simp)
      rw [this]
      simp [killW]
    · show box σ9 gb = some ((w.Gens.set en.N.toNat (w.Gens.getD en.N.toNat 0 + 1)).map kI)
      rw [← hσ9, box_set lgb, if_pos rfl, hNt, hgv]
    · exact hF9.box e3 (by rw [u3]; simp)
    · exact hF9.box e4 (by rw [u4]; simp)
    · exact (hF1'.trans hF').trans (hF9.mono fun x h => by rw [h]; simp)
end Go.Proofs.YtidhdlhblhbahaaGreat.Am
/- Package cmd: act, when it kills. -/
namespace Go.Proofs.YtidhdlhblhbahaaGreat.Am
open Go Go.RowKit

/-- What act does. -/
def ActR (w : GWorld) (c : GCmd) (ab : Nat) (σ : Boxes) (g : Tag) (p : PV) (τ : Boxes) : Prop := p = .tup [.agg (actM w c).2.1.e, kB (actM w c).2.2] ∧ ∃ g', WAt τ g' ab (actM w c).1 ∧ Fr σ τ g g' (fun t => t.1 ≠ 0)
theorem newTag0 {g : Tag} {n : Nat} (k : Nat) : newTag g n [] (n + k) = (0, 0, 0) := by rw [newTag_new]; simp [List.getD]
theorem fr_app0 {σ ext : Boxes} {g : Tag} {O : Nat × Nat × Nat → Prop} : Fr σ (σ ++ ext) g (newTag g σ.length []) O := ⟨by simp, fun b hb => newTag_old hb, fun b hb _ => by rw [box_append, if_pos hb]⟩

set_option maxRecDepth 20000 in
set_option maxHeartbeats 1000000 in
theorem actK_L {σ : Boxes} {g : Tag} {ab : Nat} {w : GWorld} (hA : WAt σ g ab w) (hw : checkW w = 0) (c : GCmd) (hd : c.Do = 2) :
    FnL Tryz.prog 149 [.ptr ab 0, .agg c.e] σ (ActR w c ab σ g) := by
  obtain ⟨σ1, hσ1⟩ : ∃ σ1, σ ++ [some c.e, some [kI 0, kI 0]] = σ1 := ⟨_, rfl⟩
  have hF1 : Fr σ σ1 g (newTag g σ.length []) (fun t => t.1 ≠ 0) := by rw [← hσ1]; exact fr_app0
  have hF1' : Fr σ σ1 g (newTag g σ.length []) (fun t => False) := by rw [← hσ1]; exact fr_app0
  have g10 : newTag g σ.length [] σ.length = (0, 0, 0) := newTag0 0
  have g11 : newTag g σ.length [] (σ.length + 1) = (0, 0, 0) := newTag0 1
  obtain ⟨g1, hg1⟩ : ∃ g1, newTag g σ.length [] = g1 := ⟨_, rfl⟩
  rw [hg1] at hF1 hF1' g10 g11
  have b0 : box σ1 σ.length = some c.e := by rw [← hσ1, box_append, if_neg (by omega)]; simp
  have b1 : box σ1 (σ.length + 1) = some [kI 0, kI 0] := by rw [← hσ1, box_append, if_neg (by omega), show σ.length + 1 - σ.length = 1 by omega]; rfl
  have hA1 := hA.frame hF1' fun _ _ h => h
  have hce : c.e = [kI 2, kI c.Ent.N, kI c.Ent.Gen, kI c.Kind, .sl 2 (c.Comps.map GComp.e)] := by unfold GCmd.e; rw [hd]
  have hK := Kill_A hA1 hw c.Ent
  have hact : actM w c = ((killA w c.Ent).1, ⟨0, 0⟩, decide ((killA w c.Ent).2 = 0)) := by unfold actM; rw [hd]; rfl
  rw [hce] at b0 hσ1 ⊢
  refine fnl_of Tryz.func149 rfl fun hlt0 => ?_
  refine awp_seq (awp_go ?_)
  simp [Tryz.ntmps149, entryL]
  rw [hσ1]
  refine awp_seq (awp_go ?_)
  simp [boxG b0]
  refine calL hK (fun p τ hp => ?_) (hren := by rfl)
  obtain ⟨rfl, g', hA', hF'⟩ := hp
  have b1' : box τ (σ.length + 1) = some [kI 0, kI 0] := hF'.box b1 (by rw [g11]; simp)
  simp [boxG b1']
  have hset : τ.set (σ.length + 1) (some [kI 0, kI 0]) = τ := boxes_set_same b1'
  rw [hset]
  refine finL (p := .tup [.agg [kI 0, kI 0], kB (decide ((killA w c.Ent).2 = 0))]) ⟨by rw [hact]; rfl, g', by rw [hact]; exact hA', hF1.trans hF'⟩ (h := ?_)
  simp [boxG b1']
end Go.Proofs.YtidhdlhblhbahaaGreat.Am
/- The library's sort of items by a comparison, up to twelve of them. -/
namespace Go.Proofs.YtidhdlhblhbahaaGreat.Am
open Go Go.RowKit

set_option maxHeartbeats 1000000 in
set_option maxRecDepth 20000 in
theorem insIt_fn (l : List GItem) (fn : FuncId) (c : GItem → GItem → Int) (hl : l.length ≤ 12) (he : enterable Tryz.prog fn = true) (hf : ∀ x y, Fn Tryz.prog fn [.agg (GItem.e x), .agg (GItem.e y)] (kI (c x y))) :
    FnD Tryz.prog 179 [.osl 0 3 0 l.length, kI 0, kI l.length, .clo (.func fn) []] [(l.map GItem.e).flatten] (.tup []) [some ((insSort c l).map GItem.e).flatten] := by
  obtain ⟨n, hn⟩ : ∃ n, l.length = n := ⟨_, rfl⟩
  obtain ⟨R, hR⟩ : ∃ R, insSort c l = R := ⟨_, rfl⟩
  rw [hn] at hl ⊢
  rw [hR]
  refine fnd_go Tryz.func179 rfl ?_
  simp [Tryz.ntmps179]
  refine awp_loop (fun x : Nat × List GItem => ⟨53, [(0, .osl 0 3 0 n), (1, kI 0), (2, kI n), (3, .clo (.func fn) []), (8, kI x.1)], [some (x.2.map GItem.e).flatten], 1⟩)
    (fun x => 1 ≤ x.1 ∧ x.1 ≤ n + 1 ∧ x.2.length = n ∧ insOut c (n - x.1) x.1 x.2 = R) (fun x => n + 1 - x.1) (1, l) ?_ ?_ ?_
  · exact entm [0]
  · exact ⟨Nat.le_refl _, by omega, hn, by rw [← hR, insSort, hn]⟩
  · rintro ⟨i, L⟩ ⟨hi1, hi, hL, hrun⟩
    simp only at hi1 hi hL hrun
    refine awp_go ?_
    by_cases hlt : i < n
    · rw [show n - i = (n - (i + 1)) + 1 by omega, insOut] at hrun
      simp [hlt]
      refine awp_loop (fun x : Nat × List GItem => ⟨53, [(0, .osl 0 3 0 n), (1, kI 0), (2, kI n), (3, .clo (.func fn) []), (8, kI i), (9, kI x.1)], [some (x.2.map GItem.e).flatten], 1⟩)
        (fun x => x.1 ≤ i ∧ x.2.length = n ∧ insIn c x.1 x.2 = insIn c i L) (fun x => x.1) (i, L) ?_ ?_ ?_
      · exact entm [0]
      · exact ⟨Nat.le_refl _, hL, rfl⟩
      · rintro ⟨j, M⟩ ⟨hj, hM, hin⟩
        simp only at hj hM hin
        refine awp_go ?_
        cases j with
        | zero =>
          simp
          refine awp_draw follows_mix [] [(0, [0]), (0, [0]), (0, [0]), (0, [0]), (0, [0]), (0, [0]), (0, [0]), (0, [0]), (0, [0]), (0, [0]), (0, [0]), (0, [0]), (0, [0]), (0, [0]), (2, [0]), (0, [0]), (0, [0])] 0 (by kernel_rfl) rfl ?_
          simp
          refine ⟨calSkp, ?_⟩
          rw [wrap_id (by omega) (by omega)]
          have hM2 : M = insIn c i L := hin
          subst hM2
          exact ⟨i + 1, insIn c i L, ⟨by omega, by omega, hM, hrun⟩, by omega, entm [0]⟩
        | succ j =>
          have h1 : j < M.length := by omega
          have h2 : j + 1 < M.length := by omega
          have h3 : j + 1 < n := by omega
          have h4 : j < n := by omega
          rw [insIn, List.getElem?_eq_getElem h1, List.getElem?_eq_getElem h2] at hin
          simp only at hin
          have g1 : (j + 1) * 3 + 3 ≤ M.length * 3 := by omega
          have g2 : j * 3 + 3 ≤ M.length * 3 := by omega
          have w1 : (((j + 1 : Nat) : Int) - 1) = (j : Int) := by omega
          have w2 : ((j : Int) + 1 - 1) = (j : Int) := by omega
          have w3 : (0 : Int) < (j : Int) + 1 := by omega
          have w4 : ((j : Int) + 1).toNat = j + 1 := by omega
          have w5 : (0 : Int) ≤ (j : Int) + 1 := by omega
          simp
          refine awp_draw follows_mix [] [(0, [0]), (0, [0]), (0, [0]), (0, [0]), (0, [0]), (0, [0]), (0, [0]), (0, [0]), (0, [0]), (0, [0]), (0, [0]), (0, [0]), (0, [0]), (0, [0]), (2, [0]), (0, [0]), (0, [0])] 0 (by kernel_rfl) rfl ?_
          have w6 : (j : Int) + 1 < (n : Int) := by omega
          have e1 : (M[j + 1]? : Option GItem) = some M[j + 1] := List.getElem?_eq_getElem h2
          simp [w1, w2, w3, w4, w5, w6, h1, h2, h3, h4, g1, g2]
          rw [wrap_id (by omega) (by omega)]
          simp [w1, w2, w3, w4, w5, w6, h1, h2, h3, h4, g1, g2]
          refine gD_call (kI (c M[j + 1] M[j])) ?_
          simp [w1, w2, w3, w4, w5, w6, h1, h2, h3, h4, g1, g2]
          refine ⟨⟨wrap_id (by omega) (by omega), calO (hf M[j + 1] M[j]) (he := he)⟩, ?_⟩
          by_cases hlt2 : c M[j + 1] M[j] < 0
          · rw [if_pos hlt2] at hin
            have r1 := row_set (e := GItem.e) (z := 3) (fun _ => rfl) M (j + 1) M[j] h2
            obtain ⟨M1, hM1⟩ : ∃ M1, M.set (j + 1) M[j] = M1 := ⟨_, rfl⟩
            have hM1l : M1.length = M.length := by rw [← hM1]; simp
            have r2 := row_set (e := GItem.e) (z := 3) (fun _ => rfl) M1 j M[j + 1] (by omega)
            obtain ⟨M2, hM2⟩ : ∃ M2, M1.set j M[j + 1] = M2 := ⟨_, rfl⟩
            rw [hM1] at r1 hin
            rw [hM2] at r2 hin
            have g3 : j * 3 + 3 ≤ M1.length * 3 := by omega
            simp [hlt2]
            refine awp_draw follows_mix [] [(0, [0]), (0, [0]), (0, [0, 1]), (0, [0, 1]), (0, [0, 1]), (0, [0]), (0, [0]), (0, [0]), (0, [0]), (0, [0]), (0, [0]), (0, [0]), (0, [0]), (0, [0]), (0, [0]), (1, [0]), (0, [1]), (1, [1])] 2 (by kernel_rfl) rfl ?_
            simp [w1, w2, w3, w4, w5, w6, h1, h2, h3, h4, g1, g2]
            rw [wrap_id (by omega) (by omega)]
            simp [w1, w2, w3, w4, w5, w6, h1, h2, h3, h4, g1, g2, g3, r1, r2]
            have hM2l : M2.length = n := by rw [← hM2]; simp [hM1l, hM]
            rw [wrap_id (by omega) (by omega)]
            exact ⟨rfl, j, M2, ⟨by omega, hM2l, hin⟩, by omega, entm [0]⟩
          · rw [if_neg hlt2] at hin
            simp [hlt2]
            rw [wrap_id (by omega) (by omega)]
            rw [← hin] at hrun
            exact ⟨i + 1, M, ⟨by omega, by omega, hM, hrun⟩, by omega, entm [0]⟩
    · simp [hlt]
      have hR2 : L = R := by
        rw [← hrun, show n - i = 0 by omega]; rfl
      subst hR2
      exact finGm [0]

set_option maxHeartbeats 1000000 in
set_option maxRecDepth 20000 in
theorem pdqIt_fn (l : List GItem) (r : Int) (fn : FuncId) (c : GItem → GItem → Int) (hl : l.length ≤ 12) (he : enterable Tryz.prog fn = true) (hf : ∀ x y, Fn Tryz.prog fn [.agg (GItem.e x), .agg (GItem.e y)] (kI (c x y))) :
    FnD Tryz.prog 144 [.osl 0 3 0 l.length, kI 0, kI l.length, kI r, .clo (.func fn) []] [(l.map GItem.e).flatten] (.tup []) [some ((insSort c l).map GItem.e).flatten] := by
  refine fnd_go Tryz.func144 rfl ?_
  simp [Tryz.ntmps144]
  refine awp_loop (fun _ : Unit => ⟨148, [(0, .osl 0 3 0 l.length), (1, kI 0), (2, kI l.length), (3, kI r), (4, .clo (.func fn) [])], [some (l.map GItem.e).flatten], 1⟩) (fun _ => True) (fun _ => 0) () ?_ trivial ?_
  · exact entm [0]
  · rintro ⟨⟩ _
    refine awp_go ?_
    have h12 : (l.length : Int) ≤ 12 := by omega
    simp
    rw [wrap_id (by omega) (by omega)]
    simp [h12]
    refine calD [0] (insIt_fn l fn c hl he hf) ?_
    simp
    obtain ⟨R, hR⟩ : ∃ R, insSort c l = R := ⟨_, rfl⟩
    rw [hR]
    exact finGm [0]
theorem SortIt_fn (l : List GItem) (fn : FuncId) (c : GItem → GItem → Int) (hl : l.length ≤ 12) (he : enterable Tryz.prog fn = true) (hf : ∀ x y, Fn Tryz.prog fn [.agg (GItem.e x), .agg (GItem.e y)] (kI (c x y))) :
    FnD Tryz.prog 81 [.osl 0 3 0 l.length, .clo (.func fn) []] [(l.map GItem.e).flatten] (.tup []) [some ((insSort c l).map GItem.e).flatten] := by
  refine fnd_go Tryz.func81 rfl ?_
  simp [Tryz.ntmps81]
  have hw : IntKind.u64.wrap (l.length : Int) = l.length := by
    simp [IntKind.wrap, IntKind.bits, IntKind.signed]; omega
  simp [hw]
  refine cal (Len_fn l.length hl) ?_
  simp
  refine calD [0] (pdqIt_fn l (len8 l.length) fn c hl he hf) ?_
  simp
  exact finGm [0] (hB := by simp)
end Go.Proofs.YtidhdlhblhbahaaGreat.Am
/- Package arch: World. -/
namespace Go.Proofs.YtidhdlhblhbahaaGreat.Am
open Go Go.RowKit

set_option maxRecDepth 20000 in
theorem World1_fn (x y : GItem) : Fn Tryz.prog 82 [.agg x.e, .agg y.e] (kI (cmpI x.Ent.N y.Ent.N)) := by
  refine fn_go Tryz.func82 rfl ?_
  simp [Tryz.ntmps82]
  refine cal (Compare_fn x.Ent.N y.Ent.N) ?_
  simp
  exact finm (by simp)

def cIt (x y : GItem) : Int := cmpI x.Ent.N y.Ent.N
theorem cIt_lt (x y : GItem) : cIt y x < 0 ↔ y.Ent.N < x.Ent.N := by unfold cIt cmpI; split <;> (try split) <;> omega
/-- The library sorts these items. -/
def Sorts (items : List GItem) : Prop := ∀ L : List GItem, L.Perm items → FnD Tryz.prog 81 [.osl 0 3 0 L.length, .clo (.func 82) []] [(L.map GItem.e).flatten] (.tup []) [some (items.map GItem.e).flatten]
theorem sorts12 {items : List GItem} (hs : items.Pairwise fun a b => a.Ent.N < b.Ent.N) (hl : items.length ≤ 12) : Sorts items := fun L hp => by
  have h := SortIt_fn L 82 cIt (by rw [hp.length_eq]; exact hl) (by simp) World1_fn
  rw [insSort_eq (key := fun x : GItem => x.Ent.N) cIt_lt hp hs] at h
  exact h

/-- World, some items being there. -/
structure WMid (σ0 : Boxes) (kinds : List GKind) (gens : List Int) (L : List GItem) (σ : Boxes) : Prop where
  le : σ0.length + 2 ≤ σ.length
  kp : ∀ b, b < σ0.length → box σ b = box σ0 b
  b2 : box σ σ0.length = some [kNil, kNil, kNil]
  ex : ∃ ib, box σ (σ0.length + 1) = some [.sl 2 (kinds.map GKind.e), slI gens, .osl ib 3 0 L.length] ∧ box σ ib = some (L.map GItem.e).flatten ∧ σ0.length + 2 ≤ ib
structure WX where
  i : Nat
  σ : Boxes

set_option maxRecDepth 20000 in
set_option maxHeartbeats 1000000 in
theorem World_L {σ : Boxes} {g : Tag} {ab : Nat} {kinds : List GKind} {gens : List Int} {items : List GItem} (hA : ArchAt σ g ab kinds gens items) (hS : Sorts items) (hil : items.length ≤ 100000)
    (hci : ∀ it ∈ items, it.Comps.length ≤ 1000 ∧ ∀ c ∈ it.Comps, c.Vals.length ≤ 1000) (hk : kinds.length ≤ 1000) (hkf : ∀ k ∈ kinds, k.Fields.length ≤ 1000) (hg : gens.length ≤ 1000000) :
    FnL Tryz.prog 24 [.ptr ab 0] σ (fun p τ => p = .agg (GWorld.e ⟨kinds, gens, items⟩) ∧ τ = σ) := by
  obtain ⟨tabs, oks, ofT, ⟨⟨gb, tb, mb, h1, h2, h3, h4, g1, g2, g3, g4⟩, hT⟩, hP, hpm⟩ := hA
  refine fnl_trim ?_ (by simp)
  refine fnl_of0 Tryz.func24 rfl fun hlt0 => ?_
  refine awp0_seq (awp0_of (awp_go ?_))
  simp [Tryz.ntmps24, entryL]
  refine awp0_seq (awp0_of (awp_go ?_))
  simp
  have c1 : ∀ x : Boxes, box (σ ++ x) ab = _ := fun x => (box_append.trans (if_pos (box_lt h1))).trans h1
  have c2 : ∀ x : Boxes, box (σ ++ x) gb = _ := fun x => (box_append.trans (if_pos (box_lt h2))).trans h2
  have hKC := KCopy_fn kinds (by omega) (fun k h => by have := hkf k h; omega)
  refine awp_drawR follows_mix [] [] [(0, [0, 1]), (0, [0, 1]), (0, [0, 1]), (0, [0, 1]), (2, [0, 1]), (0, [0, 1]), (0, [0, 1]), (0, [0, 1]), (0, [0, 1]), (2, [0, 1]), (0, [0, 1]), (1, [0]), (1, [1])] 2 (by kernel_rfl) rfl ?_
  simp [boxG (c1 _)]
  refine gD_call (.sl 2 (kinds.map GKind.e)) ?_
  simp [boxG (c1 _)]
  refine gD_call (slI gens) ?_
  simp [boxG (c1 _)]
  refine ⟨⟨callR_ok (calO hKC), ⟨.inl ⟨rfl, doL (cloneI_L (c2 _) hg)⟩, .inl ⟨rfl, doL (cloneI_L (c2 _) hg)⟩, trivial⟩⟩, ?_⟩
  refine awp0_seq (awp0_seq (awp0_of (awp_go ?_)))
  simp [boxG (c1 _)]
  have htl : tabs.length ≤ 100000 := by have h1 := tabs_le hP.ne; have h2 := hpm.length_eq; omega
  refine awp0_block (awp0_loop (fun x : WX => ⟨51, [(0, .ptr ab 0), (2, .ptr σ.length 0), (3, .ptr (σ.length + 1) 0), (22, .osl tb 1 0 tabs.length), (23, kI tabs.length), (24, kI x.i)], x.σ, σ.length⟩)
    (fun x => WMid σ kinds gens ((tabs.take x.i).flatMap fun x => x.2.rows) x.σ ∧ x.i ≤ tabs.length) (fun x => tabs.length - x.i)
    ⟨0, σ ++ [some [kNil, kNil, kNil], some [.sl 2 (kinds.map GKind.e), slI gens, .osl (σ.length + 2) 3 0 0], some []]⟩ ?_ ?_ ?_)
  · refine (ent_nilb (b := σ.length + 1) (j := 2) (z := 3) (cs := [.sl 2 (kinds.map GKind.e), slI gens, kNil]) (by rw [box_append, if_neg (by omega), show σ.length + 1 - σ.length = 1 by omega]; rfl) rfl).trans ?_
    have hset : (σ ++ [some [kNil, kNil, kNil], some [.sl 2 (kinds.map GKind.e), slI gens, kNil]]).set (σ.length + 1) (some ([.sl 2 (kinds.map GKind.e), slI gens, kNil].set 2 (.osl (σ ++ [some [kNil, kNil, kNil], some [.sl 2 (kinds.map GKind.e), slI gens, kNil]]).length 3 0 0))) ++ [some []] = σ ++ [some [kNil, kNil, kNil], some [.sl 2 (kinds.map GKind.e), slI gens, .osl (σ.length + 2) 3 0 0], some []] := by
      rw [List.set_append_right _ _ (by omega)]; simp
    simp only [hset]
    exact ent_T _
  · refine ⟨⟨by simp, fun b hb => by rw [box_append, if_pos hb], by simp, σ.length + 2, ?_, ?_, Nat.le_refl _⟩, by simp⟩
    · rw [box_append, if_neg (by omega), show σ.length + 1 - σ.length = 1 by omega]; rfl
    · rw [box_append, if_neg (by omega), show σ.length + 2 - σ.length = 2 by omega]; rfl
  · rintro ⟨i, σ1⟩ ⟨hM, hi⟩
    simp only at hM hi ⊢
    refine awp0_seq (awp0_of (awp_go ?_))
    by_cases hlt : i < tabs.length
    · have k3 : box σ1 tb = _ := (hM.kp tb (box_lt h3)).trans h3
      obtain ⟨x, hx⟩ : ∃ x, tabs[i] = x := ⟨_, rfl⟩
      have hm : x ∈ tabs := hx ▸ List.getElem_mem hlt
      simp [hlt]
      refine awp0_seq (awp0_of (awp_go ?_))
      simp
      refine awp0_seq (awp0_block (awp0_seq (awp0_of (awp_go ?_))))
      simp [boxG k3, hlt, hx]
      obtain ⟨σ2, hσ2⟩ : ∃ σ2, σ1 ++ [some [PV.ptr x.1 0]] = σ2 := ⟨_, rfl⟩
      rw [hσ2]
      have hn0 : σ.length + 2 ≤ σ1.length := hM.le
      have k5 : box σ2 σ1.length = some [.ptr x.1 0] := by rw [← hσ2, box_append, if_neg (by omega)]; simp
      have hfr2 : Fr σ σ2 g g (fun _ => False) := ⟨by rw [← hσ2]; simp; omega, fun _ _ => rfl, fun b hb _ => by rw [← hσ2, box_append, if_pos (by omega)]; exact hM.kp b hb⟩
      have hTx := hT x hm
      obtain ⟨e, c, cols, t1, t2, t3⟩ := hTx.frame hfr2 fun _ _ h => h
      have hrl : x.2.rows.length ≤ 100000 := by have h1 := rows_le x hm; have h2 := hpm.length_eq; omega
      refine awp0_seq (awp0_of (awp_go ?_))
      simp [boxG k5, boxG t1.bt]
      refine calL (allE_L t2 (by rw [x.2.ents_len, x.2.slots_len]) (by rw [x.2.slots_len]; omega)) (fun p τ hp => ?_)
      obtain ⟨rfl, hτ⟩ := hp
      rw [hτ]
      simp
      have hes : x.2.slots = x.2.ents.map GEnt.N := by simp [GTab.slots, GTab.ents]
      rw [hes]
      refine awp0_block (awp0_ent (s' := ⟨51, [(32, .clo (.func 142) [.eptr [slI (x.2.ents.map GEnt.N)], .eptr [.sl 2 (x.2.ents.map GEnt.e)]]), (0, .ptr ab 0), (2, .ptr σ.length 0), (3, .ptr (σ.length + 1) 0), (5, .ptr σ1.length 0), (22, .osl tb 1 0 tabs.length), (23, kI tabs.length), (24, kI i)], σ2, σ.length⟩) (ent_T _) ?_)
      refine awp0_rangeN (fun j τ => WMid σ kinds gens (((tabs.take i).flatMap fun x => x.2.rows) ++ x.2.rows.take j) τ ∧ box τ σ1.length = some [.ptr x.1 0]) (AllE1_seq x.2.ents (by rw [x.2.ents_len]; omega)) rfl (by simp) rfl ?_ ?_ (by simp) ?_ ?_
      · refine ⟨⟨by rw [← hσ2]; simp; omega, fun b hb => hfr2.bx b hb fun h => h, ?_, ?_⟩, k5⟩
        · rw [← hσ2, box_append, if_pos (by omega)]; exact hM.b2
        · obtain ⟨ib, q1, q2, q3⟩ := hM.ex
          refine ⟨ib, ?_, ?_, q3⟩
          · rw [← hσ2, box_append, if_pos (by omega), q1]; simp
          · rw [← hσ2, box_append, if_pos (box_lt q2), q2]; simp
      · intro y hy
        obtain ⟨z, _, rfl⟩ := List.mem_map.1 hy
        rfl
      · intro j args σc σi hJ hij
        rw [List.getElem?_map] at hij
        obtain ⟨en, hen, hij⟩ := Option.map_eq_some_iff.1 hij
        simp only [yEnt, Prod.mk.injEq] at hij
        obtain ⟨rfl, rfl⟩ := hij
        obtain ⟨hW, h5⟩ := hJ
        refine awp_go ?_
        simp [roundSt, parT]
        have hjl : j < x.2.rows.length := by have := (List.getElem?_eq_some_iff.1 hen).1; rw [x.2.ents_len] at this; exact this
        obtain ⟨it, hit⟩ : ∃ it, x.2.rows[j] = it := ⟨_, rfl⟩
        have hite : it.Ent = en := by
          simp only [GTab.ents, List.getElem?_map, List.getElem?_eq_getElem hjl, hit, Option.map_some, Option.some.injEq] at hen
          exact hen
        have hitm : it ∈ x.2.rows := hit ▸ List.getElem_mem hjl
        have hiti : it ∈ items := hpm.subset (List.mem_flatMap.2 ⟨x, hm, hitm⟩)
        obtain ⟨hc1, hc2⟩ := hci it hiti
        obtain ⟨L, hL⟩ : ∃ L, ((tabs.take i).flatMap fun x => x.2.rows) ++ x.2.rows.take j = L := ⟨_, rfl⟩
        have hL2 : ((tabs.take i).flatMap fun x => x.2.rows) ++ x.2.rows.take (j + 1) = L ++ [it] := by
          rw [← hL, List.take_succ_eq_append_getElem hjl, hit, List.append_assoc]
        have hLl : L.length ≤ 200000 := by
          rw [← hL, List.length_append, List.length_take]
          have h1 : ((tabs.take i).flatMap fun x => x.2.rows).length ≤ (tabs.flatMap fun x => x.2.rows).length := by
            conv => rhs; rw [← List.take_append_drop i tabs, List.flatMap_append, List.length_append]
            omega
          have h2 := hpm.length_eq
          omega
        rw [hL] at hW
        rw [hL2]
        obtain ⟨ib, q1, q2, q3⟩ := hW.ex
        have hle := hW.le
        obtain ⟨σ3, hσ3⟩ : ∃ σ3, σi ++ [some en.e] = σ3 := ⟨_, rfl⟩
        rw [hσ3]
        have l3 : σ3.length = σi.length + 1 := by rw [← hσ3]; simp
        have keep3 : ∀ b, b < σi.length → box σ3 b = box σi b := fun b hb => by rw [← hσ3, box_append, if_pos hb]
        have r1 := (keep3 _ (box_lt q1)).trans q1
        have r2 := (keep3 _ (box_lt q2)).trans q2
        have r5 := (keep3 _ (box_lt h5)).trans h5
        have r7 : box σ3 σi.length = some en.e := by rw [← hσ3, box_append, if_neg (by omega)]; simp
        have lib := box_lt q2
        have l5 := box_lt h5
        have hfr3 : Fr σ σ3 g g (fun _ => False) := ⟨by omega, fun _ _ => rfl, fun b hb _ => by rw [keep3 b (by omega)]; exact hW.kp b hb⟩
        have hcomps := comps_L (hTx.frame hfr3 fun _ _ h => h) (i := j) (it := it) (by rw [List.getElem?_eq_getElem hjl, hit]) ((hP.row x hm it hitm).1) hc1
        rw [hite] at hcomps
        have hCC := CopyComps_fn it.Comps (by omega) (fun c hc => by have := hc2 c hc; omega)
        have hLe : (L.map GItem.e).flatten.length = L.length * 3 := flat_lenE GItem.e_len L
        have b1 : (L.length + 1) * 40 ≤ 140737488355328 := by omega
        have b2 : L.length + 1 ≤ maxLen := by simp only [maxLen]; omega
        refine awp_go ?_
        simp
        refine awp_drawR follows_mix [] [] [(0, [0, 1]), (0, [0, 1]), (0, [0]), (0, [0]), (0, [0]), (2, [0]), (2, [0]), (0, [0]), (1, [0]), (1, [1]), (0, [2]), (1, [2])] 3 (by kernel_rfl) rfl ?_
        simp [boxG r1, boxG r5, boxG r7]
        refine gD_call (.sl 2 (it.Comps.map GComp.e)) ?_
        simp [boxG r1, boxG r5, boxG r7]
        refine gD_call (.sl 2 (it.Comps.map GComp.e)) ?_
        have a2 : ∀ z : Boxes, (σ3 ++ z)[ib]? = some (some (L.map GItem.e).flatten) := fun z => by rw [List.getElem?_append_left (by omega)]; exact boxG r2
        have an : ∀ z : Option (List PV), (σ3 ++ [z])[σ3.length]? = some z := fun z => by simp
        have a1 : ∀ z : Boxes, (σ3 ++ z)[σ.length + 1]? = some (some [.sl 2 (kinds.map GKind.e), slI gens, .osl ib 3 0 L.length]) := fun z => by rw [List.getElem?_append_left (by omega)]; exact boxG r1
        have a3 : ∀ z y : Option (List PV), ((σ3 ++ [z]).set ib none ++ [y])[σ.length + 1]? = some (some [.sl 2 (kinds.map GKind.e), slI gens, .osl ib 3 0 L.length]) := fun z y => by
          rw [List.getElem?_append_left (by simp; omega), List.getElem?_set_ne (by omega), a1]
        have hce : List.take 2 (en.e ++ [kNil]) ++ PV.sl 2 (List.map GComp.e it.Comps) :: List.drop 3 (en.e ++ [kNil]) = it.e := by rw [← hite]; rfl
        have hct : List.take 3 it.e = it.e := rfl
        simp [boxG r1, boxG r5, boxG r7, a1, a2, a3, an, hLe, b1, b2, hce, hct]
        refine ⟨⟨⟨.inl ⟨rfl, doL hcomps⟩, trivial⟩, callR_ok (calO hCC)⟩, ?_⟩
        refine ⟨_, Ent.refl _, _, ⟨⟨by simp; omega, fun b hb => ?_, ?_, σ3.length + 1, ?_, ?_, by omega⟩, ?_⟩, Ent.refl _⟩
        · rw [box_set (by simp; omega), if_neg (by omega), box_append, if_pos (by simp; omega), box_set (by simp; omega), if_neg (by omega), box_append, if_pos (by omega), keep3 b (by omega)]
          exact hW.kp b hb
        · rw [box_set (by simp; omega), if_neg (by omega), box_append, if_pos (by simp; omega), box_set (by simp; omega), if_neg (by omega), box_append, if_pos (by omega), keep3 _ (by omega)]
          exact hW.b2
        · rw [box_set (by simp; omega), if_pos rfl]; simp
        · rw [box_set (by simp; omega), if_neg (by omega), box_append, if_neg (by simp)]; simp
        · have hn : σ1.length ≠ ib := fun e => by
            rw [← e, r5] at r2
            have := congrArg (fun o => (o.map List.length)) r2
            simp [hLe] at this
            omega
          show box _ σ1.length = _
          rw [box_set (by simp; omega), if_neg (by omega), box_append, if_pos (by simp; omega), box_set (by simp; omega), if_neg hn, box_append, if_pos (by omega)]
          exact r5
      · intro τ hτ
        obtain ⟨hW, _⟩ := hτ
        simp
        refine awp0_of (awp_go ?_)
        simp
        rw [wrap_id (by omega) (by omega)]
        refine ⟨⟨i + 1, τ⟩, ⟨?_, hlt⟩, by show _ - (i + 1) < _; omega, ent_T _⟩
        have hx2 : x.2.ents.length = x.2.rows.length := x.2.ents_len
        simp only [List.length_map, hx2, List.take_length] at hW
        show WMid σ kinds gens ((tabs.take (i + 1)).flatMap fun x => x.2.rows) τ
        rw [List.take_succ_eq_append_getElem hlt, hx, List.flatMap_append, List.flatMap_cons, List.flatMap_nil, List.append_nil]
        exact hW
    · have hin : i = tabs.length := by omega
      subst hin
      rw [List.take_length] at hM
      obtain ⟨L, hL⟩ : ∃ L, (tabs.flatMap fun x => x.2.rows) = L := ⟨_, rfl⟩
      rw [hL] at hM hpm
      obtain ⟨ib, q1, q2, q3⟩ := hM.ex
      have hle := hM.le
      have lib := box_lt q2
      simp [hlt]
      refine awp0_seq (awp0_of (awp_go ?_))
      simp
      refine awp0_seq (awp0_of (awp_go ?_))
      simp [boxG q1]
      have hth : thF [ib] σ1.length 0 = ib := by simp [thF]
      have hL1 := fnl_fnd (σ := σ1) (args := [.osl ib 3 0 L.length, .clo (.func 82) []]) (r2 := .tup []) [ib] (hS L hpm) (by simp [hth]) (by simp) rfl (by simp) (by simp) ⟨⟨by rw [q2]; simp, by simp⟩, trivial⟩
      obtain ⟨σ2, hσ2⟩ : ∃ σ2, merge σ1 [ib] [some (items.map GItem.e).flatten] = σ2 := ⟨_, rfl⟩
      have hmg := boxM (σ := σ1) (σ' := [some (items.map GItem.e).flatten]) (th := [ib]) (by simp) (by simpa using lib) (by simp)
      rw [hσ2] at hmg hL1
      have hl2 : σ2.length = σ1.length := by rw [← hσ2, mergeM_len]; simp
      refine calL hL1 (fun p τ hp => ?_)
      obtain ⟨rfl, hτ⟩ := hp
      rw [hτ]
      have k1 : box σ2 (σ.length + 1) = _ := ((hmg (σ.length + 1)).2.1 (by simp; omega) (box_lt q1)).trans q1
      have k2 : box σ2 σ.length = _ := ((hmg σ.length).2.1 (by simp; omega) (by omega)).trans hM.b2
      have k3 : box σ2 ib = some (items.map GItem.e).flatten := by rw [(hmg ib).1 0 rfl]; simp [box]
      simp
      refine awp0_of (awp_go ?_)
      simp [boxG k1, boxG k2]
      obtain ⟨σ3, hσ3⟩ : ∃ σ3, σ2.set σ.length (some [.sl 2 (kinds.map GKind.e), slI gens, .osl ib 3 0 L.length]) = σ3 := ⟨_, rfl⟩
      rw [hσ3]
      have hl3 : σ3.length = σ1.length := by rw [← hσ3]; simp [hl2]
      have k4 : box σ3 ib = some (items.map GItem.e).flatten := by rw [← hσ3, box_set (by omega), if_neg (by omega)]; exact k3
      have k5 : box σ3 σ.length = some [.sl 2 (kinds.map GKind.e), slI gens, .osl ib 3 0 L.length] := by rw [← hσ3, box_set (by omega), if_pos rfl]
      have hfz : fzL ib (items.map GItem.e).flatten [.sl 2 (kinds.map GKind.e), slI gens, .osl ib 3 0 L.length] = GWorld.e ⟨kinds, gens, items⟩ := by
        simp [GWorld.e, hpm.length_eq, slI_def, fzL, PV.fz]
      have hlf : ((σ3.map fun x => x.map (fzL ib (items.map GItem.e).flatten)).set ib none).length = σ1.length := by simp [hl3]
      have hbf : ∀ b, b ≠ ib → box ((σ3.map fun x => x.map (fzL ib (items.map GItem.e).flatten)).set ib none) b = (box σ3 b).map (fzL ib (items.map GItem.e).flatten) := fun b hb => by
        rw [box_set (by simp; omega), if_neg hb, box_map]
      refine finL_ent (ent_fz ib (items.map GItem.e).flatten k4 (by simp) (by show σ.length ≤ ib; omega)) ?_
      refine finL (p := .agg (GWorld.e ⟨kinds, gens, items⟩)) ⟨rfl, List.drop σ.length ((σ3.map fun x => x.map (fzL ib (items.map GItem.e).flatten)).set ib none), ?_⟩ (h := ?_)
      · show (σ3.map fun x => x.map (fzL ib (items.map GItem.e).flatten)).set ib none = _
        obtain ⟨σ4, hσ4⟩ : ∃ σ4, (σ3.map fun x => x.map (fzL ib (items.map GItem.e).flatten)).set ib none = σ4 := ⟨_, rfl⟩
        rw [hσ4] at hbf hlf ⊢
        have e : σ4.take σ.length = σ := by
          refine boxesExt (by simp; omega) fun b hb => ?_
          have hb' : b < σ.length := by simp at hb; omega
          have e1 : box (σ4.take σ.length) b = box σ4 b := by unfold box; rw [List.getElem?_take_of_lt hb']
          rw [e1, hbf b (by omega), ← hσ3, box_set (by omega), if_neg (by omega), (hmg b).2.1 (by simp; omega) (by omega), hM.kp b hb']
          cases hb3 : box σ b with
          | none => rfl
          | some cs => rw [Option.map_some, fz_geL (n := σ.length) (by omega) _ cs (hlt0 b cs hb3)]
        conv => lhs; rw [← List.take_append_drop σ.length σ4, e]
      · have h5 := boxG ((hbf σ.length (by omega)).trans (by rw [k5]; rfl))
        rw [hfz] at h5
        have hne : ¬ σ.length = ib := by omega
        have hWl : (GWorld.e ⟨kinds, gens, items⟩).length = 3 := rfl
        have hWt : (GWorld.e ⟨kinds, gens, items⟩).take 3 = GWorld.e ⟨kinds, gens, items⟩ := rfl
        simp [St.fz, h5, hne, hWl, hWt]
end Go.Proofs.YtidhdlhblhbahaaGreat.Am
/- Package cmd: run. -/
namespace Go.Proofs.YtidhdlhblhbahaaGreat.Am
open Go Go.RowKit

theorem runC_snoc (w : GWorld) (L : List GCmd) (c : GCmd) : runC w (L ++ [c]) = ((actM (runC w L).1 c).1, (runC w L).2.1 ++ (if (actM (runC w L).1 c).2.2 = true ∧ c.Do = 3 then [(actM (runC w L).1 c).2.1] else []), (runC w L).2.2 ++ [(actM (runC w L).1 c).2.2]) := by
  rw [runC_app]; simp [runC]

structure RunMid (σ0 : Boxes) (ab : Nat) (w : GWorld) (ents : List GEnt) (dids : List PV) (eb db : Nat) (σ : Boxes) (g : Tag) : Prop where
  A : WAt σ g ab w
  kp : ∀ b, b < σ0.length → box σ b = box σ0 b
  ze : ∀ b, b < σ0.length → (g b).1 = 0
  le : σ0.length ≤ σ.length
  bd : box σ db = some dids
  be : box σ eb = some (ents.map GEnt.e).flatten
  gd : (g db).1 = 0
  ge : (g eb).1 = 0
  hdb : σ0.length ≤ db
  heb : σ0.length ≤ eb
  ne : db ≠ eb
structure RuX where
  i : Nat
  eb : Nat
  db : Nat
  σ : Boxes
  g : Tag
def kBs (l : List Bool) : List PV := l.map kB

/-- The old boxes are as they were. -/
def Keeps (σ τ : Boxes) : Prop := σ.length ≤ τ.length ∧ ∀ b, b < σ.length → box τ b = box σ b
theorem Keeps.ext {σ τ : Boxes} (h : Keeps σ τ) : ∃ ext, τ = σ ++ ext := by
  refine ⟨τ.drop σ.length, ?_⟩
  have e : τ.take σ.length = σ := by
    have hmin : (τ.take σ.length).length = σ.length := by rw [List.length_take]; have := h.1; omega
    refine boxesExt hmin fun b hb => ?_
    have hb' : b < σ.length := by omega
    have e1 : box (τ.take σ.length) b = box τ b := by unfold box; rw [List.getElem?_take_of_lt hb']
    rw [e1, h.2 b hb']
  conv => lhs; rw [← List.take_append_drop σ.length τ, e]
theorem Keeps.fz {σ τ : Boxes} (h : Keeps σ τ) (hlt : ltS σ) {c : Nat} (hc : σ.length ≤ c) (cs : List PV) : Keeps σ ((τ.map fun x => x.map (fzL c cs)).set c none) := by
  refine ⟨by simp; exact h.1, fun b hb => ?_⟩
  have h1 : b ≠ c := by omega
  have e : box ((τ.map fun x => x.map (fzL c cs)).set c none) b = (box τ b).map (fzL c cs) := by
    unfold box
    rw [List.getElem?_set_ne (Ne.symm h1), List.getElem?_map]
    cases τ[b]? with
    | none => rfl
    | some x => rfl
  rw [e, h.2 b hb]
  cases hb3 : box σ b with
  | none => rfl
  | some ps => rw [Option.map_some, fz_geL (n := σ.length) hc _ ps (hlt b ps hb3)]
theorem Keeps.set {σ τ : Boxes} (h : Keeps σ τ) {c : Nat} (hc : σ.length ≤ c) (hl : c < τ.length) (x : Option (List PV)) : Keeps σ (τ.set c x) :=
  ⟨by simp; exact h.1, fun b hb => by rw [box_set hl, if_neg (by omega)]; exact h.2 b hb⟩
theorem box_fz {τ : Boxes} {b c : Nat} {cs ps : List PV} (h : box τ b = some ps) (hne : b ≠ c) : box ((τ.map fun x => x.map (fzL c cs)).set c none) b = some (fzL c cs ps) := by
  have e : box ((τ.map fun x => x.map (fzL c cs)).set c none) b = (box τ b).map (fzL c cs) := by
    unfold box
    rw [List.getElem?_set_ne (Ne.symm hne), List.getElem?_map]
    cases τ[b]? with
    | none => rfl
    | some x => rfl
  rw [e, h]; rfl

set_option maxRecDepth 20000 in
set_option maxHeartbeats 2000000 in
theorem run_L {σ : Boxes} (w : GWorld) (l : List GCmd) (hw : checkW w = 0) (hl : l.length ≤ 131072) (hS : Sorts (runC w l).1.Items)
    (hact : ∀ (σ : Boxes) (g : Tag) (ab : Nat) (v : GWorld) (c : GCmd), c ∈ l → WAt σ g ab v → checkW v = 0 → v.Kinds = w.Kinds → FnL Tryz.prog 149 [.ptr ab 0, .agg c.e] σ (ActR v c ab σ g)) :
    FnL Tryz.prog 85 [.agg w.e, .sl 5 (l.map GCmd.e)] σ (fun p τ => p = .tup [.agg (runC w l).1.e, .sl 2 ((runC w l).2.1.map GEnt.e), .sl 1 ((runC w l).2.2.map fun b => [kB b])] ∧ τ = σ) := by
  obtain ⟨hv, hvk⟩ := runC_valid l hw
  have hrl := runC_len l w
  refine fnl_trim ?_ (by simp)
  refine fnl_of Tryz.func85 rfl fun hlt0 => ?_
  refine awp_seq (awp_go ?_)
  simp [Tryz.ntmps85, entryL]
  obtain ⟨σ0, hσ0⟩ : ∃ σ0, σ ++ [some w.e, some [kNil, kNil, kNil]] = σ0 := ⟨_, rfl⟩
  have b0 : box σ0 σ.length = some w.e := by rw [← hσ0, box_append, if_neg (by omega)]; simp
  have b1 : box σ0 (σ.length + 1) = some [kNil, kNil, kNil] := by rw [← hσ0, box_append, if_neg (by omega), show σ.length + 1 - σ.length = 1 by omega]; rfl
  have l0 : σ0.length = σ.length + 2 := by rw [← hσ0]; simp
  rw [hσ0]
  refine awp_seq (awp_go ?_)
  simp [boxG b0]
  refine calL (Of_L w hw) (fun p τ hp => ?_)
  obtain ⟨ab, g, rfl, hA, hfr⟩ := hp
  simp
  refine awp_seq (awp_go ?_)
  simp
  refine awp_seq (awp_go ?_)
  simp
  have d1 : (l.length : Int) ≤ 281474976710656 := by omega
  have d2 : (l.length : Int) ≤ 9223372036854775807 := by omega
  refine awp_seq (awp_go ?_)
  simp [d1, d2]
  refine awp_seq (awp_go ?_)
  simp
  have hlτ : σ0.length ≤ τ.length := hfr.le
  have hcut : ∀ i, i < l.length → ∀ c, l[i]? = some c → l.take (i + 1) = l.take i ++ [c] := fun i hi c hc => by
    rw [List.take_succ_eq_append_getElem hi]; rw [List.getElem?_eq_getElem hi] at hc; simp at hc; rw [hc]
  refine awp_loop (fun x : RuX => ⟨58, [(4, .ptr (σ.length + 1) 0), (7, .ptr ab 0), (9, .osl x.eb 2 0 (runC w (l.take x.i)).2.1.length), (10, .osl x.db 1 0 l.length), (26, .sl 5 (l.map GCmd.e)), (27, kI l.length), (28, kI x.i)], x.σ, σ.length⟩)
    (fun x => RunMid σ0 ab (runC w (l.take x.i)).1 (runC w (l.take x.i)).2.1 (kBs (runC w (l.take x.i)).2.2 ++ List.replicate (l.length - x.i) (kB false)) x.eb x.db x.σ x.g ∧ x.i ≤ l.length) (fun x => l.length - x.i)
    ⟨0, τ.length + 1, τ.length, τ ++ [some (List.replicate l.length (kB false)), some []], newTag g τ.length []⟩ ?_ ?_ ?_
  · refine (ent_nil (t := 9) (z := 2) rfl).trans ?_
    have hx : ∀ X : Option (List PV), (τ ++ [X]) ++ [some []] = τ ++ [X, some []] := fun X => by simp
    have hx2 : ∀ X : Option (List PV), (τ ++ [X]).length = τ.length + 1 := fun X => by simp
    simp only [hx, hx2, List.take_zero, runC, List.length_nil]
    exact ent_T _
  · refine ⟨⟨hA.frame (fr_app0 (O := fun _ => False)) fun _ _ h => h, fun b hb => ?_, fun b hb => ?_, by simp only [List.length_append]; omega, ?_, ?_, ?_, ?_, by simp only; omega, by simp only; omega, by simp only; omega⟩, by simp⟩
    · rw [box_append, if_pos (by omega)]
      exact hfr.bx b hb fun h => h
    · show (newTag g τ.length [] b).1 = 0
      rw [newTag_old (by omega), hfr.tg b hb]
    · show box (τ ++ _) τ.length = _
      rw [box_append, if_neg (by omega)]; simp [runC, kBs]
    · show box (τ ++ _) (τ.length + 1) = _
      rw [box_append, if_neg (by omega), show τ.length + 1 - τ.length = 1 by omega]; rfl
    · show (newTag g τ.length [] τ.length).1 = 0
      have := newTag0 (g := g) (n := τ.length) 0
      rw [Nat.add_zero] at this; rw [this]
    · show (newTag g τ.length [] (τ.length + 1)).1 = 0
      rw [newTag0]
  · rintro ⟨i, eb, db, σ1, g1⟩ ⟨hM, hi⟩
    simp only at hM hi ⊢
    refine awp_go ?_
    by_cases hlt : i < l.length
    · obtain ⟨c, hc⟩ : ∃ c, l[i] = c := ⟨_, rfl⟩
      have hcm : c ∈ l := hc ▸ List.getElem_mem hlt
      have hsn := hcut i hlt c (by rw [List.getElem?_eq_getElem hlt, hc])
      obtain ⟨L, hL⟩ : ∃ L, l.take i = L := ⟨_, rfl⟩
      have hLl : L.length = i := by rw [← hL]; simp; omega
      have hrn := runC_snoc w L c
      rw [hL] at hM hsn
      rw [← hsn] at hrn
      obtain ⟨hvL, hkL⟩ := runC_valid L hw
      have hdl := runC_len L w
      obtain ⟨v, hvv⟩ : ∃ v, (runC w L).1 = v := ⟨_, rfl⟩
      obtain ⟨E, hE⟩ : ∃ E, (runC w L).2.1 = E := ⟨_, rfl⟩
      obtain ⟨D, hD⟩ : ∃ D, (runC w L).2.2 = D := ⟨_, rfl⟩
      rw [hvv, hE, hD] at hrn
      rw [hvv, hE, hD] at hM
      rw [hvv] at hvL hkL
      rw [hD, hLl] at hdl
      rw [hL, hE]
      simp [hlt, hc]
      obtain ⟨σ2, hσ2⟩ : ∃ σ2, σ1 ++ [some c.e] = σ2 := ⟨_, rfl⟩
      rw [hσ2]
      have hF2 : Fr σ1 σ2 g1 (newTag g1 σ1.length []) (fun _ => False) := by rw [← hσ2]; exact fr_app0
      have c12 : box σ2 σ1.length = some c.e := by rw [← hσ2, box_append, if_neg (by omega)]; simp
      have g12 : (newTag g1 σ1.length [] σ1.length).1 = 0 := by
        have := newTag0 (g := g1) (n := σ1.length) 0
        rw [Nat.add_zero] at this; rw [this]
      obtain ⟨g2, hg2⟩ : ∃ g2, newTag g1 σ1.length [] = g2 := ⟨_, rfl⟩
      rw [hg2] at hF2 g12
      have hA2 := hM.A.frame hF2 fun _ _ h => h
      refine calL (hact σ2 g2 ab v c hcm hA2 hvL hkL) (fun p τ3 hp => ?_)
      obtain ⟨rfl, g3, hA3, hF3⟩ := hp
      obtain ⟨v', hv'⟩ : ∃ v', (actM v c).1 = v' := ⟨_, rfl⟩
      obtain ⟨en, hen⟩ : ∃ en, (actM v c).2.1 = en := ⟨_, rfl⟩
      obtain ⟨ok, hok⟩ : ∃ ok, (actM v c).2.2 = ok := ⟨_, rfl⟩
      rw [hv', hen, hok] at hrn
      rw [hv'] at hA3
      rw [hen, hok]
      have hcd : c.e[0]? = some (kI c.Do) := rfl
      have tg : ∀ b cs, box σ1 b = some cs → (g1 b).1 = 0 → box τ3 b = some cs ∧ (g3 b).1 = 0 := fun b cs hb hg => by
        have h2 := hF2.box hb fun h => h
        have h3 : (g2 b).1 = 0 := by rw [hF2.tag hb]; exact hg
        exact ⟨hF3.box h2 (by simp [h3]), by rw [hF3.tag h2]; exact h3⟩
      obtain ⟨kd, gd3⟩ := tg db _ hM.bd hM.gd
      obtain ⟨ke, ge3⟩ := tg eb _ hM.be hM.ge
      have kc : box τ3 σ1.length = some c.e := hF3.box c12 (by simp [g12])
      have hle3 : σ0.length ≤ τ3.length := by have h1 := hM.le; have h2 := hF2.le; have h3 := hF3.le; omega
      have ld := box_lt kd
      have le_ := box_lt ke
      have lc := box_lt kc
      have hlene : σ1.length ≠ db := by have := box_lt hM.bd; omega
      have hlene2 : σ1.length ≠ eb := by have := box_lt hM.be; omega
      have hne := hM.ne
      have hkp3 : ∀ b, b < σ0.length → box τ3 b = box σ0 b ∧ (g3 b).1 = 0 := fun b hb => by
        have hz := hM.ze b hb
        have hkp := hM.kp b hb
        have hb1 : b < σ1.length := Nat.lt_of_lt_of_le hb hM.le
        have e1 : box σ2 b = box σ1 b := hF2.bx b hb1 fun h => h
        have e2 : (g2 b).1 = 0 := by rw [hF2.tg b hb1]; exact hz
        have hb2 : b < σ2.length := Nat.lt_of_lt_of_le hb1 hF2.le
        exact ⟨(hF3.bx b hb2 (by simp [e2])).trans (e1.trans hkp), by rw [hF3.tg b hb2]; exact e2⟩
      obtain ⟨B, hB⟩ : ∃ B, kBs D ++ List.replicate (l.length - i) (kB false) = B := ⟨_, rfl⟩
      rw [hB] at kd
      have hBl : B.length = l.length := by rw [← hB]; simp [kBs]; omega
      have hB2 : B.take i ++ kB ok :: B.drop (i + 1) = kBs (D ++ [ok]) ++ List.replicate (l.length - (i + 1)) (kB false) := by
        have hkl : (kBs D).length = i := by simp [kBs, hdl]
        have e1 : B.take i = kBs D := by rw [← hB]; exact List.take_left' hkl
        have e2 : B.drop (i + 1) = List.replicate (l.length - (i + 1)) (kB false) := by
          rw [← hB, ← List.drop_drop, List.drop_left' hkl, List.drop_replicate]
          congr 1
        rw [e1, e2]
        simp [kBs]
      have hi1 : i + 1 ≤ l.length := hlt
      obtain ⟨σ4, hσ4⟩ : ∃ σ4, τ3 ++ [some en.e] = σ4 := ⟨_, rfl⟩
      have q : ∀ b cs, box τ3 b = some cs → box σ4 b = some cs := fun b cs hb => by rw [← hσ4, box_append, if_pos (box_lt hb)]; exact hb
      have q13 : box σ4 τ3.length = some en.e := by rw [← hσ4, box_append, if_neg (by omega)]; simp
      have hF4 : Fr τ3 σ4 g3 (newTag g3 τ3.length []) (fun _ => False) := by rw [← hσ4]; exact fr_app0
      simp
      rw [hσ4]
      simp [boxG (q _ _ kd), hlt, hBl, hi1, hB2]
      obtain ⟨B', hB'⟩ : ∃ B', kBs (D ++ [ok]) ++ List.replicate (l.length - (i + 1)) (kB false) = B' := ⟨_, rfl⟩
      rw [hB']
      have hdl4 : db < σ4.length := box_lt (q _ _ kd)
      obtain ⟨σ5, hσ5⟩ : ∃ σ5, σ4.set db (some B') = σ5 := ⟨_, rfl⟩
      rw [hσ5]
      obtain ⟨g4, hg4⟩ : ∃ g4, newTag g3 τ3.length [] = g4 := ⟨_, rfl⟩
      rw [hg4] at hF4
      have gd4 : (g4 db).1 = 0 := by rw [hF4.tag kd]; exact gd3
      have ge4 : (g4 eb).1 = 0 := by rw [hF4.tag ke]; exact ge3
      have hF5 : Fr σ4 σ5 g4 g4 (fun t => t.1 = 0) := by rw [← hσ5]; exact Fr.set hdl4 gd4
      have s5 : ∀ b cs, b ≠ db → box τ3 b = some cs → box σ5 b = some cs := fun b cs hb hbx => by rw [← hσ5, box_set hdl4, if_neg hb]; exact q b cs hbx
      have s5d : box σ5 db = some B' := by rw [← hσ5, box_set hdl4, if_pos rfl]
      have s5e := s5 eb _ hne.symm ke
      have s5c := s5 σ1.length _ hlene kc
      have s513 : box σ5 τ3.length = some en.e := by rw [← hσ5, box_set hdl4, if_neg (by omega)]; exact q13
      have hA5 : WAt σ5 g4 ab v' := (hA3.frame hF4 fun _ _ h => h).frame hF5 fun t h h2 => h h2
      have l45 : σ5.length = σ4.length := by rw [← hσ5]; simp
      have l34 : σ4.length = τ3.length + 1 := by rw [← hσ4]; simp
      have hkp5 : ∀ b, b < σ0.length → box σ5 b = box σ0 b ∧ (g4 b).1 = 0 := fun b hb => by
        obtain ⟨h1, h2⟩ := hkp3 b hb
        have h3 := hM.hdb
        refine ⟨?_, by rw [hF4.tg b (by omega)]; exact h2⟩
        rw [← hσ5, box_set hdl4, if_neg (by omega), ← hσ4, box_append, if_pos (by omega)]
        exact h1
      have hdids : (runC w (l.take (i + 1))).2.2 = D ++ [ok] := by rw [hrn]
      have hvnew : (runC w (l.take (i + 1))).1 = v' := by rw [hrn]
      have hM5 : RunMid σ0 ab v' E B' eb db σ5 g4 := ⟨hA5, fun b hb => (hkp5 b hb).1, fun b hb => (hkp5 b hb).2, by omega, s5d, s5e, gd4, ge4, hM.hdb, hM.heb, hne⟩
      have hskip : ∀ T', (ok = true ∧ c.Do = 3 → False) → subT T' [(4, PV.ptr (σ.length + 1) 0), (7, .ptr ab 0), (9, .osl eb 2 0 E.length), (10, .osl db 1 0 l.length), (26, .sl 5 (l.map GCmd.e)), (27, kI l.length), (28, kI ((i : Int) + 1))] →
          ∃ y : RuX, (RunMid σ0 ab (runC w (l.take y.i)).1 (runC w (l.take y.i)).2.1 (kBs (runC w (l.take y.i)).2.2 ++ List.replicate (l.length - y.i) (kB false)) y.eb y.db y.σ y.g ∧ y.i ≤ l.length) ∧ l.length - y.i < l.length - i ∧
            Ent ⟨58, T', σ5, σ.length⟩ ⟨58, [(4, .ptr (σ.length + 1) 0), (7, .ptr ab 0), (9, .osl y.eb 2 0 (runC w (l.take y.i)).2.1.length), (10, .osl y.db 1 0 l.length), (26, .sl 5 (l.map GCmd.e)), (27, kI l.length), (28, kI y.i)], y.σ, σ.length⟩ := fun T' hn hT => by
        have hEn : (runC w (l.take (i + 1))).2.1 = E := by rw [hrn, if_neg (fun h => hn h)]; simp
        refine ⟨⟨i + 1, eb, db, σ5, g4⟩, ⟨?_, hlt⟩, by simp only; omega, ?_⟩
        · simp only [hEn, hvnew, hdids, hB']
          exact hM5
        · simp only [hEn]
          exact ent_T _ (h := by simpa using hT)
      cases ok with
      | false =>
        simp
        rw [wrap_id (by omega) (by omega)]
        exact hskip _ (by simp) (by simp)
      | true =>
        simp [boxG s5c, hcd]
        by_cases hdo : c.Do = 3
        · have hEn : (runC w (l.take (i + 1))).2.1 = E ++ [en] := by rw [hrn, if_pos ⟨rfl, hdo⟩]
          have hEl : E.length ≤ 131072 := by
            have : ∀ (L : List GCmd) (w : GWorld), (runC w L).2.1.length ≤ L.length := by
              intro L
              induction L with
              | nil => intro w; simp [runC]
              | cons c r ih =>
                intro w
                simp only [runC, List.length_append, List.length_cons]
                have := ih (actM w c).1
                split <;> simp <;> omega
            have h1 := this L w
            rw [hE] at h1
            omega
          have b1 : (E.length + 1) * 16 ≤ 140737488355328 := by omega
          have b2 : E.length + 1 ≤ maxLen := by simp only [maxLen]; omega
          have hEe : (E.map GEnt.e).flatten.length = E.length * 2 := flat_lenE GEnt.e_len E
          have x1 : ∀ z : Boxes, (σ5 ++ z)[eb]? = some (some (E.map GEnt.e).flatten) := fun z => by rw [List.getElem?_append_left (box_lt s5e)]; exact boxG s5e
          simp [hdo, boxG s513, boxG s5e, x1, hEe, b1, b2]
          rw [wrap_id (by omega) (by omega)]
          obtain ⟨σ6, hσ6⟩ : ∃ σ6, (σ5 ++ [some en.e]).set eb none ++ [some ((E.map GEnt.e).flatten ++ en.e)] = σ6 := ⟨_, rfl⟩
          rw [hσ6]
          have leb5 := box_lt s5e
          have b6 : ∀ b, b < σ5.length → b ≠ eb → box σ6 b = box σ5 b := fun b hb hn => by
            rw [← hσ6, box_append, if_pos (by simp; omega), box_set (by simp; omega), if_neg hn, box_append, if_pos hb]
          have b6n : box σ6 (σ5.length + 1) = some ((E ++ [en]).map GEnt.e).flatten := by
            rw [← hσ6, box_append, if_neg (by simp)]; simp
          have l6 : σ6.length = σ5.length + 2 := by rw [← hσ6]; simp
          have hF6 : Fr σ5 σ6 g4 (newTag g4 σ5.length []) (fun t => t.1 = 0) := ⟨by omega, fun b hb => newTag_old hb, fun b hb hn => b6 b hb (fun e => hn (by rw [e]; exact ge4))⟩
          have hheb := hM.heb
          have hhdb := hM.hdb
          have ldb5 := box_lt s5d
          refine ⟨⟨i + 1, σ5.length + 1, db, σ6, newTag g4 σ5.length []⟩, ⟨?_, hlt⟩, by simp only; omega, ?_⟩
          · simp only [hEn, hvnew, hdids, hB']
            refine ⟨hA5.frame hF6 fun t h h2 => h h2, fun b hb => ?_, fun b hb => ?_, by omega, ?_, b6n, ?_, ?_, hM.hdb, by omega, by omega⟩
            · rw [b6 b (by omega) (by omega)]; exact (hkp5 b hb).1
            · rw [newTag_old (by omega)]; exact (hkp5 b hb).2
            · rw [b6 db ldb5 hne]; exact s5d
            · rw [newTag_old ldb5]; exact gd4
            · rw [newTag0]
          · simp only [hEn, List.length_append, List.length_singleton]
            exact ent_T _
        · simp [hdo]
          rw [wrap_id (by omega) (by omega)]
          exact hskip _ (by simp [hdo]) (by simp)
    · have hin : i = l.length := by omega
      subst hin
      rw [List.take_length] at hM ⊢
      simp
      refine awp_seq (awp_go ?_)
      simp
      obtain ⟨v, hvv⟩ : ∃ v, (runC w l).1 = v := ⟨_, rfl⟩
      obtain ⟨E, hE⟩ : ∃ E, (runC w l).2.1 = E := ⟨_, rfl⟩
      obtain ⟨D, hD⟩ : ∃ D, (runC w l).2.2 = D := ⟨_, rfl⟩
      rw [hvv, hE, hD] at hM
      rw [hvv] at hv hvk hS
      rw [hD] at hrl
      obtain ⟨hfi, hfc⟩ := checkW_fine hv
      obtain ⟨w1, w2, w3, w4, w5⟩ := checkW_iff.1 hv
      have hWL := World_L hM.A hS (by omega) (fun it hi => ⟨by have := (hfc it hi).1; omega, fun c hc => by have := ((hfc it hi).2 c hc).2.2.2; omega⟩) (by have := (checkE_le w1).1; omega) (fun k hk => by have := (checkE_le w1).2 k hk; omega) (by omega)
      refine calL hWL (fun p τ9 hp => ?_)
      obtain ⟨rfl, hτ9⟩ := hp
      rw [hτ9]
      have hkb : box σ1 (σ.length + 1) = some [kNil, kNil, kNil] := (hM.kp _ (by omega)).trans b1
      have lkb := box_lt hkb
      have hhdb := hM.hdb
      have hheb := hM.heb
      have hne := hM.ne
      have hwe : GWorld.e ⟨v.Kinds, v.Gens, v.Items⟩ = v.e := rfl
      rw [hwe, hE]
      have hve : v.e = [.sl 2 (v.Kinds.map GKind.e), slI v.Gens, .sl 3 (v.Items.map GItem.e)] := rfl
      simp [boxG hkb, hve]
      rw [← hve, hvv, hD]
      obtain ⟨σ9, hσ9⟩ : ∃ σ9, σ1.set (σ.length + 1) (some v.e) = σ9 := ⟨_, rfl⟩
      rw [hσ9]
      have hbd0 : kBs D ++ List.replicate (l.length - l.length) (kB false) = kBs D := by simp
      have s9 : ∀ b cs, b ≠ σ.length + 1 → box σ1 b = some cs → box σ9 b = some cs := fun b cs hb hbx => by rw [← hσ9, box_set lkb, if_neg hb]; exact hbx
      have hbd := s9 db _ (by omega) hM.bd
      rw [hbd0] at hbd
      have hbe := s9 eb _ (by omega) hM.be
      have hb4 : box σ9 (σ.length + 1) = some v.e := by rw [← hσ9, box_set lkb, if_pos rfl]
      have hDi : (kBs D).all PV.immB = true := by unfold kBs; simp
      have hEi : (E.map GEnt.e).flatten.all PV.immB = true := flat_imm GEnt.e_imm E
      have hvi : v.e.all PV.immB = true := rfl
      have hbe2 := box_fz (cs := kBs D) hbe (Ne.symm hne)
      rw [imms_fz hEi] at hbe2
      have hb42 := box_fz (cs := kBs D) hb4 (by omega : σ.length + 1 ≠ db)
      rw [imms_fz hvi] at hb42
      have hb43 := box_fz (cs := (E.map GEnt.e).flatten) hb42 (by omega : σ.length + 1 ≠ eb)
      rw [imms_fz hvi] at hb43
      have hK : Keeps σ σ9 := by
        refine ⟨?_, ?_⟩
        · rw [← hσ9, List.length_set]; have := hM.le; omega
        · intro b hb
          rw [← hσ9, box_set lkb, if_neg (by omega), hM.kp b (by omega), ← hσ0, box_append, if_pos hb]
      have hK2 := (hK.fz hlt0 (by omega : σ.length ≤ db) (kBs D)).fz hlt0 (by omega : σ.length ≤ eb) (E.map GEnt.e).flatten
      have hch1 : chunks 2 (E.map GEnt.e).flatten E.length = E.map GEnt.e := chunks_map (f := GEnt.e) (z := 2) GEnt.e_len E
      have hEl2 : (E.map GEnt.e).flatten.length = E.length * 2 := flat_lenE GEnt.e_len E
      have hch2 : chunks 1 (kBs D) l.length = D.map fun b => [kB b] := by
        have h1 : ((D.map fun b => [kB b]).flatten) = kBs D := by
          unfold kBs
          clear hrl hbd hDi hM hbe2 hb42 hb43 hK2 hD hbd0
          induction D with
          | nil => rfl
          | cons x r ih => simp only [List.map_cons, List.flatten_cons, ih]; rfl
        rw [← hrl, ← h1]
        exact chunks_map (f := fun b => [kB b]) (z := 1) (fun _ => rfl) D
      have hDl : (kBs D).length = l.length := by unfold kBs; simp [hrl]
      refine awp_go ?_
      simp
      refine finL_ent ((ent_fz db (kBs D) hbd hDi (by show σ.length ≤ db; omega)).trans (ent_fz eb (E.map GEnt.e).flatten hbe2 hEi (by show σ.length ≤ eb; omega))) ?_
      refine finL (p := .tup [.agg v.e, .sl 2 (E.map GEnt.e), .sl 1 (D.map fun b => [kB b])]) ⟨rfl, hK2.ext⟩ (h := ?_)
      have n1 : ¬ σ.length + 1 = db := by omega
      have n2 : ¬ σ.length + 1 = eb := by omega
      have n3 : ¬ db = eb := hne
      have n4 : ¬ eb = db := fun h => hne h.symm
      have hb44 : (((List.map (Option.map (fzL eb (E.map GEnt.e).flatten ∘ fzL db (kBs D))) σ9).set db none).set eb none)[σ.length + 1]?.join = some v.e := by
        rw [List.getElem?_set_ne (by omega), List.getElem?_set_ne (by omega), List.getElem?_map, boxG hb4]
        simp only [Option.map_some, Function.comp, imms_fz hvi, Option.join_some]
      simp [St.fz, hch1, hch2, hEl2, hDl, n1, n2, n3, n4, hb44]
end Go.Proofs.YtidhdlhblhbahaaGreat.Am
/- Package cmd: one, Check, Apply. -/
namespace Go.Proofs.YtidhdlhblhbahaaGreat.Am
open Go Go.RowKit

/-- The error of a command. -/
def oneE1 (ks : List GKind) (c : GCmd) : Int :=
  if c.Do = 0 then (if c.Comps.length ≠ 1 then 3 else (fitC ks c.Comps).2)
  else if c.Do = 1 then (if c.Kind < 0 ∨ (ks.length : Int) ≤ c.Kind then 1 else 0)
  else if c.Do = 2 then 0
  else if c.Do = 3 then (fitC ks c.Comps).2 else 1
def oneL (ks : List GKind) (c : GCmd) : List GComp := if (c.Do = 0 ∧ c.Comps.length = 1) ∨ c.Do = 3 then (fitC ks c.Comps).1 else []

set_option maxRecDepth 20000 in
set_option maxHeartbeats 1000000 in
theorem oneC_fn (ks : List GKind) (c : GCmd) (hk : ks.length ≤ 1000000) (hf : ∀ k ∈ ks, k.Fields.length ≤ 1000000) (hl : c.Comps.length ≤ 12) (hv : ∀ x ∈ c.Comps, x.Vals.length ≤ 1000) :
    Fn Tryz.prog 148 [.sl 2 (ks.map GKind.e), .agg c.e] (.tup [.sl 2 ((oneL ks c).map GComp.e), kI (oneE1 ks c)]) := by
  have hF := WFit_fn ks c.Comps hk hf hl hv
  have hce : c.e = [kI c.Do, kI c.Ent.N, kI c.Ent.Gen, kI c.Kind, .sl 2 (c.Comps.map GComp.e)] := rfl
  rw [hce]
  refine fn_go Tryz.func148 rfl ?_
  by_cases h0 : c.Do = 0
  · by_cases h1 : c.Comps.length = 1
    · simp [Tryz.ntmps148, h0, h1]
      refine cal hF ?_
      simp
      exact finm (by simp [oneL, oneE1, h0, h1])
    · have h1' : ¬ ((c.Comps.length : Int) = 1) := by omega
      simp [Tryz.ntmps148, h0, h1']
      refine fin_ent (ent_nilsl (t := 4) (z := 2) rfl) ?_
      exact finm (by simp [oneL, oneE1, h0, h1])
  · by_cases h1 : c.Do = 1
    · by_cases h2 : c.Kind < 0
      · simp [Tryz.ntmps148, h0, h1, h2]
        refine fin_ent (ent_nilsl (t := 4) (z := 2) rfl) ?_
        exact finm (by simp [oneL, oneE1, h0, h1, h2])
      · by_cases h3 : (ks.length : Int) ≤ c.Kind
        · simp [Tryz.ntmps148, h0, h1, h2, h3]
          refine fin_ent (ent_nilsl (t := 4) (z := 2) rfl) ?_
          exact finm (by simp [oneL, oneE1, h0, h1, h2, h3])
        · simp [Tryz.ntmps148, h0, h1, h2, h3]
          refine fin_ent (ent_nilsl (t := 4) (z := 2) rfl) ?_
          exact finm (by simp [oneL, oneE1, h0, h1, h2, h3])
    · by_cases h2 : c.Do = 2
      · simp [Tryz.ntmps148, h0, h1, h2]
        refine fin_ent (ent_nilsl (t := 4) (z := 2) rfl) ?_
        exact finm (by simp [oneL, oneE1, h0, h1, h2])
      · by_cases h3 : c.Do = 3
        · simp [Tryz.ntmps148, h0, h1, h2, h3]
          refine cal hF ?_
          simp
          exact finm (by simp [oneL, oneE1, h0, h1, h2, h3])
        · simp [Tryz.ntmps148, h0, h1, h2, h3]
          refine fin_ent (ent_nilsl (t := 4) (z := 2) rfl) ?_
          exact finm (by simp [oneL, oneE1, h0, h1, h2, h3])

/-- Sizes that the commands keep. -/
def CmdF (c : GCmd) : Prop := c.Comps.length ≤ 12 ∧ ∀ x ∈ c.Comps, x.Vals.length ≤ 1000

set_option maxRecDepth 20000 in
set_option maxHeartbeats 1000000 in
theorem CCheck_fn (w : GWorld) (l : List GCmd) (hw : checkW w = 0) (hl : l.length ≤ 131072) (hF : ∀ c ∈ l, CmdF c) (hE : ∀ c ∈ l, oneE1 w.Kinds c = 0) :
    Fn Tryz.prog 84 [.agg w.e, .sl 5 (l.map GCmd.e)] (kI 0) := by
  obtain ⟨hfi, hfc⟩ := checkW_fine hw
  have hWC := WCheck_fn w hfi (fun it hi c hc => by have := ((hfc it hi).2 c hc).2.2.2; omega)
  rw [hw] at hWC
  refine fn_go Tryz.func84 rfl ?_
  simp [Tryz.ntmps84]
  refine cal hWC ?_
  have h1 : ¬ ((131072 : Int) < l.length) := by omega
  simp [h1]
  refine awp_loop (fun i : Nat => ⟨35, [(2, .ptr 0 0), (18, .sl 5 (l.map GCmd.e)), (19, kI l.length), (20, kI i)], [some w.e], 0⟩) (fun i => i ≤ l.length) (fun i => l.length - i) 0 ?_ ?_ ?_
  · exact entm [0]
  · simp
  · intro i hi
    refine awp_go ?_
    by_cases hlt : i < l.length
    · obtain ⟨c, hc⟩ : ∃ c, l[i] = c := ⟨_, rfl⟩
      have hcm : c ∈ l := hc ▸ List.getElem_mem hlt
      have hO := oneC_fn w.Kinds c (by have := hfi.kl; omega) (fun k hk => by have := hfi.kf k hk; omega) (hF c hcm).1 (hF c hcm).2
      rw [hE c hcm] at hO
      simp [hlt, hc]
      refine cal hO ?_
      simp
      rw [wrap_id (by omega) (by omega)]
      exact ⟨i + 1, hlt, by omega, entm [0]⟩
    · simp [hlt]
      exact finm

set_option maxRecDepth 20000 in
set_option maxHeartbeats 1000000 in
theorem Apply_L {σ : Boxes} (w : GWorld) (l : List GCmd) (hw : checkW w = 0) (hl : l.length ≤ 131072) (hF : ∀ c ∈ l, CmdF c) (hE : ∀ c ∈ l, oneE1 w.Kinds c = 0) (hS : Sorts (runC w l).1.Items)
    (hact : ∀ (σ : Boxes) (g : Tag) (ab : Nat) (v : GWorld) (c : GCmd), c ∈ l → WAt σ g ab v → checkW v = 0 → v.Kinds = w.Kinds → FnL Tryz.prog 149 [.ptr ab 0, .agg c.e] σ (ActR v c ab σ g)) :
    FnL Tryz.prog 28 [.agg w.e, .sl 5 (l.map GCmd.e)] σ (fun p τ => p = .tup [.agg (runC w l).1.e, .sl 2 ((runC w l).2.1.map GEnt.e), kI 0] ∧ τ = σ) := by
  have hC := CCheck_fn w l hw hl hF hE
  have hR := fun σ => run_L (σ := σ) w l hw hl hS hact
  obtain ⟨v, hv⟩ : ∃ v, (runC w l).1 = v := ⟨_, rfl⟩
  obtain ⟨E, hE⟩ : ∃ E, (runC w l).2.1 = E := ⟨_, rfl⟩
  obtain ⟨D, hD⟩ : ∃ D, (runC w l).2.2 = D := ⟨_, rfl⟩
  rw [hv, hE]
  rw [hv, hE, hD] at hR
  have hve : v.e = [.sl 2 (v.Kinds.map GKind.e), slI v.Gens, .sl 3 (v.Items.map GItem.e)] := rfl
  refine fnl_trim ?_ (by simp)
  refine fnl_of Tryz.func28 rfl fun hlt0 => ?_
  refine awp_seq (awp_go ?_)
  simp [Tryz.ntmps28, entryL]
  obtain ⟨σ0, hσ0⟩ : ∃ σ0, σ ++ [some w.e, some [kNil, kNil, kNil]] = σ0 := ⟨_, rfl⟩
  have b0 : box σ0 σ.length = some w.e := by rw [← hσ0, box_append, if_neg (by omega)]; simp
  have b1 : box σ0 (σ.length + 1) = some [kNil, kNil, kNil] := by rw [← hσ0, box_append, if_neg (by omega), show σ.length + 1 - σ.length = 1 by omega]; rfl
  rw [hσ0]
  refine awp_seq (awp_go ?_)
  simp [boxG b0]
  refine cal hC ?_
  simp
  refine awp_seq (awp_go ?_)
  simp [boxG b0]
  refine calL (hR σ0) (fun p τ hp => ?_)
  obtain ⟨rfl, hτ⟩ := hp
  rw [hτ]
  simp
  refine awp_seq (awp_go ?_)
  have x1 : ∀ z : Boxes, (σ0 ++ z)[σ.length + 1]? = some (some [kNil, kNil, kNil]) := fun z => by rw [List.getElem?_append_left (box_lt b1)]; exact boxG b1
  have l1 := box_lt b1
  obtain ⟨σ1, hσ1⟩ : ∃ σ1, σ0 ++ [some v.e] = σ1 := ⟨_, rfl⟩
  have y1 : box σ1 (σ.length + 1) = some [kNil, kNil, kNil] := by rw [← hσ1, box_append, if_pos l1]; exact b1
  have y2 : box σ1 σ0.length = some v.e := by rw [← hσ1, box_append, if_neg (by omega)]; simp
  have hv3 : v.e.length = 3 := rfl
  rw [hσ1]
  simp [boxG y1, boxG y2, hv3, List.take_of_length_le]
  obtain ⟨σ2, hσ2⟩ : ∃ σ2, σ1.set (σ.length + 1) (some v.e) = σ2 := ⟨_, rfl⟩
  have ly1 := box_lt y1
  have y3 : box σ2 (σ.length + 1) = some v.e := by rw [← hσ2, box_set ly1, if_pos rfl]
  rw [hσ2]
  have l0 : σ0.length = σ.length + 2 := by rw [← hσ0]; simp
  have ls1 : σ1.length = σ0.length + 1 := by rw [← hσ1]; simp
  have hK : Keeps σ σ2 := by
    refine ⟨by rw [← hσ2, List.length_set]; omega, fun b hb => ?_⟩
    rw [← hσ2, box_set ly1, if_neg (by omega), ← hσ1, box_append, if_pos (by omega), ← hσ0, box_append, if_pos hb]
  refine awp_go ?_
  simp
  refine finL (p := .tup [.agg v.e, .sl 2 (E.map GEnt.e), kI 0]) ⟨rfl, hK.ext⟩ (h := ?_)
  have y4 : σ2[σ.length + 1]?.join = some v.e := y3
  simp [y4, hv3, List.take_of_length_le]
end Go.Proofs.YtidhdlhblhbahaaGreat.Am
/- A made world has at most eight items. -/
namespace Go.Proofs.YtidhdlhblhbahaaGreat.Am
open Go Go.RowKit

theorem mkW_items (ks : List GKind) : ∀ (n i : Nat) (gs : List Int) (its : List GItem) (l : List Int), its.length ≤ 8 → (mkWorld ks n i gs its l).2.1.length ≤ 8
  | 0, _, _, _, _, h => h
  | n + 1, i, gs, its, l, h => by
    unfold mkWorld
    split
    · exact mkW_items ks n _ _ _ _ h
    · rename_i hc
      exact mkW_items ks n _ _ _ _ (by simp; omega)
theorem worldM_le8 (l : List Int) : (worldM l).Items.length ≤ 8 := mkW_items _ _ _ _ _ _ (by simp)
end Go.Proofs.YtidhdlhblhbahaaGreat.Am
/- CmdKills: the law. -/
namespace Go.Proofs.YtidhdlhblhbahaaGreat.Am
open Go Go.RowKit

def killC (it : GItem) : GCmd := ⟨2, it.Ent, 0, []⟩
def incG (gs : List Int) (it : GItem) : List Int := gs.set it.Ent.N.toNat (gs.getD it.Ent.N.toNat 0 + 1)
theorem kills_run {ks : List GKind} : ∀ (its : List GItem) (gs : List Int), checkW ⟨ks, gs, its⟩ = 0 → (runC ⟨ks, gs, its⟩ (its.map killC)).1 = ⟨ks, its.foldl incG gs, []⟩ ∧ (runC ⟨ks, gs, its⟩ (its.map killC)).2.1 = []
  | [], gs, _ => ⟨rfl, rfl⟩
  | it :: r, gs, h => by
    have hf : findI ⟨ks, gs, it :: r⟩ it.Ent = some 0 := by unfold findI; simp [List.findIdx?_cons]
    have hk : killA ⟨ks, gs, it :: r⟩ it.Ent = (⟨ks, incG gs it, r⟩, 0) := by
      unfold killA
      rw [hf]
      simp [killW, incG]
    have ha : actM ⟨ks, gs, it :: r⟩ (killC it) = (⟨ks, incG gs it, r⟩, ⟨0, 0⟩, true) := by
      unfold actM
      simp only [killC, hk]
      simp
    have hv : checkW ⟨ks, incG gs it, r⟩ = 0 := by
      have h1 := (act_valid h (killC it)).1
      rw [ha] at h1; exact h1
    obtain ⟨h1, h2⟩ := kills_run r (incG gs it) hv
    simp only [List.map_cons, runC, ha, List.foldl_cons]
    refine ⟨h1, ?_⟩
    rw [h2]
    simp [killC]
theorem incG_len (gs : List Int) (it : GItem) : (incG gs it).length = gs.length := by simp [incG]
theorem foldG_len : ∀ (its : List GItem) (gs : List Int), (its.foldl incG gs).length = gs.length
  | [], _ => rfl
  | it :: r, gs => by rw [List.foldl_cons, foldG_len r, incG_len]

theorem incG_bd {gs : List Int} {B : Int} (hB : 0 ≤ B) (h : ∀ x ∈ gs, 0 ≤ x ∧ x ≤ B) (it : GItem) : ∀ x ∈ incG gs it, 0 ≤ x ∧ x ≤ B + 1 := fun x hx => by
  rcases List.mem_or_eq_of_mem_set hx with h1 | h1
  · have := h x h1; omega
  · have : 0 ≤ gs.getD it.Ent.N.toNat 0 ∧ gs.getD it.Ent.N.toNat 0 ≤ B := by
      rcases Nat.lt_or_ge it.Ent.N.toNat gs.length with h2 | h2
      · have e : gs.getD it.Ent.N.toNat 0 = gs[it.Ent.N.toNat] := by simp [List.getD, h2]
        rw [e]; exact h _ (List.getElem_mem h2)
      · have e : gs.getD it.Ent.N.toNat 0 = 0 := by simp [List.getD, h2]
        rw [e]; exact ⟨Int.le_refl 0, hB⟩
    omega
theorem foldG_bd : ∀ (its : List GItem) (gs : List Int) {B : Int}, 0 ≤ B → (∀ x ∈ gs, 0 ≤ x ∧ x ≤ B) → ∀ x ∈ its.foldl incG gs, 0 ≤ x ∧ x ≤ B + its.length
  | [], _, _, _, h => fun x hx => by have := h x hx; simp; omega
  | it :: r, gs, B, hB, h => fun x hx => by
    have := foldG_bd r (incG gs it) (B := B + 1) (by omega) (incG_bd hB h it) x hx
    simp only [List.length_cons]; omega
theorem killOk (ks : List GKind) (it : GItem) : CmdF (killC it) ∧ oneE1 ks (killC it) = 0 := ⟨⟨by simp [killC], by simp [killC]⟩, rfl⟩
theorem sorts_nil : Sorts ([] : List GItem) := sorts12 List.Pairwise.nil (by simp)
theorem kills_L {σ : Boxes} {w : GWorld} (hw : checkW w = 0) : FnL Tryz.prog 28 [.agg w.e, .sl 5 ((w.Items.map killC).map GCmd.e)] σ (fun p τ => p = .tup [.agg (GWorld.e ⟨w.Kinds, w.Items.foldl incG w.Gens, []⟩), .sl 2 [], kI 0] ∧ τ = σ) := by
  obtain ⟨h1, h2⟩ := kills_run (ks := w.Kinds) w.Items w.Gens hw
  have hww : (⟨w.Kinds, w.Gens, w.Items⟩ : GWorld) = w := rfl
  rw [hww] at h1 h2
  obtain ⟨_, w2, w3, _, _⟩ := checkW_iff.1 hw
  have hA := Apply_L (σ := σ) w (w.Items.map killC) hw (by simp; omega) (fun c hc => by obtain ⟨it, _, rfl⟩ := List.mem_map.1 hc; exact (killOk w.Kinds it).1) (fun c hc => by obtain ⟨it, _, rfl⟩ := List.mem_map.1 hc; exact (killOk w.Kinds it).2)
    (by rw [h1]; exact sorts_nil) (fun σ g ab v c hc hA hv _ => by obtain ⟨it, _, rfl⟩ := List.mem_map.1 hc; exact actK_L hA hv _ rfl)
  rw [h1, h2] at hA
  exact hA

set_option maxRecDepth 20000 in
theorem killed_fn : Fn Tryz.prog 26 [] (kB true) := by
  have hc : checkW baseW = 0 := by decide
  obtain ⟨L, hL⟩ : ∃ L : List GCmd, L = [⟨2, ⟨0, 0⟩, 0, []⟩, ⟨2, ⟨0, 0⟩, 0, []⟩] := ⟨_, rfl⟩
  have h1 : (runC baseW L).1 = ⟨baseW.Kinds, [1], []⟩ ∧ (runC baseW L).2.1 = [] := by subst hL; decide
  have hA := fun σ : Boxes => Apply_L (σ := σ) baseW L hc (by rw [hL]; simp) (fun c hc => by rw [hL] at hc; simp at hc; subst hc; exact ⟨by simp, by simp⟩) (fun c hc => by rw [hL] at hc; simp at hc; subst hc; rfl)
    (by rw [h1.1]; exact sorts_nil) (fun σ g ab v c hcm hA hv _ => by rw [hL] at hcm; simp at hcm; subst hcm; exact actK_L hA hv _ rfl)
  rw [h1.1, h1.2] at hA
  have hLe : L.map GCmd.e = [[kI 2, kI 0, kI 0, kI 0, .sl 2 []], [kI 2, kI 0, kI 0, kI 0, .sl 2 []]] := by subst hL; rfl
  rw [hLe] at hA
  refine fn_go Tryz.func26 rfl ?_
  simp [Tryz.ntmps26]
  refine cal base_fn ?_
  simp
  refine ops_ent ((ent_cell 0 4 (tell_nil 2)).trans (ent_cell 0 9 (tell_nil 2))) (ops_go ?_)
  refine ops_fz 0 [kI 2, kI 0, kI 0, kI 0, .sl 2 [], kI 2, kI 0, kI 0, kI 0, .sl 2 []] ?_
  simp [chunks, List.range, List.range.loop]
  refine calL (hA _) (fun p τ hp => ?_)
  obtain ⟨rfl, hτ⟩ := hp
  rw [hτ]
  simp
  refine ops_fz 2 [kI 1] ?_
  simp [chunks, List.range, List.range.loop]
  refine cal (EqualI_fn [1] [1] (by simp)) ?_ (hren := by rfl)
  simp
  exact finm

set_option maxRecDepth 20000 in
set_option maxHeartbeats 1000000 in
theorem CmdKills_law (l : List Int) (hw : ∀ x ∈ l, (Lit.int .i64 x).wf = true) : Fn Tryz.prog 4 [slI l] (kB true) := by
  refine fn_go Tryz.func4 rfl ?_
  simp [Tryz.ntmps4]
  refine cal killed_fn ?_
  simp
  refine cal (World_fn l) ?_
  have hv := worldM_valid l
  have hi8 := worldM_le8 l
  generalize worldM l = w at hv hi8 ⊢
  obtain ⟨hfi, hfc⟩ := checkW_fine hv
  obtain ⟨ce, cg, ci, cn, cit⟩ := checkW_iff.1 hv
  obtain ⟨hsort, hok⟩ := items_iff.1 cit
  simp
  refine calD [] (CloneI_own w.Gens (by omega)) ?_ (hren := by simp)
  simp
  obtain ⟨G, hG⟩ : ∃ G : Nat → List Int, G = fun i => (w.Items.take i).foldl incG w.Gens := ⟨_, rfl⟩
  obtain ⟨C, hC⟩ : ∃ C : Nat → List PV, C = fun i => (((w.Items.take i).map killC).map GCmd.e).flatten := ⟨_, rfl⟩
  have G0 : G 0 = w.Gens := by rw [hG]; rfl
  have C0 : C 0 = [] := by rw [hC]; rfl
  have Gn : G w.Items.length = w.Items.foldl incG w.Gens := by rw [hG]; simp only; rw [List.take_length]
  have Cn : C w.Items.length = ((w.Items.map killC).map GCmd.e).flatten := by rw [hC]; simp only; rw [List.take_length]
  have Gs : ∀ i (hi : i < w.Items.length), G (i + 1) = incG (G i) w.Items[i] := fun i hi => by
    rw [hG]; simp only
    rw [List.take_succ_eq_append_getElem hi, List.foldl_append]; rfl
  have Cs : ∀ i (hi : i < w.Items.length), C (i + 1) = C i ++ (killC w.Items[i]).e := fun i hi => by
    rw [hC]; simp only
    rw [List.take_succ_eq_append_getElem hi, List.map_append, List.map_append, List.flatten_append]; simp
  have Gl : ∀ i, (G i).length = w.Gens.length := fun i => by rw [hG]; exact foldG_len _ _
  have Gb : ∀ i, i ≤ w.Items.length → ∀ x ∈ G i, 0 ≤ x ∧ x ≤ 1073741832 := fun i hi x hx => by
    rw [hG] at hx
    have h1 := List.any_eq_false.1 cn
    have := foldG_bd (w.Items.take i) w.Gens (B := 1073741824) (by omega) (fun y hy => by have := h1 y hy; simp only [Bool.or_eq_true, decide_eq_true_eq, not_or] at this; omega) x hx
    rw [List.length_take] at this
    omega
  have Cl : ∀ i, i ≤ w.Items.length → (C i).length = i * 5 := fun i hi => by
    rw [hC]; simp only
    rw [flat_lenE (e := GCmd.e) (z := 5) (fun _ => rfl)]; simp; omega
  have Ci : ∀ i, (C i).all PV.immB = true := fun i => by
    rw [hC]; exact flat_imm (f := GCmd.e) (fun x => by simp [GCmd.e]) _
  clear hG hC
  refine awp_loop (fun i : Nat => ⟨66, [(3, .ptr 0 0), (4, .osl 1 1 0 w.Gens.length), (5, .osl 2 5 0 i), (19, .sl 3 (w.Items.map GItem.e)), (20, kI w.Items.length), (21, kI i)], [some w.e, some ((G i).map kI), some (C i)], 0⟩) (fun i => i ≤ w.Items.length) (fun i => w.Items.length - i) 0 ?_ ?_ ?_
  · refine (ent_nil (t := 5) (z := 5) rfl).trans ?_
    rw [G0, C0]
    exact entm [0, 1, 2]
  · simp
  · intro i hi
    refine awp_go ?_
    by_cases hlt : i < w.Items.length
    · obtain ⟨it, hit⟩ : ∃ it, w.Items[i] = it := ⟨_, rfl⟩
      have hitm : it ∈ w.Items := hit ▸ List.getElem_mem hlt
      obtain ⟨g0, g2, g3, g4, g5⟩ := hok it hitm
      obtain ⟨N, hN⟩ : ∃ N : Nat, it.Ent.N = N := ⟨it.Ent.N.toNat, by omega⟩
      have hNl : N < (G i).length := by rw [Gl]; omega
      have hNg : N < w.Gens.length := by rw [← Gl i]; exact hNl
      have hgb := Gb i hi (G i)[N] (List.getElem_mem hNl)
      have hGs := Gs i hlt
      have hCs := Cs i hlt
      rw [hit] at hGs hCs
      have hCl := Cl i hi
      have hGl := Gl i
      have hCi := Ci i
      have hCi1 := Ci (i + 1)
      have hGe : G (i + 1) = (G i).set N ((G i)[N] + 1) := by
        rw [hGs]
        unfold incG
        have e1 : it.Ent.N.toNat = N := by omega
        have e2 : (G i).getD N 0 = (G i)[N] := by simp [List.getD, hNl]
        rw [e1, e2]
      have hke : (killC it).e = [kI 2, kI N, kI it.Ent.Gen, kI 0, .sl 2 []] := by simp [killC, GCmd.e, hN]
      rw [hke] at hCs
      have hw1 : IntKind.i64.wrap ((G i)[N] + 1) = (G i)[N] + 1 := wrap_id (by omega) (by omega)
      obtain ⟨Z, hZ⟩ : ∃ Z, C i = Z := ⟨_, rfl⟩
      obtain ⟨Y, hY⟩ : ∃ Y, G i = Y := ⟨_, rfl⟩
      simp only [hZ, hY] at *
      have b1 : (i + 1) * 56 ≤ 140737488355328 := by omega
      have b2 : i + 1 ≤ maxLen := by simp only [maxLen]; omega
      have hNl2 : N + 1 ≤ Y.length := by omega
      have hNY : N < Y.length := by omega
      simp [hlt, hit, GItem.e, hCl, b1, b2, hN, hNY, hNg, hw1, hNl2]
      rw [wrap_id (by omega) (by omega), set_ints hNY]
      have hset : (Z ++ [kI 2, kI N, kI it.Ent.Gen, kI 0, kNil]).set (i * 5 + 4) (.sl 2 []) = C (i + 1) := by
        rw [hCs, List.set_append_right _ _ (by omega), hCl, Nat.add_sub_cancel_left]; rfl
      have hget : (Z ++ [kI 2, kI N, kI it.Ent.Gen, kI 0, kNil])[i * 5 + 4]? = some kNil := by
        rw [List.getElem?_append_right (by omega), hCl, Nat.add_sub_cancel_left]; rfl
      have hGe2 : (Y.set N (Y[N] + 1)).map kI = (G (i + 1)).map kI := by rw [hGe]
      rw [hGe2]
      refine ⟨i + 1, hlt, by omega, (ent_cell 5 (i * 5 + 4) (cs := Z ++ [kI 2, kI N, kI it.Ent.Gen, kI 0, kNil]) (tell_nil 2) (h := hget)).trans ?_⟩
      rw [hset]
      exact entm [0, 1, 5] (hB := by simp [imms_ren hCi1, imms_lt hCi1])
    · have hin : i = w.Items.length := by omega
      subst hin
      rw [Gn, Cn]
      obtain ⟨F, hF⟩ : ∃ F, w.Items.foldl incG w.Gens = F := ⟨_, rfl⟩
      have hFl : F.length = w.Gens.length := by rw [← hF]; exact foldG_len _ _
      have hK := fun σ : Boxes => kills_L (σ := σ) hv
      rw [hF] at hK ⊢
      obtain ⟨L, hL⟩ : ∃ L, w.Items.map killC = L := ⟨_, rfl⟩
      have hLl : L.length = w.Items.length := by rw [← hL]; simp
      rw [hL] at hK ⊢
      have hch : chunks 5 (L.map GCmd.e).flatten w.Items.length = L.map GCmd.e := by rw [← hLl]; exact chunks_map (f := GCmd.e) (z := 5) (fun _ => rfl) L
      have hLe : (L.map GCmd.e).flatten.length = w.Items.length * 5 := by rw [flat_lenE (e := GCmd.e) (z := 5) (fun _ => rfl), hLl]
      have hLi : (L.map GCmd.e).flatten.all PV.immB = true := flat_imm (f := GCmd.e) (fun x => by simp [GCmd.e]) L
      have hch1 : chunks 1 (F.map kI) w.Gens.length = F.map fun x => [kI x] := by rw [← hFl]; exact chunks_ints F
      simp
      refine ops_fz 2 (L.map GCmd.e).flatten ?_ (hi := hLi)
      simp [hch, hLe]
      refine calL (hK _) (fun p τ hp => ?_)
      obtain ⟨rfl, hτ⟩ := hp
      rw [hτ]
      simp
      refine ops_fz 1 (F.map kI) ?_
      simp [hch1, hFl]
      refine cal (EqualI_fn F F (by omega)) ?_ (hren := by rfl)
      simp
      exact finm
end Go.Proofs.YtidhdlhblhbahaaGreat.Am
