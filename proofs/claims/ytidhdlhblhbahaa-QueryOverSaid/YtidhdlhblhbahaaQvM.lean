/- Several texts in one. -/
import Derived.Test.YtidhdlhblhbahaaArcP
import Derived.Test.YtidhdlhblhbahaaCLaw2
import Derived.Test.YtidhdlhblhbahaaCopy1
import Derived.Test.YtidhdlhblhbahaaSl5
import Derived.Test.YtidhdlhblhbahaaLie
import Derived.Test.YtidhdlhblhbahaaSortB
import Derived.Test.YtidhdlhblhbahaaWChk1
import Derived.Test.YtidhdlhblhbahaaKind7
import Derived.Test.YtidhdlhblhbahaaSl1
import Derived.Test.YtidhdlhblhbahaaAmC
import Derived.Test.YtidhdlhblhbahaaSl11
import Derived.Test.YtidhdlhblhbahaaFine
import Derived.Test.YtidhdlhblhbahaaMake5
import Derived.Test.YtidhdlhblhbahaaBaseW
import Derived.Test.YtidhdlhblhbahaaSameW
import Derived.Test.YtidhdlhblhbahaaFindW
import Derived.Test.YtidhdlhblhbahaaWLaw1
import Derived.Test.YtidhdlhblhbahaaSl3a
import Derived.Test.YtidhdlhblhbahaaDat
set_option linter.unusedVariables false
set_option linter.unusedSimpArgs false
/- Package arch: add. -/
namespace Go.Proofs.Ytidhdlhblhbahaa.Am
open Go Go.RowKit

/-- In the middle of add: the table is there. -/
structure AddMid (ab b4 : Nat) (kinds : List GKind) (gens : List Int) (it : GItem) (oks : List Int) (ofT : Int → Nat) (tabs : List (Nat × GTab)) (i : Nat) (σ0 : Boxes) (g0 : Tag) (σ : Boxes) (g : Tag) (tabs1 : List (Nat × GTab)) (t : Nat) (T : GTab) : Prop where
  H : ArchH σ g ab kinds gens tabs1 oks ofT
  ti : tabs1[i]? = some (t, T)
  tk : T.kinds = it.Comps.map GComp.Kind
  bx4 : box σ b4 = some it.Ent.e
  g4 : g b4 = (0, 0, 0)
  fr : Fr σ0 σ g0 g (fun t => t.1 ≠ 0)
  wh : (tabs1 = tabs ∧ tabB tabs (it.Comps.map GComp.Kind) = true) ∨ (T.rows = [] ∧ σ0.length ≤ t ∧ tabs1 = tabs.take i ++ (t, T) :: tabs.drop i ∧ tabB tabs (it.Comps.map GComp.Kind) = false)

structure AddX where
  σ : Boxes
  g : Tag
  tabs : List (Nat × GTab)
  t : Nat
  T : GTab
structure ColX where
  j : Nat
  σ : Boxes
  g : Tag
/-- Some columns of the table have the new row. -/
structure ColMid (it : GItem) (t : Nat) (T : GTab) (e c : Nat) (cols : List Nat) (b4 : Nat) (σ2 : Boxes) (g2 : Tag) (j : Nat) (σ : Boxes) (g : Tag) : Prop where
  th : TabH σ g t T.kinds e c cols
  es : StoreAt σ g (t + 2, 1) e 2 ((T.ents ++ [it.Ent]).map GEnt.e).flatten (T.slots ++ [it.Ent.N])
  done : ∀ i (h : i < cols.length), i < j → StoreAt σ g (t + 2, i + 2) cols[i] 1 (slsI (T.col i ++ [(it.Comps.getD i ⟨0, []⟩).Vals])) (T.slots ++ [it.Ent.N])
  todo : ∀ i (h : i < cols.length), j ≤ i → StoreAt σ g (t + 2, i + 2) cols[i] 1 (slsI (T.col i)) T.slots
  b4 : box σ b4 = some it.Ent.e
  jl : j ≤ cols.length
  fr : Fr σ2 σ g2 g (fun x => x.1 = t + 2)
structure NewX where
  j : Nat
  σ : Boxes
  g : Tag
  cols : List Nat
  c : Nat
/-- A new table, some of whose columns are there. -/
structure NewMid (ks : List Int) (t : Nat) (σ0 : Boxes) (g0 : Tag) (j : Nat) (σ : Boxes) (g : Tag) (e c : Nat) (cols : List Nat) : Prop where
  bt : box σ t = some [slI ks, .ptr e 0, .osl c 1 0 cols.length]
  bc : box σ c = some (cols.map fun s => PV.ptr s 0)
  gt : g t = (t + 2, 0, 0)
  gc : g c = (t + 2, 0, 1)
  cj : cols.length = j
  jl : j ≤ ks.length
  st : StoreAt σ g (t + 2, 1) e 2 [] []
  co : ∀ i (h : i < cols.length), StoreAt σ g (t + 2, i + 2) cols[i] 1 [] []
  cg : σ0.length ≤ c
  fr : Fr σ0 σ g0 g (fun _ => False)

set_option maxRecDepth 20000 in
set_option maxHeartbeats 1000000 in
theorem add_L {σ : Boxes} {g : Tag} {ab : Nat} {kinds : List GKind} {gens oks : List Int} {tabs : List (Nat × GTab)} {ofT : Int → Nat} (hH : ArchH σ g ab kinds gens tabs oks ofT) (hP : ArchP tabs oks ofT) (it : GItem)
    (hn : 0 ≤ it.Ent.N ∧ it.Ent.N < 256) (hnew : it.Ent.N ∉ oks) (hsz : (tabs.flatMap fun x => x.2.rows).length ≤ 100000) (hcl : it.Comps.length ≤ 1000) :
    FnL Try.prog 25 [.ptr ab 0, .agg it.Ent.e, .sl 2 (it.Comps.map GComp.e)] σ (fun p τ => p = .tup [] ∧ ∃ g' tabs' ofT', ArchH τ g' ab kinds gens tabs' (oks ++ [it.Ent.N]) ofT' ∧ ArchP tabs' (oks ++ [it.Ent.N]) ofT' ∧
      (tabs'.flatMap fun x => x.2.rows).Perm ((tabs.flatMap fun x => x.2.rows) ++ [it]) ∧ Fr σ τ g g' (fun t => t.1 ≠ 0)) := by
  obtain ⟨ks, hks⟩ : ∃ ks, it.Comps.map GComp.Kind = ks := ⟨_, rfl⟩
  have hkl : ks.length = it.Comps.length := by rw [← hks]; simp
  refine fnl_of Try.func25 rfl fun hlt => ?_
  refine awp_seq (awp_go ?_)
  simp [Try.ntmps25, entryL]
  -- the entity's own box
  obtain ⟨b4, hb4⟩ : ∃ b4, σ.length = b4 := ⟨_, rfl⟩
  have hf1 : Fr σ (σ ++ [some it.Ent.e]) g (newTag g σ.length []) (fun _ => False) := ⟨by simp, fun b hb => newTag_old hb, fun b hb _ => by rw [box_append, if_pos hb]⟩
  have hH1 := hH.frame hf1 fun _ _ h => h
  obtain ⟨g1, hg1⟩ : ∃ g1, newTag g σ.length [] = g1 := ⟨_, rfl⟩
  have hg4 : g1 b4 = (0, 0, 0) := by
    have := newTag_new (g := g) (n := σ.length) (l := []) (j := 0)
    rw [Nat.add_zero] at this
    rw [← hg1, ← hb4, this]; rfl
  have hbx4 : box (σ ++ [some it.Ent.e]) b4 = some it.Ent.e := by rw [← hb4]; simp
  rw [hg1] at hf1 hH1
  obtain ⟨σ1, hσ1⟩ : ∃ σ1, σ ++ [some it.Ent.e] = σ1 := ⟨_, rfl⟩
  rw [hσ1] at hf1 hH1 hbx4 ⊢
  rw [hb4]
  refine awp_seq (awp_go ?_)
  simp
  refine cal (kindsOf_fn it.Comps (by omega)) ?_
  rw [hks]
  simp
  obtain ⟨⟨gb, tb, mb, e1, e2, e3, e4, t1, t2, t3, t4⟩, e5⟩ := hH1
  have htl : tabs.length ≤ 100000 := Nat.le_trans (tabs_le hP.ne) hsz
  refine awp_seq (awp_go ?_)
  simp [boxG e1]
  refine calL (find_L e5 e3 ks hP.kl (by omega) (by omega)) (fun p τ hp => ?_)
  obtain ⟨rfl, hτ⟩ := hp
  rw [hτ]
  simp
  have hH1 : ArchH σ1 g1 ab kinds gens tabs oks ofT := ⟨⟨gb, tb, mb, e1, e2, e3, e4, t1, t2, t3, t4⟩, e5⟩
  have hf1' : Fr σ σ1 g g1 (fun t => t.1 ≠ 0) := hf1.mono fun _ h => h.elim
  refine awp_cut (α := AddX) (fun x => ⟨98, [(0, .ptr ab 0), (2, .sl 2 (it.Comps.map GComp.e)), (4, .ptr b4 0), (7, kI (tabI tabs ks))], x.σ, b4⟩)
    (fun x => AddMid ab b4 kinds gens it oks ofT tabs (tabI tabs ks) σ g x.σ x.g x.tabs x.t x.T) (awp_go ?_) ?_
  · simp
    by_cases hB : tabB tabs ks = true
    · obtain ⟨hi, hc⟩ := bsOk_lt hB
      simp [hB]
      have hi : tabI tabs ks < tabs.length := hi
      refine ⟨⟨σ1, g1, tabs, (tabs[tabI tabs ks]'hi).1, (tabs[tabI tabs ks]'hi).2⟩, ⟨hH1, List.getElem?_eq_getElem hi, ?_, hbx4, hg4, hf1', .inl ⟨rfl, by rw [hks]; exact hB⟩⟩, ent_T _⟩
      rw [hks]
      exact cmpL_same.1 hc
    · have hB' : tabB tabs ks = false := by simpa using hB
      simp [hB']
      obtain ⟨t, ht⟩ : ∃ t, σ1.length + 4 = t := ⟨_, rfl⟩
      obtain ⟨υ, g2, hL, hS, hfr, hsame, hlen⟩ := newL (σ := σ1) (g := g1) (o := (t + 2, 1)) ColNewE_fn
      refine calL hL (fun p τ hp => ?_)
      obtain ⟨rfl, hτ⟩ := hp
      rw [hτ]
      simp
      refine awp_loop (fun x : NewX => ⟨98, [(0, .ptr ab 0), (2, .sl 2 (it.Comps.map GComp.e)), (4, .ptr b4 0), (6, slI ks), (7, kI (tabI tabs ks)), (9, .ptr t 0), (31, kI ks.length), (32, kI x.j)], x.σ, b4⟩)
        (fun x => NewMid ks t σ1 g1 x.j x.σ x.g σ1.length x.c x.cols) (fun x => ks.length - x.j) ⟨0, υ ++ [some [slI ks, .ptr σ1.length 0, .osl (t + 1) 1 0 0], some []], newTag g2 t [(t + 2, 0, 0), (t + 2, 0, 1)], [], t + 1⟩ ?_ ?_ ?_
      · have hυ : υ.length = t := by omega
        refine (ent_nilb (b := t) (j := 2) (z := 1) (cs := [slI ks, .ptr σ1.length 0, kNil]) (by rw [← hυ]; simp) rfl).trans ?_
        have hset : (υ ++ [some [slI ks, .ptr σ1.length 0, kNil]]).set t (some ([slI ks, .ptr σ1.length 0, kNil].set 2 (.osl (υ ++ [some [slI ks, .ptr σ1.length 0, kNil]]).length 1 0 0))) ++ [some []] = υ ++ [some [slI ks, .ptr σ1.length 0, .osl (t + 1) 1 0 0], some []] := by
          rw [List.set_append_right _ _ (by omega)]; simp [hυ]
        simp only [hset]
        exact ent_T _ (by simp [hυ])
      · have hυ : υ.length = t := by omega
        have hgn := newTag_new (g := g2) (n := t) (l := [(t + 2, 0, 0), (t + 2, 0, 1)]) (j := 0)
        rw [Nat.add_zero] at hgn
        have hfx : Fr υ (υ ++ [some [slI ks, .ptr σ1.length 0, .osl (t + 1) 1 0 0], some []]) g2 (newTag g2 t [(t + 2, 0, 0), (t + 2, 0, 1)]) (fun _ => False) :=
          ⟨by simp, fun b hb => newTag_old (by omega), fun b hb _ => by rw [box_append, if_pos hb]⟩
        refine ⟨?_, ?_, hgn, newTag_new, rfl, by simp, hS.frame hfx fun _ h => h, by simp, by show σ1.length ≤ t + 1; omega, hfr.trans hfx⟩
        · rw [box_append, if_neg (by omega), hυ]; simp
        · show box _ (t + 1) = _
          rw [box_append, if_neg (by omega), hυ]; simp
      · rintro ⟨j, σ3, g3, cols, c⟩ hJ
        simp only at hJ ⊢
        refine awp_go ?_
        by_cases hlt : j < ks.length
        · simp [hlt]
          refine awp_draw follows_mix [5] [(0, [0, 1, 2, 3]), (0, [0, 1, 2]), (0, [0, 1, 2]), (0, [0, 1, 2]), (0, [0, 1, 2]), (3, [0]), (1, [1]), (1, [2]), (0, [3]), (0, [3]), (1, [3])] 4 (by kernel_rfl) rfl ?_
          simp [boxG hJ.bt]
          obtain ⟨σ4, g4, hL4, hS4, hfr4, hsame4, hlen4⟩ := newL (σ := σ3) (g := g3) (o := (t + 2, j + 2)) ColNewI_fn
          refine gD_callW (.ptr σ3.length 0) σ4 ?_
          have b4t := boxG (hfr4.box hJ.bt (fun h => h))
          have b4c := boxG (hfr4.box hJ.bc (fun h => h))
          have l4t := box_lt (hfr4.box hJ.bt (fun h => h))
          have l4c := box_lt (hfr4.box hJ.bc (fun h => h))
          have hcl2 : cols.length ≤ 1000 := by have := hJ.cj; omega
          have hb1 : (cols.length + 1) * 8 ≤ 140737488355328 := by omega
          have hb2 : cols.length + 1 ≤ maxLen := by simp only [maxLen]; omega
          have htc : c ≠ t := fun e => by have h1 := hJ.gt; have h2 := hJ.gc; rw [e, h1] at h2; simp at h2
          have q1 : ∀ X Y : Option (List PV), ((σ4 ++ [X]).set c none ++ [Y])[t]? = some (some [slI ks, .ptr σ1.length 0, .osl c 1 0 cols.length]) := fun X Y => by
            rw [List.getElem?_append_left (by simp; omega), List.getElem?_set_ne htc, List.getElem?_append_left l4t, b4t]
          simp [boxG hJ.bt, b4t, b4c, List.getElem?_append_left l4t, List.getElem?_append_left l4c, hb1, hb2, q1]
          refine ⟨.inl ⟨rfl, doL hL4⟩, ?_⟩
          rw [wrap_id (by omega) (by omega)]
          obtain ⟨σ5, hσ5⟩ : ∃ σ5, ((σ4 ++ [some [PV.ptr σ3.length 0]]).set c none ++ [some (List.map (fun s => PV.ptr s 0) cols ++ [PV.ptr σ3.length 0])]).set t (some [slI ks, .ptr σ1.length 0, .osl (σ4.length + 1) 1 0 (cols.length + 1)]) = σ5 := ⟨_, rfl⟩
          rw [hσ5]
          have hlen5 : σ5.length = σ4.length + 2 := by rw [← hσ5]; simp
          have hb5 : ∀ b, b < σ4.length → b ≠ t → b ≠ c → box σ5 b = box σ4 b := fun b hb h1 h2 => by
            rw [← hσ5, box_set (by simp; omega), if_neg h1, box_append, if_pos (by simp; omega), box_set (by simp; omega), if_neg h2, box_append, if_pos hb]
          have hg5 : ∀ b, b < σ4.length → newTag g4 σ4.length [(0, 0, 0), (t + 2, 0, 1)] b = g4 b := fun b hb => newTag_old hb
          have hgt4 : g4 t = (t + 2, 0, 0) := (hfr4.tag hJ.bt).trans hJ.gt
          have hgc4 : g4 c = (t + 2, 0, 1) := (hfr4.tag hJ.bc).trans hJ.gc
          have hfr5 : Fr σ4 σ5 g4 (newTag g4 σ4.length [(0, 0, 0), (t + 2, 0, 1)]) (fun x => x.1 = t + 2 ∧ x.2.1 = 0) :=
            ⟨by omega, hg5, fun b hb hO => hb5 b hb (fun e => hO (by rw [e, hgt4]; exact ⟨rfl, rfl⟩)) (fun e => hO (by rw [e, hgc4]; exact ⟨rfl, rfl⟩))⟩
          refine ⟨⟨j + 1, σ5, newTag g4 σ4.length [(0, 0, 0), (t + 2, 0, 1)], cols ++ [σ3.length], σ4.length + 1⟩, ⟨?_, ?_, ?_, newTag_new, ?_, by simp; omega, ?_, ?_, ?_, ?_⟩, by simp; omega, ent_T _⟩
          · show box σ5 t = _
            rw [← hσ5, box_set (by simp; omega), if_pos rfl]; simp
          · show box σ5 (σ4.length + 1) = _
            rw [← hσ5, box_set (by simp; omega), if_neg (by omega), box_append, if_neg (by simp)]; simp
          · exact (hg5 t l4t).trans hgt4
          · simp [hJ.cj]
          · exact (hJ.st.frame hfr4 fun _ h => h).frame hfr5 fun p h => by simp at h
          · intro i hi
            simp only [List.length_append, List.length_cons, List.length_nil] at hi
            by_cases hic : i < cols.length
            · simp only [List.getElem_append_left hic]
              exact ((hJ.co i hic).frame hfr4 fun _ h => h).frame hfr5 fun p h => by simp at h
            · have hie : i = cols.length := by omega
              subst hie
              have := hS4.frame hfr5 fun p h => by simp at h
              rw [← hJ.cj] at this
              simpa using this
          · show σ1.length ≤ σ4.length + 1
            have := hJ.fr.le
            have := hfr4.le
            omega
          · have h1 := hJ.fr.trans hfr4
            refine ⟨by have := h1.le; show σ1.length ≤ σ5.length; omega, fun b hb => ?_, fun b hb _ => ?_⟩
            · exact (hg5 b (by have := h1.le; omega)).trans (h1.tg b hb)
            · have := h1.le
              have := hJ.cg
              exact (hb5 b (by omega) (by omega) (by omega)).trans (h1.bx b hb fun h => h)
        · have hjn : cols.length = ks.length := by have := hJ.cj; have := hJ.jl; omega
          have k1 := hJ.fr.box e1 fun h => h
          have k3 := hJ.fr.box e3 fun h => h
          simp [hlt, boxG k1]
          have hi : tabI tabs ks ≤ tabs.length := bs_le _ _
          have hbx : box (σ3 ++ [some [PV.ptr t 0]]) tb = some (tabs.map fun x => PV.ptr x.1 0) := by rw [box_append, if_pos (box_lt k3)]; exact k3
          have hIns := InsertT_L (σ := σ3 ++ [some [PV.ptr t 0]]) (b0 := tb) (b1 := σ3.length) (tabI tabs ks) (v := PV.ptr t 0) hbx (by rw [box_append, if_neg (by omega)]; simp) (by have := box_lt k3; omega) (by simpa using hi) (by simp; omega)
          simp only [List.length_map] at hIns
          refine calL hIns (fun p τ hp => ?_)
          obtain ⟨m, rfl, hm1, hm2, hm3, hm4⟩ := hp
          have k1τ : box τ ab = _ := (hm4 ab (by have := box_lt k1; simp; omega) (fun e => by rw [e, t3] at t1; simp at t1)).trans ((box_append.trans (if_pos (box_lt k1))).trans k1)
          simp [boxG k1τ]
          obtain ⟨σ6, hσ6⟩ : ∃ σ6, τ.set ab (some [.sl 2 (List.map GKind.e kinds), .osl gb 1 0 gens.length, .osl m 1 0 (tabs.length + 1), .mref mb]) = σ6 := ⟨_, rfl⟩
          rw [hσ6]
          have lτ : σ3.length + 1 ≤ τ.length := by simpa using hm2
          have lab := box_lt k1
          have ltb := box_lt k3
          have hb6 : ∀ b, b < σ3.length → b ≠ ab → b ≠ tb → box σ6 b = box σ3 b := fun b hb h1 h2 => by
            rw [← hσ6, box_set (by omega), if_neg h1, hm4 b (by simp; omega) h2, box_append, if_pos hb]
          obtain ⟨g6, hg6⟩ : ∃ g6 : Tag, (fun b => if b < σ3.length then g3 b else if b = m then (1, 0, 2) else (0, 0, 0)) = g6 := ⟨_, rfl⟩
          have hgo : ∀ b, b < σ3.length → g6 b = g3 b := fun b hb => by rw [← hg6]; exact if_pos hb
          have ta : g3 ab = (1, 0, 0) := (hJ.fr.tag e1).trans t1
          have tg : g3 gb = (1, 0, 1) := (hJ.fr.tag e2).trans t2
          have tt : g3 tb = (1, 0, 2) := (hJ.fr.tag e3).trans t3
          have tm : g3 mb = (1, 0, 3) := (hJ.fr.tag e4).trans t4
          have hfr6 : Fr σ3 σ6 g3 g6 (fun x => x.1 = 1) := ⟨by rw [← hσ6]; simp; omega, hgo, fun b hb hO => hb6 b hb (fun e => hO (by rw [e, ta])) (fun e => hO (by rw [e, tt]))⟩
          have k2 := hJ.fr.box e2 fun h => h
          have k4 := hJ.fr.box e4 fun h => h
          have hmab : m ≠ ab := fun e => by
            rcases hm3 with h | h
            · rw [← h, e, ta] at tt; simp at tt
            · simp at h; omega
          have hml := box_lt hm1
          have hlen1 : (tabs.take (tabI tabs ks) ++ ((t, (⟨ks, []⟩ : GTab)) :: tabs.drop (tabI tabs ks))).length = tabs.length + 1 := by simp; omega
          have hTn : TabAt σ3 g3 t ⟨ks, []⟩ := ⟨σ1.length, c, cols, ⟨hJ.bt, hJ.bc, hjn, hJ.gt, hJ.gc⟩, hJ.st, fun i hi => hJ.co i hi⟩
          have hb4l := box_lt hbx4
          have k5 := hJ.fr.box hbx4 fun h => h
          refine ⟨⟨σ6, g6, tabs.take (tabI tabs ks) ++ ((t, (⟨ks, []⟩ : GTab)) :: tabs.drop (tabI tabs ks)), t, ⟨ks, []⟩⟩, ⟨⟨⟨gb, m, mb, ?_, ?_, ?_, ?_, ?_, ?_, ?_, ?_⟩, fun x hx => ?_⟩, ?_, by rw [hks], ?_, ?_, ?_, ?_⟩, ent_T _⟩
          · show box σ6 ab = _
            rw [hlen1, ← hσ6, box_set (by omega), if_pos rfl]
          · exact (hb6 gb (box_lt k2) (fun e => by rw [e, ta] at tg; simp at tg) (fun e => by rw [e, tt] at tg; simp at tg)).trans k2
          · show box σ6 m = _
            rw [← hσ6, box_set (by omega), if_neg hmab, hm1]
            simp [List.map_take, List.map_drop]
          · exact (hb6 mb (box_lt k4) (fun e => by rw [e, ta] at tm; simp at tm) (fun e => by rw [e, tt] at tm; simp at tm)).trans k4
          · exact (hgo ab lab).trans ta
          · exact (hgo gb (box_lt k2)).trans tg
          · show g6 m = _
            rcases hm3 with h | h
            · rw [h]; exact (hgo tb ltb).trans tt
            · rw [← hg6]
              simp at h
              show (if m < σ3.length then g3 m else if m = m then (1, 0, 2) else (0, 0, 0)) = _
              rw [if_neg (by omega), if_pos rfl]
          · exact (hgo mb (box_lt k4)).trans tm
          · have hx' : x ∈ tabs ∨ x = (t, ⟨ks, []⟩) := by
              rcases List.mem_append.1 hx with h | h
              · exact .inl (List.mem_of_mem_take h)
              · rcases List.mem_cons.1 h with h | h
                · exact .inr h
                · exact .inl (List.mem_of_mem_drop h)
            rcases hx' with h | h
            · exact ((e5 x h).frame hJ.fr fun _ _ h => h).frame hfr6 fun a p h => by simp at h
            · subst h
              exact hTn.frame hfr6 fun a p h => by simp at h
          · show (tabs.take (tabI tabs ks) ++ ((t, (⟨ks, []⟩ : GTab)) :: tabs.drop (tabI tabs ks)))[tabI tabs ks]? = _
            rw [List.getElem?_append_right (by simp; omega)]
            simp [Nat.min_eq_left hi]
          · exact hfr6.box k5 (by rw [hJ.fr.tag hbx4, hg4]; simp)
          · exact (hgo b4 (box_lt k5)).trans ((hJ.fr.tag hbx4).trans hg4)
          · exact (hf1'.trans (hJ.fr.mono fun _ h => h.elim)).trans (hfr6.mono fun x h => by rw [h]; simp)
          · refine .inr ⟨rfl, ?_, rfl, by rw [hks]; exact hB'⟩
            have := hf1.le
            show σ.length ≤ t
            omega
  · rintro ⟨σ2, g2, tabs1, t, T⟩ hM
    simp only at hM ⊢
    obtain ⟨⟨⟨gb2, tb2, mb2, f1, f2, f3, f4, u1, u2, u3, u4⟩, f5⟩, hti, htk, hx4, hg42, hfr2, hwh⟩ := hM
    rw [hks] at htk hwh
    have hil : tabI tabs ks < tabs1.length := (List.getElem?_eq_some_iff.1 hti).1
    have hmem : (t, T) ∈ tabs1 := List.mem_of_getElem? hti
    obtain ⟨e, c, cols, hTH, hE, hC⟩ := f5 (t, T) hmem
    have hget : (tabs1.map fun x => PV.ptr x.1 0)[tabI tabs ks]? = some (.ptr t 0) := by rw [List.getElem?_map, hti]; rfl
    have hge : tabs1[tabI tabs ks] = (t, T) := (List.getElem?_eq_some_iff.1 hti).2
    have hNs : it.Ent.N ∉ T.slots := fun h => by
      rcases hwh with ⟨h1, _⟩ | ⟨h1, _⟩
      · subst h1
        exact hnew ((hP.okm _).2 ⟨_, hmem, h⟩)
      · simp [GTab.slots, h1] at h
    have hTr : T.rows.length ≤ 100000 := by
      rcases hwh with ⟨h1, _⟩ | ⟨h1, _⟩
      · subst h1
        exact Nat.le_trans (rows_le _ hmem) hsz
      · rw [h1]; simp
    refine awp_seq (awp_go ?_)
    simp [boxG f1, boxG f3, hil, hge]
    obtain ⟨σ3, g3, hL3, hS3, hfr3⟩ := putE_L hE it.Ent.N it.Ent hn hNs (by rw [T.ents_len, T.slots_len]) (by rw [T.slots_len]; omega)
    refine awp_seq (awp_go ?_)
    simp
    refine awp_draw follows_mix [7] [(0, [0]), (0, [0]), (0, [0]), (0, [0]), (0, [0]), (0, [0]), (0, [0]), (3, [0])] 1 (by kernel_rfl) rfl ?_
    simp [boxG hTH.bt, boxG hx4]
    refine gD_callW (kI 0) σ3 ?_
    simp [boxG hTH.bt, boxG hx4]
    refine ⟨.inl ⟨rfl, doL hL3⟩, ?_⟩
    refine awp_seq (awp_go ?_)
    simp
    have hcn : cols.length = it.Comps.length := by rw [hTH.cl, htk, hkl]
    have o4 : ∀ x : Nat × Nat × Nat, x.1 ≠ 0 → x ≠ g2 b4 := fun x h e => h (by rw [e, hg42])
    refine awp_loop (fun x : ColX => ⟨98, [(0, .ptr ab 0), (2, .sl 2 (it.Comps.map GComp.e)), (4, .ptr b4 0), (10, .ptr t 0), (71, .sl 2 (it.Comps.map GComp.e)), (72, kI it.Comps.length), (73, kI x.j)], x.σ, b4⟩)
      (fun x => ColMid it t T e c cols b4 σ2 g2 x.j x.σ x.g) (fun x => cols.length - x.j) ⟨0, σ3, g3⟩ ?_ ?_ ?_
    · exact ent_T _
    · refine ⟨hTH.frame hfr3 fun p h => by simp [OfS] at h, ?_, fun i h hi => by simp at hi, fun i h _ => (hC i h).frame hfr3 fun p h => by simp [OfS] at h, hfr3.box hx4 (by rw [hg42]; simp), by simp, hfr3.mono fun x h => h.1⟩
      simpa using hS3
    · rintro ⟨j, σ4, g4⟩ hJ
      simp only at hJ ⊢
      refine awp_go ?_
      by_cases hlt : j < it.Comps.length
      · have hjc : j < cols.length := by omega
        simp [hlt]
        have hfa : Fr σ4 (σ4 ++ [some (GComp.e (it.Comps[j]))]) g4 g4 (fun _ => False) := Fr.app
        obtain ⟨σ5, hσ5⟩ : ∃ σ5, σ4 ++ [some (GComp.e (it.Comps[j]))] = σ5 := ⟨_, rfl⟩
        have h12 : box σ5 σ4.length = some (GComp.e (it.Comps[j])) := by rw [← hσ5, box_append, if_neg (by omega)]; simp
        rw [hσ5] at hfa
        rw [hσ5]
        have hJ5 := (hJ.todo j hjc (Nat.le_refl _)).frame hfa fun _ h => h
        have hTH5 := hJ.th.frame hfa fun _ h => h
        have h45 := hfa.box hJ.b4 fun h => h
        obtain ⟨σ6, g6, hL6, hS6, hfr6⟩ := putI_L hJ5 it.Ent.N (it.Comps[j]).Vals hn hNs (by rw [T.col_len, T.slots_len]) (by rw [T.slots_len]; omega)
        refine awp_draw follows_mix [11] [(0, [0]), (0, [0]), (0, [0]), (0, [0]), (0, [0]), (0, [0]), (0, [0]), (0, [0]), (0, [0]), (0, [0]), (0, [0]), (3, [0])] 1 (by kernel_rfl) rfl ?_
        simp [boxG hTH5.bt, boxG hTH5.bc, boxG h45, boxG h12, hjc]
        refine gD_callW (kI 0) σ6 ?_
        simp [boxG hTH5.bt, boxG hTH5.bc, boxG h45, boxG h12, hjc]
        refine ⟨.inl ⟨rfl, doL hL6⟩, ?_⟩
        rw [wrap_id (by omega) (by omega)]
        have hg4b : g4 b4 = (0, 0, 0) := (hJ.fr.tag hx4).trans hg42
        refine ⟨⟨j + 1, σ6, g6⟩, ⟨hTH5.frame hfr6 fun p h => by simp [OfS] at h, (hJ.es.frame hfa fun _ h => h).frame hfr6 fun p h => by simp [OfS] at h, fun i h hi => ?_, fun i h hi => ?_, hfr6.box h45 (by rw [hg4b]; simp [OfS]), by show j + 1 ≤ _; omega, ?_⟩, by show _ - (j + 1) < _; omega, ent_T _⟩
        · by_cases hij : i < j
          · exact ((hJ.done i h hij).frame hfa fun _ h => h).frame hfr6 fun p h => by simp [OfS] at h; omega
          · have hij : i = j := by have hi : i < j + 1 := hi; omega
            subst hij
            have hgd : it.Comps.getD i ⟨0, []⟩ = it.Comps[i] := by simp [List.getD, hlt]
            rw [hgd]; exact hS6
        · have hi : j + 1 ≤ i := hi
          exact ((hJ.todo i h (by omega)).frame hfa fun _ h => h).frame hfr6 fun p h => by simp [OfS] at h; omega
        · exact (hJ.fr.trans (hfa.mono fun _ h => h.elim)).trans (hfr6.mono fun x h => h.1)
      · have hjn : j = cols.length := by have := hJ.jl; omega
        simp [hlt]
        have n1 : ∀ y z, ((1, y, z) : Nat × Nat × Nat).1 ≠ t + 2 := fun y z => by simp
        have f4' := hJ.fr.box f4 (by rw [u4]; simp)
        have f1' := hJ.fr.box f1 (by rw [u1]; simp)
        have hkey : keyAt .i64 it.Ent.N (oks.map kI) = some none := by
          rw [keyAt_ints]
          congr 1
          rw [List.findIdx?_eq_none_iff]
          intro x hx
          rw [decide_eq_false_iff_not]
          exact fun he => hnew (by rw [he]; exact hx)
        refine awp_draw follows_mix [7] [(0, [0]), (0, [0]), (0, [0]), (0, [0]), (0, [0]), (0, [0]), (0, [0]), (3, [0])] 1 (by kernel_rfl) rfl ?_
        simp [boxG f1', boxG hJ.b4]
        obtain ⟨σ7, hσ7⟩ : ∃ σ7, σ4.set mb2 (some [.tup ((oks ++ [it.Ent.N]).map kI), .tup ((oks.map fun n => PV.ptr (ofT n) 0) ++ [.ptr t 0])]) = σ7 := ⟨_, rfl⟩
        refine gD_callW (.tup []) σ7 ?_
        simp [boxG f1', boxG hJ.b4]
        refine ⟨.inl ⟨rfl, ?_⟩, ?_⟩
        · rw [← hσ7]
          exact does_one (x := (_, _)) (by simp [hkey, boxG f4'])
        have l4m := box_lt f4'
        have hb7 : ∀ b, b ≠ mb2 → box σ7 b = box σ4 b := fun b hb => by rw [← hσ7, box_set l4m, if_neg hb]
        have ga : g4 ab = (1, 0, 0) := (hJ.fr.tag f1).trans u1
        have gg : g4 gb2 = (1, 0, 1) := (hJ.fr.tag f2).trans u2
        have gt : g4 tb2 = (1, 0, 2) := (hJ.fr.tag f3).trans u3
        have gm : g4 mb2 = (1, 0, 3) := (hJ.fr.tag f4).trans u4
        have hfr7 : Fr σ4 σ7 g4 g4 (fun x => x = (1, 0, 3)) := by rw [← hσ7]; exact Fr.set l4m gm
        have f2' := hJ.fr.box f2 (by rw [u2]; simp)
        have f3' := hJ.fr.box f3 (by rw [u3]; simp)
        obtain ⟨A, hA⟩ : ∃ A, tabs1.take (tabI tabs ks) = A := ⟨_, rfl⟩
        obtain ⟨B, hB⟩ : ∃ B, tabs1.drop (tabI tabs ks + 1) = B := ⟨_, rfl⟩
        have hAB : tabs1 = A ++ (t, T) :: B := by
          rw [← hA, ← hB, ← hge, ← List.drop_eq_getElem_cons hil, List.take_append_drop]
        have hAl : A.length = tabI tabs ks := by rw [← hA]; simp; omega
        have hsort := tabI_spec hP.srt ks
        have hid : ((A ++ (t, T) :: B).map fun x => x.1).Nodup := by
          rw [← hAB]
          rcases hwh with ⟨h1, _⟩ | ⟨_, h1, h2, _⟩
          · rw [h1]; exact hP.idn
          · have hlt : ∀ x ∈ tabs, x.1 ≠ t := fun x hx e => by
              obtain ⟨_, _, _, h3, _⟩ := hH.tab x hx
              have := box_lt h3.bt
              omega
            have hnd := hP.idn
            rw [← List.take_append_drop (tabI tabs ks) tabs, List.map_append, List.nodup_append] at hnd
            rw [h2, List.map_append, List.nodup_append]
            refine ⟨hnd.1, List.nodup_cons.2 ⟨fun h => ?_, hnd.2.1⟩, fun a ha b hb => ?_⟩
            · obtain ⟨x, hx, hxe⟩ := List.mem_map.1 h
              exact hlt x (List.mem_of_mem_drop hx) hxe
            · rcases List.mem_cons.1 hb with e | hb
              · subst e
                obtain ⟨x, hx, rfl⟩ := List.mem_map.1 ha
                exact hlt x (List.mem_of_mem_take hx)
              · exact hnd.2.2 a ha b hb
        have hw : tabs = A ++ (t, T) :: B ∨ (T.rows = [] ∧ tabs = A ++ B ∧ (∀ x ∈ A, cmpL x.2.kinds T.kinds < 0) ∧ ∀ x ∈ B, cmpL T.kinds x.2.kinds < 0) := by
          rcases hwh with ⟨h1, _⟩ | ⟨h0, _, h2, h3⟩
          · exact .inl (by rw [← h1]; exact hAB)
          · have hil2 : (tabs.take (tabI tabs ks)).length = tabI tabs ks := by rw [List.length_take]; have := hsort.1; omega
            have eA : A = tabs.take (tabI tabs ks) := by rw [← hA, h2, List.take_left' hil2]
            have eB : B = tabs.drop (tabI tabs ks) := by
              rw [← hB, h2, ← List.drop_drop, List.drop_left' hil2]; rfl
            refine .inr ⟨h0, by rw [eA, eB, List.take_append_drop], ?_, ?_⟩
            · rw [eA, htk]; exact hsort.2.1
            · rw [eB, htk]; exact hsort.2.2 h3
        obtain ⟨hP', hpm⟩ := addP (it := it) hP hid (by rw [hks, htk]) (by rw [htk]; omega) hw hn hnew
        have hids : ∀ x ∈ A ++ B, x.1 ≠ t := fun x hx e => by
          rw [List.map_append, List.nodup_append] at hid
          rcases List.mem_append.1 hx with h | h
          · exact hid.2.2 x.1 (List.mem_map_of_mem h) t (by simp) e
          · have hm := List.mem_map_of_mem (f := fun x : Nat × GTab => x.1) h
            simp only [e] at hm
            exact (List.nodup_cons.1 hid.2.1).1 hm
        refine finL (p := .tup []) ⟨rfl, g4, A ++ (t, ⟨T.kinds, T.rows ++ [it]⟩) :: B, _, ⟨⟨gb2, tb2, mb2, ?_, ?_, ?_, ?_, ga, gg, gt, gm⟩, fun x hx => ?_⟩, hP', hpm, ?_⟩
        · show box σ7 ab = _
          rw [hb7 ab (fun e => by rw [e, gm] at ga; simp at ga), f1', hAB]; simp
        · exact (hb7 gb2 (fun e => by rw [e, gm] at gg; simp at gg)).trans f2'
        · show box σ7 tb2 = _
          rw [hb7 tb2 (fun e => by rw [e, gm] at gt; simp at gt), f3', hAB]; simp
        · show box σ7 mb2 = _
          rw [← hσ7, box_set l4m, if_pos rfl]
          have e1 : (oks ++ [it.Ent.N]).map (fun n => PV.ptr (if n = it.Ent.N then t else ofT n) 0) = oks.map (fun n => PV.ptr (ofT n) 0) ++ [.ptr t 0] := by
            rw [List.map_append, List.map_cons, List.map_nil, if_pos rfl]
            congr 1
            exact List.map_congr_left fun x hx => by rw [if_neg fun e => hnew (by rw [← e]; exact hx)]
          rw [e1]
        · have hx' : x ∈ A ++ B ∨ x = (t, ⟨T.kinds, T.rows ++ [it]⟩) := by
            rcases List.mem_append.1 hx with h | h
            · exact .inl (List.mem_append_left _ h)
            · rcases List.mem_cons.1 h with h | h
              · exact .inr h
              · exact .inl (List.mem_append_right _ h)
          rcases hx' with h | h
          · have hx1 : x ∈ tabs1 := by
              rw [hAB]
              rcases List.mem_append.1 h with h | h
              · exact List.mem_append_left _ h
              · exact List.mem_append_right _ (List.mem_cons_of_mem _ h)
            have hne := hids x h
            exact ((f5 x hx1).frame hJ.fr fun a p h => by simp at h; omega).frame hfr7 fun a p h => by simp at h
          · subst h
            have hes : (⟨T.kinds, T.rows ++ [it]⟩ : GTab).ents = T.ents ++ [it.Ent] := by simp [GTab.ents]
            have hsl : (⟨T.kinds, T.rows ++ [it]⟩ : GTab).slots = T.slots ++ [it.Ent.N] := by simp [GTab.slots]
            have hco : ∀ i, (⟨T.kinds, T.rows ++ [it]⟩ : GTab).col i = T.col i ++ [(it.Comps.getD i ⟨0, []⟩).Vals] := fun i => by simp [GTab.col]
            have hTA : TabAt σ4 g4 t ⟨T.kinds, T.rows ++ [it]⟩ := ⟨e, c, cols, hJ.th, by rw [hes, hsl]; exact hJ.es, fun i hi => by rw [hco, hsl]; exact hJ.done i hi (by omega)⟩
            exact hTA.frame hfr7 fun a p h => by simp at h
        · exact (hfr2.trans (hJ.fr.mono fun x h => by rw [h]; simp)).trans (hfr7.mono fun x h => by rw [h]; simp)
end Go.Proofs.Ytidhdlhblhbahaa.Am
/- Package arch: Of. -/
namespace Go.Proofs.Ytidhdlhblhbahaa.Am
open Go Go.RowKit

structure OfX where
  i : Nat
  σ : Boxes
  g : Tag
  tabs : List (Nat × GTab)
  ofT : Int → Nat
structure OfMid (w : GWorld) (ab : Nat) (i : Nat) (σ : Boxes) (g : Tag) (tabs : List (Nat × GTab)) (ofT : Int → Nat) : Prop where
  H : ArchH σ g ab w.Kinds w.Gens tabs ((w.Items.take i).map fun it => it.Ent.N) ofT
  P : ArchP tabs ((w.Items.take i).map fun it => it.Ent.N) ofT
  pm : (tabs.flatMap fun x => x.2.rows).Perm (w.Items.take i)
  il : i ≤ w.Items.length

set_option maxRecDepth 20000 in
set_option maxHeartbeats 1000000 in
theorem Of_C (w : GWorld) (hw : checkW w = 0) : FnC Try.prog 7 [.agg w.e] [] (fun p τ => ∃ ab g tabs ofT, p = .tup [.ptr ab 0, kI 0] ∧ OfMid w ab w.Items.length τ g tabs ofT) := by
  obtain ⟨hfi, hfc⟩ := checkW_fine hw
  obtain ⟨w1, w2, w3, w4, w5⟩ := checkW_iff.1 hw
  obtain ⟨w6, w7⟩ := items_iff.1 w5
  have hWC := WCheck_fn w hfi (fun it hi c hc => by have := ((hfc it hi).2 c hc).2.2.2; omega)
  rw [hw] at hWC
  refine fnc_of Try.func7 rfl fun _ => ?_
  refine awp_seq (awp_go ?_)
  simp [Try.ntmps7, entryL]
  refine awp_seq (awp_go ?_)
  simp
  refine cal hWC ?_
  simp
  refine awp_seq (awp_go ?_)
  simp
  have hKC := KCopy_fn w.Kinds (by have := hfi.kl; omega) (fun k hk => by have := hfi.kf k hk; omega)
  have hCl := CloneI_own w.Gens (by omega)
  refine awp_drawS follows_mix [(0, 0), (0, 0), (2, 0), (0, 0), (0, 0), (5, 1), (4, 2), (0, 0), (4, 3), (0, 0)] 1 4 [(0, 6), (1, 6), (2, 6), (3, 6), (4, 6), (5, 6)] (by kernel_rfl) rfl rfl ?_
  simp
  refine gE_call (.sl 2 (w.Kinds.map GKind.e)) ?_ ?_
  · exact calO hKC
  simp
  refine gE_call5 (.osl 1 1 0 w.Gens.length) [] (w.Gens.map kI) rfl (fun y => ?_) (by simp) (by simp) (by simp) (by simp) ?_
  · simp
    exact does_fnd [] hCl rfl rfl rfl (by simp) rfl (by simp) (by simp) (by simp) (by simp) (by simp) (by simp)
  simp
  refine awp_seq (awp_go ?_)
  simp
  refine awp_loop (fun x : OfX => ⟨38, [(5, .ptr 3 0), (23, .sl 3 (w.Items.map GItem.e)), (24, kI w.Items.length), (25, kI x.i)], x.σ, 0⟩)
    (fun x => OfMid w 3 x.i x.σ x.g x.tabs x.ofT) (fun x => w.Items.length - x.i)
    ⟨0, [some w.e, some (w.Gens.map kI), some [.tup [], .tup []], some [.sl 2 (w.Kinds.map GKind.e), .osl 1 1 0 w.Gens.length, .osl 4 1 0 0, .mref 2], some []], fun b => if b = 3 then (1, 0, 0) else if b = 1 then (1, 0, 1) else if b = 4 then (1, 0, 2) else if b = 2 then (1, 0, 3) else (0, 0, 0), [], fun _ => 0⟩ ?_ ?_ ?_
  · refine (ent_nilb (b := 3) (j := 2) (z := 1) rfl rfl).trans ?_
    exact ent_T _
  · refine ⟨⟨⟨1, 4, 2, rfl, rfl, rfl, rfl, rfl, rfl, rfl, rfl⟩, by simp⟩, ⟨by simp, by simp, by simp, by simp, by simp, by simp, by simp, by simp⟩, by simp, by simp⟩
  · rintro ⟨i, σ, g, tabs, ofT⟩ hJ
    simp only at hJ ⊢
    refine awp_go ?_
    by_cases hlt : i < w.Items.length
    · obtain ⟨it, hit⟩ : ∃ it, w.Items[i] = it := ⟨_, rfl⟩
      have hm : it ∈ w.Items := hit ▸ List.getElem_mem hlt
      simp [hlt, hit]
      obtain ⟨σ2, hσ2⟩ : ∃ σ2, σ ++ [some it.e] = σ2 := ⟨_, rfl⟩
      have hfa : Fr σ (σ ++ [some it.e]) g g (fun _ => False) := Fr.app
      have h7 : box (σ ++ [some it.e]) σ.length = some it.e := by rw [box_append, if_neg (by omega)]; simp
      rw [hσ2] at hfa h7 ⊢
      have hH2 := hJ.H.frame hfa fun _ _ h => h
      refine awp_drawL follows_mix [] [] [(0, [0]), (0, [0]), (0, [0]), (0, [0]), (0, [0]), (2, [0])] 0 (by kernel_rfl) rfl rfl ?_
      simp [boxG h7]
      refine gD_call (.sl 2 (it.Comps.map GComp.e)) ?_
      simp [boxG h7]
      refine ⟨calO (CopyComps_fn it.Comps (by have := hfi.ic it hm; omega) (fun c hc => by have := hfi.iv it hm c hc; omega)), ?_⟩
      obtain ⟨k1, k2⟩ := w7 it hm
      obtain ⟨k3, k4, k5, k6⟩ := k2
      have htk : w.Items.take (i + 1) = w.Items.take i ++ [it] := by rw [List.take_succ_eq_append_getElem hlt, hit]
      have hnew : it.Ent.N ∉ (w.Items.take i).map fun it => it.Ent.N := fun h => by
        obtain ⟨x, hx, hxe⟩ := List.mem_map.1 h
        obtain ⟨j, hj, rfl⟩ := List.getElem_of_mem hx
        rw [List.getElem_take] at hxe
        rw [List.length_take] at hj
        have := List.pairwise_iff_getElem.1 w6 j i (by omega) hlt (by omega)
        rw [hit] at this
        omega
      refine lastL (add_L hH2 hJ.P it (by omega) hnew (by rw [hJ.pm.length_eq, List.length_take]; omega) (by have := (hfc it hm).1; omega)) (fun p τ hp => ?_)
      obtain ⟨rfl, g', tabs', ofT', q1, q2, q3, q4⟩ := hp
      simp
      rw [wrap_id (by omega) (by omega)]
      refine ⟨⟨i + 1, τ, g', tabs', ofT'⟩, ⟨?_, ?_, ?_, hlt⟩, by show _ - (i + 1) < _; omega, ent_T _⟩
      · show ArchH τ g' 3 w.Kinds w.Gens tabs' ((w.Items.take (i + 1)).map fun it => it.Ent.N) ofT'
        rw [htk, List.map_append]; exact q1
      · show ArchP tabs' ((w.Items.take (i + 1)).map fun it => it.Ent.N) ofT'
        rw [htk, List.map_append]; exact q2
      · show (tabs'.flatMap fun x => x.2.rows).Perm (w.Items.take (i + 1))
        rw [htk]
        exact q3.trans (List.Perm.append_right _ hJ.pm)
    · have hin : i = w.Items.length := by have := hJ.il; omega
      subst hin
      simp
      refine awp_go ?_
      simp
      exact finL (p := .tup [.ptr 3 0, kI 0]) ⟨3, rfl, g, tabs, ofT, hJ⟩
end Go.Proofs.Ytidhdlhblhbahaa.Am
/- Package arch: Of, called where other boxes are. -/
namespace Go.Proofs.Ytidhdlhblhbahaa.Am
open Go Go.RowKit

/-- A world in tables. -/
structure ArchAt (σ : Boxes) (g : Tag) (ab : Nat) (kinds : List GKind) (gens : List Int) (items : List GItem) : Prop where
  ex : ∃ tabs oks ofT, ArchH σ g ab kinds gens tabs oks ofT ∧ ArchP tabs oks ofT ∧ (tabs.flatMap fun x => x.2.rows).Perm items

def shB (σ τ : Boxes) : Boxes := σ ++ τ.map fun x => x.map (renL fun i => σ.length + i)
def shT (σ : Boxes) (g0 g : Tag) : Tag := fun b => if b < σ.length then g0 b else (if (g (b - σ.length)).1 ≤ 1 then (g (b - σ.length)).1 else (g (b - σ.length)).1 + σ.length, (g (b - σ.length)).2)
theorem shB_box {σ τ : Boxes} {b : Nat} {cs : List PV} (h : box τ b = some cs) : box (shB σ τ) (σ.length + b) = some (renL (fun i => σ.length + i) cs) := by
  unfold shB
  rw [box_append, if_neg (by omega), show σ.length + b - σ.length = b by omega, box_map, h]; rfl
theorem shT_0 {σ : Boxes} {g0 g : Tag} {b x y z : Nat} (h : g b = (x, y, z)) (hx : x ≤ 1) : shT σ g0 g (σ.length + b) = (x, y, z) := by
  unfold shT
  rw [if_neg (by omega), show σ.length + b - σ.length = b by omega, h, if_pos hx]
theorem shT_t {σ : Boxes} {g0 g : Tag} {b t y z : Nat} (h : g b = (t + 2, y, z)) : shT σ g0 g (σ.length + b) = (σ.length + t + 2, y, z) := by
  unfold shT
  rw [if_neg (by omega), show σ.length + b - σ.length = b by omega, h, if_neg (by simp)]
  show (t + 2 + σ.length, y, z) = _
  congr 1; omega

theorem StoreAt.shift {σ τ : Boxes} {g0 g : Tag} {t k s z : Nat} {cells : List PV} {rows : List Int} (h : StoreAt τ g (t + 2, k) s z cells rows) : StoreAt (shB σ τ) (shT σ g0 g) (σ.length + t + 2, k) (σ.length + s) z cells rows := by
  obtain ⟨⟨v, r, m, ks, h1, h2, h3, h4, h5, h6, g1, g2, g3, g4⟩, h7, h8⟩ := h
  refine ⟨⟨σ.length + v, σ.length + r, σ.length + m, ks, by rw [shB_box h1]; rfl, by rw [shB_box h2, imms_ren h8], by rw [shB_box h3, ints_ren], ?_, h5, h6, shT_t g1, shT_t g2, shT_t g3, shT_t g4⟩, h7, h8⟩
  rw [shB_box h4]
  simp only [renL, PV.ren, ints_ren]
theorem ptrs_ren {α : Type} (f : α → Nat) (n : Nat) (l : List α) : renL (fun i => n + i) (l.map fun x => PV.ptr (f x) 0) = l.map fun x => PV.ptr (n + f x) 0 := by
  induction l with
  | nil => rfl
  | cons x l ih => simp only [List.map_cons, renL, PV.ren, ih]
theorem TabAt.shift {σ τ : Boxes} {g0 g : Tag} {t : Nat} {T : GTab} (h : TabAt τ g t T) : TabAt (shB σ τ) (shT σ g0 g) (σ.length + t) T := by
  obtain ⟨e, c, cols, h1, h2, h3⟩ := h
  refine ⟨σ.length + e, σ.length + c, cols.map fun s => σ.length + s, ⟨?_, ?_, by simp [h1.cl], shT_t h1.gt, shT_t h1.gc⟩, h2.shift, fun j hj => ?_⟩
  · rw [shB_box h1.bt]; simp [renL, PV.ren, slI_def]
  · rw [shB_box h1.bc, ptrs_ren]; simp
  · simp only [List.getElem_map]
    exact (h3 j (by simpa using hj)).shift
theorem ArchH.shift {σ τ : Boxes} {g0 g : Tag} {ab : Nat} {kinds : List GKind} {gens oks : List Int} {tabs : List (Nat × GTab)} {ofT : Int → Nat} (h : ArchH τ g ab kinds gens tabs oks ofT) :
    ArchH (shB σ τ) (shT σ g0 g) (σ.length + ab) kinds gens (tabs.map fun x => (σ.length + x.1, x.2)) oks (fun n => σ.length + ofT n) := by
  obtain ⟨⟨gb, tb, mb, h1, h2, h3, h4, g1, g2, g3, g4⟩, h5⟩ := h
  refine ⟨⟨σ.length + gb, σ.length + tb, σ.length + mb, ?_, ?_, ?_, ?_, shT_0 g1 (Nat.le_refl 1), shT_0 g2 (Nat.le_refl 1), shT_0 g3 (Nat.le_refl 1), shT_0 g4 (Nat.le_refl 1)⟩, fun x hx => ?_⟩
  · rw [shB_box h1]; simp [renL, PV.ren]
  · rw [shB_box h2, ints_ren]
  · rw [shB_box h3, ptrs_ren]; simp
  · rw [shB_box h4]
    simp only [renL, PV.ren, ints_ren, ptrs_ren]
  · obtain ⟨y, hy, rfl⟩ := List.mem_map.1 hx
    exact (h5 y hy).shift
theorem ArchP.shift {oks : List Int} {tabs : List (Nat × GTab)} {ofT : Int → Nat} (n : Nat) (h : ArchP tabs oks ofT) : ArchP (tabs.map fun x => (n + x.1, x.2)) oks (fun k => n + ofT k) := by
  refine ⟨?_, ?_, fun x hx => ?_, fun x hx => ?_, fun x hx => ?_, h.okn, fun k => ?_, fun x hx k hk => ?_⟩
  · have := h.idn
    rw [List.map_map]
    have e : ((fun x : Nat × GTab => x.1) ∘ fun x : Nat × GTab => (n + x.1, x.2)) = (fun b => n + b) ∘ fun x : Nat × GTab => x.1 := rfl
    rw [e, ← List.map_map]
    exact List.Pairwise.map _ (fun a b hab e => hab (by omega)) this
  · rw [List.pairwise_map]; exact h.srt
  · obtain ⟨y, hy, rfl⟩ := List.mem_map.1 hx
    exact h.row y hy
  · obtain ⟨y, hy, rfl⟩ := List.mem_map.1 hx
    exact h.ne y hy
  · obtain ⟨y, hy, rfl⟩ := List.mem_map.1 hx
    exact h.kl y hy
  · rw [h.okm k]
    constructor
    · rintro ⟨x, hx, hk⟩; exact ⟨_, List.mem_map_of_mem hx, hk⟩
    · rintro ⟨x, hx, hk⟩
      obtain ⟨y, hy, rfl⟩ := List.mem_map.1 hx
      exact ⟨y, hy, hk⟩
  · obtain ⟨y, hy, rfl⟩ := List.mem_map.1 hx
    rw [h.oft y hy k hk]

theorem Of_L {σ : Boxes} (w : GWorld) (hw : checkW w = 0) : FnL Try.prog 7 [.agg w.e] σ (fun p τ => ∃ ab g, p = .tup [.ptr ab 0, kI 0] ∧ ArchAt τ g ab w.Kinds w.Gens w.Items ∧ Fr σ τ (fun _ => (0, 0, 0)) g (fun _ => False)) := by
  refine fnl_mono (fnl_new (Of_C w hw)) fun p τ hp => ?_
  obtain ⟨p0, τ0, ⟨ab, g, tabs, ofT, rfl, hM⟩, rfl, rfl⟩ := hp
  refine ⟨σ.length + ab, shT σ (fun _ => (0, 0, 0)) g, by simp [PV.ren, renL], ⟨_, _, _, hM.H.shift (σ := σ) (g0 := fun _ => (0, 0, 0)), hM.P.shift σ.length, ?_⟩, ⟨by simp, fun b hb => if_pos hb, fun b hb _ => by rw [box_append, if_pos hb]⟩⟩
  rw [List.flatMap_map]
  have := hM.pm
  rw [List.take_length] at this
  exact this
end Go.Proofs.Ytidhdlhblhbahaa.Am
/- Package arch: comps. -/
namespace Go.Proofs.Ytidhdlhblhbahaa.Am
open Go Go.RowKit

theorem idxI_at {rows : List Int} (hnd : rows.Nodup) {n : Int} {i : Nat} (h : rows[i]? = some n) : idxI rows n = (i : Int) := by
  unfold idxI
  have hm : n ∈ rows := List.mem_of_getElem? h
  have hlt : rows.findIdx (fun y => decide (y = n)) < rows.length := List.findIdx_lt_length.2 ⟨n, hm, by simp⟩
  have hat := List.findIdx_getElem (xs := rows) (p := fun y => decide (y = n)) (w := hlt)
  obtain ⟨hil, hie⟩ := List.getElem?_eq_some_iff.1 h
  obtain ⟨k, hk⟩ : ∃ k, rows.findIdx (fun y => decide (y = n)) = k := ⟨_, rfl⟩
  simp only [hk] at hlt hat ⊢
  have hpw := List.pairwise_iff_getElem.1 hnd
  have hke : rows[k] = n := by simpa using hat
  rcases Nat.lt_trichotomy k i with h' | h' | h'
  · exact absurd (hke.trans hie.symm) (hpw k i hlt hil h')
  · rw [h']
  · exact absurd (hie.trans hke.symm) (hpw i k hil hlt h')

set_option maxRecDepth 20000 in
theorem getI_L {σ : Boxes} {g : Tag} {o : Nat × Nat} {s : Nat} {vs : List (List Int)} {rows : List Int} (hS : StoreAt σ g o s 1 (slsI vs) rows) {n : Int} {i : Nat} {v : List Int} (hi : rows[i]? = some n) (hv : vs[i]? = some v) (hl : vs.length = rows.length) :
    FnL Try.prog 61 [.ptr s 0, kI n] σ (fun p τ => p = .tup [slI v, kB true] ∧ τ = σ) := by
  obtain ⟨⟨vb, r, m, ks, h1, h2, h3, h4, h5, h6, _⟩, hnd, _⟩ := hS
  obtain ⟨hil, hie⟩ := List.getElem?_eq_some_iff.1 hi
  have hnk : n ∈ ks := (h6 n).2 (List.mem_of_getElem? hi)
  obtain ⟨j, hj⟩ : ∃ j, ks.findIdx? (fun x => decide (n = x)) = some j := by
    cases hf : ks.findIdx? (fun x => decide (n = x)) with
    | some j => exact ⟨j, rfl⟩
    | none =>
      rw [List.findIdx?_eq_none_iff] at hf
      have := hf n hnk
      simp at this
  obtain ⟨hjl, hje, _⟩ := List.findIdx?_eq_some_iff_getElem.1 hj
  have hje' : ks[j] = n := by simpa using Eq.symm (by simpa using hje)
  have hkey : keyAt .i64 n (ks.map kI) = some (some j) := by rw [keyAt_ints, hj]
  have hij : ((ks.map (idxI rows)).map kI)[j]? = some (kI i) := by
    rw [List.getElem?_map, List.getElem?_map, List.getElem?_eq_getElem hjl, hje']
    simp [idxI_at hnd hi]
  have hvi : (slsI vs)[i]? = some (slI v) := by simp [slsI, hv]
  have hvl : i < vs.length := (List.getElem?_eq_some_iff.1 hv).1
  refine fnl_go Try.func61 rfl fun _ => ?_
  obtain ⟨C, hC⟩ : ∃ C, (ks.map (idxI rows)).map kI = C := ⟨_, rfl⟩
  rw [hC] at h4 hij
  have hCl : j < C.length := (List.getElem?_eq_some_iff.1 hij).1
  have hCe : C[j] = kI i := (List.getElem?_eq_some_iff.1 hij).2
  simp [Try.ntmps61, entryL, boxG h1, boxG h2, boxG h4, hkey, hCl, hCe, hil, hvi]
  exact finL ⟨rfl, rfl⟩

set_option maxRecDepth 20000 in
set_option maxHeartbeats 1000000 in
theorem comps_L {σ : Boxes} {g : Tag} {t : Nat} {T : GTab} (hT : TabAt σ g t T) {i : Nat} {it : GItem} (hi : T.rows[i]? = some it) (hk : it.Comps.map GComp.Kind = T.kinds) (hl : it.Comps.length ≤ 1000) :
    FnL Try.prog 31 [.ptr t 0, kI it.Ent.N] σ (fun p τ => p = .sl 2 (it.Comps.map GComp.e) ∧ τ = σ) := by
  obtain ⟨e, c, cols, h1, h2, h3⟩ := hT
  have hkl : T.kinds.length = it.Comps.length := by rw [← hk]; simp
  have hcl : cols.length = it.Comps.length := by rw [h1.cl, hkl]
  have hsi : T.slots[i]? = some it.Ent.N := by simp [GTab.slots, hi]
  have b1 : 32 * (it.Comps.length : Int) ≤ 281474976710656 := by omega
  have b2 : (it.Comps.length : Int) ≤ 9223372036854775807 := by omega
  refine fnl_trim ?_ (by simp)
  refine fnl_of Try.func31 rfl fun hlt0 => ?_
  refine awp_seq (awp_go ?_)
  simp [Try.ntmps31, entryL]
  refine awp_seq (awp_go ?_)
  simp [boxG h1.bt, hkl, b1, b2]
  have hb : ∀ x : Option (List PV), (σ ++ [x])[t]? = some (some [slI T.kinds, .ptr e 0, .osl c 1 0 cols.length]) := fun x => by rw [List.getElem?_append_left (box_lt h1.bt)]; exact boxG h1.bt
  have hbc : ∀ x : Option (List PV), (σ ++ [x])[c]? = some (some (cols.map fun s => PV.ptr s 0)) := fun x => by rw [List.getElem?_append_left (box_lt h1.bc)]; exact boxG h1.bc
  refine awp_seq (awp_go ?_)
  simp [hb, hkl]
  refine awp_loop (fun j : Nat => ⟨46, [(0, .ptr t 0), (1, kI it.Ent.N), (5, .osl σ.length 2 0 it.Comps.length), (19, slI T.kinds), (20, kI it.Comps.length), (21, kI j)], σ ++ [some (fillB GComp.e [kI 0, kNil] it.Comps j)], σ.length⟩) (fun j => j ≤ it.Comps.length) (fun j => it.Comps.length - j) 0 ?_ ?_ ?_
  · rw [fillB_0 GComp.e]
    exact ent_T _
  · simp
  · intro j hj
    refine awp_go ?_
    by_cases hlt : j < it.Comps.length
    · have hbl := fillB_len GComp.e_len (zr := [kI 0, kNil]) rfl it.Comps j hj
      have hrow := fillB_row GComp.e_len (zr := [kI 0, kNil]) rfl it.Comps j hlt
      generalize fillB GComp.e [kI 0, kNil] it.Comps j = B at hbl hrow ⊢
      have hjk : j < T.kinds.length := by omega
      have hjc : j < cols.length := by omega
      have hkj : T.kinds[j] = (it.Comps[j]).Kind := by simp only [← hk, List.getElem_map]
      have hvj : (T.col j)[i]? = some (it.Comps[j]).Vals := by simp [GTab.col, hi, List.getD, hlt]
      have hS := (h3 j hjc).frame (Fr.app (ext := [some B]) (O := fun _ => False)) fun _ h => h
      have hq : j * 2 + 2 ≤ it.Comps.length * 2 := by omega
      simp [hlt, hb, hbc, hjc, hkl, hjk, hkj]
      refine calL (getI_L hS hsi hvj (by rw [T.col_len, T.slots_len])) (fun p τ hp => ?_)
      obtain ⟨rfl, rfl⟩ := hp
      simp [hbl, hq, hlt]
      rw [wrap_id (by omega) (by omega), show kI (it.Comps[j]).Kind :: slI (it.Comps[j]).Vals :: List.drop (j * 2 + 2) B = (it.Comps[j]).e ++ List.drop (j * 2 + 2) B from rfl, hrow]
      exact ⟨j + 1, by omega, by omega, ent_T _⟩
    · simp [hlt]
      have : j = it.Comps.length := by omega
      subst this
      rw [fillB_end]
      refine awp_go ?_
      simp
      refine finL_ent (ent_fz σ.length (it.Comps.map GComp.e).flatten (by simp) (by simp) (by simp)) ?_
      simp [St.fz, ltS_fz hlt0]
      exact finL ⟨rfl, [none], rfl⟩
end Go.Proofs.Ytidhdlhblhbahaa.Am
/- Range over a function, the boxes after each round told by a property. -/
namespace Go.Proofs.Ytidhdlhblhbahaa.Am
open Go Go.RowKit

section
variable {P : Program} {s : St} {Q : Exit → St → Prop}
theorem awp0_rangeN {g : Operand} {ps : Array Tmp} {assign body : Code} {gf : FuncId} {caps : List PV} {items : List (List PV × List (List PV))} (I : Nat → Boxes → Prop)
    (hseq : SeqOk P gf caps items) (hg : calleePV s g = some (gf, caps)) (he : enterable P gf = true) (hc : caps.all PV.immB = true) (h0 : I 0 s.σ)
    (hps : ∀ x ∈ items, x.1.length = ps.size) (hN : ∀ t ∈ ps.toList, t < s.N)
    (hround : ∀ i args σc σi, I i σi → items[i]? = some (args, σc) → AWp P assign (roundSt s ps σi args σc) fun e s1 => e = .normal ∧ AWp P body s1 fun e s' => e = .normal ∧ ∃ s2, Ent s' s2 ∧ ∃ σ6, I (i + 1) σ6 ∧ Ent ⟨s.N, s.T, s2.σ, s.k⟩ ⟨s.N, s.T, σ6, s.k⟩)
    (h : ∀ σn, I items.length σn → Q .normal ⟨s.N, s.T, σn, s.k⟩) : AWp0 P (.rangeFunc g ps assign body) s Q := by
  intro ctx ι S a w hro hr QQ hQ
  obtain ⟨lb, hgv, hlb, hcaps⟩ := callee_rel hr hg
  have hcap : ∀ (j : Nat) (p : PV), caps[j]? = some p → IRel S w (lb.getD j undef) p := fun j p hj => by
    obtain ⟨v, hv1, hv2⟩ := hcaps j p hj
    have : lb.getD j undef = v := by rw [Array.getD_eq_getD_getElem?, hv1]; rfl
    rw [this]
    exact hv2.immI (List.all_eq_true.1 hc p (List.mem_of_getElem? hj))
  have hent : ∀ args w, (callFunc gf args).run P w = .ok (.enter gf args) w := fun args w => by
    unfold enterable at he
    split at he
    · rename_i fn hfn
      simp at he
      obtain ⟨cd, hb⟩ := Option.isSome_iff_exists.1 he.2
      exact enters_of hfn (by simpa using he.1) hb args w
    · simp at he
  have hσ := hr.st
  refine wpIn_rangeFunc ?_
  intro fn hfn
  obtain ⟨rec, hrec⟩ : ∃ rec : LoopState → Option Code → Loop, rec = fun st pe => { state := st, pending := pe, fn, tmps := a.tmps, params := ps, assign, body, defers := w.heap.size } := ⟨_, rfl⟩
  obtain ⟨W1, hW1⟩ : ∃ W1, (w.alloc (.deferred (some []))).alloc (.loop (rec .ready none)) = W1 := ⟨_, rfl⟩
  have hL1 : W1.heap[w.heap.size + 1]? = some (.loop (rec .ready none)) := by
    rw [← hW1]; have := World.alloc_heap_new (w.alloc (.deferred (some []))) (.loop (rec .ready none)); rwa [World.size_alloc] at this
  have hK1 : W1.heap[w.heap.size]? = some (.deferred (some [])) := by
    rw [← hW1]; exact (Below.heap_alloc _ _ _ (by simp)).trans (World.alloc_heap_new w _)
  have hG1 : Grown w W1 := by rw [← hW1]; exact (Grown.alloc w _).trans (.alloc _ _)
  have hsz1 : W1.heap.size = w.heap.size + 2 := by rw [← hW1]; simp
  let J : Nat → (Nat → Prop) → World → Prop := fun i K W => ∃ σi, I i σi ∧ ∃ ι S', Rel ctx ι S' ⟨s.N, s.T, σi, s.k⟩ a W ∧ (∀ b, K b → S' b) ∧ ¬ S' (w.heap.size + 1) ∧ ¬ S' w.heap.size ∧
    W.heap[w.heap.size + 1]? = some (.loop (rec .ready none)) ∧ W.heap[w.heap.size]? = some (.deferred (some []))
  have hJ0 : J 0 S W1 := by
    obtain ⟨g1, g2⟩ := hσ.grown hG1
    refine ⟨s.σ, h0, ι, S, ⟨g1, hr.ck, hr.tsz, hr.defers, fun t p ht => g2 _ _ _ (hr.temps t p ht)⟩, fun _ h => h, fun hh => ?_, fun hh => ?_, hL1, hK1⟩
    · have := hσ.Slt _ hh; omega
    · have := hσ.Slt _ hh; omega
  have hshL : ∀ {W : World} {st : LoopState} {pe : Option Code}, W.heap[w.heap.size + 1]? = some (.loop (rec st pe)) → quiet W (w.heap.size + 1) := fun hh => ⟨by simp [World.shape?, hh], by simp [hh]⟩
  have hshL' : ∀ {W : World} {r : Loop}, W.heap[w.heap.size + 1]? = some (.loop r) → quiet W (w.heap.size + 1) := fun hh => ⟨by simp [World.shape?, hh], by simp [hh]⟩
  have hshD : ∀ {W : World} {d : Option (List Deferred)}, W.heap[w.heap.size]? = some (.deferred d) → quiet W w.heap.size := fun hh => ⟨by simp [World.shape?, hh], by simp [hh]⟩
  have hcs := hσ.size
  refine ⟨w.heap.size + 1, [markOf w.heap.size], W1, { target := .fn (.func gf) lb, args := #[.func (.yield (w.heap.size + 1)) #[] #[]] }, W1, gf,
    #[.func (.yield (w.heap.size + 1)) #[] #[]] ++ lb, W1, ?_, ?_, fun _ _ => trivial, ?_, (fun h => by cases h), ?_⟩
  · rw [← hW1, hrec]; exact run_enterLoop_outer _ _ _ _ _
  · simp only [resolve, hgv]
    simp [go_sem]
  · simp [invoke, go_sem, hent]
  · refine callsIn_wide.2 ((hseq S W1 lb (w.heap.size + 1) J (fun b hb => by have := hσ.Slt b hb; omega) hlb (fun j p hj => (hcap j p hj).mono (fun _ h => h) (fun b o hb => World.cell?_of_block (hG1.old b (hσ.Slt b hb)))) ?_ hJ0).mono ?_)
    · -- one round
      rintro i args σc W0 W K ι1 S1 vals hi ⟨σi, hIi, ι0, S0, hr0, hSS, hSL, hSD, hL, hD⟩ hG hst1 hfr hS1a hS1b hvl hv
      have hlt0 : w.heap.size + 1 < W0.heap.size := (Array.getElem?_eq_some_iff.1 hL).1
      have hLW : W.heap[w.heap.size + 1]? = some (.loop (rec .ready none)) := (hG.old _ hlt0).trans hL
      have hDW : W.heap[w.heap.size]? = some (.deferred (some [])) := (hG.old _ (by omega)).trans hD
      have hltW : w.heap.size + 1 < W.heap.size := (Array.getElem?_eq_some_iff.1 hLW).1
      obtain ⟨ι2, hst2, hm0, hm1⟩ := hr0.st.adoptAll hG hst1 hfr hSS hS1b
      have hlenp : args.length = ps.size := hps _ (List.mem_of_getElem? hi)
      have hy := run_yield (P := P) (args := vals.toArray) hLW (by rw [hrec]; simp [hvl, hlenp])
      -- the round's first standing
      have hrz : (ps.toList.zip (renL (fun j => σi.length + j) args)).map (·.1) = ps.toList := zip_fst _ _ (by rw [renL_map]; simp [hlenp])
      have hpar := parT_rel (n := σi.length + σc.length) (ι := ι2) (S := fun b => S0 b ∨ S1 b) (w := W) (N := s.N) (ps.toList.zip (renL (fun j => σi.length + j) args)) vals s.T a.tmps hr0.tsz
        (by rw [renL_map]; simp [hlenp, hvl]) (fun x hx => hN x.1 (List.of_mem_zip hx).1)
        (fun j x v hj hv' => by
          rw [List.getElem?_zip_eq_some] at hj
          obtain ⟨_, hj2⟩ := hj
          rw [renL_map, List.getElem?_map] at hj2
          simp only [Option.map_eq_some_iff] at hj2
          obtain ⟨p, hp, hp2⟩ := hj2
          obtain ⟨v', hv1, hv2⟩ := hv j p hp
          rw [hv1] at hv'; cases hv'
          rw [← hp2]
          exact hm1 _ _ hv2)
        (fun t p ht => hm0 _ _ (hr0.temps t p ht))
      rw [hrz] at hpar
      have hst2' := hst2.begin (k := σi.length + σc.length) (by simp) (some (w.heap.size + 1)) []
      have hnS2L : ¬ (S0 (w.heap.size + 1) ∨ S1 (w.heap.size + 1)) := by
        rintro (k | k)
        · exact hSL k
        · rcases hS1b _ k with k1 | k1
          · exact hSL (hSS _ k1)
          · omega
      have hnS2D : ¬ (S0 w.heap.size ∨ S1 w.heap.size) := by
        rintro (k | k)
        · exact hSD k
        · rcases hS1b _ k with k1 | k1
          · exact hSD (hSS _ k1)
          · omega
      have hrel1 : Rel (Ctx.anew ι2 (fun b => S0 b ∨ S1 b) (σi ++ (σc.map (renL (fun j => σi.length + j))).map some) W (σi.length + σc.length) (some (w.heap.size + 1)) []) ι2 (fun b => S0 b ∨ S1 b) (roundSt s ps σi args σc)
          { tmps := (ps.toList.zip vals).foldl (fun t (x : Nat × Value) => t.setIfInBounds x.1 x.2) a.tmps, defers := [] } W :=
        ⟨hst2', rfl, hpar.1, rfl, fun t p ht => by simpa [roundSt] using hpar.2 t p ht⟩
      refine ⟨fn, _, assign, body, by rw [hrec] at hy; exact hy, roundIn_of_wpIn hfn ?_⟩
      have hfold : ((ps.zip vals.toArray).foldl (fun t (x : Nat × Value) => t.setIfInBounds x.1 x.2) a.tmps) = (ps.toList.zip vals).foldl (fun t (x : Nat × Value) => t.setIfInBounds x.1 x.2) a.tmps := by
        rw [← Array.foldl_toList]; simp
      have hold2 : ∀ b, S1 b → ¬ ∃ i' cs, box (σi ++ (σc.map (renL (fun j => σi.length + j))).map some) i' = some cs ∧ ι2 i' = some b := fun b hb ⟨i', cs, k1, k2⟩ => hst2.notS i' cs b k1 k2 (.inr hb)
      have hnM1 := hst2.notM (hshL hLW)
      have hnMD := hst2.notM (hshD hDW)
      have key := hround i args σc σi hIi hi _ _ _ _ _ hrel1 (Exit.then (fun a₁ w₁ => ∃ w₂, (Instr.beginRound (w.heap.size + 1)).run P w₁ = .ok () w₂ ∧ body.wpIn (Fence.wide.inRound (w.heap.size + 1)) 0 P
        (roundPost P (w.heap.size + 1) fun e W' => e = .returned (.bool true) ∧ J (i + 1) S1 W' ∧ (∀ b, S1 b → W'.heap[b]? = W.heap[b]?) ∧ W.heap.size ≤ W'.heap.size) a₁ w₂) (fun _ _ _ => False)) ?_
      · simp only
        have e : ((ps.zip vals.toArray).foldl (fun tmps (x : Tmp × Value) => match x with | (t, a) => tmps.setIfInBounds t a) a.tmps) = (ps.toList.zip vals).foldl (fun t (x : Nat × Value) => t.setIfInBounds x.1 x.2) a.tmps := by
          rw [← Array.foldl_toList]; simp
        rw [e]
        exact key
      · rintro e ι3 S3 s1 a1 w1 hr1 ⟨rfl, hb1⟩
        have hL3 : w1.heap[w.heap.size + 1]? = some (.loop (rec .ready none)) := (hr1.st.old _ hltW hnM1).trans hLW
        refine ⟨_, run_beginRound hL3 (by rw [hrec]), ?_⟩
        have hnS3 : ¬ S3 (w.heap.size + 1) := fun k => by
          rcases hr1.st.Snew _ k with k1 | k1 | k1
          · exact hnS2L k1
          · exact hnM1 k1
          · have : W.heap.size ≤ w.heap.size + 1 := k1
            omega
        -- the record is busy from here on
        obtain ⟨hst3, hm3⟩ := hr1.st.turn0 (.loop { rec .ready none with state := .busy }) (L := w.heap.size + 1) (hshL hL3) (hshL hLW) hnS3 hltW
          (c2 := Ctx.anew ι2 (fun b => S0 b ∨ S1 b) (σi ++ (σc.map (renL (fun j => σi.length + j))).map some) (W.putObj (w.heap.size + 1) (.loop { rec .ready none with state := .busy })) (σi.length + σc.length) (some (w.heap.size + 1)) []) rfl rfl rfl rfl rfl
        obtain ⟨hst2b, hm2b⟩ := hst2.turn (.loop { rec .ready none with state := .busy }) (L := w.heap.size + 1) (hshL hLW) hnS2L (by omega)
        have hrel3 : Rel (Ctx.anew ι2 (fun b => S0 b ∨ S1 b) (σi ++ (σc.map (renL (fun j => σi.length + j))).map some) (W.putObj (w.heap.size + 1) (.loop { rec .ready none with state := .busy })) (σi.length + σc.length) (some (w.heap.size + 1)) []) ι3 S3 s1 a1
            (w1.putObj (w.heap.size + 1) (.loop { rec .ready none with state := .busy })) := ⟨hst3, hr1.ck, hr1.tsz, hr1.defers, fun t p ht => hm3 _ _ _ (hr1.temps t p ht)⟩
        refine hb1 _ _ _ _ _ hrel3 _ ?_
        rintro e ι4 S4 s4 a4 w4 hr4 ⟨rfl, s5, he5, σ6, hI6, he6⟩
        obtain ⟨ι5, S5, hr5⟩ := he5 _ _ _ _ _ hr4
        have hszb : (W.putObj (w.heap.size + 1) (.loop { rec .ready none with state := .busy })).heap.size = W.heap.size := by simp
        have hL5 : w4.heap[w.heap.size + 1]? = some (.loop { rec .ready none with state := .busy }) := (hr5.st.old (w.heap.size + 1) (by show w.heap.size + 1 < (W.putObj _ _).heap.size; rw [hszb]; exact hltW) hnM1).trans (World.putObj_heap_same hltW)
        have hD5 : w4.heap[w.heap.size]? = some (.deferred (some [])) := (hr5.st.old w.heap.size (by show w.heap.size < (W.putObj _ _).heap.size; rw [hszb]; omega) hnMD).trans ((World.putObj_heap_other (by omega)).trans hDW)
        have hlt5 : w.heap.size + 1 < w4.heap.size := (Array.getElem?_eq_some_iff.1 hL5).1
        have hend := run_endRound (P := P) none hL5
        refine ⟨_, _, hend, rfl, ?_, fun b hb => ?_, ?_⟩
        · have hck : ctx.k ≤ σi.length + σc.length := by have := hst2.klen; simpa using this
          have hnS5L : ¬ S5 (w.heap.size + 1) := fun k => by
            rcases hr5.st.Snew _ k with k1 | k1 | k1
            · exact hnS2L k1
            · exact hnM1 k1
            · have : (W.putObj (w.heap.size + 1) (.loop { rec .ready none with state := .busy })).heap.size ≤ w.heap.size + 1 := k1
              rw [hszb] at this
              omega
          have hnS5D : ¬ S5 w.heap.size := fun k => by
            rcases hr5.st.Snew _ k with k1 | k1 | k1
            · exact hnS2D k1
            · exact hnMD k1
            · have : (W.putObj (w.heap.size + 1) (.loop { rec .ready none with state := .busy })).heap.size ≤ w.heap.size := k1
              rw [hszb] at this
              omega
          have hst5 : Store ctx ι5 S5 s5.σ w4 := hst2b.back hck hr5.st
          have htmp5 : ∀ t p, look s.T t = some p → VRel s5.σ.length ι5 S5 w4 (a.tmps.getD t undef) p := fun t p ht =>
            hst2b.keeps hr5.st (Nat.le_refl _) hr5.st.klen (hm2b _ _ _ (hm0 _ _ (hr0.temps t p ht)))
          have hck5 : s.k ≤ s5.σ.length := by have h1 := hr5.st.klen; have h2 := hr0.ck; simp [Ctx.anew] at h1; simp at h2; omega
          have hst6 := hst5.begin hck5 none a.defers
          obtain ⟨ι6, S6, hr6⟩ := he6 _ _ _ _ _ (⟨hst6, rfl, hr0.tsz, rfl, htmp5⟩ : Rel (Ctx.anew ι5 S5 s5.σ w4 s.k none a.defers) ι5 S5 ⟨s.N, s.T, s5.σ, s.k⟩ a w4)
          have hst6' : Store ctx ι6 S6 σ6 w4 := hst5.back (by have := hr0.ck; simp at this; omega) hr6.st
          have hnS6 : ∀ {x}, quiet w4 x → x < w4.heap.size → ¬ S5 x → ¬ S6 x := fun hx hlt hn k => by
            rcases hr6.st.Snew _ k with k1 | k1 | k1
            · exact hn k1
            · exact hst5.notM hx k1
            · have : w4.heap.size ≤ _ := k1
              omega
          have hnS6L := hnS6 (hshL' hL5) hlt5 hnS5L
          have hnS6D := hnS6 (hshD hD5) (by omega) hnS5D
          obtain ⟨hst7, hm7⟩ := hst6'.turn (.loop (rec .ready none)) (L := w.heap.size + 1) (hshL' hL5) hnS6L (by omega)
          have erec : ({ { rec .ready none with state := .busy } with state := if (none : Option Code).isNone then .ready else .done, pending := none } : Loop) = rec .ready none := by rw [hrec]; rfl
          rw [erec]
          refine ⟨σ6, hI6, ι6, S6, ⟨hst7, hr0.ck, hr0.tsz, hr0.defers, fun t p ht => hm7 _ _ _ (hr6.temps t p ht)⟩, fun b hb => hr6.st.S0 b (hr5.st.S0 b (.inr hb)), hnS6L, hnS6D, World.putObj_heap_same hlt5, (World.putObj_heap_other (by omega)).trans hD5⟩
        · have hbl : b < W.heap.size := hst1.Slt b hb
          have hne : b ≠ w.heap.size + 1 := fun e => hnS2L (.inr (e ▸ hb))
          rw [World.putObj_heap_other hne]
          refine (hr5.st.old b (by show b < (W.putObj _ _).heap.size; rw [hszb]; exact hbl) (hold2 b hb)).trans ?_
          exact World.putObj_heap_other hne
        · have := hr5.st.size
          have h2 : (W.putObj (w.heap.size + 1) (.loop { rec .ready none with state := .busy })).heap.size ≤ w4.heap.size := this
          rw [hszb] at h2
          simpa using h2
    · -- behind the iterator
      rintro e W2 ⟨⟨v, rfl⟩, W0, K', ⟨σn, hIn, ι0, S0, hr0, hSS, hSL, hSD, hL, hD⟩, hG⟩
      have hlt0 : w.heap.size + 1 < W0.heap.size := (Array.getElem?_eq_some_iff.1 hL).1
      have hL2 : W2.heap[w.heap.size + 1]? = some (.loop (rec .ready none)) := (hG.old _ hlt0).trans hL
      have hD2 : W2.heap[w.heap.size]? = some (.deferred (some [])) := (hG.old _ (by omega)).trans hD
      have hlt2 : w.heap.size + 1 < W2.heap.size := (Array.getElem?_eq_some_iff.1 hL2).1
      refine ⟨none, _, by have := run_endLoop (P := P) hL2 (by rw [hrec]; simp); rw [hrec] at this; exact this, ?_⟩
      obtain ⟨g1, g2⟩ := hr0.st.grown hG
      obtain ⟨k1, k2⟩ := g1.turn (.loop (rec .exhausted none)) (L := w.heap.size + 1) (hshL hL2) hSL (by omega)
      have erec : rec .exhausted none = { state := .exhausted, pending := none, fn, tmps := a.tmps, params := ps, assign, body, defers := w.heap.size } := by rw [hrec]
      rw [erec] at k1 k2
      have hD3 : (W2.putObj (w.heap.size + 1) (.loop { state := .exhausted, pending := none, fn, tmps := a.tmps, params := ps, assign, body, defers := w.heap.size })).heap[w.heap.size]? = some (.deferred (some [])) := (World.putObj_heap_other (by omega)).trans hD2
      have hkk : s.k ≤ σn.length := by have h1 := k1.klen; have h2 := hr0.ck; simp at h1 h2; omega
      have hst := k1.begin hkk none (markOf w.heap.size :: a.defers)
      refine hQ .normal _ ι0 S0 ⟨s.N, s.T, σn, s.k⟩ _ _ ?_ ⟨hst, rfl, hr0.tsz, rfl, fun t p ht => k2 _ _ _ (g2 _ _ _ (hr0.temps t p ht))⟩ (h σn hIn)
      have hck := hr0.ck
      simp at hck
      refine ⟨rfl, hck.symm, fun ι S σ w' hh => k1.back (by omega) hh, fun b hb hM => ⟨k1.old b hb hM, fun ⟨i, cs, q1, q2⟩ => ?_⟩, k1.size, fun b hb hM hS hS' => ?_, [w.heap.size], by simp [Ctx.anew, hr.defers], by simp, fun D hD' => ?_⟩
      · rcases k1.live i cs b q1 q2 with q3 | q3
        · exact hM q3
        · omega
      · rcases k1.Snew b hS' with q | q | q
        · exact hS q
        · exact hM q
        · omega
      · simp at hD'; subst hD'
        exact ⟨hcs, hD3, k1.notM (hshD hD3), hSD⟩
end

theorem wpList_app {F : Fence} {n : Nat} {P : Program} {ops : Array Oper} {QQ QQ' : Exit → Act → World → Prop} {post : List Oper} (hn : ∀ a w, QQ' .normal a w → wpListIn F n P ops QQ post a w) (hQ : ∀ e a w, e ≠ .normal → QQ' e a w → QQ e a w) :
    ∀ (pre : List Oper) (a : Act) (w : World), wpListIn F n P ops QQ' pre a w → wpListIn F n P ops QQ (pre ++ post) a w
  | [], a, w, h => hn a w h
  | o :: pre, a, w, h => by
    rw [List.cons_append]
    unfold wpListIn at h ⊢
    split
    · rename_i hw
      rw [if_pos hw] at h
      exact wpIn_monoQ (fun a w hk => wpList_app hn hQ pre a w hk) hQ h
    · rename_i hw
      rw [if_neg hw] at h
      exact ⟨h.1, wpList_app hn hQ pre _ _ h.2⟩

/-- A yield in a region whose order is fixed. -/
theorem awpI_yieldC {P : Program} {s : St} {J : Nat → (Nat → Prop) → World → Prop} {items : List (List PV × List (List PV))} {l i : Nat} (hy : YieldsOk P l items J) {id : Nat} {ops : List Oper} (k : Nat) {Q : Exit → Nat → St → Prop}
    (T0 : List (Nat × PV)) {oy ox : Oper} {f : Operand} {args : Array Operand} {ts : Array TypeId} {p : PV}
    (hpre : OpsOk P ops.toArray (ops.take k) s fun s1 => s1.N = s.N ∧ Due items l i f args.toList T0 s1)
    (hQ : Q .normal (i + 1) ((St.put ⟨s.N, T0, [], 0⟩ oy.dst (.k (.bool true))).put ox.dst p))
    (hy1 : ops[k]? = some oy := by rfl) (hx1 : ops[k + 1]? = some ox := by rfl) (hlen : ops.length = k + 2 := by rfl)
    (hoy : oy.op = .call { callee := .value f, args := args, argTypes := ts } := by exact rfl) (hdy : dstOk oy.dst s.N = true := by exact rfl) (hdx : dstOk ox.dst s.N = true := by exact rfl)
    (hpost : pureVal P (St.put ⟨s.N, T0, [], 0⟩ oy.dst (.k (.bool true))) ox.op = some p := by exact rfl) (hgy : oy.guard = none := by rfl) (hgx : ox.guard = none := by rfl) : AWpI P J (.region id ops.toArray false) s i Q := by
  have hops : ops = ops.take k ++ [oy, ox] := by
    refine List.ext_getElem? fun j => ?_
    rcases Nat.lt_trichotomy j k with h | h | h
    · rw [List.getElem?_append_left (by simp; omega), List.getElem?_take_of_lt h]
    · subst h; rw [hy1, List.getElem?_append_right (by simp; omega)]; simp [hlen]
    · rcases Nat.lt_or_ge j (k + 2) with h2 | h2
      · obtain rfl : j = k + 1 := by omega
        rw [hx1, List.getElem?_append_right (by simp; omega)]; simp [hlen]
      · rw [List.getElem?_eq_none (by omega), List.getElem?_eq_none (by simp; omega)]
  intro W0 K ι S a w hJ hK hr QQ hQQ
  refine wpIn_region_lit ?_
  have h1 := hpre (cI W0 K) ι S a w hr (fun e a w => match e with | .normal => wpListIn Fence.wide 0 P ops.toArray QQ [oy, ox] a w | e => QQ e a w) ?_
  · have h2 := wpList_app (QQ := QQ) (post := [oy, ox]) (fun a w h => h) (fun e a w hne h => by cases e <;> first | exact absurd rfl hne | exact h) (ops.take k) a w h1
    rw [← hops] at h2
    exact h2
  · rintro ι1 S1 s1 a1 w1 hr1' ⟨hN1, hdue⟩
    refine wpListIn_plain hgy fun KK hKK => ?_
    refine yield_step hy hJ hK hr1' hoy hdue (by rw [hN1]; exact hdy) fun W' hJ' hS' hr2' => ?_
    rw [hN1] at hr2'
    refine hKK _ _ (wpListIn_plain hgx fun K3 hK3 => ?_)
    obtain ⟨v, hv, hvp⟩ := pure_rel hr2' hpost
    refine wpIn_val (ro := none) hv ?_
    have eN : (St.put ⟨s.N, T0, [], 0⟩ oy.dst (.k (.bool true))).N = s.N := by cases oy.dst <;> rfl
    refine hK3 _ _ (wpListIn_nil ?_)
    exact hQQ .normal (i + 1) _ W' S1 _ S1 _ _ hJ' hS' (Rel.next hr2' hr2'.st (fun _ _ h => h) (by rw [eN]; exact hdx) hvp) hQ

theorem fnc_of0 {P : Program} {f : FuncId} {fn : Func} {code : Code} {args : List PV} {σ : Boxes} {R : PV → Boxes → Prop} (hf : P.funcs[f]? = some fn) (hb : fn.body = some code)
    (h : ltS σ → AWp0 P code (entryL fn args σ) fun e s' => RetOk e ∧ FinL P fn.results.toList R s') : FnC P f args σ R := by
  intro ι S w vals hs hl hv
  refine callsIn_wide.1 (callsIn_of_wp_marks (F := Fence.wide) (n := 0) hf hb trivial ?_)
  refine h (store_ltS hs) _ _ _ _ _ rfl (entryL_rel hs hl hv) _ fun e c' ι' S' s' a' w' hlat hr' hq => ?_
  obtain ⟨he, s2, p, hent, hres, hR⟩ := hq
  obtain ⟨ι2, S2, hr2⟩ := hent _ _ _ _ _ hr'
  obtain ⟨ms, hms, hnd, hm⟩ := hlat.marks
  have hdf : a'.defers = ms.map markOf := by rw [hr2.defers, hms]; simp [cxL]
  have hst0 : Store (cxL w ι S σ) ι2 S2 s2.σ w' := hlat.st _ _ _ _ hr2.st
  have hleave : LeavesInM Fence.wide 0 P fn a'.tmps (fun e w' => ∃ v p τ ι' S', e = .returned v ∧ R p τ ∧ Store (cxL w ι S σ) ι' S' τ w' ∧ VRel τ.length ι' S' w' v p) a'.defers .returning w' := by
    rw [hdf]
    refine leaves_marks (cxL w ι S σ) ι2 S2 s2.σ ms w' hst0 hnd (fun D hD => ?_) fun w2 hw2 hv2 => ?_
    · obtain ⟨g1, g2, g3, g4⟩ := hm D hD
      have hDlt := (Array.getElem?_eq_some_iff.1 g2).1
      refine ⟨(hr2.st.old D hDlt g3).trans g2, g1, fun hS => ?_⟩
      rcases hr2.st.Snew D hS with k1 | k1 | k1
      · exact g4 k1
      · exact g3 k1
      · omega
    · have hr3 : Rel (cxL w ι S σ) ι2 S2 s2 { a' with defers := [] } w2 := ⟨hw2, hlat.k.symm.trans hr2.ck, hr2.tsz, rfl, fun t p ht => hv2 _ _ _ (hr2.temps t p ht)⟩
      obtain ⟨v, hrun, hvp⟩ := run_results (fn := fn) hr3 hres
      exact ⟨v, hrun, v, p, s2.σ, ι2, S2, rfl, hR, hw2, hvp⟩
  cases e with
  | normal => exact hleave
  | ret => exact hleave
  | _ => exact he.elim
theorem fnl_of0 {P : Program} {f : FuncId} {fn : Func} {code : Code} {args : List PV} {σ : Boxes} {R : PV → Boxes → Prop} (hf : P.funcs[f]? = some fn) (hb : fn.body = some code)
    (h : ltS σ → AWp0 P code (entryL fn args σ) fun e s' => RetOk e ∧ FinL P fn.results.toList R s') : FnL P f args σ R := fnl_calls fun _ => fnc_of0 hf hb h
end Go.Proofs.Ytidhdlhblhbahaa.Am
/- Copies of slices that lie in boxes; column.Store.All. -/
namespace Go.Proofs.Ytidhdlhblhbahaa.Am
open Go Go.RowKit

theorem CloneI_box (l : List Int) (hl : l.length ≤ 1000000) : FnD Try.prog 24 [.osl 0 1 0 l.length] [l.map kI] (slI l) [some (l.map kI)] := by
  refine fnd_go Try.func24 rfl ?_
  simp [Try.ntmps24]
  refine calNil (neq := false) (fun b hb => ?_) (hp := rfl)
  cases b with
  | true =>
    have : l = [] := by
      cases l with
      | nil => rfl
      | cons x r => exact absurd (hb (by simp)) (by simp)
    subst this
    simp
    exact finG_ent (ent_nilsl (t := 2) (z := 1) rfl) (finGm [0] (hres := by simp [slI_def]))
  | false =>
    have h1 : l.length * 8 ≤ 140737488355328 := by omega
    have h2 : l.length ≤ maxLen := by simp only [maxLen]; omega
    have h3 : (l.map kI).take l.length = l.map kI := List.take_of_length_le (by simp)
    simp [h1, h2, h3, -List.map_take]
    refine finG_fz 2 (l.map kI) ?_
    simp
    exact finGm [0] (hres := by simp [slI_def, chunks_ints])
theorem CloneEnt_box (l : List GEnt) (hl : l.length ≤ 1000000) : FnD Try.prog 59 [.osl 0 2 0 l.length] [(l.map GEnt.e).flatten] (.sl 2 (l.map GEnt.e)) [some (l.map GEnt.e).flatten] := by
  refine fnd_go Try.func59 rfl ?_
  simp [Try.ntmps59]
  refine calNil (neq := false) (fun b hb => ?_) (hp := rfl)
  cases b with
  | true =>
    have : l = [] := by
      cases l with
      | nil => rfl
      | cons x r => exact absurd (hb (by simp)) (by simp)
    subst this
    simp
    exact finG_ent (ent_nilsl (t := 2) (z := 2) rfl) (finGm [0])
  | false =>
    have h1 : l.length * 16 ≤ 140737488355328 := by omega
    have h2 : l.length ≤ maxLen := by simp only [maxLen]; omega
    have hel : (l.map GEnt.e).flatten.length = l.length * 2 := flat_lenE GEnt.e_len l
    have h3 : (l.map GEnt.e).flatten.take (l.length * 2) = (l.map GEnt.e).flatten := List.take_of_length_le (by omega)
    simp [h1, h2, hel, h3]
    refine finG_fz 2 (l.map GEnt.e).flatten ?_
    simp
    exact finGm [0]

set_option maxRecDepth 20000 in
set_option maxHeartbeats 1000000 in
theorem AllE_fn (es : List GEnt) (rows ks is : List Int) (hl : es.length = rows.length) (hl2 : rows.length ≤ 1000000) :
    FnD Try.prog 30 [.ptr 0 0] [[.osl 1 2 0 es.length, .osl 2 1 0 rows.length, .mref 3], (es.map GEnt.e).flatten, rows.map kI, [.tup (ks.map kI), .tup (is.map kI)]]
      (.clo (.func 60) [.eptr [slI rows], .eptr [.sl 2 (es.map GEnt.e)]])
      [some [.osl 1 2 0 es.length, .osl 2 1 0 rows.length, .mref 3], some (es.map GEnt.e).flatten, some (rows.map kI), some [.tup (ks.map kI), .tup (is.map kI)]] := by
  refine fnd_go Try.func30 rfl ?_
  simp [Try.ntmps30]
  refine awp_drawS follows_mix [(0, 0), (0, 0), (0, 0), (0, 0), (3, 0), (0, 0), (0, 0), (0, 0), (0, 0), (3, 0), (4, 4), (4, 5), (1, 0), (1, 0)] 4 6 [(0, 10), (0, 11), (1, 10), (1, 11), (2, 10), (2, 11), (3, 10), (3, 11), (4, 5), (4, 6), (4, 7), (4, 8), (4, 10), (4, 11), (5, 10), (5, 11), (6, 10), (6, 11), (7, 10), (7, 11), (8, 10), (8, 11), (9, 10), (9, 11), (10, 11)] (by kernel_rfl) rfl rfl ?_
  simp
  refine gE_callW (slI rows) [2] [] rfl (fun y => ?_) ?_
  · simp
    exact doD [2] (CloneI_box rows hl2) (hren := by simp) (hbox := by simp) (h2 := by simp [List.range, List.range.loop])
  simp
  refine gE_callW (.sl 2 (es.map GEnt.e)) [1] [] rfl (fun y => ?_) ?_
  · simp
    exact doD [1] (CloneEnt_box es (by omega)) (hren := by simp) (hbox := by simp) (h2 := by simp [List.range, List.range.loop])
  simp
  refine finG_fz 4 [slI rows] ?_
  simp
  refine finG_fz 5 [.sl 2 (es.map GEnt.e)] ?_
  simp
  exact finGm [0, 1, 2, 3]

theorem boxesExt {σ τ : Boxes} (hl : σ.length = τ.length) (h : ∀ i, i < σ.length → box σ i = box τ i) : σ = τ := by
  refine List.ext_getElem hl fun i h1 h2 => ?_
  have := h i h1
  unfold box at this
  rw [List.getElem?_eq_getElem h1, List.getElem?_eq_getElem h2] at this
  simpa using this
theorem merge_idem {σ : Boxes} {th : List Nat} {σc : List (List PV)} (hnd : th.Nodup) (hl : th.length = σc.length) (hlt : ∀ t ∈ th, t < σ.length) (hbox : hboxL σ (thF th σ.length) th.length th σc) : merge σ th (σc.map some) = σ := by
  have hm := boxM (σ := σ) (σ' := σc.map some) hnd hlt (by simp [hl])
  refine boxesExt (by rw [mergeM_len]; simp [hl]) fun i hi => ?_
  rw [mergeM_len] at hi
  simp only [List.length_map, hl, Nat.sub_self, Nat.add_zero] at hi
  by_cases h : i ∈ th
  · obtain ⟨j, hj, rfl⟩ := List.getElem_of_mem h
    have hjt : th[j]? = some th[j] := List.getElem?_eq_getElem hj
    have hjc : σc[j]? = some (σc[j]'(by omega)) := List.getElem?_eq_getElem (by omega)
    rw [(hm _).1 j hjt, (hboxL_spec hbox j _ _ hjt hjc).1, box_some.2 hjc]; rfl
  · exact (hm i).2.1 h hi
theorem fnl_same {P : Program} {g : FuncId} {args args' : List PV} {σc : List (List PV)} {r r2 : PV} {σ : Boxes} (th : List Nat) (hc : FnD P g args' σc r (σc.map some)) (hargs : args = renL (thF th σ.length) args' := by simp) (hr2 : r.ren (thF th σ.length) = r2 := by first | exact rfl | simp)
    (hl : th.length = σc.length := by first | exact rfl | simp) (hnd : th.Nodup := by simp) (hlt : ltL th.length args' = true := by simp) (hbox : hboxL σ (thF th σ.length) th.length th σc := by simp) : FnL P g args σ (fun p τ => p = r2 ∧ τ = σ) := by
  have hm := merge_idem hnd hl (fun t ht => by
    obtain ⟨j, hj, rfl⟩ := List.getElem_of_mem ht
    exact box_lt (hboxL_spec hbox j _ (σc[j]'(by omega)) (List.getElem?_eq_getElem hj) (List.getElem?_eq_getElem (by omega))).1) hbox
  have := fnl_fnd th hc hargs hr2 hl hnd hlt hbox
  rw [hm] at this
  exact this

theorem cloneI_L {σ : Boxes} {b : Nat} {l : List Int} (h : box σ b = some (l.map kI)) (hl : l.length ≤ 1000000) : FnL Try.prog 24 [.osl b 1 0 l.length] σ (fun p τ => p = slI l ∧ τ = σ) :=
  fnl_same (σ := σ) [b] (CloneI_box l hl) (by simp [thF]) (by simp [PV.ren, slI_def]) rfl (by simp) (by simp) ⟨⟨by rw [h]; simp, by simp⟩, trivial⟩
theorem allE_L {σ : Boxes} {g : Tag} {o : Nat × Nat} {s : Nat} {es : List GEnt} {rows : List Int} (hS : StoreAt σ g o s 2 (es.map GEnt.e).flatten rows) (hl : es.length = rows.length) (hl2 : rows.length ≤ 1000000) :
    FnL Try.prog 30 [.ptr s 0] σ (fun p τ => p = .clo (.func 60) [.eptr [slI rows], .eptr [.sl 2 (es.map GEnt.e)]] ∧ τ = σ) := by
  obtain ⟨⟨v, r, m, ks, h1, h2, h3, h4, h5, h6, g1, g2, g3, g4⟩, h7, h8⟩ := hS
  have hsv : s ≠ v := fun e => by rw [e, g2] at g1; simp at g1
  have hsr : s ≠ r := fun e => by rw [e, g3] at g1; simp at g1
  have hsm : s ≠ m := fun e => by rw [e, g4] at g1; simp at g1
  have hvr : v ≠ r := fun e => by rw [e, g3] at g2; simp at g2
  have hvm : v ≠ m := fun e => by rw [e, g4] at g2; simp at g2
  have hrm : r ≠ m := fun e => by rw [e, g4] at g3; simp at g3
  have hnd : [s, v, r, m].Nodup := by simp [hsv, hsr, hsm, hvr, hvm, hrm]
  have t0 : thF [s, v, r, m] σ.length 0 = s := by simp [thF]
  have t1 : thF [s, v, r, m] σ.length 1 = v := by simp [thF]
  have t2 : thF [s, v, r, m] σ.length 2 = r := by simp [thF]
  have t3 : thF [s, v, r, m] σ.length 3 = m := by simp [thF]
  refine fnl_same (σ := σ) [s, v, r, m] (AllE_fn es rows ks (ks.map (idxI rows)) hl hl2) (by simp [t0]) (by simp [PV.ren, renL, slI_def]) rfl hnd (by simp) ⟨⟨by rw [h1, hl]; simp [t1, t2, t3], by simp⟩, ⟨by rw [h2, imms_ren h8], imms_lt h8 _⟩, ⟨by rw [h3]; simp, by simp⟩, ⟨by rw [h4]; simp only [renL, PV.ren, ints_ren], by simp only [ltL, PV.lt, ints_lt]; rfl⟩, trivial⟩

/-- A row as the iterator hands it over. -/
def yEnt (e : GEnt) : List PV × List (List PV) := ([kI e.N, .agg e.e], [])
set_option maxRecDepth 20000 in
theorem AllE1_seq (es : List GEnt) (hl : es.length ≤ 1000000) :
    SeqOk Try.prog 60 [.eptr [slI (es.map GEnt.N)], .eptr [.sl 2 (es.map GEnt.e)]] (es.map yEnt) := by
  obtain ⟨rows, hr⟩ : ∃ rows, es.map GEnt.N = rows := ⟨_, rfl⟩
  have hrl : rows.length = es.length := by rw [← hr]; simp
  rw [hr]
  refine seqOk_of Try.func60 rfl rfl ?_
  intro l J hy
  refine awpI_seq (awpI_of (awp_go ?_))
  simp [Try.ntmps60, thenI, hrl]
  refine awpI_block (awpI_loop (fun i => ⟨22, [(0, .k (.func (.yield l) #[] #[])), (2, .eptr [.sl 2 (es.map GEnt.e)]), (6, slI rows), (7, kI es.length), (8, kI i)], [], 0⟩) (fun i => i ≤ es.length) (fun i => es.length - i) (entm []) (by omega) ?_)
  intro i hi
  refine awpI_seq (awpI_of (awp_go ?_))
  by_cases hlt : i < es.length
  · have hlr : i < rows.length := by omega
    obtain ⟨x, hx⟩ : ∃ x, es[i] = x := ⟨_, rfl⟩
    have hxr : rows[i] = x.N := by simp [← hr, hx]
    simp [hlt, thenI]
    refine awpI_seq (awpI_of (awp_go ?_))
    simp [thenI]
    refine awpI_seq (awpI_block (awpI_seq (awpI_of (awp_go ?_))))
    simp [hlt, hlr, hx, hxr, thenI]
    refine awpI_seq (awpI_yieldC hy 6 [(0, .k (.func (.yield l) #[] #[])), (2, .eptr [.sl 2 (es.map GEnt.e)]), (6, slI rows), (7, kI es.length), (8, kI i)] ?_ ?_)
    · simp only [List.take_succ_cons, List.take_zero]
      refine ops_goH ?_
      simp [hlt, hx]
      exact ⟨rfl, ⟨_, [kI x.N, .agg x.e], [], [], rfl, by simp [hlt, hx, yEnt], rfl, List.nodup_nil, by simp, by simp, fun _ _ _ h => by simp at h⟩, keepB_T (by simp [keepB])⟩
    · simp only [thenI]
      refine awpI_of (awp_go ?_)
      simp [inBlockI, thenI]
      refine awpI_of (awp_go ?_)
      simp [thenI]
      rw [wrap_id (by omega) (by omega)]
      exact ⟨by omega, by omega, entm []⟩
  · simp [hlt, thenI]
    refine awpI_seq (awpI_of (awp_go ?_))
    simp [inBlockI, thenI]
    omega
end Go.Proofs.Ytidhdlhblhbahaa.Am
/- Regions in which calls look at boxes. -/
namespace Go.Proofs.Ytidhdlhblhbahaa.Am
open Go Go.RowKit

/-- A call that changes no box: so it is, whenever its turn may come. -/
def CallR (P : Program) (ops : Array Oper) (o : Oper) (N k : Nat) (T : List (Nat × PV)) (σs : List Boxes) (p : PV) : List Nat → Prop
  | [] => True
  | m :: ms => StepD P ops o ⟨N, T, σs.getD m [], k⟩ (σs.getD m []) p ∧ CallR P ops o N k T σs p ms
theorem callR_spec {P : Program} {ops : Array Oper} {o : Oper} {N k : Nat} {T : List (Nat × PV)} {σs : List Boxes} {p : PV} : ∀ {ms : List Nat}, CallR P ops o N k T σs p ms → ∀ m ∈ ms, StepD P ops o ⟨N, T, σs.getD m [], k⟩ (σs.getD m []) p
  | [], _, m, hm => by simp at hm
  | m' :: ms, h, m, hm => by
    rcases List.mem_cons.1 hm with rfl | hm
    · exact h.1
    · exact callR_spec h.2 m hm
theorem callR_ok {P : Program} {ops : Array Oper} {o : Oper} {N k : Nat} {T : List (Nat × PV)} {σs : List Boxes} {p : PV} (h : CallOk P ops o N k T p) : ∀ {ms : List Nat}, CallR P ops o N k T σs p ms
  | [] => trivial
  | m :: ms => ⟨h _, callR_ok h⟩
def chkR (P : Program) (ops : Array Oper) (N k : Nat) (T : List (Nat × PV)) (σs : List Boxes) : List Oper → List (Nat × List Nat) → List PV → Prop
  | o :: l, (cls, ms) :: rg, p :: ps => (if cls = 2 then CallR P ops o N k (seen ops o T) σs p ms else if cls = 3 then CallW P ops o N k (seen ops o T) σs p ms else chkM P ops o N k (seen ops o T) σs cls p ms) ∧ chkR P ops N k T σs l rg ps
  | [], _, [] => True
  | _, _, _ => False

theorem chkR_spec {P : Program} {ops : Array Oper} {N k : Nat} {T : List (Nat × PV)} {σs : List Boxes} : ∀ {l : List Oper} {rg : List (Nat × List Nat)} {ps : List PV}, chkR P ops N k T σs l rg ps →
    ps.length = l.length ∧ ∀ (i : Nat) (o : Oper) (p : PV) (cls : Nat) (ms : List Nat), l[i]? = some o → ps[i]? = some p → rg[i]? = some (cls, ms) → ∀ m ∈ ms,
      StepD P ops o ⟨N, seen ops o T, σs.getD m [], k⟩ (σs.getD (m + wrN cls) []) p
  | [], rg, [], _ => ⟨rfl, fun i o p cls ms h => by simp at h⟩
  | [], rg, _ :: _, h => by unfold chkR at h; exact h.elim
  | _ :: _, [], _, h => by unfold chkR at h; exact h.elim
  | _ :: _, _ :: _, [], h => by unfold chkR at h; exact h.elim
  | o :: l, (cls, ms) :: rg, p :: ps, h => by
    unfold chkR at h
    obtain ⟨h1, h2⟩ := h
    obtain ⟨h3, h4⟩ := chkR_spec h2
    refine ⟨by simp [h3], fun i o' p' cls' ms' ho hp hr m hm => ?_⟩
    cases i with
    | zero =>
      simp only [List.getElem?_cons_zero, Option.some.injEq, Prod.mk.injEq] at ho hp hr
      subst ho hp
      obtain ⟨rfl, rfl⟩ := hr
      split at h1
      · rename_i e; subst e
        exact callR_spec h1 m hm
      · split at h1
        · rename_i e; subst e
          exact callW_spec h1 m hm
        · exact chkM_spec h1 m hm
    | succ i => exact h4 i o' p' cls' ms' (by simpa using ho) (by simpa using hp) (by simpa using hr) m hm

theorem draw_DR {P : Program} {l : List Oper} {s : St} {Q : St → Prop} (pc wc : List Nat) (rg : List (Nat × List Nat)) (W : Nat) (hp : planWX pc wc l = some (rg, W))
    (hdst : l.all (fun o => dstOk o.dst s.N) = true)
    (h : @gD s [] [s.σ] ⟨P, l.toArray, l, rg, fun s' ps σs => (chkR P l.toArray s.N s.k s'.T σs l rg ps ∧ σs.getD 0 [] = s.σ ∧ s'.σ = σs.getD W []) ∧ Q s'⟩) : DrawW P l s Q := by
  simp only [planWX, Option.map_eq_some_iff, Prod.mk.injEq] at hp
  obtain ⟨rg', hplan, rfl, rfl⟩ := hp
  unfold planX at hplan
  split at hplan
  · rename_i hok2
    obtain ⟨hok, hrd⟩ := hok2
    obtain ⟨ps, σs, s', ⟨⟨hchk, hσ0, hσ⟩, hQ⟩, hN, hk, hT⟩ := goD_spec 0 rfl rfl h
    rw [List.nil_append] at hchk
    replace hT : s'.T = TA (fun _ => true) 0 l ps s.T := hT
    obtain ⟨hlen, hall⟩ := chkR_spec hchk
    refine draw_TX (pc := pc) (wc := wc) (ps := ps) (σs := fun m => σs.getD m []) hok hrd hσ0 hlen (fun o ho => List.all_eq_true.1 hdst o ho) (fun i o p ho hp m hlo hhi => ?_) ?_
    · refine ⟨seen l.toArray o s'.T, fun t q hq => ?_, ?_⟩
      · obtain ⟨h1, h2⟩ := look_seen hq
        exact ⟨h1, by rw [← hT]; exact h2⟩
      · have hil := (List.getElem?_eq_some_iff.1 ho).1
        simp only [Option.some.injEq] at hplan
        have hrg : rg'[i]? = some (clsX pc wc l i, (List.range (hiX pc wc l (clos l []) i + 1)).filter (loX pc wc l (clos l []) i ≤ ·)) := by
          rw [← hplan]
          simp [hil]
        have := hall i o p _ _ ho hp hrg m (by simp; omega)
        have hw : wrN (clsX pc wc l i) = if wrX pc wc l i = true then 1 else 0 := by
          have h3 : clsOf o.op ≠ 3 := clsOf_ne o.op
          by_cases hpc : i ∈ pc
          · simp [clsX, wrX, hpc, wrN]
          · by_cases hc : i ∈ wc
            · simp [clsX, wrX, wrN, clsAt, wrAt, ho, hpc, hc]
            · simp [clsX, wrX, wrN, clsAt, wrAt, ho, hpc, hc, h3]
        rw [← hw]; exact this
    · have : (⟨s.N, TA (fun _ => true) 0 l ps s.T, σs.getD ((List.range l.length).countP (wrX pc wc l)) [], s.k⟩ : St) = s' := by
        rw [← hT, ← hσ, ← hN, ← hk]
      rw [this]; exact hQ
  · simp at hplan

theorem awp_drawR {P : Program} (hm : P.follows .mixedOrders = true) {id : Nat} {l : List Oper} {s : St} {Q : Exit → St → Prop} (pc wc : List Nat) (rg : List (Nat × List Nat)) (W : Nat) (hp : planWX pc wc l = some (rg, W))
    (hdst : l.all (fun o => dstOk o.dst s.N) = true)
    (h : @gD s [] [s.σ] ⟨P, l.toArray, l, rg, fun s' ps σs => (chkR P l.toArray s.N s.k s'.T σs l rg ps ∧ σs.getD 0 [] = s.σ ∧ s'.σ = σs.getD W []) ∧ Q .normal s'⟩) : AWp P (.region id l.toArray true) s Q :=
  awp_of_draw hm (draw_DR pc wc rg W hp hdst h)
theorem draw_DLR {P : Program} {l : List Oper} {o : Oper} {s : St} {Q : St → Prop} (pc wc : List Nat) (rg : List (Nat × List Nat)) (W : Nat) (hp : planWL pc wc l = some (rg, W)) (ho : lastO l = some o)
    (hdst : l.all (fun o => dstOk o.dst s.N) = true)
    (h : @gD s [] [s.σ] ⟨P, l.toArray, initO l, rg, fun s' ps σs => (chkR P l.toArray s.N s.k s'.T σs (initO l) rg ps ∧ σs.getD 0 [] = s.σ ∧ s'.σ = σs.getD W []) ∧ LastOk P l.toArray o s' Q⟩) : DrawW P l s Q := by
  unfold planWL at hp
  split at hp
  · rename_i hL
    obtain ⟨hwl, hall0⟩ := hL
    simp only [planWX, Option.map_eq_some_iff, Prod.mk.injEq] at hp
    obtain ⟨x, ⟨rg', hplan, hx⟩, h1, h2⟩ := hp
    subst hx
    simp only at h1 h2
    subst h1 h2
    have hl := initO_spec l o ho
    have hlen1 : l.length = (initO l).length + 1 := by have := congrArg List.length hl; simpa using this
    have hn : l.length - 1 = (initO l).length := by omega
    unfold planX at hplan
    split at hplan
    · rename_i hok2
      obtain ⟨hok, hrd⟩ := hok2
      obtain ⟨ps, σs, s', ⟨⟨hchk, hσ0, hσ⟩, hQ⟩, hN, hk, hT⟩ := goD_spec 0 rfl rfl h
      rw [List.nil_append] at hchk
      replace hT : s'.T = TA (fun _ => true) 0 (initO l) ps s.T := hT
      obtain ⟨hlen, hall⟩ := chkR_spec hchk
      have hT2 : s'.T = TA (fun _ => true) 0 l ps s.T := by
        have := TA_init (A := fun _ => true) (initO l) o ps 0 s.T (by omega)
        rw [← hl] at this
        rw [hT, this]
      have hget : ∀ i, i < (initO l).length → l[i]? = (initO l)[i]? := fun i hi => by
        have := List.getElem?_append_left (l₂ := [o]) hi
        rw [← hl] at this
        exact this
      refine draw_TL (pc := pc) (wc := wc) (R := clos l []) (ps := ps) (σs := fun m => σs.getD m []) hok hrd hσ0 hlen1 hlen (fun j hj => ?_) (by rw [← hn]; exact hwl) (fun o ho => List.all_eq_true.1 hdst o ho) (fun i o p hi ho hp m hlo hhi => ?_) (fun o' ho' => ?_)
      · rw [hn] at hall0
        have := List.all_eq_true.1 hall0 j (by simpa using hj)
        simpa using this
      · refine ⟨seen l.toArray o s'.T, fun t q hq => ?_, ?_⟩
        · obtain ⟨h1, h2⟩ := look_seen hq
          exact ⟨h1, by rw [← hT2]; exact h2⟩
        · have hil := (List.getElem?_eq_some_iff.1 ho).1
          simp only [Option.some.injEq] at hplan
          have hrg : (rg'.take (l.length - 1))[i]? = some (clsX pc wc l i, (List.range (hiX pc wc l (clos l []) i + 1)).filter (loX pc wc l (clos l []) i ≤ ·)) := by
            rw [List.getElem?_take_of_lt (by omega), ← hplan]
            simp [hil]
          have := hall i o p _ _ (by rw [← hget i hi]; exact ho) hp hrg m (by simp; omega)
          have hw : wrN (clsX pc wc l i) = if wrX pc wc l i = true then 1 else 0 := by
            have h3 : clsOf o.op ≠ 3 := clsOf_ne o.op
            by_cases hpc : i ∈ pc
            · simp [clsX, wrX, hpc, wrN]
            · by_cases hc : i ∈ wc
              · simp [clsX, wrX, wrN, clsAt, wrAt, ho, hpc, hc]
              · simp [clsX, wrX, wrN, clsAt, wrAt, ho, hpc, hc, h3]
          rw [← hw]; exact this
      · have hoo : o' = o := by
          have h1 : (initO l ++ [o])[(initO l).length]? = some o := by simp
          rw [← hl, ho'] at h1
          simpa using h1
        subst hoo
        have : (⟨s.N, TA (fun _ => true) 0 l ps s.T, σs.getD ((List.range l.length).countP (wrX pc wc l)) [], s.k⟩ : St) = s' := by
          rw [← hT2, ← hσ, ← hN, ← hk]
        rw [this]; exact hQ
    · simp at hplan
  · simp at hp

/-- A region whose last operation comes last in any order, and may do what it likes. -/
theorem awp_drawLR {P : Program} (hm : P.follows .mixedOrders = true) {id : Nat} {l : List Oper} {o : Oper} {s : St} {Q : Exit → St → Prop} (pc wc : List Nat) (rg : List (Nat × List Nat)) (W : Nat) (hp : planWL pc wc l = some (rg, W)) (ho : lastO l = some o)
    (hdst : l.all (fun o => dstOk o.dst s.N) = true)
    (h : @gD s [] [s.σ] ⟨P, l.toArray, initO l, rg, fun s' ps σs => (chkR P l.toArray s.N s.k s'.T σs (initO l) rg ps ∧ σs.getD 0 [] = s.σ ∧ s'.σ = σs.getD W []) ∧ LastOk P l.toArray o s' (Q .normal)⟩) : AWp P (.region id l.toArray true) s Q :=
  awp_of_draw hm (draw_DLR pc wc rg W hp ho hdst h)
attribute [simp] chkR
end Go.Proofs.Ytidhdlhblhbahaa.Am
/- The library's sort of items by a comparison, up to twelve of them. -/
namespace Go.Proofs.Ytidhdlhblhbahaa.Am
open Go Go.RowKit

set_option maxHeartbeats 1000000 in
set_option maxRecDepth 20000 in
theorem insIt_fn (l : List GItem) (fn : FuncId) (c : GItem → GItem → Int) (hl : l.length ≤ 12) (he : enterable Try.prog fn = true) (hf : ∀ x y, Fn Try.prog fn [.agg (GItem.e x), .agg (GItem.e y)] (kI (c x y))) :
    FnD Try.prog 83 [.osl 0 3 0 l.length, kI 0, kI l.length, .clo (.func fn) []] [(l.map GItem.e).flatten] (.tup []) [some ((insSort c l).map GItem.e).flatten] := by
  obtain ⟨n, hn⟩ : ∃ n, l.length = n := ⟨_, rfl⟩
  obtain ⟨R, hR⟩ : ∃ R, insSort c l = R := ⟨_, rfl⟩
  rw [hn] at hl ⊢
  rw [hR]
  refine fnd_go Try.func83 rfl ?_
  simp [Try.ntmps83]
  refine awp_loop (fun x : Nat × List GItem => ⟨53, [(0, .osl 0 3 0 n), (1, kI 0), (2, kI n), (3, .clo (.func fn) []), (8, kI x.1)], [some (x.2.map GItem.e).flatten], 1⟩)
    (fun x => 1 ≤ x.1 ∧ x.1 ≤ n + 1 ∧ x.2.length = n ∧ insOut c (n - x.1) x.1 x.2 = R) (fun x => n + 1 - x.1) (1, l) ?_ ?_ ?_
  · exact entm [0]
  · exact ⟨Nat.le_refl _, by omega, hn, by rw [← hR, insSort, hn]⟩
  · rintro ⟨i, L⟩ ⟨hi1, hi, hL, hrun⟩
    simp only at hi1 hi hL hrun
    refine awp_go ?_
    by_cases hlt : i < n
    · rw [show n - i = (n - (i + 1)) + 1 by omega, insOut] at hrun
      simp [hlt]
      refine awp_loop (fun x : Nat × List GItem => ⟨53, [(0, .osl 0 3 0 n), (1, kI 0), (2, kI n), (3, .clo (.func fn) []), (8, kI i), (9, kI x.1)], [some (x.2.map GItem.e).flatten], 1⟩)
        (fun x => x.1 ≤ i ∧ x.2.length = n ∧ insIn c x.1 x.2 = insIn c i L) (fun x => x.1) (i, L) ?_ ?_ ?_
      · exact entm [0]
      · exact ⟨Nat.le_refl _, hL, rfl⟩
      · rintro ⟨j, M⟩ ⟨hj, hM, hin⟩
        simp only at hj hM hin
        refine awp_go ?_
        cases j with
        | zero =>
          simp
          refine awp_draw follows_mix [] [(0, [0]), (0, [0]), (0, [0]), (0, [0]), (0, [0]), (0, [0]), (0, [0]), (0, [0]), (0, [0]), (0, [0]), (0, [0]), (0, [0]), (0, [0]), (0, [0]), (2, [0]), (0, [0]), (0, [0])] 0 (by kernel_rfl) rfl ?_
          simp
          refine ⟨calSkp, ?_⟩
          rw [wrap_id (by omega) (by omega)]
          have hM2 : M = insIn c i L := hin
          subst hM2
          exact ⟨i + 1, insIn c i L, ⟨by omega, by omega, hM, hrun⟩, by omega, entm [0]⟩
        | succ j =>
          have h1 : j < M.length := by omega
          have h2 : j + 1 < M.length := by omega
          have h3 : j + 1 < n := by omega
          have h4 : j < n := by omega
          rw [insIn, List.getElem?_eq_getElem h1, List.getElem?_eq_getElem h2] at hin
          simp only at hin
          have g1 : (j + 1) * 3 + 3 ≤ M.length * 3 := by omega
          have g2 : j * 3 + 3 ≤ M.length * 3 := by omega
          have w1 : (((j + 1 : Nat) : Int) - 1) = (j : Int) := by omega
          have w2 : ((j : Int) + 1 - 1) = (j : Int) := by omega
          have w3 : (0 : Int) < (j : Int) + 1 := by omega
          have w4 : ((j : Int) + 1).toNat = j + 1 := by omega
          have w5 : (0 : Int) ≤ (j : Int) + 1 := by omega
          simp
          refine awp_draw follows_mix [] [(0, [0]), (0, [0]), (0, [0]), (0, [0]), (0, [0]), (0, [0]), (0, [0]), (0, [0]), (0, [0]), (0, [0]), (0, [0]), (0, [0]), (0, [0]), (0, [0]), (2, [0]), (0, [0]), (0, [0])] 0 (by kernel_rfl) rfl ?_
          have w6 : (j : Int) + 1 < (n : Int) := by omega
          have e1 : (M[j + 1]? : Option GItem) = some M[j + 1] := List.getElem?_eq_getElem h2
          simp [w1, w2, w3, w4, w5, w6, h1, h2, h3, h4, g1, g2]
          rw [wrap_id (by omega) (by omega)]
          simp [w1, w2, w3, w4, w5, w6, h1, h2, h3, h4, g1, g2]
          refine gD_call (kI (c M[j + 1] M[j])) ?_
          simp [w1, w2, w3, w4, w5, w6, h1, h2, h3, h4, g1, g2]
          refine ⟨⟨wrap_id (by omega) (by omega), calO (hf M[j + 1] M[j]) (he := he)⟩, ?_⟩
          by_cases hlt2 : c M[j + 1] M[j] < 0
          · rw [if_pos hlt2] at hin
            have r1 := row_set (e := GItem.e) (z := 3) (fun _ => rfl) M (j + 1) M[j] h2
            obtain ⟨M1, hM1⟩ : ∃ M1, M.set (j + 1) M[j] = M1 := ⟨_, rfl⟩
            have hM1l : M1.length = M.length := by rw [← hM1]; simp
            have r2 := row_set (e := GItem.e) (z := 3) (fun _ => rfl) M1 j M[j + 1] (by omega)
            obtain ⟨M2, hM2⟩ : ∃ M2, M1.set j M[j + 1] = M2 := ⟨_, rfl⟩
            rw [hM1] at r1 hin
            rw [hM2] at r2 hin
            have g3 : j * 3 + 3 ≤ M1.length * 3 := by omega
            simp [hlt2]
            refine awp_draw follows_mix [] [(0, [0]), (0, [0]), (0, [0, 1]), (0, [0, 1]), (0, [0, 1]), (0, [0]), (0, [0]), (0, [0]), (0, [0]), (0, [0]), (0, [0]), (0, [0]), (0, [0]), (0, [0]), (0, [0]), (1, [0]), (0, [1]), (1, [1])] 2 (by kernel_rfl) rfl ?_
            simp [w1, w2, w3, w4, w5, w6, h1, h2, h3, h4, g1, g2]
            rw [wrap_id (by omega) (by omega)]
            simp [w1, w2, w3, w4, w5, w6, h1, h2, h3, h4, g1, g2, g3, r1, r2]
            have hM2l : M2.length = n := by rw [← hM2]; simp [hM1l, hM]
            rw [wrap_id (by omega) (by omega)]
            exact ⟨rfl, j, M2, ⟨by omega, hM2l, hin⟩, by omega, entm [0]⟩
          · rw [if_neg hlt2] at hin
            simp [hlt2]
            rw [wrap_id (by omega) (by omega)]
            rw [← hin] at hrun
            exact ⟨i + 1, M, ⟨by omega, by omega, hM, hrun⟩, by omega, entm [0]⟩
    · simp [hlt]
      have hR2 : L = R := by
        rw [← hrun, show n - i = 0 by omega]; rfl
      subst hR2
      exact finGm [0]

set_option maxHeartbeats 1000000 in
set_option maxRecDepth 20000 in
theorem pdqIt_fn (l : List GItem) (r : Int) (fn : FuncId) (c : GItem → GItem → Int) (hl : l.length ≤ 12) (he : enterable Try.prog fn = true) (hf : ∀ x y, Fn Try.prog fn [.agg (GItem.e x), .agg (GItem.e y)] (kI (c x y))) :
    FnD Try.prog 62 [.osl 0 3 0 l.length, kI 0, kI l.length, kI r, .clo (.func fn) []] [(l.map GItem.e).flatten] (.tup []) [some ((insSort c l).map GItem.e).flatten] := by
  refine fnd_go Try.func62 rfl ?_
  simp [Try.ntmps62]
  refine awp_loop (fun _ : Unit => ⟨148, [(0, .osl 0 3 0 l.length), (1, kI 0), (2, kI l.length), (3, kI r), (4, .clo (.func fn) [])], [some (l.map GItem.e).flatten], 1⟩) (fun _ => True) (fun _ => 0) () ?_ trivial ?_
  · exact entm [0]
  · rintro ⟨⟩ _
    refine awp_go ?_
    have h12 : (l.length : Int) ≤ 12 := by omega
    simp
    rw [wrap_id (by omega) (by omega)]
    simp [h12]
    refine calD [0] (insIt_fn l fn c hl he hf) ?_
    simp
    obtain ⟨R, hR⟩ : ∃ R, insSort c l = R := ⟨_, rfl⟩
    rw [hR]
    exact finGm [0]
theorem SortIt_fn (l : List GItem) (fn : FuncId) (c : GItem → GItem → Int) (hl : l.length ≤ 12) (he : enterable Try.prog fn = true) (hf : ∀ x y, Fn Try.prog fn [.agg (GItem.e x), .agg (GItem.e y)] (kI (c x y))) :
    FnD Try.prog 32 [.osl 0 3 0 l.length, .clo (.func fn) []] [(l.map GItem.e).flatten] (.tup []) [some ((insSort c l).map GItem.e).flatten] := by
  refine fnd_go Try.func32 rfl ?_
  simp [Try.ntmps32]
  have hw : IntKind.u64.wrap (l.length : Int) = l.length := by
    simp [IntKind.wrap, IntKind.bits, IntKind.signed]; omega
  simp [hw]
  refine cal (Len_fn l.length hl) ?_
  simp
  refine calD [0] (pdqIt_fn l (len8 l.length) fn c hl he hf) ?_
  simp
  exact finGm [0] (hB := by simp)
end Go.Proofs.Ytidhdlhblhbahaa.Am
/- Sorting by insertion sorts. -/
namespace Go.Proofs.Ytidhdlhblhbahaa.Am
open Go Go.RowKit

section
variable {α : Type} {key : α → Int} {c : α → α → Int}
def ka (key : α → Int) (L : List α) (a : Nat) : Int := match L[a]? with | some x => key x | none => 0
theorem ka_set {L : List α} {i a : Nat} {x : α} (hi : i < L.length) : ka key (L.set i x) a = if a = i then key x else ka key L a := by
  unfold ka
  by_cases h : a = i
  · subst h; rw [List.getElem?_set_self hi, if_pos rfl]
  · rw [List.getElem?_set_ne (Ne.symm h), if_neg h]
theorem ka_get {L : List α} {a : Nat} (h : a < L.length) : ka key L a = key L[a] := by unfold ka; rw [List.getElem?_eq_getElem h]

theorem insIn_spec (hc : ∀ x y, c y x < 0 ↔ key y < key x) : ∀ (j : Nat) (L : List α), j < L.length → (∀ a b, a < b → b < j → ka key L a ≤ ka key L b) →
    (insIn c j L).Perm L ∧ (∀ a b, a < b → b < j + 1 → ka key (insIn c j L) a ≤ ka key (insIn c j L) b) ∧ (∀ k, j < k → (insIn c j L)[k]? = L[k]?) ∧ ∀ B, (∀ k, k ≤ j → ka key L k ≤ B) → ∀ k, k ≤ j → ka key (insIn c j L) k ≤ B
  | 0, L, _, _ => ⟨List.Perm.refl _, fun a b h1 h2 => by omega, fun _ _ => rfl, fun B h => h⟩
  | j + 1, L, hj, hs => by
    have h1 : j < L.length := by omega
    unfold insIn
    rw [List.getElem?_eq_getElem h1, List.getElem?_eq_getElem hj]
    simp only
    split
    · rename_i hlt
      have hk := (hc L[j] L[j + 1]).1 hlt
      obtain ⟨L', hL'⟩ : ∃ L', (L.set (j + 1) L[j]).set j L[j + 1] = L' := ⟨_, rfl⟩
      rw [hL']
      have hl' : L'.length = L.length := by rw [← hL']; simp
      have hp : L'.Perm L := by rw [← hL']; exact List.set_set_perm hj h1
      have e : ∀ a, ka key L' a = if a = j then key L[j + 1] else if a = j + 1 then key L[j] else ka key L a := fun a => by
        rw [← hL', ka_set (by simpa using h1), ka_set hj]
      have eo : ∀ k, j + 1 < k → L'[k]? = L[k]? := fun k hk => by
        rw [← hL', List.getElem?_set_ne (by omega), List.getElem?_set_ne (by omega)]
      have kj := ka_get (key := key) h1
      have kj1 := ka_get (key := key) hj
      obtain ⟨p1, p2, p3, p4⟩ := insIn_spec hc j L' (by omega) fun a b ha hb => by
        rw [e a, e b, if_neg (by omega), if_neg (by omega), if_neg (by omega), if_neg (by omega)]
        exact hs a b ha (by omega)
      have hB := p4 (key L[j]) fun k hk' => by
        rw [e k]
        split
        · omega
        · rw [if_neg (by omega)]
          have := hs k j (by omega) (by omega)
          omega
      have hl : ka key (insIn c j L') (j + 1) = key L[j] := by
        have h := p3 (j + 1) (by omega)
        have h2 := e (j + 1)
        rw [if_neg (by omega), if_pos rfl] at h2
        rw [← h2]; unfold ka; rw [h]
      refine ⟨p1.trans hp, fun a b ha hb => ?_, fun k hk => by rw [p3 k (by omega)]; exact eo k hk, fun B hBB k hk => ?_⟩
      · by_cases hbj : b = j + 1
        · subst hbj
          rw [hl]; exact hB a (by omega)
        · exact p2 a b ha (by omega)
      · by_cases hkj : k = j + 1
        · subst hkj
          rw [hl, ← kj]; exact hBB j (by omega)
        · refine p4 B (fun i hi => ?_) k (by omega)
          rw [e i]
          split
          · rw [← kj1]; exact hBB _ (Nat.le_refl _)
          · rw [if_neg (by omega)]; exact hBB i (by omega)
    · rename_i hlt
      have hk : ¬ key L[j + 1] < key L[j] := fun h => hlt ((hc _ _).2 h)
      have kj := ka_get (key := key) h1
      have kj1 := ka_get (key := key) hj
      refine ⟨List.Perm.refl _, fun a b ha hb => ?_, fun _ _ => rfl, fun B h => h⟩
      by_cases hbj : b = j + 1
      · subst hbj
        by_cases haj : a = j
        · subst haj; omega
        · have := hs a j (by omega) (by omega); omega
      · exact hs a b ha (by omega)
theorem insOut_spec (hc : ∀ x y, c y x < 0 ↔ key y < key x) : ∀ (f i : Nat) (L : List α), i + f = L.length → (∀ a b, a < b → b < i → ka key L a ≤ ka key L b) → (insOut c f i L).Perm L ∧ ∀ a b, a < b → b < L.length → ka key (insOut c f i L) a ≤ ka key (insOut c f i L) b
  | 0, i, L, h, hs => ⟨List.Perm.refl _, fun a b ha hb => hs a b ha (by omega)⟩
  | f + 1, i, L, h, hs => by
    obtain ⟨p1, p2, _, _⟩ := insIn_spec hc i L (by omega) hs
    have hl := insIn_len c i L
    obtain ⟨q1, q2⟩ := insOut_spec hc f (i + 1) (insIn c i L) (by omega) p2
    exact ⟨q1.trans p1, fun a b ha hb => q2 a b ha (by omega)⟩
theorem insSort_spec (hc : ∀ x y, c y x < 0 ↔ key y < key x) (L : List α) : (insSort c L).Perm L ∧ (insSort c L).Pairwise fun a b => key a ≤ key b := by
  cases hL : L with
  | nil => exact ⟨List.Perm.refl _, List.Pairwise.nil⟩
  | cons x r =>
    rw [← hL]
    have hl : 1 + (L.length - 1) = L.length := by rw [hL]; simp; omega
    obtain ⟨p1, p2⟩ := insOut_spec hc (L.length - 1) 1 L hl fun a b h1 h2 => by omega
    refine ⟨p1, List.pairwise_iff_getElem.2 fun a b ha hb hab => ?_⟩
    have := p2 a b hab (by have := p1.length_eq; unfold insSort at hb; omega)
    have e1 : ka key (insSort c L) a = _ := ka_get ha
    have e2 : ka key (insSort c L) b = _ := ka_get hb
    rw [← e1, ← e2]; exact this
theorem sorted_uniq : ∀ {L M : List α}, L.Perm M → L.Pairwise (fun a b => key a < key b) → M.Pairwise (fun a b => key a ≤ key b) → L = M
  | [], M, h, _, _ => (List.nil_perm.1 h).symm
  | x :: r, [], h, _, _ => absurd h.length_eq (by simp)
  | x :: r, y :: s, h, h1, h2 => by
    obtain ⟨a1, a2⟩ := List.pairwise_cons.1 h1
    obtain ⟨b1, b2⟩ := List.pairwise_cons.1 h2
    have hxy : x = y := by
      rcases List.mem_cons.1 (h.symm.subset (List.mem_cons_self (a := y) (l := s))) with e | hy
      · exact e.symm
      · rcases List.mem_cons.1 (h.subset (List.mem_cons_self (a := x) (l := r))) with e | hx
        · exact e
        · have := a1 y hy
          have := b1 x hx
          omega
    subst hxy
    rw [sorted_uniq (List.Perm.cons_inv h) a2 b2]
theorem insSort_eq (hc : ∀ x y, c y x < 0 ↔ key y < key x) {L M : List α} (h : L.Perm M) (hM : M.Pairwise fun a b => key a < key b) : insSort c L = M := by
  obtain ⟨p1, p2⟩ := insSort_spec hc L
  exact (sorted_uniq (h.symm.trans p1.symm) hM p2).symm
end
end Go.Proofs.Ytidhdlhblhbahaa.Am
/- Package arch: World. -/
namespace Go.Proofs.Ytidhdlhblhbahaa.Am
open Go Go.RowKit

set_option maxRecDepth 20000 in
theorem World1_fn (x y : GItem) : Fn Try.prog 33 [.agg x.e, .agg y.e] (kI (cmpI x.Ent.N y.Ent.N)) := by
  refine fn_go Try.func33 rfl ?_
  simp [Try.ntmps33]
  refine cal (Compare_fn x.Ent.N y.Ent.N) ?_
  simp
  exact finm (by simp)

def cIt (x y : GItem) : Int := cmpI x.Ent.N y.Ent.N
theorem cIt_lt (x y : GItem) : cIt y x < 0 ↔ y.Ent.N < x.Ent.N := by unfold cIt cmpI; split <;> (try split) <;> omega
/-- The library sorts these items. -/
def Sorts (items : List GItem) : Prop := ∀ L : List GItem, L.Perm items → FnD Try.prog 32 [.osl 0 3 0 L.length, .clo (.func 33) []] [(L.map GItem.e).flatten] (.tup []) [some (items.map GItem.e).flatten]
theorem sorts12 {items : List GItem} (hs : items.Pairwise fun a b => a.Ent.N < b.Ent.N) (hl : items.length ≤ 12) : Sorts items := fun L hp => by
  have h := SortIt_fn L 33 cIt (by rw [hp.length_eq]; exact hl) (by simp) World1_fn
  rw [insSort_eq (key := fun x : GItem => x.Ent.N) cIt_lt hp hs] at h
  exact h

/-- World, some items being there. -/
structure WMid (σ0 : Boxes) (kinds : List GKind) (gens : List Int) (L : List GItem) (σ : Boxes) : Prop where
  le : σ0.length + 2 ≤ σ.length
  kp : ∀ b, b < σ0.length → box σ b = box σ0 b
  b2 : box σ σ0.length = some [kNil, kNil, kNil]
  ex : ∃ ib, box σ (σ0.length + 1) = some [.sl 2 (kinds.map GKind.e), slI gens, .osl ib 3 0 L.length] ∧ box σ ib = some (L.map GItem.e).flatten ∧ σ0.length + 2 ≤ ib
structure WX where
  i : Nat
  σ : Boxes

set_option maxRecDepth 20000 in
set_option maxHeartbeats 1000000 in
theorem World_L {σ : Boxes} {g : Tag} {ab : Nat} {kinds : List GKind} {gens : List Int} {items : List GItem} (hA : ArchAt σ g ab kinds gens items) (hS : Sorts items) (hil : items.length ≤ 100000)
    (hci : ∀ it ∈ items, it.Comps.length ≤ 1000 ∧ ∀ c ∈ it.Comps, c.Vals.length ≤ 1000) (hk : kinds.length ≤ 1000) (hkf : ∀ k ∈ kinds, k.Fields.length ≤ 1000) (hg : gens.length ≤ 1000000) :
    FnL Try.prog 9 [.ptr ab 0] σ (fun p τ => p = .agg (GWorld.e ⟨kinds, gens, items⟩) ∧ τ = σ) := by
  obtain ⟨tabs, oks, ofT, ⟨⟨gb, tb, mb, h1, h2, h3, h4, g1, g2, g3, g4⟩, hT⟩, hP, hpm⟩ := hA
  refine fnl_trim ?_ (by simp)
  refine fnl_of0 Try.func9 rfl fun hlt0 => ?_
  refine awp0_seq (awp0_of (awp_go ?_))
  simp [Try.ntmps9, entryL]
  refine awp0_seq (awp0_of (awp_go ?_))
  simp
  have c1 : ∀ x : Boxes, box (σ ++ x) ab = _ := fun x => (box_append.trans (if_pos (box_lt h1))).trans h1
  have c2 : ∀ x : Boxes, box (σ ++ x) gb = _ := fun x => (box_append.trans (if_pos (box_lt h2))).trans h2
  have hKC := KCopy_fn kinds (by omega) (fun k h => by have := hkf k h; omega)
  refine awp_drawR follows_mix [] [] [(0, [0, 1]), (0, [0, 1]), (0, [0, 1]), (0, [0, 1]), (2, [0, 1]), (0, [0, 1]), (0, [0, 1]), (0, [0, 1]), (0, [0, 1]), (2, [0, 1]), (0, [0, 1]), (1, [0]), (1, [1])] 2 (by kernel_rfl) rfl ?_
  simp [boxG (c1 _)]
  refine gD_call (.sl 2 (kinds.map GKind.e)) ?_
  simp [boxG (c1 _)]
  refine gD_call (slI gens) ?_
  simp [boxG (c1 _)]
  refine ⟨⟨callR_ok (calO hKC), ⟨.inl ⟨rfl, doL (cloneI_L (c2 _) hg)⟩, .inl ⟨rfl, doL (cloneI_L (c2 _) hg)⟩, trivial⟩⟩, ?_⟩
  refine awp0_seq (awp0_seq (awp0_of (awp_go ?_)))
  simp [boxG (c1 _)]
  have htl : tabs.length ≤ 100000 := by have h1 := tabs_le hP.ne; have h2 := hpm.length_eq; omega
  refine awp0_block (awp0_loop (fun x : WX => ⟨51, [(0, .ptr ab 0), (2, .ptr σ.length 0), (3, .ptr (σ.length + 1) 0), (22, .osl tb 1 0 tabs.length), (23, kI tabs.length), (24, kI x.i)], x.σ, σ.length⟩)
    (fun x => WMid σ kinds gens ((tabs.take x.i).flatMap fun x => x.2.rows) x.σ ∧ x.i ≤ tabs.length) (fun x => tabs.length - x.i)
    ⟨0, σ ++ [some [kNil, kNil, kNil], some [.sl 2 (kinds.map GKind.e), slI gens, .osl (σ.length + 2) 3 0 0], some []]⟩ ?_ ?_ ?_)
  · refine (ent_nilb (b := σ.length + 1) (j := 2) (z := 3) (cs := [.sl 2 (kinds.map GKind.e), slI gens, kNil]) (by rw [box_append, if_neg (by omega), show σ.length + 1 - σ.length = 1 by omega]; rfl) rfl).trans ?_
    have hset : (σ ++ [some [kNil, kNil, kNil], some [.sl 2 (kinds.map GKind.e), slI gens, kNil]]).set (σ.length + 1) (some ([.sl 2 (kinds.map GKind.e), slI gens, kNil].set 2 (.osl (σ ++ [some [kNil, kNil, kNil], some [.sl 2 (kinds.map GKind.e), slI gens, kNil]]).length 3 0 0))) ++ [some []] = σ ++ [some [kNil, kNil, kNil], some [.sl 2 (kinds.map GKind.e), slI gens, .osl (σ.length + 2) 3 0 0], some []] := by
      rw [List.set_append_right _ _ (by omega)]; simp
    simp only [hset]
    exact ent_T _
  · refine ⟨⟨by simp, fun b hb => by rw [box_append, if_pos hb], by simp, σ.length + 2, ?_, ?_, Nat.le_refl _⟩, by simp⟩
    · rw [box_append, if_neg (by omega), show σ.length + 1 - σ.length = 1 by omega]; rfl
    · rw [box_append, if_neg (by omega), show σ.length + 2 - σ.length = 2 by omega]; rfl
  · rintro ⟨i, σ1⟩ ⟨hM, hi⟩
    simp only at hM hi ⊢
    refine awp0_seq (awp0_of (awp_go ?_))
    by_cases hlt : i < tabs.length
    · have k3 : box σ1 tb = _ := (hM.kp tb (box_lt h3)).trans h3
      obtain ⟨x, hx⟩ : ∃ x, tabs[i] = x := ⟨_, rfl⟩
      have hm : x ∈ tabs := hx ▸ List.getElem_mem hlt
      simp [hlt]
      refine awp0_seq (awp0_of (awp_go ?_))
      simp
      refine awp0_seq (awp0_block (awp0_seq (awp0_of (awp_go ?_))))
      simp [boxG k3, hlt, hx]
      obtain ⟨σ2, hσ2⟩ : ∃ σ2, σ1 ++ [some [PV.ptr x.1 0]] = σ2 := ⟨_, rfl⟩
      rw [hσ2]
      have hn0 : σ.length + 2 ≤ σ1.length := hM.le
      have k5 : box σ2 σ1.length = some [.ptr x.1 0] := by rw [← hσ2, box_append, if_neg (by omega)]; simp
      have hfr2 : Fr σ σ2 g g (fun _ => False) := ⟨by rw [← hσ2]; simp; omega, fun _ _ => rfl, fun b hb _ => by rw [← hσ2, box_append, if_pos (by omega)]; exact hM.kp b hb⟩
      have hTx := hT x hm
      obtain ⟨e, c, cols, t1, t2, t3⟩ := hTx.frame hfr2 fun _ _ h => h
      have hrl : x.2.rows.length ≤ 100000 := by have h1 := rows_le x hm; have h2 := hpm.length_eq; omega
      refine awp0_seq (awp0_of (awp_go ?_))
      simp [boxG k5, boxG t1.bt]
      refine calL (allE_L t2 (by rw [x.2.ents_len, x.2.slots_len]) (by rw [x.2.slots_len]; omega)) (fun p τ hp => ?_)
      obtain ⟨rfl, hτ⟩ := hp
      rw [hτ]
      simp
      have hes : x.2.slots = x.2.ents.map GEnt.N := by simp [GTab.slots, GTab.ents]
      rw [hes]
      refine awp0_block (awp0_ent (s' := ⟨51, [(32, .clo (.func 60) [.eptr [slI (x.2.ents.map GEnt.N)], .eptr [.sl 2 (x.2.ents.map GEnt.e)]]), (0, .ptr ab 0), (2, .ptr σ.length 0), (3, .ptr (σ.length + 1) 0), (5, .ptr σ1.length 0), (22, .osl tb 1 0 tabs.length), (23, kI tabs.length), (24, kI i)], σ2, σ.length⟩) (ent_T _) ?_)
      refine awp0_rangeN (fun j τ => WMid σ kinds gens (((tabs.take i).flatMap fun x => x.2.rows) ++ x.2.rows.take j) τ ∧ box τ σ1.length = some [.ptr x.1 0]) (AllE1_seq x.2.ents (by rw [x.2.ents_len]; omega)) rfl (by simp) rfl ?_ ?_ (by simp) ?_ ?_
      · refine ⟨⟨by rw [← hσ2]; simp; omega, fun b hb => hfr2.bx b hb fun h => h, ?_, ?_⟩, k5⟩
        · rw [← hσ2, box_append, if_pos (by omega)]; exact hM.b2
        · obtain ⟨ib, q1, q2, q3⟩ := hM.ex
          refine ⟨ib, ?_, ?_, q3⟩
          · rw [← hσ2, box_append, if_pos (by omega), q1]; simp
          · rw [← hσ2, box_append, if_pos (box_lt q2), q2]; simp
      · intro y hy
        obtain ⟨z, _, rfl⟩ := List.mem_map.1 hy
        rfl
      · intro j args σc σi hJ hij
        rw [List.getElem?_map] at hij
        obtain ⟨en, hen, hij⟩ := Option.map_eq_some_iff.1 hij
        simp only [yEnt, Prod.mk.injEq] at hij
        obtain ⟨rfl, rfl⟩ := hij
        obtain ⟨hW, h5⟩ := hJ
        refine awp_go ?_
        simp [roundSt, parT]
        have hjl : j < x.2.rows.length := by have := (List.getElem?_eq_some_iff.1 hen).1; rw [x.2.ents_len] at this; exact this
        obtain ⟨it, hit⟩ : ∃ it, x.2.rows[j] = it := ⟨_, rfl⟩
        have hite : it.Ent = en := by
          simp only [GTab.ents, List.getElem?_map, List.getElem?_eq_getElem hjl, hit, Option.map_some, Option.some.injEq] at hen
          exact hen
        have hitm : it ∈ x.2.rows := hit ▸ List.getElem_mem hjl
        have hiti : it ∈ items := hpm.subset (List.mem_flatMap.2 ⟨x, hm, hitm⟩)
        obtain ⟨hc1, hc2⟩ := hci it hiti
        obtain ⟨L, hL⟩ : ∃ L, ((tabs.take i).flatMap fun x => x.2.rows) ++ x.2.rows.take j = L := ⟨_, rfl⟩
        have hL2 : ((tabs.take i).flatMap fun x => x.2.rows) ++ x.2.rows.take (j + 1) = L ++ [it] := by
          rw [← hL, List.take_succ_eq_append_getElem hjl, hit, List.append_assoc]
        have hLl : L.length ≤ 200000 := by
          rw [← hL, List.length_append, List.length_take]
          have h1 : ((tabs.take i).flatMap fun x => x.2.rows).length ≤ (tabs.flatMap fun x => x.2.rows).length := by
            conv => rhs; rw [← List.take_append_drop i tabs, List.flatMap_append, List.length_append]
            omega
          have h2 := hpm.length_eq
          omega
        rw [hL] at hW
        rw [hL2]
        obtain ⟨ib, q1, q2, q3⟩ := hW.ex
        have hle := hW.le
        obtain ⟨σ3, hσ3⟩ : ∃ σ3, σi ++ [some en.e] = σ3 := ⟨_, rfl⟩
        rw [hσ3]
        have l3 : σ3.length = σi.length + 1 := by rw [← hσ3]; simp
        have keep3 : ∀ b, b < σi.length → box σ3 b = box σi b := fun b hb => by rw [← hσ3, box_append, if_pos hb]
        have r1 := (keep3 _ (box_lt q1)).trans q1
        have r2 := (keep3 _ (box_lt q2)).trans q2
        have r5 := (keep3 _ (box_lt h5)).trans h5
        have r7 : box σ3 σi.length = some en.e := by rw [← hσ3, box_append, if_neg (by omega)]; simp
        have lib := box_lt q2
        have l5 := box_lt h5
        have hfr3 : Fr σ σ3 g g (fun _ => False) := ⟨by omega, fun _ _ => rfl, fun b hb _ => by rw [keep3 b (by omega)]; exact hW.kp b hb⟩
        have hcomps := comps_L (hTx.frame hfr3 fun _ _ h => h) (i := j) (it := it) (by rw [List.getElem?_eq_getElem hjl, hit]) ((hP.row x hm it hitm).1) hc1
        rw [hite] at hcomps
        have hCC := CopyComps_fn it.Comps (by omega) (fun c hc => by have := hc2 c hc; omega)
        have hLe : (L.map GItem.e).flatten.length = L.length * 3 := flat_lenE GItem.e_len L
        have b1 : (L.length + 1) * 40 ≤ 140737488355328 := by omega
        have b2 : L.length + 1 ≤ maxLen := by simp only [maxLen]; omega
        refine awp_go ?_
        simp
        refine awp_drawR follows_mix [] [] [(0, [0, 1]), (0, [0, 1]), (0, [0]), (0, [0]), (0, [0]), (2, [0]), (2, [0]), (0, [0]), (1, [0]), (1, [1]), (0, [2]), (1, [2])] 3 (by kernel_rfl) rfl ?_
        simp [boxG r1, boxG r5, boxG r7]
        refine gD_call (.sl 2 (it.Comps.map GComp.e)) ?_
        simp [boxG r1, boxG r5, boxG r7]
        refine gD_call (.sl 2 (it.Comps.map GComp.e)) ?_
        have a2 : ∀ z : Boxes, (σ3 ++ z)[ib]? = some (some (L.map GItem.e).flatten) := fun z => by rw [List.getElem?_append_left (by omega)]; exact boxG r2
        have an : ∀ z : Option (List PV), (σ3 ++ [z])[σ3.length]? = some z := fun z => by simp
        have a1 : ∀ z : Boxes, (σ3 ++ z)[σ.length + 1]? = some (some [.sl 2 (kinds.map GKind.e), slI gens, .osl ib 3 0 L.length]) := fun z => by rw [List.getElem?_append_left (by omega)]; exact boxG r1
        have a3 : ∀ z y : Option (List PV), ((σ3 ++ [z]).set ib none ++ [y])[σ.length + 1]? = some (some [.sl 2 (kinds.map GKind.e), slI gens, .osl ib 3 0 L.length]) := fun z y => by
          rw [List.getElem?_append_left (by simp; omega), List.getElem?_set_ne (by omega), a1]
        have hce : List.take 2 (en.e ++ [kNil]) ++ PV.sl 2 (List.map GComp.e it.Comps) :: List.drop 3 (en.e ++ [kNil]) = it.e := by rw [← hite]; rfl
        have hct : List.take 3 it.e = it.e := rfl
        simp [boxG r1, boxG r5, boxG r7, a1, a2, a3, an, hLe, b1, b2, hce, hct]
        refine ⟨⟨⟨.inl ⟨rfl, doL hcomps⟩, trivial⟩, callR_ok (calO hCC)⟩, ?_⟩
        refine ⟨_, Ent.refl _, _, ⟨⟨by simp; omega, fun b hb => ?_, ?_, σ3.length + 1, ?_, ?_, by omega⟩, ?_⟩, Ent.refl _⟩
        · rw [box_set (by simp; omega), if_neg (by omega), box_append, if_pos (by simp; omega), box_set (by simp; omega), if_neg (by omega), box_append, if_pos (by omega), keep3 b (by omega)]
          exact hW.kp b hb
        · rw [box_set (by simp; omega), if_neg (by omega), box_append, if_pos (by simp; omega), box_set (by simp; omega), if_neg (by omega), box_append, if_pos (by omega), keep3 _ (by omega)]
          exact hW.b2
        · rw [box_set (by simp; omega), if_pos rfl]; simp
        · rw [box_set (by simp; omega), if_neg (by omega), box_append, if_neg (by simp)]; simp
        · have hn : σ1.length ≠ ib := fun e => by
            rw [← e, r5] at r2
            have := congrArg (fun o => (o.map List.length)) r2
            simp [hLe] at this
            omega
          show box _ σ1.length = _
          rw [box_set (by simp; omega), if_neg (by omega), box_append, if_pos (by simp; omega), box_set (by simp; omega), if_neg hn, box_append, if_pos (by omega)]
          exact r5
      · intro τ hτ
        obtain ⟨hW, _⟩ := hτ
        simp
        refine awp0_of (awp_go ?_)
        simp
        rw [wrap_id (by omega) (by omega)]
        refine ⟨⟨i + 1, τ⟩, ⟨?_, hlt⟩, by show _ - (i + 1) < _; omega, ent_T _⟩
        have hx2 : x.2.ents.length = x.2.rows.length := x.2.ents_len
        simp only [List.length_map, hx2, List.take_length] at hW
        show WMid σ kinds gens ((tabs.take (i + 1)).flatMap fun x => x.2.rows) τ
        rw [List.take_succ_eq_append_getElem hlt, hx, List.flatMap_append, List.flatMap_cons, List.flatMap_nil, List.append_nil]
        exact hW
    · have hin : i = tabs.length := by omega
      subst hin
      rw [List.take_length] at hM
      obtain ⟨L, hL⟩ : ∃ L, (tabs.flatMap fun x => x.2.rows) = L := ⟨_, rfl⟩
      rw [hL] at hM hpm
      obtain ⟨ib, q1, q2, q3⟩ := hM.ex
      have hle := hM.le
      have lib := box_lt q2
      simp [hlt]
      refine awp0_seq (awp0_of (awp_go ?_))
      simp
      refine awp0_seq (awp0_of (awp_go ?_))
      simp [boxG q1]
      have hth : thF [ib] σ1.length 0 = ib := by simp [thF]
      have hL1 := fnl_fnd (σ := σ1) (args := [.osl ib 3 0 L.length, .clo (.func 33) []]) (r2 := .tup []) [ib] (hS L hpm) (by simp [hth]) (by simp) rfl (by simp) (by simp) ⟨⟨by rw [q2]; simp, by simp⟩, trivial⟩
      obtain ⟨σ2, hσ2⟩ : ∃ σ2, merge σ1 [ib] [some (items.map GItem.e).flatten] = σ2 := ⟨_, rfl⟩
      have hmg := boxM (σ := σ1) (σ' := [some (items.map GItem.e).flatten]) (th := [ib]) (by simp) (by simpa using lib) (by simp)
      rw [hσ2] at hmg hL1
      have hl2 : σ2.length = σ1.length := by rw [← hσ2, mergeM_len]; simp
      refine calL hL1 (fun p τ hp => ?_)
      obtain ⟨rfl, hτ⟩ := hp
      rw [hτ]
      have k1 : box σ2 (σ.length + 1) = _ := ((hmg (σ.length + 1)).2.1 (by simp; omega) (box_lt q1)).trans q1
      have k2 : box σ2 σ.length = _ := ((hmg σ.length).2.1 (by simp; omega) (by omega)).trans hM.b2
      have k3 : box σ2 ib = some (items.map GItem.e).flatten := by rw [(hmg ib).1 0 rfl]; simp [box]
      simp
      refine awp0_of (awp_go ?_)
      simp [boxG k1, boxG k2]
      obtain ⟨σ3, hσ3⟩ : ∃ σ3, σ2.set σ.length (some [.sl 2 (kinds.map GKind.e), slI gens, .osl ib 3 0 L.length]) = σ3 := ⟨_, rfl⟩
      rw [hσ3]
      have hl3 : σ3.length = σ1.length := by rw [← hσ3]; simp [hl2]
      have k4 : box σ3 ib = some (items.map GItem.e).flatten := by rw [← hσ3, box_set (by omega), if_neg (by omega)]; exact k3
      have k5 : box σ3 σ.length = some [.sl 2 (kinds.map GKind.e), slI gens, .osl ib 3 0 L.length] := by rw [← hσ3, box_set (by omega), if_pos rfl]
      have hfz : fzL ib (items.map GItem.e).flatten [.sl 2 (kinds.map GKind.e), slI gens, .osl ib 3 0 L.length] = GWorld.e ⟨kinds, gens, items⟩ := by
        simp [GWorld.e, hpm.length_eq, slI_def, fzL, PV.fz]
      have hlf : ((σ3.map fun x => x.map (fzL ib (items.map GItem.e).flatten)).set ib none).length = σ1.length := by simp [hl3]
      have hbf : ∀ b, b ≠ ib → box ((σ3.map fun x => x.map (fzL ib (items.map GItem.e).flatten)).set ib none) b = (box σ3 b).map (fzL ib (items.map GItem.e).flatten) := fun b hb => by
        rw [box_set (by simp; omega), if_neg hb, box_map]
      refine finL_ent (ent_fz ib (items.map GItem.e).flatten k4 (by simp) (by show σ.length ≤ ib; omega)) ?_
      refine finL (p := .agg (GWorld.e ⟨kinds, gens, items⟩)) ⟨rfl, List.drop σ.length ((σ3.map fun x => x.map (fzL ib (items.map GItem.e).flatten)).set ib none), ?_⟩ (h := ?_)
      · show (σ3.map fun x => x.map (fzL ib (items.map GItem.e).flatten)).set ib none = _
        obtain ⟨σ4, hσ4⟩ : ∃ σ4, (σ3.map fun x => x.map (fzL ib (items.map GItem.e).flatten)).set ib none = σ4 := ⟨_, rfl⟩
        rw [hσ4] at hbf hlf ⊢
        have e : σ4.take σ.length = σ := by
          refine boxesExt (by simp; omega) fun b hb => ?_
          have hb' : b < σ.length := by simp at hb; omega
          have e1 : box (σ4.take σ.length) b = box σ4 b := by unfold box; rw [List.getElem?_take_of_lt hb']
          rw [e1, hbf b (by omega), ← hσ3, box_set (by omega), if_neg (by omega), (hmg b).2.1 (by simp; omega) (by omega), hM.kp b hb']
          cases hb3 : box σ b with
          | none => rfl
          | some cs => rw [Option.map_some, fz_geL (n := σ.length) (by omega) _ cs (hlt0 b cs hb3)]
        conv => lhs; rw [← List.take_append_drop σ.length σ4, e]
      · have h5 := boxG ((hbf σ.length (by omega)).trans (by rw [k5]; rfl))
        rw [hfz] at h5
        have hne : ¬ σ.length = ib := by omega
        have hWl : (GWorld.e ⟨kinds, gens, items⟩).length = 3 := rfl
        have hWt : (GWorld.e ⟨kinds, gens, items⟩).take 3 = GWorld.e ⟨kinds, gens, items⟩ := rfl
        simp [St.fz, h5, hne, hWl, hWt]
end Go.Proofs.Ytidhdlhblhbahaa.Am
/- Package arch: Tables, Ents. -/
namespace Go.Proofs.Ytidhdlhblhbahaa.Am
open Go Go.RowKit

/-- Some new boxes behind the old ones, one of them a list. -/
structure OutAt (σ0 : Boxes) (c : Nat) (cells : List PV) (σ : Boxes) : Prop where
  kp : ∀ b, b < σ0.length → box σ b = box σ0 b
  bc : box σ c = some cells
  cg : σ0.length ≤ c
structure TX where
  i : Nat
  c : Nat
  σ : Boxes
theorem OutAt.le {σ0 σ : Boxes} {c : Nat} {cells : List PV} (h : OutAt σ0 c cells σ) : σ0.length ≤ σ.length := by have := h.cg; have := box_lt h.bc; omega
theorem OutAt.ext {σ0 σ : Boxes} {c : Nat} {cells : List PV} (h : OutAt σ0 c cells σ) (hlt : ltS σ0) (cs : List PV) : ∃ ext, ((σ.map fun x => x.map (fzL c cs)).set c none) = σ0 ++ ext := by
  have hle := h.le
  have hc := h.cg
  have hcl := box_lt h.bc
  obtain ⟨σ4, hσ4⟩ : ∃ σ4, (σ.map fun x => x.map (fzL c cs)).set c none = σ4 := ⟨_, rfl⟩
  refine ⟨σ4.drop σ0.length, ?_⟩
  rw [hσ4]
  have hl4 : σ4.length = σ.length := by rw [← hσ4]; simp
  have e : σ4.take σ0.length = σ0 := by
    refine boxesExt (by simp; omega) fun b hb => ?_
    have hb' : b < σ0.length := by simp at hb; omega
    have e1 : box (σ4.take σ0.length) b = box σ4 b := by unfold box; rw [List.getElem?_take_of_lt hb']
    rw [e1, ← hσ4, box_set (by simp; omega), if_neg (by omega), box_map, h.kp b hb']
    cases hb3 : box σ0 b with
    | none => rfl
    | some ps => rw [Option.map_some, fz_geL (n := σ0.length) (by omega) _ ps (hlt b ps hb3)]
  conv => lhs; rw [← List.take_append_drop σ0.length σ4, e]

def ksE (ks : List Int) : List PV := [slI ks]
theorem ksE_imm (l : List (List Int)) : ((l.map ksE).flatten).all PV.immB = true := by simp [ksE, slI_def, List.all_flatten]
theorem ksE_len : ∀ (l : List (List Int)), (l.map ksE).flatten.length = l.length
  | [] => rfl
  | x :: l => by simp only [List.map_cons, List.flatten_cons, List.length_append, ksE_len l, List.length_cons]; simp [ksE]; omega

set_option maxRecDepth 20000 in
set_option maxHeartbeats 1000000 in
theorem Tables_L {σ : Boxes} {g : Tag} {ab : Nat} {kinds : List GKind} {gens oks : List Int} {tabs : List (Nat × GTab)} {ofT : Int → Nat} (hH : ArchH σ g ab kinds gens tabs oks ofT) (hkl : ∀ x ∈ tabs, x.2.kinds.length ≤ 1000) (htl : tabs.length ≤ 100000) :
    FnL Try.prog 10 [.ptr ab 0] σ (fun p τ => p = .sl 1 (tabs.map fun x => ksE x.2.kinds) ∧ τ = σ) := by
  obtain ⟨⟨gb, tb, mb, h1, h2, h3, h4, g1, g2, g3, g4⟩, hT⟩ := hH
  refine fnl_trim ?_ (by simp)
  refine fnl_of Try.func10 rfl fun hlt0 => ?_
  refine awp_seq (awp_go ?_)
  simp [Try.ntmps10, entryL]
  refine awp_seq (awp_go ?_)
  simp
  refine awp_seq (awp_go ?_)
  simp [boxG h1]
  refine awp_loop (fun x : TX => ⟨25, [(0, .ptr ab 0), (3, .osl x.c 1 0 x.i), (9, .osl tb 1 0 tabs.length), (10, kI tabs.length), (11, kI x.i)], x.σ, σ.length⟩)
    (fun x => OutAt σ x.c ((tabs.map fun x => ksE x.2.kinds).take x.i).flatten x.σ ∧ x.i ≤ tabs.length) (fun x => tabs.length - x.i) ⟨0, σ.length, σ ++ [some []]⟩ ?_ ?_ ?_
  · refine (ent_nil (t := 3) (z := 1) rfl).trans ?_
    exact ent_T _
  · exact ⟨⟨fun b hb => by rw [box_append, if_pos hb], by simp, Nat.le_refl _⟩, by simp⟩
  · rintro ⟨i, c, σ1⟩ ⟨hO, hi⟩
    simp only at hO hi ⊢
    refine awp_go ?_
    have hle := hO.le
    by_cases hlt : i < tabs.length
    · have k3 : box σ1 tb = _ := (hO.kp tb (box_lt h3)).trans h3
      obtain ⟨x, hx⟩ : ∃ x, tabs[i] = x := ⟨_, rfl⟩
      have hm : x ∈ tabs := hx ▸ List.getElem_mem hlt
      obtain ⟨e, cc, cols, t1, _⟩ := hT x hm
      have kt : box σ1 x.1 = _ := (hO.kp x.1 (box_lt t1.bt)).trans t1.bt
      have hkx := hkl x hm
      have hCl := CloneI_fn x.2.kinds (by omega)
      have hc1 := boxG hO.bc
      have lc := box_lt hO.bc
      have hcg := hO.cg
      have hcl : ((tabs.map fun x => ksE x.2.kinds).take i).flatten.length = i := by
        have := ksE_len ((tabs.take i).map fun x => x.2.kinds)
        simp only [List.map_map, List.length_map, List.length_take] at this
        rw [← List.map_take, show ((tabs.take i).map fun x => ksE x.2.kinds) = (tabs.take i).map (ksE ∘ fun x => x.2.kinds) from rfl, this]; omega
      have hsucc : ((tabs.map fun x => ksE x.2.kinds).take (i + 1)).flatten = ((tabs.map fun x => ksE x.2.kinds).take i).flatten ++ [slI x.2.kinds] := by
        rw [List.take_succ_eq_append_getElem (by simpa using hlt), List.flatten_append, List.getElem_map, hx]; simp [ksE]
      obtain ⟨C, hC⟩ : ∃ C, ((tabs.map fun x => ksE x.2.kinds).take i).flatten = C := ⟨_, rfl⟩
      rw [hC] at hc1 hcl hsucc
      have a2 : ∀ z : Boxes, (σ1 ++ z)[c]? = some (some C) := fun z => by rw [List.getElem?_append_left (by omega)]; exact hc1
      have b1 : (i + 1) * 24 ≤ 140737488355328 := by omega
      have b2 : i + 1 ≤ maxLen := by simp only [maxLen]; omega
      simp [hlt, boxG k3, hx]
      simp [boxG kt]
      refine cal hCl ?_
      simp [boxG kt, a2, hcl, b1, b2]
      rw [wrap_id (by omega) (by omega)]
      refine ⟨⟨i + 1, σ1.length + 1, (σ1 ++ [some [slI x.2.kinds]]).set c none ++ [some (C ++ [slI x.2.kinds])]⟩, ⟨⟨fun b hb => ?_, ?_, by show σ.length ≤ σ1.length + 1; omega⟩, hlt⟩, by show _ - (i + 1) < _; omega, ent_T _⟩
      · show box ((σ1 ++ [some [slI x.2.kinds]]).set c none ++ [some (C ++ [slI x.2.kinds])]) b = _
        rw [box_append, if_pos (by simp; omega), box_set (by simp; omega), if_neg (by omega), box_append, if_pos (by omega)]
        exact hO.kp b hb
      · show box ((σ1 ++ [some [slI x.2.kinds]]).set c none ++ [some (C ++ [slI x.2.kinds])]) (σ1.length + 1) = some ((tabs.map fun x => ksE x.2.kinds).take (i + 1)).flatten
        rw [hsucc, box_append, if_neg (by simp)]; simp
    · have hin : i = tabs.length := by omega
      subst hin
      have hcs : ((tabs.map fun x => ksE x.2.kinds).take tabs.length) = tabs.map fun x => ksE x.2.kinds := List.take_of_length_le (by simp)
      rw [hcs] at hO
      simp
      refine awp_go ?_
      simp
      have him : (tabs.map fun x => ksE x.2.kinds).flatten.all PV.immB = true := by
        have := ksE_imm (tabs.map fun x => x.2.kinds)
        rw [List.map_map] at this; exact this
      have hch : chunks 1 (tabs.map fun x => ksE x.2.kinds).flatten tabs.length = tabs.map fun x => ksE x.2.kinds := chunks_map (f := fun x : Nat × GTab => ksE x.2.kinds) (z := 1) (fun _ => rfl) tabs
      have hfl : ((tabs.map fun x => ksE x.2.kinds).flatten).length = tabs.length := by
        have := ksE_len (tabs.map fun x => x.2.kinds)
        simp only [List.map_map, List.length_map] at this
        exact this
      have hsum : tabs.length ≤ (List.map (List.length ∘ fun x : Nat × GTab => ksE x.2.kinds) tabs).sum := by
        rw [List.length_flatten, List.map_map] at hfl; omega
      refine finL_ent (ent_fz c (tabs.map fun x => ksE x.2.kinds).flatten hO.bc him (by exact hO.cg)) ?_
      refine finL (p := .sl 1 (tabs.map fun x => ksE x.2.kinds)) ⟨rfl, hO.ext hlt0 _⟩ (h := ?_)
      simp [St.fz, hch, hsum]
end Go.Proofs.Ytidhdlhblhbahaa.Am
/- The library's slice functions at lists of numbers. -/
namespace Go.Proofs.Ytidhdlhblhbahaa.Am
open Go Go.RowKit

theorem sls_flat (l : List (List Int)) : (l.map ksE).flatten = l.map slI := by
  induction l with
  | nil => rfl
  | cons x l ih => simp only [List.map_cons, List.flatten_cons, ih]; rfl
theorem chunks_sls (l : List (List Int)) : chunks 1 (l.map slI) l.length = l.map ksE := by
  rw [← sls_flat]; exact chunks_map (f := ksE) (z := 1) (fun _ => rfl) l
@[simp] theorem map_slI_imm (l : List (List Int)) : (l.map slI).all PV.immB = true := by simp [slI_def]
@[simp] theorem map_slI_ren (l : List (List Int)) (θ : Nat → Nat) : renL θ (l.map slI) = l.map slI := imms_ren (map_slI_imm l) θ
@[simp] theorem map_slI_lt (l : List (List Int)) (n : Nat) : ltL n (l.map slI) = true := imms_lt (map_slI_imm l) n
theorem rep_nil_imm (n : Nat) : (List.replicate n (PV.k (.slice none 0 0))).all PV.immB = true := by simp
@[simp] theorem rep_nil_ren (n : Nat) (θ : Nat → Nat) : renL θ (List.replicate n (PV.k (.slice none 0 0))) = List.replicate n (PV.k (.slice none 0 0)) := imms_ren (rep_nil_imm n) θ
@[simp] theorem rep_nil_lt (n k : Nat) : ltL k (List.replicate n (PV.k (.slice none 0 0))) = true := imms_lt (rep_nil_imm n) k
attribute [local simp] ksE

set_option maxRecDepth 20000 in
theorem IndexFuncL_fn (l : List (List Int)) (fn : FuncId) (caps : List PV) (p : List Int → Bool) (hl : l.length ≤ 4611686018427387904) (he : enterable Try.prog fn = true) (hc : ltL 0 caps = true)
    (hf : ∀ x ∈ l, Fn Try.prog fn (slI x :: caps) (kB (p x))) : Fn Try.prog 95 [.sl 1 (l.map ksE), .clo (.func fn) caps] (kI (idxB p l)) := by
  refine fn_go Try.func95 rfl ?_
  simp [Try.ntmps95]
  refine awp_loop (fun i : Nat => ⟨19, [(0, .sl 1 (l.map ksE)), (1, .clo (.func fn) caps), (7, kI l.length), (8, kI i)], [], 0⟩) (fun i => i ≤ l.length ∧ ∀ j, j < i → ∀ x, l[j]? = some x → p x = false) (fun i => l.length - i) 0 ?_ ?_ ?_
  · exact entm [] (hT := by simp [renL_lt0 _ _ hc, hc])
  · simp
  · intro i ⟨hi, hno⟩
    refine awp_go ?_
    by_cases hlt : i < l.length
    · simp [hlt]
      refine cal (hf l[i] (List.getElem_mem hlt)) ?_ (he := he) (hlt := by simp [hc])
      by_cases hp : p l[i] = true
      · simp [hp]
        exact finm (by simp [idxB_some hlt hno hp])
      · have hp' : p l[i] = false := by simpa using hp
        simp [hp']
        rw [wrap_id (by omega) (by omega)]
        exact ⟨i + 1, ⟨by omega, no_succ hlt hno hp'⟩, by omega, entm [] (hT := by simp [renL_lt0 _ _ hc, hc])⟩
    · simp [hlt]
      have : i = l.length := by omega
      subst this
      exact finm (by simp [idxB_none hno])


set_option maxRecDepth 20000 in
theorem DeleteFuncL_fn (l : List (List Int)) (fn : FuncId) (caps : List PV) (p : List Int → Bool) (hl : l.length ≤ 1000000000) (he : enterable Try.prog fn = true) (hc : ltL 0 caps = true)
    (hf : ∀ x ∈ l, Fn Try.prog fn (slI x :: caps) (kB (p x))) : FnD Try.prog 70 [.osl 0 1 0 l.length, .clo (.func fn) caps] [(l.map slI)] (.osl 0 1 0 (l.filter fun x => !p x).length)
      [some (((l.filter fun x => !p x).map slI) ++ List.replicate (l.length - (l.filter fun x => !p x).length) kNil)] := by
  refine fnd_go Try.func70 rfl ?_
  simp [Try.ntmps70]
  refine calS (IndexFuncL_fn l fn caps p (by omega) he hc hf) ?_ (hren := by simp [chunks_sls]) (hlt := by simp [hc])
  cases hidx : l.findIdx? p with
  | none =>
    have hi : idxB p l = -1 := by simp [idxB, hidx]
    have hall : l.filter (fun x => !p x) = l := by
      rw [List.findIdx?_eq_none_iff] at hidx
      rw [List.filter_eq_self]; intro x hx; simp [hidx x hx]
    simp [hi]
    exact finGm [0] (hres := by simp [hall]) (hB := by simp [hall])
  | some i0 =>
    have hi : idxB p l = i0 := by simp [idxB, hidx]
    rw [List.findIdx?_eq_some_iff_getElem] at hidx
    obtain ⟨hi0, hp0, hno⟩ := hidx
    have hne : ¬ ((i0 : Int) = -1) := by omega
    simp [hi, hne]
    rw [wrap_id (by omega) (by omega)]
    have hF0 : (l.take (i0 + 1)).filter (fun x => !p x) = l.take i0 := by
      rw [← List.take_append_getElem hi0, List.filter_append]
      have : (l.take i0).filter (fun x => !p x) = l.take i0 := by
        rw [List.filter_eq_self]; intro x hx
        obtain ⟨j, hj, rfl⟩ := List.getElem_of_mem hx
        have hj' : j < i0 := by simp at hj; omega
        simpa using hno j hj'
      rw [this]; simp [hp0]
    have hcnt : ∀ j, i0 + 1 ≤ j → ((l.take j).filter (fun x => !p x)).length < j := fun j hj => by
      have h1 : l.take j = l.take (i0 + 1) ++ (l.take j).drop (i0 + 1) := by
        have := List.take_append_drop (i0 + 1) (l.take j)
        rw [List.take_take, Nat.min_eq_left hj] at this
        exact this.symm
      rw [h1, List.filter_append, hF0, List.length_append]
      have h2 := List.length_filter_le (fun x => !p x) ((l.take j).drop (i0 + 1))
      simp at h2 ⊢
      omega
    refine awp_loop (fun x : Nat × List (List Int) × List (List Int) => ⟨42, [(0, .osl 0 1 0 l.length), (1, .clo (.func fn) caps), (5, kI x.2.1.length), (6, kI x.1)], [some (x.2.2.map slI)], 1⟩)
      (fun x => i0 + 1 ≤ x.1 ∧ x.1 ≤ l.length ∧ x.2.1 = (l.take x.1).filter (fun x => !p x) ∧ x.2.2 = x.2.1 ++ l.drop x.2.1.length) (fun x => l.length - x.1) (i0 + 1, l.take i0, l) ?_ ?_ ?_
    · refine entm [0] (hT := ?_)
      have : min i0 l.length = i0 := by omega
      simp [renL_lt0 _ _ hc, hc, ltL_mono hc, this]
    · have hlt : (l.take i0).length = i0 := by simp; omega
      exact ⟨Nat.le_refl _, hi0, hF0.symm, by simp only [hlt, List.take_append_drop]⟩
    · rintro ⟨j, F, B⟩ ⟨hj0, hj, hF, hB⟩
      simp only at hj0 hj hF hB
      have hc1 := hcnt j hj0
      rw [← hF] at hc1
      have hBl : B.length = l.length := by rw [hB]; simp; omega
      refine awp_go ?_
      by_cases hlt : j < l.length
      · have hBj : B[j]? = some l[j] := by
          rw [hB, List.getElem?_append_right (by omega), List.getElem?_drop, show F.length + (j - F.length) = j by omega, List.getElem?_eq_getElem hlt]
        simp [hlt, hBj]
        refine cal (hf l[j] (List.getElem_mem hlt)) ?_ (he := he) (hlt := by simp [hc])
        by_cases hp : p l[j] = true
        · simp [hp]
          rw [wrap_id (by omega) (by omega)]
          refine ⟨j + 1, F, B, ⟨by omega, by omega, ?_, hB⟩, by omega, entm [0] (hT := by simp [renL_lt0 _ _ hc, ltL_mono hc])⟩
          rw [← List.take_append_getElem hlt, List.filter_append, hF]; simp [hp]
        · simp only [Bool.not_eq_true] at hp
          have h1 : (F.length : Int) < l.length := by omega
          have h2 : F.length + 1 ≤ B.length := by omega
          simp [hp, h1, h2]
          rw [wrap_id (by omega) (by omega), wrap_id (by omega) (by omega)]
          refine ⟨j + 1, F ++ [l[j]], F ++ l[j] :: l.drop (F.length + 1), ⟨by omega, by omega, ?_, by simp⟩, by omega, entm [0] (hT := by simp [renL_lt0 _ _ hc, ltL_mono hc]) (hB := ?_)⟩
          · rw [← List.take_append_getElem hlt, List.filter_append, hF]; simp [hp]
          · have e1 : B.take F.length = F := by rw [hB]; simp
            have e2 : B.drop (F.length + 1) = l.drop (F.length + 1) := by
              rw [hB, List.drop_append]; simp
            simp [← List.map_take, ← List.map_drop, e1, e2]
      · have hjl : j = l.length := by omega
        subst hjl
        rw [List.take_of_length_le (Nat.le_refl _)] at hF
        have h1 : (F.length : Int) ≤ l.length := by omega
        have h2 : F.length ≤ B.length := by omega
        simp [h1, h2]
        have e1 : B.take F.length = F := by rw [hB]; simp
        exact finGm [0] (hres := by simp [← hF]) (hB := by
          have e3 : B.length ≤ F.length + (l.length - F.length) := by omega
          simp [← hF, ← List.map_take, e1, List.drop_eq_nil_of_le, e3])
end Go.Proofs.Ytidhdlhblhbahaa.Am
/- Package query: Match, All. -/
namespace Go.Proofs.Ytidhdlhblhbahaa.Am
open Go Go.RowKit

def hasK (it : GItem) (k : Int) : Bool := it.Comps.any fun c => decide (c.Kind = k)
def matchI (it : GItem) (wi wo : List Int) : Bool := !(wi.any fun k => !hasK it k) && !(wo.any fun k => hasK it k)

theorem Match11_fn (c : GComp) (k : Int) : Fn Try.prog 67 [.agg c.e, .eptr [kI k]] (kB (decide (c.Kind = k))) := by
  refine fn_go Try.func67 rfl ?_
  simp [Try.ntmps67]
  by_cases h : c.Kind = k
  · simp [h, GComp.e]
    exact finm
  · simp [h, GComp.e]
    exact finm (by simp [h])

theorem Match1_fn (it : GItem) (k : Int) (hl : it.Comps.length ≤ 1000000) : Fn Try.prog 65 [kI k, .eptr it.e] (kB (hasK it k)) := by
  refine fn_go Try.func65 rfl ?_
  simp [Try.ntmps65, GItem.e]
  refine ops_fz 0 [kI k] ?_
  simp
  refine cal (ContainsFuncC_fn it.Comps 67 [.eptr [kI k]] (fun c => decide (c.Kind = k)) (by omega) en_67 rfl (fun c _ => Match11_fn c k)) ?_
  simp
  exact finm (by simp [hasK])

theorem Match2_fn (it : GItem) (k : Int) (hl : it.Comps.length ≤ 1000000) : Fn Try.prog 69 [kI k, .eptr [.clo (.func 65) [.eptr it.e]]] (kB (!hasK it k)) := by
  refine fn_go Try.func69 rfl ?_
  simp [Try.ntmps69]
  refine cal (Match1_fn it k hl) ?_
  simp
  exact finm

theorem Match_fn (it : GItem) (wi wo : List Int) (hl : it.Comps.length ≤ 1000000) (h1 : wi.length ≤ 4611686018427387904) (h2 : wo.length ≤ 4611686018427387904) : Fn Try.prog 37 [.agg it.e, slI wi, slI wo] (kB (matchI it wi wo)) := by
  refine fn_go Try.func37 rfl ?_
  simp [Try.ntmps37]
  refine ops_fz 0 it.e ?_
  simp
  refine ops_fz 1 [.clo (.func 65) [.eptr it.e]] ?_
  simp
  refine cal (ContainsFuncI_fn wi 69 [.eptr [.clo (.func 65) [.eptr it.e]]] (fun k => !hasK it k) h1 en_69 rfl (fun k _ => Match2_fn it k hl)) ?_
  by_cases hw : (wi.any fun k => !hasK it k) = true
  · simp [hw]
    exact finm (by simp [matchI, hw])
  · have hw' : (wi.any fun k => !hasK it k) = false := by simpa using hw
    simp only [hw']
    simp
    refine cal (ContainsFuncI_fn wo 65 [.eptr it.e] (fun k => hasK it k) h2 en_65 rfl (fun k _ => Match1_fn it k hl)) ?_
    simp
    exact finm (by simp [matchI, hw'])
end Go.Proofs.Ytidhdlhblhbahaa.Am
/- Package query: All gathers the rows. -/
namespace Go.Proofs.Ytidhdlhblhbahaa.Am
open Go Go.RowKit

abbrev GRow := Nat × GItem
def rowE (x : GRow) : List PV := [kI x.1, kI x.2.Ent.N, kI x.2.Ent.Gen, .sl 2 (x.2.Comps.map GComp.e)]
@[simp] theorem rowE_len (x : GRow) : (rowE x).length = 4 := rfl
@[simp] theorem rowE_imm (x : GRow) : (rowE x).all PV.immB = true := rfl
def rowsGo (p : GItem → Bool) : Nat → List GItem → List GRow
  | _, [] => []
  | i, it :: r => if p it = true then (i, it) :: rowsGo p (i + 1) r else rowsGo p (i + 1) r
def rowsM (w : GWorld) (wi wo : List Int) : List GRow := rowsGo (fun it => matchI it wi wo) 0 w.Items

theorem rowsGo_len (p : GItem → Bool) : ∀ (l : List GItem) (i : Nat), (rowsGo p i l).length ≤ l.length
  | [], _ => by simp [rowsGo]
  | x :: r, i => by
    rw [rowsGo]
    have := rowsGo_len p r (i + 1)
    split <;> simp <;> omega

set_option maxRecDepth 20000 in
theorem All_fn (w : GWorld) (wi wo : List Int) (hw : Fine w) (h1 : wi.length ≤ 4611686018427387904) (h2 : wo.length ≤ 4611686018427387904) :
    Fn Try.prog 16 [.agg w.e, slI wi, slI wo] (.clo (.func 38) [.eptr [.sl 4 ((rowsM w wi wo).map rowE)]]) := by
  obtain ⟨hkl, hkf, hgl, hil, hic, hiv⟩ := hw
  obtain ⟨ks, gs, its⟩ := w
  simp only [rowsM] at hkl hkf hgl hil hic hiv ⊢
  refine fn_go Try.func16 rfl ?_
  simp [Try.ntmps16, GWorld.e]
  refine awp_loop (fun x : Nat × List GRow => ⟨35, [(1, slI wi), (2, slI wo), (7, .ptr 0 0), (11, .sl 3 (its.map GItem.e)), (12, kI its.length), (13, kI x.1)], [some [.osl 1 4 0 x.2.length], some (x.2.map rowE).flatten], 0⟩)
    (fun x => x.1 ≤ its.length ∧ x.2.length ≤ x.1 ∧ x.2 ++ rowsGo (fun it => matchI it wi wo) x.1 (its.drop x.1) = rowsGo (fun it => matchI it wi wo) 0 its) (fun x => its.length - x.1) (0, []) ?_ ?_ ?_
  · exact (ent_nilb (b := 1) (j := 0) (z := 4) rfl rfl).trans (entm [1, 2])
  · simp
  · rintro ⟨i, acc⟩ ⟨hi, hac, hrun⟩
    simp only at hi hac hrun
    refine awp_go ?_
    have h0 := flat_imm rowE_imm acc
    by_cases hlt : i < its.length
    · obtain ⟨x, hx⟩ : ∃ x, its[i] = x := ⟨_, rfl⟩
      have hm : x ∈ its := hx ▸ List.getElem_mem hlt
      rw [List.drop_eq_getElem_cons hlt, hx, rowsGo] at hrun
      simp [hlt, hx]
      refine cal (Match_fn x wi wo (by have := hic x hm; omega) h1 h2) ?_
      by_cases hp : matchI x wi wo = true
      · rw [if_pos hp] at hrun
        have hb1 : (acc.length + 1) * 48 ≤ 140737488355328 := by omega
        have hb2 : acc.length + 1 ≤ maxLen := by simp only [maxLen]; omega
        simp [hp]
        refine awp_drawS follows_mix [(0, 0), (0, 0), (0, 0), (0, 0), (0, 0), (0, 0), (2, 0), (0, 0), (0, 0), (4, 3), (4, 4), (1, 0)] 3 5 [(0, 9)] (by kernel_rfl) rfl rfl ?_
        simp [hlt, hx, GItem.e]
        refine gE_call (.sl 2 (x.Comps.map GComp.e)) ?_ ?_
        · simp
          exact calO (CopyComps_fn x.Comps (by have := hic x hm; omega) (fun c hc => by have := hiv x hm c hc; omega))
        simp [flat_sum rowE_len, hb1, hb2, imms_lt h0]
        rw [wrap_id (by omega) (by omega)]
        have hr2 : (acc.map rowE).flatten ++ [kI i, kI x.Ent.N, kI x.Ent.Gen, .sl 2 (x.Comps.map GComp.e)] = ((acc ++ [((i, x) : GRow)]).map rowE).flatten := by simp [rowE]
        have h3 := rowE_imm (i, x)
        rw [hr2]
        exact ⟨i + 1, acc ++ [((i, x) : GRow)], ⟨by omega, by simp; omega, by rw [← hrun]; simp⟩, by omega, entm [0, 4] (hB := by simp [imms_ren h0, imms_lt h0, imms_ren h3, imms_lt h3])⟩
      · have hp' : matchI x wi wo = false := by simpa using hp
        rw [if_neg hp] at hrun
        simp [hp']
        rw [wrap_id (by omega) (by omega)]
        exact ⟨i + 1, acc, ⟨by omega, by omega, hrun⟩, by omega, entm [0, 1] (hB := by simp [imms_ren h0, imms_lt h0])⟩
    · simp [hlt]
      have : i = its.length := by omega
      subst this
      simp [rowsGo] at hrun
      subst hrun
      refine fin_fz 1 _ ?_ (hi := flat_imm rowE_imm _)
      simp [flat_sum rowE_len, chunks_map rowE_len]
      refine fin_fz 0 _ ?_
      simp
      exact finm
end Go.Proofs.Ytidhdlhblhbahaa.Am
/- Package query: the iterator of All, and Count. -/
namespace Go.Proofs.Ytidhdlhblhbahaa.Am
open Go Go.RowKit

def yRow (x : GRow) : List PV × List (List PV) := ([kI x.1, .agg x.2.e], [])

set_option maxRecDepth 20000 in
theorem All1_seq (rows : List GRow) (hl : rows.length ≤ 1000000) (hc : ∀ x ∈ rows, x.2.Comps.length ≤ 1000000) (hv : ∀ x ∈ rows, ∀ c ∈ x.2.Comps, c.Vals.length ≤ 1000000) :
    SeqOk Try.prog 38 [.eptr [.sl 4 (rows.map rowE)]] (rows.map yRow) := by
  refine seqOk_of Try.func38 rfl rfl ?_
  intro l J hy
  refine awpI_seq (awpI_of (awp_go ?_))
  simp [Try.ntmps38, thenI]
  refine awpI_block (awpI_loop (fun i => ⟨25, [(0, .k (.func (.yield l) #[] #[])), (5, .sl 4 (rows.map rowE)), (6, kI rows.length), (7, kI i)], [], 0⟩) (fun i => i ≤ rows.length) (fun i => rows.length - i) (entm []) (by omega) ?_)
  intro i hi
  refine awpI_seq (awpI_of (awp_go ?_))
  by_cases hlt : i < rows.length
  · obtain ⟨x, hx⟩ : ∃ x, rows[i] = x := ⟨_, rfl⟩
    have hm : x ∈ rows := hx ▸ List.getElem_mem hlt
    simp [hlt, thenI]
    refine awpI_seq (awpI_of (awp_go ?_))
    simp [thenI]
    refine awpI_seq (awpI_block (awpI_seq (awpI_of (awp_go ?_))))
    simp [hlt, hx, thenI, rowE]
    refine awpI_seq (awpI_yieldK hy follows_mix 11 [(0, .k (.func (.yield l) #[] #[])), (5, .sl 4 (rows.map rowE)), (6, kI rows.length), (7, kI i)] ?_ ?_)
    · simp only [List.take_succ_cons, List.take_zero]
      refine draw_S [(0, 0), (0, 0), (0, 0), (0, 0), (0, 0), (0, 0), (0, 0), (0, 0), (0, 0), (2, 0), (0, 0)] 1 1 [] (by kernel_rfl) rfl rfl ?_
      simp
      refine gE_call (.sl 2 (x.2.Comps.map GComp.e)) ?_ ?_
      · simp
        exact calO (CopyComps_fn x.2.Comps (by have := hc x hm; omega) (fun c h => by have := hv x hm c h; omega))
      simp
      refine ⟨rfl, ⟨_, [kI x.1, .agg [kI x.2.Ent.N, kI x.2.Ent.Gen, .sl 2 (x.2.Comps.map GComp.e)]], [], [], rfl, by simp [hlt, hx, yRow, GItem.e], rfl, List.nodup_nil, by simp, by simp, fun _ _ _ h => by simp at h⟩, keepB_T (by simp [keepB])⟩
    · simp only [thenI]
      refine awpI_of (awp_go ?_)
      simp [inBlockI, thenI]
      refine awpI_of (awp_go ?_)
      simp [thenI]
      rw [wrap_id (by omega) (by omega)]
      exact ⟨by omega, by omega, entm []⟩
  · simp [hlt, thenI]
    refine awpI_seq (awpI_of (awp_go ?_))
    simp [inBlockI, thenI]
    omega
end Go.Proofs.Ytidhdlhblhbahaa.Am
/- Package query: Count. -/
namespace Go.Proofs.Ytidhdlhblhbahaa.Am
open Go Go.RowKit

def countM (w : GWorld) (wi wo : List Int) : Nat := (rowsM w wi wo).length

theorem rowsGo_mem (p : GItem → Bool) : ∀ (l : List GItem) (i : Nat) (x : GRow), x ∈ rowsGo p i l → x.2 ∈ l
  | [], _, x, h => by simp [rowsGo] at h
  | y :: r, i, x, h => by
    rw [rowsGo] at h
    split at h
    · rcases List.mem_cons.1 h with e | h
      · subst e; simp
      · exact List.mem_cons_of_mem _ (rowsGo_mem p r (i + 1) x h)
    · exact List.mem_cons_of_mem _ (rowsGo_mem p r (i + 1) x h)

set_option maxRecDepth 20000 in
theorem Count_fn (w : GWorld) (wi wo : List Int) (hw : Fine w) (h1 : wi.length ≤ 4611686018427387904) (h2 : wo.length ≤ 4611686018427387904) :
    Fn Try.prog 13 [.agg w.e, slI wi, slI wo] (kI (countM w wi wo)) := by
  refine fng_of0 Try.func13 rfl ?_
  refine awp0_seq (awp0_of (awp_go ?_))
  simp [Try.ntmps13]
  refine awp0_seq (awp0_of (awp_go ?_))
  simp
  refine awp0_seq (awp0_seq (awp0_of (awp_go ?_)))
  simp
  refine cal (All_fn w wi wo hw h1 h2) ?_
  simp
  have hlen : (rowsM w wi wo).length ≤ 1000000 := by have := rowsGo_len (fun it => matchI it wi wo) w.Items 0; have := hw.il; unfold rowsM; omega
  have hin : ∀ x ∈ rowsM w wi wo, x.2 ∈ w.Items := fun x hx => rowsGo_mem _ _ _ x hx
  have hn : countM w wi wo = (rowsM w wi wo).length := rfl
  generalize rowsM w wi wo = rows at hlen hin hn ⊢
  rw [hn]
  refine awp0_block (awp0_ent (s' := ⟨17, [(11, .clo (.func 38) [.eptr [.sl 4 (rows.map rowE)]]), (7, .ptr 0 0)], [some [kI 0]], 0⟩) (entm [1]) ?_)
  refine awp0_range (fun i => [some [kI i]]) (All1_seq rows hlen ?_ ?_) rfl en_38 rfl rfl ?_ (by simp) ?_ ?_
  · exact fun x hx => hw.ic _ (hin x hx)
  · exact fun x hx => hw.iv _ (hin x hx)
  · intro x hx
    obtain ⟨y, _, rfl⟩ := List.mem_map.1 hx
    rfl
  · intro i args σc hi
    rw [List.getElem?_map] at hi
    obtain ⟨x, hx, hi⟩ := Option.map_eq_some_iff.1 hi
    simp only [yRow, Prod.mk.injEq] at hi
    obtain ⟨rfl, rfl⟩ := hi
    have hil := (List.getElem?_eq_some_iff.1 hx).1
    refine awp_go ?_
    simp [roundSt, parT]
    refine awp_go ?_
    simp
    rw [wrap_id (by omega) (by omega)]
    refine ⟨_, Ent.refl _, ?_⟩
    exact entm [0]
  · simp only [List.length_map]
    simp only [inBlockA, thenA]
    refine awp0_of (awp_go ?_)
    simp
    exact finGm []
end Go.Proofs.Ytidhdlhblhbahaa.Am
/- Package arch: Ents. -/
namespace Go.Proofs.Ytidhdlhblhbahaa.Am
open Go Go.RowKit

/-- Some of the entities are in the list that box b heads. -/
structure EntsAt (σ0 : Boxes) (es : List GEnt) (σ : Boxes) : Prop where
  kp : ∀ b, b < σ0.length → box σ b = box σ0 b
  ex : ∃ ob, box σ σ0.length = some [.osl ob 2 0 es.length] ∧ box σ ob = some (es.map GEnt.e).flatten ∧ σ0.length < ob

def entsR (R : Option (Nat × GTab)) : List GEnt := match R with | some x => x.2.ents | none => []
def entsOf (tabs : List (Nat × GTab)) (ks : List Int) : List GEnt := entsR (tabs.find? fun x => decide (x.2.kinds = ks))

set_option maxRecDepth 20000 in
set_option maxHeartbeats 1000000 in
theorem Ents_L {σ : Boxes} {g : Tag} {ab : Nat} {kinds : List GKind} {gens oks : List Int} {tabs : List (Nat × GTab)} {ofT : Int → Nat} (hH : ArchH σ g ab kinds gens tabs oks ofT) (hkl : ∀ x ∈ tabs, x.2.kinds.length ≤ 1000) (htl : tabs.length ≤ 100000)
    (hrl : ∀ x ∈ tabs, x.2.rows.length ≤ 100000) (ks : List Int) : FnL Try.prog 11 [.ptr ab 0, slI ks] σ (fun p τ => p = .sl 2 ((entsOf tabs ks).map GEnt.e) ∧ τ = σ) := by
  obtain ⟨⟨gb, tb, mb, h1, h2, h3, h4, g1, g2, g3, g4⟩, hT⟩ := hH
  obtain ⟨R, hR⟩ : ∃ R, tabs.find? (fun x => decide (x.2.kinds = ks)) = R := ⟨_, rfl⟩
  have hE : entsOf tabs ks = entsR R := by unfold entsOf; rw [hR]
  rw [hE]
  refine fnl_trim ?_ (by simp)
  refine fnl_of0 Try.func11 rfl fun hlt0 => ?_
  refine awp0_seq (awp0_of (awp_go ?_))
  simp [Try.ntmps11, entryL]
  refine awp0_seq (awp0_seq (awp0_of (awp_go ?_)))
  simp [boxG h1]
  refine awp0_block (awp0_loop (fun i : Nat => ⟨38, [(0, .ptr ab 0), (1, slI ks), (13, .osl tb 1 0 tabs.length), (14, kI tabs.length), (15, kI i)], σ, σ.length⟩)
    (fun i => i ≤ tabs.length ∧ (tabs.drop i).find? (fun x => decide (x.2.kinds = ks)) = R) (fun i => tabs.length - i) 0 (ent_T _) ⟨by simp, hR⟩ ?_)
  rintro i ⟨hi, hf⟩
  refine awp0_seq (awp0_of (awp_go ?_))
  by_cases hlt : i < tabs.length
  · obtain ⟨x, hx⟩ : ∃ x, tabs[i] = x := ⟨_, rfl⟩
    have hm : x ∈ tabs := hx ▸ List.getElem_mem hlt
    obtain ⟨e, c, cols, t1, t2, t3⟩ := hT x hm
    have hkx := hkl x hm
    have hrx := hrl x hm
    rw [List.drop_eq_getElem_cons hlt, hx, List.find?_cons] at hf
    simp [hlt]
    refine awp0_seq (awp0_of (awp_go ?_))
    simp
    refine awp0_seq (awp0_block (awp0_seq (awp0_of (awp_go ?_))))
    simp [boxG h3, hlt, hx]
    refine awp0_seq (awp0_of (awp_go ?_))
    simp [boxG t1.bt]
    refine cal (EqualI_fn x.2.kinds ks (by omega)) ?_
    by_cases hk : x.2.kinds = ks
    · simp [hk] at hf
      simp [hk]
      refine awp0_cond (t := true) (by simp) ?_
      simp
      refine awp0_seq (awp0_of (awp_go ?_))
      simp
      have k1 : (σ ++ [some [kNil]])[x.1]? = some (some [slI x.2.kinds, .ptr e 0, .osl c 1 0 cols.length]) := by rw [List.getElem?_append_left (box_lt t1.bt)]; exact boxG t1.bt
      have hS := t2.frame (Fr.app (ext := [some [kNil]]) (O := fun _ => False)) fun _ h => h
      refine awp0_seq (awp0_seq (awp0_of (awp_go ?_)))
      simp [k1]
      refine calL (allE_L hS (by rw [x.2.ents_len, x.2.slots_len]) (by rw [x.2.slots_len]; omega)) (fun p τ hp => ?_)
      obtain ⟨rfl, hτ⟩ := hp
      rw [hτ]
      simp
      have hes : x.2.slots = x.2.ents.map GEnt.N := by simp [GTab.slots, GTab.ents]
      rw [hes]
      refine awp0_block (awp0_ent (s' := ⟨38, [(29, .clo (.func 60) [.eptr [slI (x.2.ents.map GEnt.N)], .eptr [.sl 2 (x.2.ents.map GEnt.e)]]), (7, .ptr σ.length 0)], σ ++ [some [.osl (σ.length + 1) 2 0 0], some []], σ.length⟩) ?_ ?_)
      · refine (ent_nilb (b := σ.length) (j := 0) (z := 2) (cs := [kNil]) (by simp) rfl).trans ?_
        have hset : (σ ++ [some [kNil]]).set σ.length (some ([kNil].set 0 (.osl (σ ++ [some [kNil]]).length 2 0 0))) ++ [some []] = σ ++ [some [.osl (σ.length + 1) 2 0 0], some []] := by
          rw [List.set_append_right _ _ (Nat.le_refl _)]; simp
        simp only [hset]
        exact ent_T _
      refine awp0_rangeN (fun j τ => EntsAt σ (x.2.ents.take j) τ) (AllE1_seq x.2.ents (by rw [x.2.ents_len]; omega)) rfl (by simp) rfl ?_ ?_ (by simp) ?_ ?_
      · refine ⟨fun b hb => by rw [box_append, if_pos hb], σ.length + 1, ?_, ?_, by omega⟩
        · rw [box_append, if_neg (by omega)]; simp
        · rw [box_append, if_neg (by omega), show σ.length + 1 - σ.length = 1 by omega]; rfl
      · intro y hy
        obtain ⟨z, _, rfl⟩ := List.mem_map.1 hy
        rfl
      · intro j args σc σi hJ hij
        rw [List.getElem?_map] at hij
        obtain ⟨en, hen, hij⟩ := Option.map_eq_some_iff.1 hij
        simp only [yEnt, Prod.mk.injEq] at hij
        obtain ⟨rfl, rfl⟩ := hij
        obtain ⟨hkp, ob, q1, q2, q3⟩ := hJ
        obtain ⟨hjl, hje⟩ := List.getElem?_eq_some_iff.1 hen
        have hL2 : x.2.ents.take (j + 1) = x.2.ents.take j ++ [en] := by rw [List.take_succ_eq_append_getElem hjl, hje]
        rw [hL2]
        obtain ⟨L, hL⟩ : ∃ L, x.2.ents.take j = L := ⟨_, rfl⟩
        have hLl : L.length ≤ 100000 := by rw [← hL, List.length_take]; have := x.2.ents_len; omega
        rw [hL] at q1 q2 ⊢
        have lq1 := box_lt q1
        have lq2 := box_lt q2
        obtain ⟨σ3, hσ3⟩ : ∃ σ3, σi ++ [some en.e] = σ3 := ⟨_, rfl⟩
        have l3 : σ3.length = σi.length + 1 := by rw [← hσ3]; simp
        have keep3 : ∀ b, b < σi.length → box σ3 b = box σi b := fun b hb => by rw [← hσ3, box_append, if_pos hb]
        have r1 := (keep3 _ lq1).trans q1
        have r2 := (keep3 _ lq2).trans q2
        have r7 : box σ3 σi.length = some en.e := by rw [← hσ3, box_append, if_neg (by omega)]; simp
        have hLe : (L.map GEnt.e).flatten.length = L.length * 2 := flat_lenE GEnt.e_len L
        have b1 : (L.length + 1) * 16 ≤ 140737488355328 := by omega
        have b2 : L.length + 1 ≤ maxLen := by simp only [maxLen]; omega
        refine awp_go ?_
        simp [roundSt, parT]
        rw [hσ3]
        refine awp_go ?_
        have a1 : ∀ z : Boxes, (σ3 ++ z)[σ.length]? = some (some [.osl ob 2 0 L.length]) := fun z => by rw [List.getElem?_append_left (by omega)]; exact boxG r1
        have a2 : ∀ z : Boxes, (σ3 ++ z)[ob]? = some (some (L.map GEnt.e).flatten) := fun z => by rw [List.getElem?_append_left (by omega)]; exact boxG r2
        have a3 : ∀ z y : Option (List PV), ((σ3 ++ [z]).set ob none ++ [y])[σ.length]? = some (some [.osl ob 2 0 L.length]) := fun z y => by
          rw [List.getElem?_append_left (by simp; omega), List.getElem?_set_ne (by omega), a1]
        simp [boxG r1, boxG r7, a1, a2, a3, hLe, b1, b2]
        refine ⟨_, Ent.refl _, _, ⟨fun b hb => ?_, σ3.length + 1, ?_, ?_, by omega⟩, Ent.refl _⟩
        · rw [box_set (by simp; omega), if_neg (by omega), box_append, if_pos (by simp; omega), box_set (by simp; omega), if_neg (by omega), box_append, if_pos (by omega), keep3 b (by omega)]
          exact hkp b hb
        · rw [box_set (by simp; omega), if_pos rfl]; simp
        · rw [box_set (by simp; omega), if_neg (by omega), box_append, if_neg (by simp)]; simp
      · intro τ hJ
        obtain ⟨hkp, ob, q1, q2, q3⟩ := hJ
        simp
        refine awp0_of (awp_go ?_)
        simp [boxG q1]
        have hO : OutAt σ ob (x.2.ents.map GEnt.e).flatten τ := ⟨hkp, by simpa using q2, by omega⟩
        refine finL_ent (ent_fz ob (x.2.ents.map GEnt.e).flatten hO.bc (by simp) (by show σ.length ≤ ob; omega)) ?_
        refine finL (p := .sl 2 ((entsR R).map GEnt.e)) ⟨rfl, hO.ext hlt0 _⟩ (h := ?_)
        simp [St.fz, ← hf, entsR]
    · simp [hk] at hf
      simp [hk]
      refine awp0_cond (t := false) (by simp) ?_
      simp
      refine awp0_of (awp_go ?_)
      simp
      refine awp0_of (awp_go ?_)
      simp
      rw [wrap_id (by omega) (by omega)]
      exact ⟨i + 1, ⟨hlt, hf⟩, by omega, ent_T _⟩
  · simp [hlt]
    rw [List.drop_eq_nil_of_le (by omega)] at hf
    refine awp0_seq (awp0_of (awp_go ?_))
    simp
    refine awp0_of (awp_go ?_)
    simp
    refine finL_ent (ent_nilsl (t := 4) (z := 2) rfl) ?_
    exact finL (p := .sl 2 ((entsR R).map GEnt.e)) ⟨rfl, [], by simp⟩ (h := by simp [← hf, entsR])
end Go.Proofs.Ytidhdlhblhbahaa.Am
/- A made world has at most eight items. -/
namespace Go.Proofs.Ytidhdlhblhbahaa.Am
open Go Go.RowKit

theorem mkW_items (ks : List GKind) : ∀ (n i : Nat) (gs : List Int) (its : List GItem) (l : List Int), its.length ≤ 8 → (mkWorld ks n i gs its l).2.1.length ≤ 8
  | 0, _, _, _, _, h => h
  | n + 1, i, gs, its, l, h => by
    unfold mkWorld
    split
    · exact mkW_items ks n _ _ _ _ h
    · rename_i hc
      exact mkW_items ks n _ _ _ _ (by simp; omega)
theorem worldM_le8 (l : List Int) : (worldM l).Items.length ≤ 8 := mkW_items _ _ _ _ _ _ (by simp)
end Go.Proofs.Ytidhdlhblhbahaa.Am
/- ArchOnce: tables of base; what a world in tables has. -/
namespace Go.Proofs.Ytidhdlhblhbahaa.Am
open Go Go.RowKit

theorem ArchP.bound {tabs : List (Nat × GTab)} {oks : List Int} {ofT : Int → Nat} (hP : ArchP tabs oks ofT) {items : List GItem} (hp : (tabs.flatMap fun x => x.2.rows).Perm items) (hl : items.length ≤ 100000) : tabs.length ≤ 100000 ∧ ∀ x ∈ tabs, x.2.rows.length ≤ 100000 := by
  have h1 := tabs_le hP.ne
  have h2 := hp.length_eq
  exact ⟨by omega, fun x hx => by have := rows_le x hx; omega⟩

set_option maxRecDepth 20000 in
theorem tabled_fn : Fn Try.prog 6 [] (kB true) := by
  have hc : checkW baseW = 0 := by decide
  refine fn_go Try.func6 rfl ?_
  simp [Try.ntmps6]
  refine cal base_fn ?_
  simp
  refine calL (Of_L baseW hc) (fun p τ hp => ?_)
  obtain ⟨ab, g, rfl, ⟨tabs, oks, ofT, hH, hP, hpm⟩, hfr⟩ := hp
  have hi : baseW.Items.length = 1 := rfl
  have hl := hpm.length_eq
  rw [hi] at hl
  obtain ⟨hb1, hb2⟩ := hP.bound hpm (by rw [hi]; omega)
  have ht1 : tabs.length = 1 := by
    have := tabs_le hP.ne
    cases tabs with
    | nil => simp at hl
    | cons x r => simp at this ⊢; have := this; simp at hl; cases r with
      | nil => rfl
      | cons y r => have h1 := hP.ne y (by simp); have h2 := hP.ne x (by simp); have h3 := List.length_pos_iff.2 h1; have h4 := List.length_pos_iff.2 h2; simp at hl; omega
  simp
  refine calL (Tables_L hH hP.kl hb1) (fun p τ2 hp => ?_)
  obtain ⟨rfl, hτ⟩ := hp
  rw [hτ]
  simp [ht1]
  exact finm

/-- A table is found by its kinds. -/
theorem entsOf_at {tabs : List (Nat × GTab)} {oks : List Int} {ofT : Int → Nat} (hP : ArchP tabs oks ofT) {x : Nat × GTab} (hx : x ∈ tabs) : entsOf tabs x.2.kinds = x.2.ents := by
  obtain ⟨i, hi, rfl⟩ := List.getElem_of_mem hx
  have hpw := List.pairwise_iff_getElem.1 hP.srt
  have : tabs.find? (fun y => decide (y.2.kinds = tabs[i].2.kinds)) = some tabs[i] := by
    rw [List.find?_eq_some_iff_getElem]
    refine ⟨by simp, i, hi, rfl, fun j hj => ?_⟩
    have h := hpw j i (by omega) hi hj
    simp only [Bool.not_eq_true', decide_eq_false_iff_not]
    intro e
    rw [cmpL_same.2 e] at h
    omega
  unfold entsOf entsR
  rw [this]

theorem find_item {w : GWorld} (hs : w.Items.Pairwise fun a b => a.Ent.N < b.Ent.N) {it : GItem} (h : it ∈ w.Items) : ∃ p, ∃ hp : p < w.Items.length, findW w it.Ent = (p : Nat) ∧ w.Items[p] = it := by
  obtain ⟨p, hp, rfl⟩ := List.getElem_of_mem h
  have hpw := List.pairwise_iff_getElem.1 hs
  refine ⟨p, hp, idxB_some hp (fun j hj x hx => ?_) (by simp), rfl⟩
  rw [List.getElem?_eq_getElem (by omega)] at hx
  obtain rfl := Option.some.inj hx
  have := hpw j p (by omega) hp hj
  simp only [decide_eq_false_iff_not]
  intro e
  rw [e] at this
  omega

structure LX where
  i : Nat
  σ : Boxes

set_option maxRecDepth 20000 in
set_option maxHeartbeats 1000000 in
theorem ArchOnce_law (l : List Int) (hw : ∀ x ∈ l, (Lit.int .i64 x).wf = true) : Fn Try.prog 3 [slI l] (kB true) := by
  refine fn_go Try.func3 rfl ?_
  simp [Try.ntmps3]
  refine cal (World_fn l) ?_
  have hv := worldM_valid l
  have hi8 := worldM_le8 l
  generalize worldM l = w at hv hi8 ⊢
  obtain ⟨hfi, hfc⟩ := checkW_fine hv
  obtain ⟨ce, cg, ci, cn, cit⟩ := checkW_iff.1 hv
  obtain ⟨hsort, hok⟩ := items_iff.1 cit
  simp
  refine cal tabled_fn ?_
  simp
  refine calL (Of_L w hv) (fun p τ hp => ?_)
  obtain ⟨ab, g, rfl, hA, hfr⟩ := hp
  have hWL := World_L hA (sorts12 hsort (by omega)) (by omega) (fun it hi => ⟨by have := (hfc it hi).1; omega, fun c hc => by have := ((hfc it hi).2 c hc).2.2.2; omega⟩) (by have := (checkE_le ce).1; omega) (fun k hk => by have := (checkE_le ce).2 k hk; omega) (by omega)
  obtain ⟨tabs, oks, ofT, hH, hP, hpm⟩ := hA
  obtain ⟨hb1, hb2⟩ := hP.bound hpm (by omega)
  have k0 : box τ 0 = some w.e := hfr.box (b := 0) rfl fun h => h
  simp
  refine awp_drawR follows_mix [] [] [(0, [0]), (0, [0]), (0, [0]), (0, [0]), (0, [0]), (0, [0]), (0, [0]), (0, [0]), (2, [0]), (0, [0]), (2, [0]), (0, [0]), (0, [0])] 0 (by kernel_rfl) rfl ?_
  simp [boxG k0]
  refine gD_call (.agg w.e) ?_
  simp [boxG k0]
  refine gD_call (kB true) ?_
  simp [boxG k0]
  refine ⟨⟨⟨.inl ⟨rfl, doL hWL⟩, trivial⟩, callR_ok (calO (by simpa using same_fn w w hfi))⟩, ?_⟩
  have hTL : FnL Try.prog 10 [.ptr ab 0] τ (fun p τ' => p = .sl 1 (tabs.map fun x => [slI x.2.kinds]) ∧ τ' = τ) := Tables_L hH hP.kl hb1
  refine calL hTL (fun p τ2 hp => ?_)
  obtain ⟨rfl, hτ⟩ := hp
  rw [hτ]
  simp
  obtain ⟨cn, hcn⟩ : ∃ cn : Nat → Nat, cn = fun i => ((tabs.take i).flatMap fun x => x.2.rows).length := ⟨_, rfl⟩
  have cn0 : cn 0 = 0 := by rw [hcn]; simp
  have cnn : cn tabs.length = w.Items.length := by rw [hcn]; simp only; rw [List.take_length, hpm.length_eq]
  have cns : ∀ i (hi : i < tabs.length), cn (i + 1) = cn i + tabs[i].2.rows.length := fun i hi => by
    rw [hcn]; simp only
    rw [List.take_succ_eq_append_getElem hi, List.flatMap_append, List.length_append]; simp
  have cnb : ∀ i, i ≤ tabs.length → cn i ≤ 8 := fun i hi => by
    rw [hcn]; simp only
    have h1 : ((tabs.take i).flatMap fun x => x.2.rows).Sublist (tabs.flatMap fun x => x.2.rows) := by
      conv => rhs; rw [← List.take_append_drop i tabs, List.flatMap_append]
      exact List.sublist_append_left _ _
    have h2 := h1.length_le
    have h3 := hpm.length_eq
    omega
  clear hcn
  refine awp_loop (fun x : LX => ⟨111, [(3, .ptr 0 0), (4, .ptr ab 0), (6, kI (cn x.i)), (38, .sl 1 (tabs.map fun x => [slI x.2.kinds])), (39, kI tabs.length), (40, kI x.i)], x.σ, 0⟩)
    (fun x => x.i ≤ tabs.length ∧ Fr τ x.σ g g (fun _ => False)) (fun x => tabs.length - x.i) ⟨0, τ⟩ (by rw [cn0]; exact ent_T _) ⟨by simp, Fr.rfl⟩ ?_
  rintro ⟨i, σ1⟩ ⟨hi, hF1⟩
  simp only at hi hF1 ⊢
  refine awp_go ?_
  by_cases hlt : i < tabs.length
  · obtain ⟨x, hx⟩ : ∃ x, tabs[i] = x := ⟨_, rfl⟩
    have hm : x ∈ tabs := hx ▸ List.getElem_mem hlt
    have hrx := hb2 x hm
    have hEx : entsOf tabs x.2.kinds = x.2.ents := entsOf_at hP hm
    have hrl : x.2.ents.length = x.2.rows.length := x.2.ents_len
    have hne : x.2.ents.length ≠ 0 := by
      rw [hrl]
      exact fun h => hP.ne x hm (List.eq_nil_of_length_eq_zero h)
    have hcs := cns i hlt
    rw [hx] at hcs
    have hcb := cnb (i + 1) hlt
    have hwr : IntKind.i64.wrap ((cn i : Int) + (x.2.ents.length : Int)) = (cn (i + 1) : Int) := by rw [wrap_id (by omega) (by omega)]; omega
    simp [hlt, hx]
    refine calL (Ents_L (hH.frame hF1 fun _ _ h => h) hP.kl hb1 hb2 x.2.kinds) (fun p τ2 hp => ?_)
    obtain ⟨rfl, hτ⟩ := hp
    rw [hτ, hEx]
    simp [hne, hwr]
    refine awp_loop (fun y : LX => ⟨111, [(3, .ptr 0 0), (4, .ptr ab 0), (6, kI (cn (i + 1))), (8, slI x.2.kinds), (54, .sl 2 (x.2.ents.map GEnt.e)), (55, kI x.2.ents.length), (56, kI y.i), (38, .sl 1 (tabs.map fun x => [slI x.2.kinds])), (39, kI tabs.length), (40, kI i)], y.σ, 0⟩)
      (fun y => y.i ≤ x.2.ents.length ∧ Fr τ y.σ g g (fun _ => False)) (fun y => x.2.ents.length - y.i) ⟨0, σ1⟩ (ent_T _) ⟨by simp, hF1⟩ ?_
    rintro ⟨j, σ2⟩ ⟨hj, hF2⟩
    simp only at hj hF2 ⊢
    refine awp_go ?_
    by_cases hjl : j < x.2.ents.length
    · have hjr : j < x.2.rows.length := by omega
      obtain ⟨it, hit⟩ : ∃ it, x.2.rows[j] = it := ⟨_, rfl⟩
      have hen : x.2.ents[j] = it.Ent := by simp only [GTab.ents, List.getElem_map, hit]
      have hitm : it ∈ x.2.rows := hit ▸ List.getElem_mem hjr
      have hiti : it ∈ w.Items := hpm.subset (List.mem_flatMap.2 ⟨x, hm, hitm⟩)
      obtain ⟨q, hq, hfq, hqe⟩ := find_item hsort hiti
      have hkk := (hP.row x hm it hitm).1
      have hkl : x.2.kinds.length = it.Comps.length := by rw [← hkk]; simp
      have hcl := (hfc it hiti).1
      have hk2 := hF2.box k0 fun h => h
      have l0 := box_lt hk2
      have a0 : ∀ z : Boxes, (σ2 ++ z)[0]? = some (some w.e) := fun z => by rw [List.getElem?_append_left l0]; exact boxG hk2
      have a1 : ∀ (z : Boxes) (h : 0 < (σ2 ++ z).length), (σ2 ++ z)[0] = some w.e := fun z h => (List.getElem?_eq_some_iff.1 (a0 z)).2
      have hnn : ¬ ((q : Int) < 0) := by omega
      have hnl : ¬ (w.Items.length ≤ q) := by omega
      have hwF := WFind_fn w it.Ent (by omega)
      rw [hfq] at hwF
      simp [hjl, hen, a0, a1]
      refine cal hwF ?_
      simp [a0, a1, hnn, hnl, hq, hqe, hkl]
      have hF3 : Fr τ (σ2 ++ [some it.Ent.e]) g g (fun _ => False) := hF2.trans Fr.app
      refine awp_loop (fun y : LX => ⟨111, [(3, .ptr 0 0), (4, .ptr ab 0), (6, kI (cn (i + 1))), (8, slI x.2.kinds), (54, .sl 2 (x.2.ents.map GEnt.e)), (55, kI x.2.ents.length), (56, kI j), (38, .sl 1 (tabs.map fun x => [slI x.2.kinds])), (39, kI tabs.length), (40, kI i),
          (89, .sl 2 (it.Comps.map GComp.e)), (90, kI it.Comps.length), (91, kI y.i)], y.σ, 0⟩)
        (fun y => y.i ≤ it.Comps.length ∧ Fr τ y.σ g g (fun _ => False)) (fun y => it.Comps.length - y.i) ⟨0, σ2 ++ [some it.Ent.e]⟩ (ent_T _) ⟨by simp, hF3⟩ ?_
      rintro ⟨v, σ3⟩ ⟨hv3, hF4⟩
      simp only at hv3 hF4 ⊢
      refine awp_go ?_
      by_cases hvl : v < it.Comps.length
      · have hvk : v < x.2.kinds.length := by omega
        have hkv : x.2.kinds[v] = (it.Comps[v]).Kind := by simp only [← hkk, List.getElem_map]
        simp [hvl]
        refine awp_draw follows_mix [] [(0, [0]), (0, [0]), (0, [0]), (0, [0]), (0, [0]), (0, [0]), (0, [0])] 0 (by kernel_rfl) rfl ?_
        simp [hvk, hkv]
        rw [wrap_id (by omega) (by omega)]
        exact ⟨⟨v + 1, _⟩, ⟨hvl, hF4.trans Fr.app⟩, by simp only; omega, ent_T _⟩
      · simp [hvl]
        rw [wrap_id (by omega) (by omega)]
        exact ⟨⟨j + 1, σ3⟩, ⟨hjl, hF4⟩, by simp only; omega, ent_T _⟩
    · have hjn : j = x.2.ents.length := by omega
      subst hjn
      simp
      rw [wrap_id (by omega) (by omega)]
      exact ⟨⟨i + 1, σ2⟩, ⟨hlt, hF2⟩, by simp only; omega, ent_T _⟩
  · have hin : i = tabs.length := by omega
    subst hin
    have hk0 := hF1.box k0 fun h => h
    rw [cnn]
    simp [boxG hk0]
    exact finm (by simp)
end Go.Proofs.Ytidhdlhblhbahaa.Am
/- The library's sort of entities by a comparison, up to twelve of them. -/
namespace Go.Proofs.Ytidhdlhblhbahaa.Am
open Go Go.RowKit

set_option maxHeartbeats 1000000 in
set_option maxRecDepth 20000 in
theorem insEn_fn (l : List GEnt) (fn : FuncId) (c : GEnt → GEnt → Int) (hl : l.length ≤ 12) (he : enterable Try.prog fn = true) (hf : ∀ x y, Fn Try.prog fn [.agg (GEnt.e x), .agg (GEnt.e y)] (kI (c x y))) :
    FnD Try.prog 97 [.osl 0 2 0 l.length, kI 0, kI l.length, .clo (.func fn) []] [(l.map GEnt.e).flatten] (.tup []) [some ((insSort c l).map GEnt.e).flatten] := by
  obtain ⟨n, hn⟩ : ∃ n, l.length = n := ⟨_, rfl⟩
  obtain ⟨R, hR⟩ : ∃ R, insSort c l = R := ⟨_, rfl⟩
  rw [hn] at hl ⊢
  rw [hR]
  refine fnd_go Try.func97 rfl ?_
  simp [Try.ntmps97]
  refine awp_loop (fun x : Nat × List GEnt => ⟨53, [(0, .osl 0 2 0 n), (1, kI 0), (2, kI n), (3, .clo (.func fn) []), (8, kI x.1)], [some (x.2.map GEnt.e).flatten], 1⟩)
    (fun x => 1 ≤ x.1 ∧ x.1 ≤ n + 1 ∧ x.2.length = n ∧ insOut c (n - x.1) x.1 x.2 = R) (fun x => n + 1 - x.1) (1, l) ?_ ?_ ?_
  · exact entm [0]
  · exact ⟨Nat.le_refl _, by omega, hn, by rw [← hR, insSort, hn]⟩
  · rintro ⟨i, L⟩ ⟨hi1, hi, hL, hrun⟩
    simp only at hi1 hi hL hrun
    refine awp_go ?_
    by_cases hlt : i < n
    · rw [show n - i = (n - (i + 1)) + 1 by omega, insOut] at hrun
      simp [hlt]
      refine awp_loop (fun x : Nat × List GEnt => ⟨53, [(0, .osl 0 2 0 n), (1, kI 0), (2, kI n), (3, .clo (.func fn) []), (8, kI i), (9, kI x.1)], [some (x.2.map GEnt.e).flatten], 1⟩)
        (fun x => x.1 ≤ i ∧ x.2.length = n ∧ insIn c x.1 x.2 = insIn c i L) (fun x => x.1) (i, L) ?_ ?_ ?_
      · exact entm [0]
      · exact ⟨Nat.le_refl _, hL, rfl⟩
      · rintro ⟨j, M⟩ ⟨hj, hM, hin⟩
        simp only at hj hM hin
        refine awp_go ?_
        cases j with
        | zero =>
          simp
          refine awp_draw follows_mix [] [(0, [0]), (0, [0]), (0, [0]), (0, [0]), (0, [0]), (0, [0]), (0, [0]), (0, [0]), (0, [0]), (0, [0]), (0, [0]), (0, [0]), (0, [0]), (0, [0]), (2, [0]), (0, [0]), (0, [0])] 0 (by kernel_rfl) rfl ?_
          simp
          refine ⟨calSkp, ?_⟩
          rw [wrap_id (by omega) (by omega)]
          have hM2 : M = insIn c i L := hin
          subst hM2
          exact ⟨i + 1, insIn c i L, ⟨by omega, by omega, hM, hrun⟩, by omega, entm [0]⟩
        | succ j =>
          have h1 : j < M.length := by omega
          have h2 : j + 1 < M.length := by omega
          have h3 : j + 1 < n := by omega
          have h4 : j < n := by omega
          rw [insIn, List.getElem?_eq_getElem h1, List.getElem?_eq_getElem h2] at hin
          simp only at hin
          have g1 : (j + 1) * 2 + 2 ≤ M.length * 2 := by omega
          have g2 : j * 2 + 2 ≤ M.length * 2 := by omega
          have w1 : (((j + 1 : Nat) : Int) - 1) = (j : Int) := by omega
          have w2 : ((j : Int) + 1 - 1) = (j : Int) := by omega
          have w3 : (0 : Int) < (j : Int) + 1 := by omega
          have w4 : ((j : Int) + 1).toNat = j + 1 := by omega
          have w5 : (0 : Int) ≤ (j : Int) + 1 := by omega
          simp
          refine awp_draw follows_mix [] [(0, [0]), (0, [0]), (0, [0]), (0, [0]), (0, [0]), (0, [0]), (0, [0]), (0, [0]), (0, [0]), (0, [0]), (0, [0]), (0, [0]), (0, [0]), (0, [0]), (2, [0]), (0, [0]), (0, [0])] 0 (by kernel_rfl) rfl ?_
          have w6 : (j : Int) + 1 < (n : Int) := by omega
          have e1 : (M[j + 1]? : Option GEnt) = some M[j + 1] := List.getElem?_eq_getElem h2
          simp [w1, w2, w3, w4, w5, w6, h1, h2, h3, h4, g1, g2]
          rw [wrap_id (by omega) (by omega)]
          simp [w1, w2, w3, w4, w5, w6, h1, h2, h3, h4, g1, g2]
          refine gD_call (kI (c M[j + 1] M[j])) ?_
          simp [w1, w2, w3, w4, w5, w6, h1, h2, h3, h4, g1, g2]
          refine ⟨⟨wrap_id (by omega) (by omega), calO (hf M[j + 1] M[j]) (he := he)⟩, ?_⟩
          by_cases hlt2 : c M[j + 1] M[j] < 0
          · rw [if_pos hlt2] at hin
            have r1 := row_set (e := GEnt.e) (z := 2) (fun _ => rfl) M (j + 1) M[j] h2
            obtain ⟨M1, hM1⟩ : ∃ M1, M.set (j + 1) M[j] = M1 := ⟨_, rfl⟩
            have hM1l : M1.length = M.length := by rw [← hM1]; simp
            have r2 := row_set (e := GEnt.e) (z := 2) (fun _ => rfl) M1 j M[j + 1] (by omega)
            obtain ⟨M2, hM2⟩ : ∃ M2, M1.set j M[j + 1] = M2 := ⟨_, rfl⟩
            rw [hM1] at r1 hin
            rw [hM2] at r2 hin
            have g3 : j * 2 + 2 ≤ M1.length * 2 := by omega
            simp [hlt2]
            refine awp_draw follows_mix [] [(0, [0]), (0, [0]), (0, [0, 1]), (0, [0, 1]), (0, [0, 1]), (0, [0]), (0, [0]), (0, [0]), (0, [0]), (0, [0]), (0, [0]), (0, [0]), (0, [0]), (0, [0]), (0, [0]), (1, [0]), (0, [1]), (1, [1])] 2 (by kernel_rfl) rfl ?_
            simp [w1, w2, w3, w4, w5, w6, h1, h2, h3, h4, g1, g2]
            rw [wrap_id (by omega) (by omega)]
            simp [w1, w2, w3, w4, w5, w6, h1, h2, h3, h4, g1, g2, g3, r1, r2]
            have hM2l : M2.length = n := by rw [← hM2]; simp [hM1l, hM]
            rw [wrap_id (by omega) (by omega)]
            exact ⟨rfl, j, M2, ⟨by omega, hM2l, hin⟩, by omega, entm [0]⟩
          · rw [if_neg hlt2] at hin
            simp [hlt2]
            rw [wrap_id (by omega) (by omega)]
            rw [← hin] at hrun
            exact ⟨i + 1, M, ⟨by omega, by omega, hM, hrun⟩, by omega, entm [0]⟩
    · simp [hlt]
      have hR2 : L = R := by
        rw [← hrun, show n - i = 0 by omega]; rfl
      subst hR2
      exact finGm [0]

set_option maxHeartbeats 1000000 in
set_option maxRecDepth 20000 in
theorem pdqEn_fn (l : List GEnt) (r : Int) (fn : FuncId) (c : GEnt → GEnt → Int) (hl : l.length ≤ 12) (he : enterable Try.prog fn = true) (hf : ∀ x y, Fn Try.prog fn [.agg (GEnt.e x), .agg (GEnt.e y)] (kI (c x y))) :
    FnD Try.prog 75 [.osl 0 2 0 l.length, kI 0, kI l.length, kI r, .clo (.func fn) []] [(l.map GEnt.e).flatten] (.tup []) [some ((insSort c l).map GEnt.e).flatten] := by
  refine fnd_go Try.func75 rfl ?_
  simp [Try.ntmps75]
  refine awp_loop (fun _ : Unit => ⟨148, [(0, .osl 0 2 0 l.length), (1, kI 0), (2, kI l.length), (3, kI r), (4, .clo (.func fn) [])], [some (l.map GEnt.e).flatten], 1⟩) (fun _ => True) (fun _ => 0) () ?_ trivial ?_
  · exact entm [0]
  · rintro ⟨⟩ _
    refine awp_go ?_
    have h12 : (l.length : Int) ≤ 12 := by omega
    simp
    rw [wrap_id (by omega) (by omega)]
    simp [h12]
    refine calD [0] (insEn_fn l fn c hl he hf) ?_
    simp
    obtain ⟨R, hR⟩ : ∃ R, insSort c l = R := ⟨_, rfl⟩
    rw [hR]
    exact finGm [0]
theorem SortEn_fn (l : List GEnt) (fn : FuncId) (c : GEnt → GEnt → Int) (hl : l.length ≤ 12) (he : enterable Try.prog fn = true) (hf : ∀ x y, Fn Try.prog fn [.agg (GEnt.e x), .agg (GEnt.e y)] (kI (c x y))) :
    FnD Try.prog 40 [.osl 0 2 0 l.length, .clo (.func fn) []] [(l.map GEnt.e).flatten] (.tup []) [some ((insSort c l).map GEnt.e).flatten] := by
  refine fnd_go Try.func40 rfl ?_
  simp [Try.ntmps40]
  have hw : IntKind.u64.wrap (l.length : Int) = l.length := by
    simp [IntKind.wrap, IntKind.bits, IntKind.signed]; omega
  simp [hw]
  refine cal (Len_fn l.length hl) ?_
  simp
  refine calD [0] (pdqEn_fn l (len8 l.length) fn c hl he hf) ?_
  simp
  exact finGm [0] (hB := by simp)
end Go.Proofs.Ytidhdlhblhbahaa.Am
/- Queries over tables, in plain Lean. -/
namespace Go.Proofs.Ytidhdlhblhbahaa.Am
open Go Go.RowKit

/-- A set of kinds answers a query. -/
def qP (wi wo ks : List Int) : Bool := !(wi.any fun k => !ks.contains k) && !(wo.any fun k => ks.contains k)
theorem hasK_kinds (it : GItem) (k : Int) : hasK it k = (it.Comps.map GComp.Kind).contains k := by
  unfold hasK
  induction it.Comps with
  | nil => rfl
  | cons c r ih => simp only [List.any_cons, List.map_cons, List.contains_cons, ih]; congr 1; rw [Bool.eq_iff_iff]; simp only [decide_eq_true_eq, beq_iff_eq]; exact ⟨Eq.symm, Eq.symm⟩
theorem match_kinds (it : GItem) (wi wo : List Int) : matchI it wi wo = qP wi wo (it.Comps.map GComp.Kind) := by
  unfold matchI qP
  simp only [hasK_kinds]
def overL (tabs : List (Nat × GTab)) (wi wo : List Int) : List GEnt := (tabs.filter fun x => qP wi wo x.2.kinds).flatMap fun x => x.2.ents
def cEn (x y : GEnt) : Int := cmpI x.N y.N
theorem cEn_lt (x y : GEnt) : cEn y x < 0 ↔ y.N < x.N := by unfold cEn cmpI; split <;> (try split) <;> omega

theorem overL_rows (wi wo : List Int) : ∀ (tabs : List (Nat × GTab)), (∀ x ∈ tabs, ∀ it ∈ x.2.rows, it.Comps.map GComp.Kind = x.2.kinds) → overL tabs wi wo = ((tabs.flatMap fun x => x.2.rows).filter fun it => matchI it wi wo).map GItem.Ent
  | [], _ => rfl
  | x :: tabs, h => by
    have ih := overL_rows wi wo tabs fun y hy => h y (List.mem_cons_of_mem _ hy)
    have hx := h x (by simp)
    have hf : x.2.rows.filter (fun it => matchI it wi wo) = if qP wi wo x.2.kinds = true then x.2.rows else [] := by
      split
      · rename_i hq
        refine List.filter_eq_self.2 fun it hit => ?_
        rw [match_kinds, hx it hit]; exact hq
      · rename_i hq
        refine List.filter_eq_nil_iff.2 fun it hit => ?_
        rw [match_kinds, hx it hit]; exact hq
    unfold overL at ih ⊢
    rw [List.flatMap_cons, List.filter_append, List.map_append, hf, ← ih, List.filter_cons]
    split
    · rename_i hq
      rw [List.flatMap_cons]; rfl
    · rename_i hq
      rfl

theorem over_eq {tabs : List (Nat × GTab)} {oks : List Int} {ofT : Int → Nat} (hP : ArchP tabs oks ofT) {items : List GItem} (hpm : (tabs.flatMap fun x => x.2.rows).Perm items) (hs : items.Pairwise fun a b => a.Ent.N < b.Ent.N) (wi wo : List Int) :
    (overL tabs wi wo).Perm ((items.filter fun it => matchI it wi wo).map GItem.Ent) ∧ insSort cEn (overL tabs wi wo) = (items.filter fun it => matchI it wi wo).map GItem.Ent := by
  have hp : (overL tabs wi wo).Perm ((items.filter fun it => matchI it wi wo).map GItem.Ent) := by
    rw [overL_rows wi wo tabs fun x hx it hit => (hP.row x hx it hit).1]
    exact (hpm.filter _).map _
  refine ⟨hp, insSort_eq (key := GEnt.N) cEn_lt hp ?_⟩
  rw [List.pairwise_map]
  exact hs.sublist List.filter_sublist

theorem rowsGo_items (p : GItem → Bool) : ∀ (l : List GItem) (i : Nat), (rowsGo p i l).map (fun x => x.2.Ent) = (l.filter p).map GItem.Ent
  | [], _ => rfl
  | x :: r, i => by
    rw [rowsGo, List.filter_cons]
    split
    · simp [rowsGo_items p r]
    · exact rowsGo_items p r _
end Go.Proofs.Ytidhdlhblhbahaa.Am
/- Package query: Tables, Over. -/
namespace Go.Proofs.Ytidhdlhblhbahaa.Am
open Go Go.RowKit

set_option maxRecDepth 20000 in
theorem QT11_fn (k : Int) (ks : List Int) (hl : ks.length ≤ 1000000) : Fn Try.prog 72 [kI k, .eptr [slI ks]] (kB (!ks.contains k)) := by
  refine fn_go Try.func72 rfl ?_
  simp [Try.ntmps72]
  refine cal (ContainsI_fn ks k (by omega)) ?_
  simp
  exact finm (by simp)
set_option maxRecDepth 20000 in
theorem QT12_fn (k : Int) (ks : List Int) (hl : ks.length ≤ 1000000) : Fn Try.prog 74 [kI k, .eptr [slI ks]] (kB (ks.contains k)) := by
  refine fn_go Try.func74 rfl ?_
  simp [Try.ntmps74]
  refine cal (ContainsI_fn ks k (by omega)) ?_
  simp
  exact finm (by simp)
set_option maxRecDepth 20000 in
theorem QT1_fn (ks wi wo : List Int) (hl : ks.length ≤ 1000000) (h1 : wi.length ≤ 4611686018427387904) (h2 : wo.length ≤ 4611686018427387904) : Fn Try.prog 71 [slI ks, .eptr [slI wi], .eptr [slI wo]] (kB (!qP wi wo ks)) := by
  refine fn_go Try.func71 rfl ?_
  simp [Try.ntmps71]
  refine ops_fz 0 [slI ks] ?_
  simp
  refine cal (ContainsFuncI_fn wi 72 [.eptr [slI ks]] (fun k => !ks.contains k) h1 (by simp) (by simp) fun k _ => QT11_fn k ks hl) ?_
  simp
  by_cases hb : (wi.any fun k => !decide (k ∈ ks)) = true
  · simp [hb]
    exact finm (by simp [qP, hb])
  · simp only [Bool.not_eq_true] at hb
    simp [hb]
    refine cal (ContainsFuncI_fn wo 74 [.eptr [slI ks]] (fun k => ks.contains k) h2 (by simp) (by simp) fun k _ => QT12_fn k ks hl) ?_
    simp
    exact finm (by simp [qP, hb])
end Go.Proofs.Ytidhdlhblhbahaa.Am
/- Package arch: Tables, the sets in a slice that may be written. -/
namespace Go.Proofs.Ytidhdlhblhbahaa.Am
open Go Go.RowKit

set_option maxRecDepth 20000 in
set_option maxHeartbeats 1000000 in
theorem Tables_O {σ : Boxes} {g : Tag} {ab : Nat} {kinds : List GKind} {gens oks : List Int} {tabs : List (Nat × GTab)} {ofT : Int → Nat} (hH : ArchH σ g ab kinds gens tabs oks ofT) (hkl : ∀ x ∈ tabs, x.2.kinds.length ≤ 1000) (htl : tabs.length ≤ 100000) :
    FnL Try.prog 10 [.ptr ab 0] σ (fun p τ => ∃ c, p = .osl c 1 0 tabs.length ∧ OutAt σ c (tabs.map fun x => ksE x.2.kinds).flatten τ) := by
  obtain ⟨⟨gb, tb, mb, h1, h2, h3, h4, g1, g2, g3, g4⟩, hT⟩ := hH
  refine fnl_of Try.func10 rfl fun hlt0 => ?_
  refine awp_seq (awp_go ?_)
  simp [Try.ntmps10, entryL]
  refine awp_seq (awp_go ?_)
  simp
  refine awp_seq (awp_go ?_)
  simp [boxG h1]
  refine awp_loop (fun x : TX => ⟨25, [(0, .ptr ab 0), (3, .osl x.c 1 0 x.i), (9, .osl tb 1 0 tabs.length), (10, kI tabs.length), (11, kI x.i)], x.σ, σ.length⟩)
    (fun x => OutAt σ x.c ((tabs.map fun x => ksE x.2.kinds).take x.i).flatten x.σ ∧ x.i ≤ tabs.length) (fun x => tabs.length - x.i) ⟨0, σ.length, σ ++ [some []]⟩ ?_ ?_ ?_
  · refine (ent_nil (t := 3) (z := 1) rfl).trans ?_
    exact ent_T _
  · exact ⟨⟨fun b hb => by rw [box_append, if_pos hb], by simp, Nat.le_refl _⟩, by simp⟩
  · rintro ⟨i, c, σ1⟩ ⟨hO, hi⟩
    simp only at hO hi ⊢
    refine awp_go ?_
    have hle := hO.le
    by_cases hlt : i < tabs.length
    · have k3 : box σ1 tb = _ := (hO.kp tb (box_lt h3)).trans h3
      obtain ⟨x, hx⟩ : ∃ x, tabs[i] = x := ⟨_, rfl⟩
      have hm : x ∈ tabs := hx ▸ List.getElem_mem hlt
      obtain ⟨e, cc, cols, t1, _⟩ := hT x hm
      have kt : box σ1 x.1 = _ := (hO.kp x.1 (box_lt t1.bt)).trans t1.bt
      have hkx := hkl x hm
      have hCl := CloneI_fn x.2.kinds (by omega)
      have hc1 := boxG hO.bc
      have lc := box_lt hO.bc
      have hcg := hO.cg
      have hcl : ((tabs.map fun x => ksE x.2.kinds).take i).flatten.length = i := by
        have := ksE_len ((tabs.take i).map fun x => x.2.kinds)
        simp only [List.map_map, List.length_map, List.length_take] at this
        rw [← List.map_take, show ((tabs.take i).map fun x => ksE x.2.kinds) = (tabs.take i).map (ksE ∘ fun x => x.2.kinds) from rfl, this]; omega
      have hsucc : ((tabs.map fun x => ksE x.2.kinds).take (i + 1)).flatten = ((tabs.map fun x => ksE x.2.kinds).take i).flatten ++ [slI x.2.kinds] := by
        rw [List.take_succ_eq_append_getElem (by simpa using hlt), List.flatten_append, List.getElem_map, hx]; simp [ksE]
      obtain ⟨C, hC⟩ : ∃ C, ((tabs.map fun x => ksE x.2.kinds).take i).flatten = C := ⟨_, rfl⟩
      rw [hC] at hc1 hcl hsucc
      have a2 : ∀ z : Boxes, (σ1 ++ z)[c]? = some (some C) := fun z => by rw [List.getElem?_append_left (by omega)]; exact hc1
      have b1 : (i + 1) * 24 ≤ 140737488355328 := by omega
      have b2 : i + 1 ≤ maxLen := by simp only [maxLen]; omega
      simp [hlt, boxG k3, hx]
      simp [boxG kt]
      refine cal hCl ?_
      simp [boxG kt, a2, hcl, b1, b2]
      rw [wrap_id (by omega) (by omega)]
      refine ⟨⟨i + 1, σ1.length + 1, (σ1 ++ [some [slI x.2.kinds]]).set c none ++ [some (C ++ [slI x.2.kinds])]⟩, ⟨⟨fun b hb => ?_, ?_, by show σ.length ≤ σ1.length + 1; omega⟩, hlt⟩, by show _ - (i + 1) < _; omega, ent_T _⟩
      · show box ((σ1 ++ [some [slI x.2.kinds]]).set c none ++ [some (C ++ [slI x.2.kinds])]) b = _
        rw [box_append, if_pos (by simp; omega), box_set (by simp; omega), if_neg (by omega), box_append, if_pos (by omega)]
        exact hO.kp b hb
      · show box ((σ1 ++ [some [slI x.2.kinds]]).set c none ++ [some (C ++ [slI x.2.kinds])]) (σ1.length + 1) = some ((tabs.map fun x => ksE x.2.kinds).take (i + 1)).flatten
        rw [hsucc, box_append, if_neg (by simp)]; simp
    · have hin : i = tabs.length := by omega
      subst hin
      have hcs : ((tabs.map fun x => ksE x.2.kinds).take tabs.length) = tabs.map fun x => ksE x.2.kinds := List.take_of_length_le (by simp)
      rw [hcs] at hO
      simp
      refine awp_go ?_
      simp
      exact finL (p := .osl c 1 0 tabs.length) ⟨c, rfl, hO⟩
end Go.Proofs.Ytidhdlhblhbahaa.Am
/- Package query: Tables, Over. -/
namespace Go.Proofs.Ytidhdlhblhbahaa.Am
open Go Go.RowKit

/-- A box of the new ones is frozen, the others forgotten. -/
theorem fin_out {P : Program} {rs : List ResultVar} {s : St} {σ0 : Boxes} {c : Nat} {cells : List PV} {p : PV} (hO : OutAt σ0 c cells s.σ) (hlt : ltS σ0) (him : cells.all PV.immB = true) (hk : s.k ≤ c) (h : resPV P (s.fz c cells) rs = some p) : FinL P rs (fun p' τ => p' = p ∧ ∃ ext, τ = σ0 ++ ext) s :=
  finL_ent (ent_fz c cells hO.bc him hk) ⟨_, p, Ent.refl _, h, rfl, hO.ext hlt _⟩

theorem chunks_app1 {α : Type} {e : α → List PV} {z : Nat} (h : ∀ x, (e x).length = z) (l : List α) (Z : List PV) : chunks z ((l.map e).flatten ++ Z) l.length = l.map e := by
  have h1 := chunks_map (f := e) (z := z) h l
  refine Eq.trans ?_ h1
  unfold chunks
  refine List.map_congr_left fun i hi => ?_
  have hi' : i < l.length := by simpa using hi
  have hl := flat_lenE h l
  have h2 : i * z + z ≤ l.length * z := by
    have := Nat.mul_le_mul_right z (show i + 1 ≤ l.length from hi')
    rw [Nat.add_mul, Nat.one_mul] at this; exact this
  rw [List.drop_append_of_le_length (by omega), List.take_append_of_le_length (by rw [List.length_drop]; omega)]
theorem out_merge {σ0 τ : Boxes} {c : Nat} {cells cells2 : List PV} (hO : OutAt σ0 c cells τ) (h2 : cells2.all PV.immB = true) : OutAt σ0 c cells2 (merge τ [c] [some cells2]) := by
  have hc := box_lt hO.bc
  have hm := boxM (σ := τ) (σ' := [some cells2]) (th := [c]) (by simp) (by simpa using hc) (by simp)
  refine ⟨fun b hb => ?_, ?_, hO.cg⟩
  · have := hO.cg
    rw [(hm b).2.1 (by simp; omega) (by omega)]; exact hO.kp b hb
  · rw [(hm c).1 0 rfl]
    simp [box, imms_ren h2]

set_option maxRecDepth 20000 in
set_option maxHeartbeats 1000000 in
theorem QTables_L {σ : Boxes} {g : Tag} {ab : Nat} {kinds : List GKind} {gens oks : List Int} {tabs : List (Nat × GTab)} {ofT : Int → Nat} (hH : ArchH σ g ab kinds gens tabs oks ofT) (hkl : ∀ x ∈ tabs, x.2.kinds.length ≤ 1000) (htl : tabs.length ≤ 100000) (wi wo : List Int)
    (h1 : wi.length ≤ 4611686018427387904) (h2 : wo.length ≤ 4611686018427387904) : FnL Try.prog 39 [.ptr ab 0, slI wi, slI wo] σ (fun p τ => p = .sl 1 (((tabs.map fun x => x.2.kinds).filter fun ks => qP wi wo ks).map ksE) ∧ τ = σ) := by
  have hH' := hH
  refine fnl_trim ?_ (by simp)
  refine fnl_of Try.func39 rfl fun hlt0 => ?_
  refine awp_seq (awp_go ?_)
  simp [Try.ntmps39, entryL]
  have hb2 : σ.length + 1 - σ.length = 1 := by omega
  refine awp_ent (ent_fz σ.length [slI wi] (by simp) (by simp [slI_def]) (by simp)) ?_
  simp [St.fz, ltS_fz hlt0, List.set_append_right]
  refine awp_ent (ent_fz (σ.length + 1) [slI wo] (by show box (σ ++ _) (σ.length + 1) = _; rw [box_append, if_neg (by omega), hb2]; rfl) (by simp [slI_def]) (by show σ.length ≤ _; omega)) ?_
  obtain ⟨⟨gb, tb, mb, e1, _⟩, _⟩ := hH
  have hab := box_lt e1
  have n1 : ¬ ab = σ.length := by omega
  have n2 : ¬ ab = σ.length + 1 := by omega
  simp [St.fz, ltS_fz hlt0, List.set_append_right, n1, n2]
  refine awp_go ?_
  simp
  refine calL (Tables_O (hH'.frame (Fr.app (O := fun _ => False)) fun _ _ h => h) hkl htl) (fun p τ hp => ?_)
  obtain ⟨c, rfl, hO⟩ := hp
  obtain ⟨L, hL⟩ : ∃ L, tabs.map (fun x => x.2.kinds) = L := ⟨_, rfl⟩
  have hLl : tabs.length = L.length := by rw [← hL]; simp
  have hcells : (tabs.map fun x => ksE x.2.kinds).flatten = L.map slI := by rw [← sls_flat, ← hL, List.map_map]; rfl
  rw [hcells] at hO
  rw [hLl, hL]
  simp
  have hkL : ∀ ks ∈ L, ks.length ≤ 1000 := fun ks hk => by
    rw [← hL] at hk
    obtain ⟨x, hx, rfl⟩ := List.mem_map.1 hk
    exact hkl x hx
  have hDF := DeleteFuncL_fn L 71 [.eptr [slI wi], .eptr [slI wo]] (fun ks => !qP wi wo ks) (by omega) (by simp) (by simp) fun ks hk => QT1_fn ks wi wo (by have := hkL ks hk; omega) h1 h2
  simp only [Bool.not_not] at hDF
  obtain ⟨F, hF⟩ : ∃ F, L.filter (fun ks => qP wi wo ks) = F := ⟨_, rfl⟩
  rw [hF] at hDF ⊢
  have hDL : FnL Try.prog 70 [.osl c 1 0 L.length, .clo (.func 71) [.eptr [slI wi], .eptr [slI wo]]] τ
      (fun p τ' => p = .osl c 1 0 F.length ∧ τ' = merge τ [c] [some (F.map slI ++ List.replicate (L.length - F.length) kNil)]) :=
    fnl_fnd [c] hDF (by simp [thF]) (by simp [thF]) rfl (by simp) (by simp) ⟨⟨by rw [hO.bc, map_slI_ren], map_slI_lt _ _⟩, trivial⟩
  refine calL hDL (fun p τ2 hp => ?_)
  obtain ⟨rfl, hτ⟩ := hp
  have him : (F.map slI ++ List.replicate (L.length - F.length) kNil).all PV.immB = true := by
    rw [List.all_append, map_slI_imm, rep_nil_imm]; rfl
  have hO2 := out_merge hO him
  rw [← hτ] at hO2
  obtain ⟨Z, hZ⟩ : ∃ Z, List.replicate (L.length - F.length) kNil = Z := ⟨_, rfl⟩
  rw [hZ] at hO2 him
  have hO3 : OutAt σ c (F.map slI ++ Z) τ2 := ⟨fun b hb => by rw [hO2.kp b (by simp; omega), box_append, if_pos hb], hO2.bc, by have := hO2.cg; simp at this; omega⟩
  have hch : chunks 1 (F.map slI ++ Z) F.length = F.map ksE := by
    rw [← sls_flat]; exact chunks_app1 (e := ksE) (z := 1) (fun _ => rfl) F Z
  simp
  refine fin_out hO3 hlt0 him (by exact hO3.cg) ?_
  simp [St.fz, hch]
end Go.Proofs.Ytidhdlhblhbahaa.Am
/- Package query: Over. -/
namespace Go.Proofs.Ytidhdlhblhbahaa.Am
open Go Go.RowKit

set_option maxRecDepth 20000 in
theorem Over1_fn (x y : GEnt) : Fn Try.prog 41 [.agg x.e, .agg y.e] (kI (cEn x y)) := by
  refine fn_go Try.func41 rfl ?_
  simp [Try.ntmps41]
  refine cal (Compare_fn x.N y.N) ?_
  simp
  exact finm (by simp [cEn])

structure OvX where
  i : Nat
  c : Nat
  σ : Boxes

theorem over_flat {tabs : List (Nat × GTab)} {oks : List Int} {ofT : Int → Nat} (hP : ArchP tabs oks ofT) (wi wo : List Int) : ((tabs.map fun x => x.2.kinds).filter fun ks => qP wi wo ks).flatMap (fun ks => entsOf tabs ks) = overL tabs wi wo := by
  unfold overL
  rw [List.filter_map, List.flatMap_map]
  have key : ∀ l : List (Nat × GTab), (∀ x ∈ l, x ∈ tabs) → l.flatMap (fun x => entsOf tabs x.2.kinds) = l.flatMap fun x => x.2.ents := by
    intro l
    induction l with
    | nil => intro _; rfl
    | cons x l ih =>
      intro h
      rw [List.flatMap_cons, List.flatMap_cons, ih fun y hy => h y (List.mem_cons_of_mem _ hy), entsOf_at hP (h x (by simp))]
  exact key _ fun x hx => (List.mem_filter.1 hx).1

set_option maxRecDepth 20000 in
set_option maxHeartbeats 1000000 in
theorem Over_L {σ : Boxes} {g : Tag} {ab : Nat} {kinds : List GKind} {gens oks : List Int} {tabs : List (Nat × GTab)} {ofT : Int → Nat} (hH : ArchH σ g ab kinds gens tabs oks ofT) (hP : ArchP tabs oks ofT) (htl : tabs.length ≤ 100000) (hrl : ∀ x ∈ tabs, x.2.rows.length ≤ 100000) (wi wo : List Int)
    (h1 : wi.length ≤ 4611686018427387904) (h2 : wo.length ≤ 4611686018427387904) (hov : (overL tabs wi wo).length ≤ 12) : FnL Try.prog 18 [.ptr ab 0, slI wi, slI wo] σ (fun p τ => p = .sl 2 ((insSort cEn (overL tabs wi wo)).map GEnt.e) ∧ τ = σ) := by
  obtain ⟨K, hK⟩ : ∃ K, ((tabs.map fun x => x.2.kinds).filter fun ks => qP wi wo ks) = K := ⟨_, rfl⟩
  have hfl := over_flat hP wi wo
  have hQ := QTables_L hH hP.kl htl wi wo h1 h2
  rw [hK] at hfl hQ
  obtain ⟨E, hE⟩ : ∃ E : Nat → List GEnt, E = fun i => (K.take i).flatMap fun ks => entsOf tabs ks := ⟨_, rfl⟩
  have E0 : E 0 = [] := by rw [hE]; rfl
  have En : E K.length = overL tabs wi wo := by rw [hE]; simp only; rw [List.take_length, hfl]
  have Es : ∀ i (hi : i < K.length), E (i + 1) = E i ++ entsOf tabs K[i] := fun i hi => by
    rw [hE]; simp only
    rw [List.take_succ_eq_append_getElem hi, List.flatMap_append]; simp
  have Eb : ∀ i, i ≤ K.length → (E i).length ≤ 12 := fun i hi => by
    have h3 : (E i).Sublist (overL tabs wi wo) := by
      rw [← hfl, hE]; simp only
      conv => rhs; rw [← List.take_append_drop i K, List.flatMap_append]
      exact List.sublist_append_left _ _
    have := h3.length_le
    omega
  clear hE
  have hKl : K.length ≤ tabs.length := by rw [← hK]; exact Nat.le_trans (List.length_filter_le _ _) (by simp)
  refine fnl_trim ?_ (by simp)
  refine fnl_of Try.func18 rfl fun hlt0 => ?_
  refine awp_seq (awp_go ?_)
  simp [Try.ntmps18, entryL]
  refine awp_seq (awp_go ?_)
  simp
  refine awp_seq (awp_go ?_)
  simp
  refine calL hQ (fun p τ2 hp => ?_)
  obtain ⟨rfl, hτ⟩ := hp
  rw [hτ]
  simp
  refine awp_loop (fun x : OvX => ⟨28, [(0, .ptr ab 0), (7, .osl x.c 2 0 (E x.i).length), (13, .sl 1 (K.map ksE)), (14, kI K.length), (15, kI x.i)], x.σ, σ.length⟩)
    (fun x => x.i ≤ K.length ∧ OutAt σ x.c ((E x.i).map GEnt.e).flatten x.σ) (fun x => K.length - x.i) ⟨0, σ.length, σ ++ [some []]⟩ ?_ ?_ ?_
  · refine (ent_nil (t := 7) (z := 2) rfl).trans ?_
    rw [E0]
    exact ent_T _
  · exact ⟨by simp, fun b hb => by rw [box_append, if_pos hb], by rw [E0]; simp, Nat.le_refl _⟩
  · rintro ⟨i, c, σ1⟩ ⟨hi, hO⟩
    simp only at hi hO ⊢
    refine awp_go ?_
    have hcg := hO.cg
    have lc := box_lt hO.bc
    by_cases hlt : i < K.length
    · have hs := Es i hlt
      have hb1 := Eb (i + 1) hlt
      obtain ⟨ks, hks⟩ : ∃ ks, K[i] = ks := ⟨_, rfl⟩
      rw [hks] at hs
      have hk0 : (ksE ks)[0]? = some (slI ks) := rfl
      have hFr : Fr σ σ1 g g (fun _ => False) := ⟨hO.le, fun _ _ => rfl, fun b hb _ => hO.kp b hb⟩
      obtain ⟨en, hen⟩ : ∃ en, entsOf tabs ks = en := ⟨_, rfl⟩
      rw [hen] at hs
      have hEL := Ents_L (hH.frame hFr fun _ _ h => h) hP.kl htl hrl ks
      rw [hen] at hEL
      have hel : ((E i).map GEnt.e).flatten.length = (E i).length * 2 := flat_lenE GEnt.e_len (E i)
      have hln : (E (i + 1)).length = (E i).length + en.length := by rw [hs, List.length_append]
      have b1 : ((E i).length + en.length) * 16 ≤ 140737488355328 := by omega
      have b2 : (E i).length + en.length ≤ maxLen := by simp only [maxLen]; omega
      simp [hlt, hks, hk0]
      refine calL hEL (fun p τ3 hp => ?_)
      obtain ⟨rfl, hτ3⟩ := hp
      rw [hτ3]
      have hbc := boxG hO.bc
      simp [hbc, hel, b1, b2]
      rw [wrap_id (by omega) (by omega)]
      refine ⟨⟨i + 1, σ1.length, σ1.set c none ++ [some ((E (i + 1)).map GEnt.e).flatten]⟩, ⟨hlt, fun b hb => ?_, ?_, hO.le⟩, by simp only; omega, ?_⟩
      · rw [box_append, if_pos (by simp; omega), box_set lc, if_neg (by omega)]; exact hO.kp b hb
      · rw [box_append, if_neg (by simp)]; simp
      · have e1 : ((E (i + 1)).map GEnt.e).flatten = ((E i).map GEnt.e).flatten ++ (en.map GEnt.e).flatten := by rw [hs]; simp
        simp only [e1, hln]
        exact ent_T _
    · have hin : i = K.length := by omega
      subst hin
      rw [En] at hO
      have hSo := SortEn_fn (overL tabs wi wo) 41 cEn hov (by simp) Over1_fn
      obtain ⟨V, hV⟩ : ∃ V, overL tabs wi wo = V := ⟨_, rfl⟩
      rw [hV] at hSo hO
      rw [En, hV]
      have hSL : FnL Try.prog 40 [.osl c 2 0 V.length, .clo (.func 41) []] σ1 (fun p τ' => p = .tup [] ∧ τ' = merge σ1 [c] [some ((insSort cEn V).map GEnt.e).flatten]) :=
        fnl_fnd [c] hSo (by simp [thF]) (by simp) rfl (by simp) (by simp) ⟨⟨by rw [hO.bc, imms_ren (flat_imm GEnt.e_imm V)], imms_lt (flat_imm GEnt.e_imm V) _⟩, trivial⟩
      simp
      refine awp_go ?_
      simp
      refine calL hSL (fun p τ2 hp => ?_)
      obtain ⟨rfl, hτ2⟩ := hp
      have him := flat_imm GEnt.e_imm (insSort cEn V)
      have hO2 := out_merge hO him
      rw [← hτ2] at hO2
      simp
      have hVl : (insSort cEn V).length = V.length := (insSort_spec (key := GEnt.N) cEn_lt V).1.length_eq
      have hch : chunks 2 ((insSort cEn V).map GEnt.e).flatten V.length = (insSort cEn V).map GEnt.e := by
        rw [← hVl]; exact chunks_map (f := GEnt.e) (z := 2) GEnt.e_len _
      have hfl2 : ((insSort cEn V).map GEnt.e).flatten.length = V.length * 2 := by rw [flat_lenE GEnt.e_len, hVl]
      refine fin_out hO2 hlt0 him (by exact hO2.cg) ?_
      simp [St.fz, hch, hfl2]
end Go.Proofs.Ytidhdlhblhbahaa.Am
/- A contract at arguments that tell more. -/
namespace Go.Proofs.Ytidhdlhblhbahaa.Am
open Go Go.RowKit

theorem fn_tell {P : Program} {f : FuncId} {args args' : List PV} {σ : List (List PV)} {R : PV → Boxes → Prop} (h : FnG P f args' σ R) (hl : args.length = args'.length)
    (ht : ∀ (j : Nat) (p' : PV), args'[j]? = some p' → ∃ p, args[j]? = some p ∧ ∀ n ι S w v, VRel n ι S w v p → VRel n ι S w v p') : FnG P f args σ R := fun ι S w vals hs hlv hv =>
  h ι S w vals hs (by omega) fun j p' hj => by
    obtain ⟨p, hp, hr⟩ := ht j p' hj
    obtain ⟨v, h1, h2⟩ := hv j p hp
    exact ⟨v, h1, hr _ _ _ _ _ h2⟩

end Go.Proofs.Ytidhdlhblhbahaa.Am
/- Counting in base. -/
namespace Go.Proofs.Ytidhdlhblhbahaa.Am
open Go Go.RowKit

theorem base_count : countM baseW [0] [] = 1 := by decide

theorem Count_nil (w : GWorld) (wi : List Int) (hw : Fine w) (h1 : wi.length ≤ 4611686018427387904) : Fn Try.prog 13 [.agg w.e, slI wi, kNil] (kI (countM w wi [])) :=
  fn_tell (Count_fn w wi [] hw h1 (by simp)) rfl fun j p' hj => by
    match j, hj with
    | 0, hj => simp at hj; subst hj; exact ⟨_, rfl, fun _ _ _ _ _ h => h⟩
    | 1, hj => simp at hj; subst hj; exact ⟨_, rfl, fun _ _ _ _ _ h => h⟩
    | 2, hj => simp at hj; subst hj; exact ⟨_, rfl, (tell_nil 1).2⟩
    | j + 3, hj => simp at hj

theorem baseW_fine : Fine baseW := ⟨by decide, by decide, by decide, by decide, by decide, by decide⟩

theorem imms_snap {ps : List PV} (h : ps.all PV.immB = true) (σ : Boxes) : snapL σ ps = ps := by
  rw [snapL_map]
  refine (List.map_congr_left fun p hp => (?_ : p.snap σ = id p)).trans (by simp)
  have h1 := List.all_eq_true.1 h p hp
  clear h hp; revert h1; cases p <;> simp [PV.immB]

end Go.Proofs.Ytidhdlhblhbahaa.Am
/- slices of entities: Equal. -/
namespace Go.Proofs.Ytidhdlhblhbahaa.Am
open Go Go.RowKit

set_option maxRecDepth 20000 in
theorem EqualEn_fn (a b : List GEnt) (ha : a.length ≤ 1000000000) : Fn Try.prog 17 [.sl 2 (a.map GEnt.e), .sl 2 (b.map GEnt.e)] (kB (decide (a = b))) := by
  refine fn_go Try.func17 rfl ?_
  simp [Try.ntmps17]
  by_cases h : a.length = b.length
  · have h' : (a.length : Int) = b.length := by omega
    simp [h']
    refine awp_loop (fun i : Nat => ⟨26, [(0, .sl 2 (a.map GEnt.e)), (1, .sl 2 (b.map GEnt.e)), (12, kI b.length), (13, kI i)], [], 0⟩) (fun i => i ≤ a.length ∧ a.take i = b.take i) (fun i => a.length - i) 0 ?_ ?_ ?_
    · exact entm []
    · simp
    · intro i ⟨hi, hp⟩
      refine awp_go ?_
      by_cases hlt : i < b.length
      · have hla : i < a.length := by omega
        simp [hlt]
        refine awp_draw follows_mix [] [(0, [0]), (0, [0]), (0, [0]), (0, [0]), (0, [0]), (0, [0]), (0, [0]), (0, [0]), (0, [0])] 0 (by kernel_rfl) rfl ?_
        simp [hlt, hla]
        by_cases he : a[i] = b[i]
        · simp [he]
          rw [wrap_id (by omega) (by omega)]
          exact ⟨i + 1, ⟨by omega, take_extG hla hlt hp he⟩, by omega, entm []⟩
        · simp [he]
          have hne : a ≠ b := fun e => by subst e; exact he rfl
          exact finm (by simp [hne])
      · simp [hlt]
        have hab : a = b := by
          have e1 : a.take i = a := List.take_of_length_le (by omega)
          have e2 : b.take i = b := List.take_of_length_le (by omega)
          rw [← e1, ← e2]; exact hp
        exact finm (by simp [hab])
  · have h' : ¬ ((a.length : Int) = b.length) := by omega
    simp [h']
    have hne : a ≠ b := fun e => by subst e; exact h rfl
    exact finm (by simp [hne])

end Go.Proofs.Ytidhdlhblhbahaa.Am
/- QueryOver: the law. -/
namespace Go.Proofs.Ytidhdlhblhbahaa.Am
open Go Go.RowKit

structure WiX where
  i : Nat
  b : Nat
set_option maxRecDepth 20000 in
set_option maxHeartbeats 1000000 in
theorem QueryOver_law (l m o : List Int) (hll : l.length * 8 ≤ 140737488351232) (hl : ∀ x ∈ l, (Lit.int .i64 x).wf = true) (hml : m.length * 8 ≤ 140737488351232) (hm : ∀ x ∈ m, (Lit.int .i64 x).wf = true) (hol : o.length * 8 ≤ 140737488351232) (ho : ∀ x ∈ o, (Lit.int .i64 x).wf = true) :
    Fn Try.prog 4 [slI l, slI m, slI o] (kB true) := by
  refine fng_of0 Try.func4 rfl ?_
  refine awp0_seq (awp0_of (awp_go ?_))
  simp [Try.ntmps4]
  refine awp0_seq (awp0_of (awp_go ?_))
  simp
  refine cal (World_fn l) ?_
  have hv := worldM_valid l
  have hi8 := worldM_le8 l
  generalize worldM l = w at hv hi8 ⊢
  obtain ⟨hfi, hfc⟩ := checkW_fine hv
  obtain ⟨ce, cg, ci, cn, cit⟩ := checkW_iff.1 hv
  obtain ⟨hsort, hok⟩ := items_iff.1 cit
  simp
  refine awp0_seq (awp0_of (awp_go ?_))
  simp
  refine cal tabled_fn ?_
  simp
  refine cal base_fn ?_
  simp
  have hbe : baseW.e.all PV.immB = true := rfl
  refine calS (Count_nil baseW [0] baseW_fine (by simp)) ?_ (hren := by simp [imms_snap hbe, slI, chunks])
  rw [base_count]
  simp
  refine awp0_seq (awp0_of (awp_go ?_))
  simp
  refine awp0_seq (awp0_of (awp_go ?_))
  simp
  obtain ⟨wi, hwi⟩ : ∃ wi, m.map (fun x => x % 4) = wi := ⟨_, rfl⟩
  obtain ⟨wo, hwo⟩ : ∃ wo, o.map (fun x => x % 4) = wo := ⟨_, rfl⟩
  have hwil : wi.length = m.length := by rw [← hwi]; simp
  have hwol : wo.length = o.length := by rw [← hwo]; simp
  refine awp_loop (fun i : Nat => ⟨81, [(7, .ptr 0 0), (8, .osl 1 1 0 i), (9, kNil), (2, slI o), (29, slI m), (30, kI m.length), (31, kI i)], [some w.e, some (List.take i (wi.map kI))], 0⟩) (fun i => i ≤ m.length) (fun i => m.length - i) 0 ?_ ?_ ?_
  · exact (ent_nil (t := 8) (z := 1) rfl).trans (entm [0, 2])
  · simp
  · intro i hi
    refine awp_go ?_
    by_cases hlt : i < m.length
    · have hiw : i < wi.length := by omega
      have hwx : wi[i] = m[i] % 4 := by simp [← hwi]
      have hb1 : (i + 1) * 8 ≤ 140737488355328 := by omega
      have hb2 : i + 1 ≤ maxLen := by simp only [maxLen]; omega
      have htl : (List.take i (wi.map kI)).length = i := by simp; omega
      have htk : List.take (i + 1) (wi.map kI) = List.take i (wi.map kI) ++ [kI (m[i] % 4)] := by rw [List.take_succ_eq_append_getElem (by simpa using hiw), List.getElem_map, hwx]
      have hCi : (List.take i (wi.map kI)).all PV.immB = true := by rw [← List.map_take]; exact List.all_eq_true.2 fun x hx => by obtain ⟨y, _, rfl⟩ := List.mem_map.1 hx; rfl
      obtain ⟨C, hC⟩ : ∃ C, List.take i (wi.map kI) = C := ⟨_, rfl⟩
      rw [hC] at htl htk hCi ⊢
      simp [hlt]
      refine cal (Below_fn m[i] 4 (by omega) (by omega)) ?_
      simp [hb1, hb2, htl]
      rw [wrap_id (by omega) (by omega)]
      refine ⟨i + 1, hlt, by omega, entm [0, 3] (hB := ?_)⟩
      simp [htk, imms_ren hCi, imms_lt hCi]
    · have hin : i = m.length := by omega
      subst hin
      have hwt : List.take m.length (wi.map kI) = wi.map kI := List.take_of_length_le (by simp; omega)
      rw [hwt, ← hwil]
      simp
      refine awp0_seq (awp0_of (awp_go ?_))
      simp
      refine awp_loop (fun i : Nat => ⟨81, [(7, .ptr 0 0), (8, slI wi), (9, .osl 1 1 0 i), (41, slI o), (42, kI o.length), (43, kI i)], [some w.e, some (List.take i (wo.map kI))], 0⟩) (fun i => i ≤ o.length) (fun i => o.length - i) 0 ?_ ?_ ?_
      · exact (ent_fz 1 (wi.map kI)).trans ((ent_nil (t := 9) (z := 1) rfl).trans (entm [0, 2] (hT := by simp [slI_def, chunks_ints])))
      · simp
      · intro i hi
        refine awp_go ?_
        by_cases hlt : i < o.length
        · have hiw : i < wo.length := by omega
          have hwx : wo[i] = o[i] % 4 := by simp [← hwo]
          have hb1 : (i + 1) * 8 ≤ 140737488355328 := by omega
          have hb2 : i + 1 ≤ maxLen := by simp only [maxLen]; omega
          have htl : (List.take i (wo.map kI)).length = i := by simp; omega
          have htk : List.take (i + 1) (wo.map kI) = List.take i (wo.map kI) ++ [kI (o[i] % 4)] := by rw [List.take_succ_eq_append_getElem (by simpa using hiw), List.getElem_map, hwx]
          have hCi : (List.take i (wo.map kI)).all PV.immB = true := by rw [← List.map_take]; exact List.all_eq_true.2 fun x hx => by obtain ⟨y, _, rfl⟩ := List.mem_map.1 hx; rfl
          obtain ⟨C, hC⟩ : ∃ C, List.take i (wo.map kI) = C := ⟨_, rfl⟩
          rw [hC] at htl htk hCi ⊢
          simp [hlt]
          refine cal (Below_fn o[i] 4 (by omega) (by omega)) ?_
          simp [hb1, hb2, htl]
          rw [wrap_id (by omega) (by omega)]
          refine ⟨i + 1, hlt, by omega, entm [0, 3] (hB := ?_)⟩
          simp [htk, imms_ren hCi, imms_lt hCi]
        · have hin : i = o.length := by omega
          subst hin
          have hwt : List.take o.length (wo.map kI) = wo.map kI := List.take_of_length_le (by simp; omega)
          rw [hwt, ← hwol]
          simp
          refine awp0_ent (ent_fz 1 (wo.map kI)) ?_
          refine awp0_seq (awp0_of (awp_go ?_))
          simp
          refine calL (Of_L w hv) (fun p τ hp => ?_)
          obtain ⟨ab, g, rfl, hA, hfr⟩ := hp
          obtain ⟨tabs, oks, ofT, hH, hP, hpm⟩ := hA
          obtain ⟨hb1, hb2⟩ := hP.bound hpm (by omega)
          obtain ⟨hop, hov⟩ := over_eq hP hpm hsort wi wo
          have k0 : box τ 0 = some w.e := hfr.box (b := 0) rfl fun h => h
          simp
          refine awp0_seq (awp0_of (awp_ltS fun hltτ => awp_go ?_))
          have hltτ : ltS τ := hltτ
          simp
          refine awp0_seq (awp0_of (awp_go ?_))
          simp
          refine awp0_seq (awp0_seq (awp0_of (awp_go ?_)))
          have l0 := box_lt k0
          have a0 : ∀ z : Boxes, (τ ++ z)[0]? = some (some w.e) := fun z => by rw [List.getElem?_append_left l0]; exact boxG k0
          have a1 : ∀ (z : Boxes) (h : 0 < (τ ++ z).length), (τ ++ z)[0] = some w.e := fun z h => (List.getElem?_eq_some_iff.1 (a0 z)).2
          simp [a0, a1]
          refine cal (All_fn w wi wo hfi (by omega) (by omega)) ?_
          have hlen : (rowsM w wi wo).length ≤ 8 := by have := rowsGo_len (fun it => matchI it wi wo) w.Items 0; unfold rowsM; omega
          have hin : ∀ x ∈ rowsM w wi wo, x.2 ∈ w.Items := fun x hx => rowsGo_mem _ _ _ x hx
          have hre : (rowsM w wi wo).map (fun x => x.2.Ent) = (w.Items.filter fun it => matchI it wi wo).map GItem.Ent := rowsGo_items _ _ _
          rw [← hre] at hov hop
          generalize rowsM w wi wo = rows at hlen hin hov hop ⊢
          simp
          refine awp0_block (awp0_ent (s' := ⟨81, [(67, .clo (.func 38) [.eptr [.sl 4 (rows.map rowE)]]), (7, .ptr 0 0), (8, slI wi), (9, slI wo), (14, .ptr ab 0), (16, .ptr τ.length 0)], τ ++ [some [.osl (τ.length + 1) 2 0 0], some []], 0⟩) ?_ ?_)
          · refine (ent_nilb (b := τ.length) (j := 0) (z := 2) (cs := [kNil]) (by simp) rfl).trans ?_
            have hset : (τ ++ [some [kNil]]).set τ.length (some ([kNil].set 0 (.osl (τ ++ [some [kNil]]).length 2 0 0))) ++ [some []] = τ ++ [some [.osl (τ.length + 1) 2 0 0], some []] := by
              rw [List.set_append_right _ _ (Nat.le_refl _)]; simp
            simp only [hset]
            exact ent_T _
          refine awp0_rangeN (fun j σ => EntsAt τ ((rows.take j).map fun x => x.2.Ent) σ) (All1_seq rows (by omega) (fun x hx => hfi.ic _ (hin x hx)) (fun x hx c hc => by have := ((hfc _ (hin x hx)).2 c hc).2.2.2; omega)) rfl (by simp) rfl ?_ ?_ (by simp) ?_ ?_
          · refine ⟨fun b hb => by rw [box_append, if_pos hb], τ.length + 1, ?_, ?_, by omega⟩
            · rw [box_append, if_neg (by omega)]; simp
            · rw [box_append, if_neg (by omega), show τ.length + 1 - τ.length = 1 by omega]; rfl
          · intro y hy
            obtain ⟨z, _, rfl⟩ := List.mem_map.1 hy
            rfl
          · intro j args σc σi hJ hij
            rw [List.getElem?_map] at hij
            obtain ⟨x, hxx, hij⟩ := Option.map_eq_some_iff.1 hij
            simp only [yRow, Prod.mk.injEq] at hij
            obtain ⟨rfl, rfl⟩ := hij
            obtain ⟨hkp, ob, q1, q2, q3⟩ := hJ
            obtain ⟨hjl, hje⟩ := List.getElem?_eq_some_iff.1 hxx
            have hL2 : (rows.take (j + 1)).map (fun x => x.2.Ent) = (rows.take j).map (fun x => x.2.Ent) ++ [x.2.Ent] := by rw [List.take_succ_eq_append_getElem hjl, hje, List.map_append]; rfl
            rw [hL2]
            obtain ⟨L, hL⟩ : ∃ L, (rows.take j).map (fun x => x.2.Ent) = L := ⟨_, rfl⟩
            have hLl : L.length ≤ 100000 := by rw [← hL, List.length_map, List.length_take]; omega
            rw [hL] at q1 q2 ⊢
            have lq1 := box_lt q1
            have lq2 := box_lt q2
            obtain ⟨σ3, hσ3⟩ : ∃ σ3, σi ++ [some x.2.e] = σ3 := ⟨_, rfl⟩
            have l3 : σ3.length = σi.length + 1 := by rw [← hσ3]; simp
            have keep3 : ∀ b, b < σi.length → box σ3 b = box σi b := fun b hb => by rw [← hσ3, box_append, if_pos hb]
            have r1 := (keep3 _ lq1).trans q1
            have r2 := (keep3 _ lq2).trans q2
            have r7 : box σ3 σi.length = some x.2.e := by rw [← hσ3, box_append, if_neg (by omega)]; simp
            have hLe : (L.map GEnt.e).flatten.length = L.length * 2 := flat_lenE GEnt.e_len L
            have b1 : (L.length + 1) * 16 ≤ 140737488355328 := by omega
            have b2 : L.length + 1 ≤ maxLen := by simp only [maxLen]; omega
            refine awp_go ?_
            simp [roundSt, parT]
            rw [hσ3]
            refine awp_go ?_
            have c1 : ∀ z : Boxes, (σ3 ++ z)[τ.length]? = some (some [.osl ob 2 0 L.length]) := fun z => by rw [List.getElem?_append_left (by omega)]; exact boxG r1
            have c2 : ∀ z : Boxes, (σ3 ++ z)[ob]? = some (some (L.map GEnt.e).flatten) := fun z => by rw [List.getElem?_append_left (by omega)]; exact boxG r2
            have c3 : ∀ z y : Option (List PV), ((σ3 ++ [z]).set ob none ++ [y])[τ.length]? = some (some [.osl ob 2 0 L.length]) := fun z y => by
              rw [List.getElem?_append_left (by simp; omega), List.getElem?_set_ne (by omega), c1]
            simp [boxG r1, boxG r7, c1, c2, c3, hLe, b1, b2, GItem.e]
            refine ⟨_, Ent.refl _, _, ⟨fun b hb => ?_, σ3.length + 1, ?_, ?_, by omega⟩, Ent.refl _⟩
            · rw [box_set (by simp; omega), if_neg (by omega), box_append, if_pos (by simp; omega), box_set (by simp; omega), if_neg (by omega), box_append, if_pos (by omega), keep3 b (by omega)]
              exact hkp b hb
            · rw [box_set (by simp; omega), if_pos rfl]; simp
            · rw [box_set (by simp; omega), if_neg (by omega), box_append, if_neg (by simp)]; simp; rfl
          · intro υ hJ
            obtain ⟨hkp, ob, q1, q2, q3⟩ := hJ
            have htk : rows.take (rows.map yRow).length = rows := by rw [List.length_map]; exact List.take_length
            rw [htk] at q1 q2
            obtain ⟨V, hV⟩ : ∃ V, rows.map (fun x => x.2.Ent) = V := ⟨_, rfl⟩
            rw [hV] at q1 q2 hov hop
            have hVl : V.length ≤ 8 := by rw [← hV]; simp; exact hlen
            have hO : OutAt τ ob (V.map GEnt.e).flatten υ := ⟨hkp, q2, by omega⟩
            obtain ⟨ext, hext⟩ := hO.ext hltτ (V.map GEnt.e).flatten
            have lq1 := box_lt q1
            have lq2 := box_lt q2
            have hch : chunks 2 (V.map GEnt.e).flatten V.length = V.map GEnt.e := chunks_map (f := GEnt.e) (z := 2) GEnt.e_len _
            have hfl2 : (V.map GEnt.e).flatten.length = V.length * 2 := flat_lenE GEnt.e_len V
            have k16 : box (τ ++ ext) τ.length = some [.sl 2 (V.map GEnt.e)] := by
              rw [← hext, box_set (by simp; omega), if_neg (by omega), box_map, q1]
              simp [hch, hfl2]
            have hFr : Fr τ (τ ++ ext) g g (fun _ => False) := Fr.app
            have hOv := Over_L (hH.frame hFr fun _ _ h => h) hP hb1 hb2 wi wo (by omega) (by omega) (by rw [hop.length_eq]; omega)
            rw [hov] at hOv
            simp only [inBlockA, thenA]
            have n1 : ¬ ab = ob := by
              obtain ⟨⟨_, _, _, e1, _⟩, _⟩ := hH
              have := box_lt e1; omega
            have n2 : ¬ τ.length = ob := by omega
            refine awp0_ent (s' := ⟨81, [(8, slI wi), (9, slI wo), (14, .ptr ab 0), (16, .ptr τ.length 0)], τ ++ ext, 0⟩) ?_ ?_
            · refine (ent_fz ob (V.map GEnt.e).flatten q2 (flat_imm GEnt.e_imm V) (Nat.zero_le _)).trans ?_
              unfold St.fz
              simp only [hext]
              exact ent_T _ (h := by simp [n1, n2])
            refine awp0_of (awp_go ?_)
            refine awp_drawR follows_mix [] [] [(0, [0]), (0, [0]), (0, [0]), (2, [0]), (0, [0]), (2, [0]), (0, [0])] 0 (by kernel_rfl) rfl ?_
            simp
            refine gD_call (.sl 2 (V.map GEnt.e)) ?_
            simp [boxG k16]
            refine gD_call (kB true) ?_
            simp
            have k16' : (τ ++ ext)[τ.length]?.join = some [.sl 2 (V.map GEnt.e)] := k16
            refine ⟨⟨⟨.inl ⟨rfl, doL hOv⟩, trivial⟩, by rw [k16']; rfl, callR_ok (calO (by simpa using EqualEn_fn V V (by omega)))⟩, ⟨trivial, finGm []⟩⟩
end Go.Proofs.Ytidhdlhblhbahaa.Am
