/- The machine of values: regions in any order, with boxes that are made and written: the rule. -/
import Derived.Test.YtmkgechjbbekmaaAm23
set_option linter.unusedVariables false
set_option linter.unusedSimpArgs false
namespace Go.Proofs.Ytmkgechjbbekmaa.Am
open Go Go.RowKit

theorem awp_drawR {P : Program} (hm : P.follows .mixedOrders = true) {id : Nat} {l : List Oper} {R : List (List Nat)} {s : St} {Q : Exit → St → Prop} {rs : List Rcd} {L : Nat}
    (hok : drawOk l R = true) (hRlt : ∀ i, ∀ j ∈ R.getD i [], j < i) (hL : s.σ.length ≤ L) (hlen : rs.length = l.length) (hdst : ∀ o ∈ l, dstOk o.dst s.N = true)
    (hfr : ∀ (i : Nat) (r : Rcd) (b : Nat), rs[i]? = some r → r.fresh = some b → s.σ.length ≤ b ∧ b < L)
    (hfd : ∀ (i i' : Nat) (r r' : Rcd) (b : Nat), rs[i]? = some r → rs[i']? = some r' → r.fresh = some b → r'.fresh = some b → i = i')
    (hpair : ∀ (i j : Nat) (r r' : Rcd), rs[i]? = some r → rs[j]? = some r' → i ≠ j → j ∉ R.getD i [] → i ∉ R.getD j [] → ∀ b ∈ r'.eff.map (·.1), b ∉ r.need ∧ b ∉ r.eff.map (·.1))
    (H : ∀ (i : Nat) (o : Oper) (r : Rcd), l[i]? = some o → rs[i]? = some r → ∀ σ : Boxes, σ.length = L →
      (∀ b ∈ r.need, box σ b = box (SA (fun m => decide (m < i)) 0 rs (s.σ ++ List.replicate (L - s.σ.length) none)) b) →
      ∃ T', (∀ t q, look T' t = some q → t ∈ o.looksAt l.toArray ∧ look (TA (fun m => decide (m < i)) 0 l (rs.map (·.p)) s.T) t = some q) ∧
        ((wantedA ⟨s.N, T', σ, s.k⟩ l.toArray o = some true ∧ DoesR P o ⟨s.N, T', σ, s.k⟩ r) ∨ (wantedA ⟨s.N, T', σ, s.k⟩ l.toArray o = some false ∧ r.eff = [] ∧ r.fresh = none ∧ r.p = .tup [])))
    (hQ : Q .normal ⟨s.N, TA (fun _ => true) 0 l (rs.map (·.p)) s.T, SA (fun _ => true) 0 rs (s.σ ++ List.replicate (L - s.σ.length) none), s.k⟩) : AWp P (.region id l.toArray true) s Q := by
  intro c ι0 S0 a0 w0 hr0 QQ hQQ
  refine wp_region_any hm ?_
  generalize hσp : s.σ ++ List.replicate (L - s.σ.length) none = σp at *
  have hσpl : σp.length = L := by rw [← hσp]; simp; omega
  have key : ∀ (fuel : Nat) (listed : Array Bool) (a : Act) (w : World) (ι : Nat → Option Nat) (S : Nat → Prop), listed.size = l.length → (List.range l.length).countP (fun j => !listed.getD j false) = fuel →
      (∀ (i : Nat) (o : Oper), l[i]? = some o → listed.getD i false = true → ∀ e ∈ edgesOf o, listed.getD e false = true) →
      Rel c ι S ⟨s.N, TA (fun j => listed.getD j false) 0 l (rs.map (·.p)) s.T, SA (fun j => listed.getD j false) 0 rs σp, s.k⟩ a w →
      (∀ (i : Nat) (r : Rcd) (b : Nat), rs[i]? = some r → listed.getD i false = false → r.fresh = some b → ι b = none) →
      wpAny P .any l.toArray QQ fuel listed a w := by
    intro fuel
    induction fuel with
    | zero =>
      intro listed a w ι S hsz hcnt hcl hr _
      have hall : ∀ i, i < l.length → listed.getD i false = true := fun i hi => by
        have := List.countP_eq_zero.1 hcnt i (by simpa using hi)
        simpa using this
      refine ⟨?_, hQQ .normal ι S ⟨s.N, TA (fun _ => true) 0 l (rs.map (·.p)) s.T, SA (fun _ => true) 0 rs σp, s.k⟩ a w (hr.temps_of rfl ?_ rfl ?_) hQ⟩
      · rw [List.eq_nil_iff_forall_not_mem]
        intro j hj
        obtain ⟨h1, o, ho, _⟩ := mem_ready.1 hj
        have hjl : j < l.length := by simpa using (Array.getElem?_eq_some_iff.1 ho).1
        have := hall j hjl
        rw [Array.getD_eq_getD_getElem?, Array.getElem?_eq_getElem (by omega)] at h1 this
        simp at h1 this
        rw [this] at h1; cases h1
      · refine boxes_ext (by simp only [SA_len]) fun b => box_SA_congr rs 0 _ _ rfl rfl fun j r hj _ => ?_
        have hjl := (List.getElem?_eq_some_iff.1 hj).1
        have := hall j (by omega)
        simpa using this.symm
      · intro t p ht
        rw [← ht]
        exact look_TA_congr l _ 0 _ _ rfl fun j o ho _ => by simpa using hall j (List.getElem?_eq_some_iff.1 ho).1
    | succ fuel ih =>
      intro listed a w ι S hsz hcnt hcl hr hι
      refine ⟨fun hnil => ?_, fun i hi => ?_⟩
      · exfalso
        have hall : ∀ i, i < l.length → listed.getD i false = true := by
          intro i
          induction i using Nat.strongRecOn with
          | _ i ihi =>
            intro hi
            cases hli : listed.getD i false with
            | true => rfl
            | false =>
              exfalso
              have hoi : l[i]? = some l[i] := List.getElem?_eq_getElem hi
              have hmem : i ∈ Region.ready .any l.toArray listed := mem_ready.2 ⟨by
                rw [Array.getD_eq_getD_getElem?, Array.getElem?_eq_getElem (by omega)] at hli ⊢
                simpa using hli, l[i], by simp [hi], fun e he hb => by
                have hedge := edges_mem.2 ⟨e, he, hb, rfl⟩
                have := (drawOk_spec hok hoi).1 _ hedge
                exact ihi _ this (by omega)⟩
              rw [hnil] at hmem
              simp at hmem
        have : (List.range l.length).countP (fun j => !listed.getD j false) = 0 := List.countP_eq_zero.2 fun j hj => by simp [hall j (by simpa using hj)]
        omega
      · obtain ⟨h1, o, ho', hed⟩ := mem_ready.1 hi
        have hil : i < l.length := by simpa using (Array.getElem?_eq_some_iff.1 ho').1
        have ho : l[i]? = some o := by simpa using ho'
        have hAi : listed.getD i false = false := by
          rw [Array.getD_eq_getD_getElem?, Array.getElem?_eq_getElem (by omega)] at h1 ⊢
          simpa using h1
        have hedges : ∀ e ∈ edgesOf o, listed.getD e false = true := fun e he => by
          obtain ⟨x, hx, hb, rfl⟩ := edges_mem.1 he
          exact hed x hx hb
        have hin := clos_in hok hcl i o ho hedges
        have hout : ∀ j, listed.getD j false = true → j < l.length → i ∉ R.getD j [] := fun j hj hjl hc => by
          have hoj : l[j]? = some l[j] := List.getElem?_eq_getElem hjl
          have := clos_in hok hcl j _ hoj (hcl j _ hoj hj) i hc
          rw [hAi] at this; cases this
        obtain ⟨r, hrr⟩ : ∃ r, rs[i]? = some r := ⟨_, List.getElem?_eq_getElem (by omega)⟩
        have hp : (rs.map (·.p))[i]? = some r.p := by simp [hrr]
        obtain ⟨T', hT', hstep⟩ := H i o r ho hrr (SA (fun j => listed.getD j false) 0 rs σp) (by rw [SA_len, hσpl]) (fun b hb => by
          refine box_SA_congr rs 0 _ _ rfl rfl fun j r' hj hbr => ?_
          have hjl : j < l.length := by have := (List.getElem?_eq_some_iff.1 hj).1; omega
          simp only [Nat.zero_add]
          by_cases hji : j = i
          · subst hji; rw [hAi]; simp
          · by_cases h1 : j ∈ R.getD i []
            · rw [hin j h1]; simp [hRlt i j h1]
            · by_cases h2 : i ∈ R.getD j []
              · have hjA : listed.getD j false = false := by
                  cases hx : listed.getD j false with
                  | false => rfl
                  | true => exact absurd h2 (hout j hx hjl)
                rw [hjA]; have := hRlt j i h2; simp; omega
              · exact absurd hb (hpair i j r r' hrr hj (fun e => hji e.symm) h1 h2 b hbr).1)
        have hrT : Rel c ι S ⟨s.N, T', SA (fun j => listed.getD j false) 0 rs σp, s.k⟩ a w := hr.temps_of rfl rfl rfl fun t q ht => by
          obtain ⟨g1, g2⟩ := hT' t q ht
          rw [← g2]
          exact look_TA_congr l _ 0 _ _ rfl fun j o' hj hd => by
            have hjR := (drawOk_spec hok ho).2.2.1 t g1 j o' hj hd
            simp [hin j hjR, hRlt i j hjR]
        have hsa : SA (fun m => listed.getD m false || decide (m = i)) 0 rs σp = applyE r.eff (SA (fun j => listed.getD j false) 0 rs σp) :=
          SA_ins hrr hAi fun b hb j r' hj hlt hAj hbr => by
            have hjl : j < l.length := by have := (List.getElem?_eq_some_iff.1 hj).1; omega
            exact (hpair i j r r' hrr hj (by omega) (fun h => by have := hRlt i j h; omega) (hout j hAj hjl) b hbr).2 hb
        have hnext : ∀ ι' S' v w', Store c ι' S' (applyE r.eff (SA (fun j => listed.getD j false) 0 rs σp)) w' →
            (∀ v p, VRel (SA (fun j => listed.getD j false) 0 rs σp).length ι S w v p → VRel (SA (fun j => listed.getD j false) 0 rs σp).length ι' S' w' v p) →
            VRel (SA (fun j => listed.getD j false) 0 rs σp).length ι' S' w' v r.p → (∀ b, b < (SA (fun j => listed.getD j false) 0 rs σp).length → r.fresh ≠ some b → ι' b = ι b) →
            wpAny P .any l.toArray QQ fuel (listed.setIfInBounds i true) (a.put o.dst v) w' := fun ι' S' v w' hst hmono hv hιι => by
          have hset := listed_set (listed := listed) (i := i) (by omega)
          have hset' : ∀ j, (listed.setIfInBounds i true).getD j false = (listed.getD j false || decide (j = i)) := fun j => congrFun hset j
          have hrn := Rel.next hr hst (fun v p h => by rw [applyE_len]; exact hmono v p h) (hdst o (List.mem_of_getElem? ho)) (by rw [applyE_len]; exact hv)
          refine ih _ _ _ ι' S' (by simpa using hsz) ?_ ?_ ?_ ?_
          · have h3 := countP_one (f := fun _ => true) (A := fun j => listed.getD j false) hAi (List.range l.length) List.nodup_range (by simpa using hil)
            simp only [Bool.true_and, if_true] at h3
            have h4 := List.length_eq_countP_add_countP (fun j => listed.getD j false) (l := List.range l.length)
            have h5 := List.length_eq_countP_add_countP (fun j => listed.getD j false || decide (j = i)) (l := List.range l.length)
            have e1 : (List.range l.length).countP (fun j => !(listed.setIfInBounds i true).getD j false) = (List.range l.length).countP (fun a => decide ¬(fun j => listed.getD j false || decide (j = i)) a = true) := by
              refine List.countP_congr fun j _ => ?_
              rw [hset' j]; simp
            have e2 : (List.range l.length).countP (fun j => !listed.getD j false) = (List.range l.length).countP (fun a => decide ¬(fun j => listed.getD j false) a = true) := by
              refine List.countP_congr fun j _ => ?_
              simp
            rw [e1]
            rw [e2] at hcnt
            simp only [] at h4 h5 hcnt ⊢
            generalize (List.range l.length).countP (fun a => decide ¬(fun j => listed.getD j false || decide (j = i)) a = true) = x1 at *
            try simp only [] at h4 h5 hcnt h3 ⊢
            omega
          · intro j oj hj hlj e he
            rw [hset' j] at hlj
            rw [hset' e]
            simp only [Bool.or_eq_true, decide_eq_true_eq] at hlj ⊢
            rcases hlj with g | rfl
            · exact .inl (hcl j oj hj g e he)
            · rw [ho] at hj; simp at hj; subst hj; exact .inl (hedges e he)
          · rw [hset, hsa]
            refine hrn.temps_of (by cases o.dst <;> rfl) (by cases o.dst <;> rfl) (by cases o.dst <;> rfl) fun t q ht => ?_
            rw [← ht]
            have hcongr : o.dst ≠ some t → look (TA (fun j => listed.getD j false) 0 l (rs.map (·.p)) s.T) t = look (TA (fun j => listed.getD j false || decide (j = i)) 0 l (rs.map (·.p)) s.T) t := fun hne =>
              look_TA_congr l _ 0 _ _ rfl fun j o' hj hd => by
                have : j ≠ i := fun e => by subst e; rw [ho] at hj; simp at hj; subst hj; exact hne hd
                simp [this]
            cases hd : o.dst with
            | none => exact hcongr (by rw [hd]; simp)
            | some d =>
              by_cases e : t = d
              · subst e
                rw [look_TA_at l _ 0 s.T i ho hp hd (by simp) fun j' o' hj hne => (drawOk_spec hok ho).2.2.2 t hd j' o' hj hne]
                simp [St.put, look]
              · simp only [St.put, look, if_neg e]
                exact hcongr (by rw [hd]; simpa using fun h => e h.symm)
          · intro j r' b hj hlj hf
            rw [hset' j] at hlj
            simp only [Bool.or_eq_false_iff, decide_eq_false_iff_not] at hlj
            rw [hιι b (by rw [SA_len, hσpl]; exact (hfr j r' b hj hf).2) (fun e => hlj.2 (hfd j i r' r b hj hrr hf e))]
            exact hι j r' b hj hlj.1 hf
        unfold wpOp
        rw [ho']
        simp only
        rcases hstep with ⟨hw, hdoes⟩ | ⟨hw, he, hf, hp0⟩
        · rw [if_pos (wanted_rel hrT hw)]
          exact .inl (hdoes c ι S a w hrT (fun j hj => hι i r j hrr hAi hj) _ QQ hnext)
        · rw [wanted_rel hrT hw]
          simp only [Bool.false_eq_true, if_false]
          exact hnext ι S undef w (by rw [he]; exact hr.st) (fun v p h => h) (by rw [hp0]; exact .imm (IRel.und _ _)) (fun _ _ _ => rfl)
  have hA0 : ∀ j, (Array.replicate l.length false).getD j false = false := fun j => by
    rw [Array.getD_eq_getD_getElem?]
    by_cases h : j < l.length <;> simp [h]
  have hsize : l.toArray.size = l.length := by simp
  rw [hsize]
  obtain ⟨ι1, p1, p2, p3⟩ := hr0.st.pad (L - s.σ.length)
  rw [hσp] at p1 p2
  refine key l.length (Array.replicate l.length false) a0 _ ι1 S0 (by simp) ?_ (fun i o _ h => by rw [hA0] at h; cases h) ?_ ?_
  · simp [hA0]
  · have e1 : TA (fun j => (Array.replicate l.length false).getD j false) 0 l (rs.map (·.p)) s.T = s.T := TA_none l _ 0 s.T hA0
    have e2 : SA (fun j => (Array.replicate l.length false).getD j false) 0 rs σp = σp := SA_none rs 0 σp fun j _ => hA0 j
    rw [e1, e2]
    exact ⟨p1.drew, hr0.ck, hr0.tsz, hr0.defers, fun t p ht => (p2 _ _ (hr0.temps t p ht)).drew⟩
  · intro i r b hi _ hf
    exact p3 b (hfr i r b hi hf).1
end Go.Proofs.Ytmkgechjbbekmaa.Am
