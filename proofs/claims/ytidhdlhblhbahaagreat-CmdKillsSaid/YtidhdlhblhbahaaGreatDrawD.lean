/- Regions in which calls do anything to boxes, for a yield. -/
import Derived.Test.YtidhdlhblhbahaaGreatAmC
set_option linter.unusedVariables false
set_option linter.unusedSimpArgs false
namespace Go.Proofs.YtidhdlhblhbahaaGreat.Am
open Go Go.RowKit

theorem draw_T {P : Program} {wc : List Nat} {l : List Oper} {R : List (List Nat)} {s : St} {Q : St → Prop} {ps : List PV} {σs : Nat → Boxes}
    (hok : drawOk l R = true) (hrd : readOk l R = true) (hσ0 : σs 0 = s.σ) (hlen : ps.length = l.length) (hdst : ∀ o ∈ l, dstOk o.dst s.N = true)
    (H : ∀ i o p, l[i]? = some o → ps[i]? = some p → ∀ m, loOf wc l R i ≤ m → m ≤ hiOf wc l R i →
      ∃ T', (∀ t q, look T' t = some q → t ∈ o.looksAt l.toArray ∧ look (TA (fun _ => true) 0 l ps s.T) t = some q) ∧
        StepD P l.toArray o ⟨s.N, T', σs m, s.k⟩ (σs (m + if wrAt wc l i = true then 1 else 0)) p)
    (hQ : Q ⟨s.N, TA (fun _ => true) 0 l ps s.T, σs ((List.range l.length).countP (wrAt wc l)), s.k⟩) : DrawW P l s Q := by
  intro c ι S a w hr QQ hQQ
  have key : ∀ (fuel : Nat) (listed : Array Bool) (a : Act) (w : World) (ι : Nat → Option Nat) (S : Nat → Prop), listed.size = l.length → (List.range l.length).countP (fun j => !listed.getD j false) = fuel →
      (∀ (i : Nat) (o : Oper), l[i]? = some o → listed.getD i false = true → ∀ e ∈ edgesOf o, listed.getD e false = true) →
      Rel c ι S ⟨s.N, TA (fun j => listed.getD j false) 0 l ps s.T, σs ((List.range l.length).countP fun j => wrAt wc l j && listed.getD j false), s.k⟩ a w →
      wpAnyIn (wideR c.ro) 0 P .any l.toArray QQ fuel listed a w := by
    intro fuel
    induction fuel with
    | zero =>
      intro listed a w ι S hsz hcnt hcl hr
      have hall : ∀ i, i < l.length → listed.getD i false = true := fun i hi => by
        have := List.countP_eq_zero.1 hcnt i (by simpa using hi)
        simpa using this
      refine ⟨?_, hQQ ι S ⟨s.N, TA (fun _ => true) 0 l ps s.T, σs ((List.range l.length).countP (wrAt wc l)), s.k⟩ a w (hr.temps_of rfl ?_ rfl ?_) hQ⟩
      · rw [List.eq_nil_iff_forall_not_mem]
        intro j hj
        obtain ⟨h1, o, ho, _⟩ := mem_ready.1 hj
        have hjl : j < l.length := by simpa using (Array.getElem?_eq_some_iff.1 ho).1
        have := hall j hjl
        rw [Array.getD_eq_getD_getElem?, Array.getElem?_eq_getElem (by omega)] at h1 this
        simp at h1 this
        rw [this] at h1; cases h1
      · refine congrArg σs (List.countP_congr fun j hj => ?_)
        simp only [hall j (by simpa using hj), Bool.and_true]
      · intro t p ht
        rw [← ht]
        exact look_TA_congr l ps 0 _ _ rfl fun j o ho _ => by simpa using hall j (List.getElem?_eq_some_iff.1 ho).1
    | succ fuel ih =>
      intro listed a w ι S hsz hcnt hcl hr
      refine ⟨fun hnil => ?_, fun i hi => ?_⟩
      · exfalso
        have hall : ∀ i, i < l.length → listed.getD i false = true := by
          intro i
          induction i using Nat.strongRecOn with
          | _ i ihi =>
            intro hi
            cases hli : listed.getD i false with
            | true => rfl
            | false =>
              exfalso
              have hoi : l[i]? = some l[i] := List.getElem?_eq_getElem hi
              have hmem : i ∈ Region.ready .any l.toArray listed := mem_ready.2 ⟨by
                rw [Array.getD_eq_getD_getElem?, Array.getElem?_eq_getElem (by omega)] at hli ⊢
                simpa using hli, l[i], by simp [hi], fun e he hb => by
                have hedge := edges_mem.2 ⟨e, he, hb, rfl⟩
                have := (drawOk_spec hok hoi).1 _ hedge
                exact ihi _ this (by omega)⟩
              rw [hnil] at hmem
              simp at hmem
        have : (List.range l.length).countP (fun j => !listed.getD j false) = 0 := List.countP_eq_zero.2 fun j hj => by simp [hall j (by simpa using hj)]
        omega
      · obtain ⟨h1, o, ho', hed⟩ := mem_ready.1 hi
        have hil : i < l.length := by simpa using (Array.getElem?_eq_some_iff.1 ho').1
        have ho : l[i]? = some o := by simpa using ho'
        have hAi : listed.getD i false = false := by
          rw [Array.getD_eq_getD_getElem?, Array.getElem?_eq_getElem (by omega)] at h1 ⊢
          simpa using h1
        have hedges : ∀ e ∈ edgesOf o, listed.getD e false = true := fun e he => by
          obtain ⟨x, hx, hb, rfl⟩ := edges_mem.1 he
          exact hed x hx hb
        have hin := clos_in hok hcl i o ho hedges
        obtain ⟨p, hp⟩ : ∃ p, ps[i]? = some p := ⟨_, List.getElem?_eq_getElem (by omega)⟩
        obtain ⟨T', hT', hstep⟩ := H i o p ho hp ((List.range l.length).countP fun j => wrAt wc l j && listed.getD j false)
          (List.countP_mono_left fun j _ h => by
            simp only [Bool.and_eq_true, List.contains_iff_mem] at h ⊢
            exact ⟨h.1, hin j h.2⟩)
          (List.countP_mono_left fun j hj h => by
            simp only [Bool.and_eq_true, decide_eq_true_eq, Bool.not_eq_true'] at h ⊢
            refine ⟨h.1, fun e => ?_, ?_⟩
            · subst e; rw [hAi] at h; simp at h
            · cases hc : (R.getD j []).contains i with
              | false => rfl
              | true =>
                exfalso
                have hjl : j < l.length := by simpa using hj
                have hoj : l[j]? = some l[j] := List.getElem?_eq_getElem hjl
                have := clos_in hok hcl j _ hoj (hcl j _ hoj h.2) i (by simpa using hc)
                rw [hAi] at this; cases this)
        have hrT : Rel c ι S ⟨s.N, T', σs ((List.range l.length).countP fun j => wrAt wc l j && listed.getD j false), s.k⟩ a w := hr.temps_of rfl rfl rfl fun t q ht => by
          obtain ⟨g1, g2⟩ := hT' t q ht
          rw [← g2]
          exact look_TA_congr l ps 0 _ _ rfl fun j o' hj hd => by
            simpa using hin j (readOk_spec hrd ho t g1 j o' hj hd)
        have hnext : ∀ ι' S' v w', Store c ι' S' (σs ((List.range l.length).countP (fun j => wrAt wc l j && listed.getD j false) + if wrAt wc l i = true then 1 else 0)) w' →
            (∀ v p, VRel (σs ((List.range l.length).countP fun j => wrAt wc l j && listed.getD j false)).length ι S w v p → VRel (σs ((List.range l.length).countP (fun j => wrAt wc l j && listed.getD j false) + if wrAt wc l i = true then 1 else 0)).length ι' S' w' v p) →
            VRel (σs ((List.range l.length).countP (fun j => wrAt wc l j && listed.getD j false) + if wrAt wc l i = true then 1 else 0)).length ι' S' w' v p →
            wpAnyIn (wideR c.ro) 0 P .any l.toArray QQ fuel (listed.setIfInBounds i true) (a.put o.dst v) w' := fun ι' S' v w' hst hmono hv => by
          have hset := listed_set (listed := listed) (i := i) (by omega)
          have hset' : ∀ j, (listed.setIfInBounds i true).getD j false = (listed.getD j false || decide (j = i)) := fun j => congrFun hset j
          have hrn := Rel.next hr hst hmono (hdst o (List.mem_of_getElem? ho)) hv
          refine ih _ _ _ ι' S' (by simpa using hsz) ?_ ?_ ?_
          · have h3 := countP_one (f := fun _ => true) (A := fun j => listed.getD j false) hAi (List.range l.length) List.nodup_range (by simpa using hil)
            simp only [Bool.true_and, if_true] at h3
            have h4 := List.length_eq_countP_add_countP (fun j => listed.getD j false) (l := List.range l.length)
            have h5 := List.length_eq_countP_add_countP (fun j => listed.getD j false || decide (j = i)) (l := List.range l.length)
            have e1 : (List.range l.length).countP (fun j => !(listed.setIfInBounds i true).getD j false) = (List.range l.length).countP (fun a => decide ¬(fun j => listed.getD j false || decide (j = i)) a = true) := by
              refine List.countP_congr fun j _ => ?_
              rw [hset' j]; simp
            have e2 : (List.range l.length).countP (fun j => !listed.getD j false) = (List.range l.length).countP (fun a => decide ¬(fun j => listed.getD j false) a = true) := by
              refine List.countP_congr fun j _ => ?_
              simp
            rw [e1]
            rw [e2] at hcnt
            try simp only [] at h4 h5 hcnt ⊢
            generalize (List.range l.length).countP (fun a => decide ¬(fun j => listed.getD j false || decide (j = i)) a = true) = x1 at *
            try simp only [] at h4 h5 hcnt h3 ⊢
            omega
          · intro j oj hj hlj e he
            rw [hset' j] at hlj
            rw [hset' e]
            simp only [Bool.or_eq_true, decide_eq_true_eq] at hlj ⊢
            rcases hlj with g | rfl
            · exact .inl (hcl j oj hj g e he)
            · rw [ho] at hj; simp at hj; subst hj; exact .inl (hedges e he)
          · rw [hset]
            have hc1 := countP_one (f := wrAt wc l) (A := fun j => listed.getD j false) hAi (List.range l.length) List.nodup_range (by simpa using hil)
            simp only [hset', hc1]
            refine hrn.temps_of (by cases o.dst <;> rfl) (by cases o.dst <;> rfl) (by cases o.dst <;> rfl) fun t q ht => ?_
            rw [← ht]
            have hcongr : o.dst ≠ some t → look (TA (fun j => listed.getD j false) 0 l ps s.T) t = look (TA (fun j => listed.getD j false || decide (j = i)) 0 l ps s.T) t := fun hne =>
              look_TA_congr l ps 0 _ _ rfl fun j o' hj hd => by
                have : j ≠ i := fun e => by subst e; rw [ho] at hj; simp at hj; subst hj; exact hne hd
                simp [this]
            cases hd : o.dst with
            | none => exact hcongr (by rw [hd]; simp)
            | some d =>
              by_cases e : t = d
              · subst e
                rw [look_TA_at l ps 0 s.T i ho hp hd (by simp) fun j' o' hj hne => (drawOk_spec hok ho).2.2.2 t hd j' o' hj hne]
                simp [St.put, look]
              · simp only [St.put, look, if_neg e]
                exact hcongr (by rw [hd]; simpa using fun h => e h.symm)
        unfold wpOpIn
        rw [ho']
        simp only
        rcases hstep with ⟨hw, hdoes⟩ | ⟨hw, hs', rfl⟩
        · rw [if_pos (wanted_rel hrT hw)]
          exact (hdoes c ι S a w hrT _ QQ fun ι' S' v w' h1 h2 h3 _ => hnext ι' S' v w' h1 h2 h3)
        · rw [wanted_rel hrT hw]
          simp only [Bool.false_eq_true, if_false]
          refine ⟨fun _ _ => trivial, ?_⟩
          refine hnext ι S undef w (by rw [hs']; exact hr.st) (fun v p h => by rw [hs']; exact h) (.imm (IRel.und _ _))
  have hA0 : ∀ j, (Array.replicate l.length false).getD j false = false := fun j => by
    rw [Array.getD_eq_getD_getElem?]
    by_cases h : j < l.length <;> simp [h]
  have hsize : l.toArray.size = l.length := by simp
  rw [hsize]
  refine key l.length (Array.replicate l.length false) a _ ι S (by simp) ?_ (fun i o _ h => by rw [hA0] at h; cases h) ?_
  · simp [hA0]
  · have e1 : TA (fun j => (Array.replicate l.length false).getD j false) 0 l ps s.T = s.T := TA_none l ps 0 s.T hA0
    have e2 : (List.range l.length).countP (fun j => wrAt wc l j && (Array.replicate l.length false).getD j false) = 0 := List.countP_eq_zero.2 fun j _ => by rw [hA0]; simp
    rw [e1, e2, hσ0]
    exact ⟨hr.st.drew, hr.ck, hr.tsz, hr.defers, fun t p ht => (hr.temps t p ht).drew⟩

theorem draw_D {P : Program} {l : List Oper} {s : St} {Q : St → Prop} (wc : List Nat) (rg : List (Nat × List Nat)) (W : Nat) (hp : planW wc l = some (rg, W))
    (hdst : l.all (fun o => dstOk o.dst s.N) = true)
    (h : @gD s [] [s.σ] ⟨P, l.toArray, l, rg, fun s' ps σs => (chkD P l.toArray s.N s.k s'.T σs l rg ps ∧ σs.getD 0 [] = s.σ ∧ s'.σ = σs.getD W []) ∧ Q s'⟩) : DrawW P l s Q := by
  simp only [planW, Option.map_eq_some_iff, Prod.mk.injEq] at hp
  obtain ⟨rg', hplan, rfl, rfl⟩ := hp
  unfold plan at hplan
  split at hplan
  · rename_i hok2
    obtain ⟨hok, hrd⟩ := hok2
    obtain ⟨ps, σs, s', ⟨⟨hchk, hσ0, hσ⟩, hQ⟩, hN, hk, hT⟩ := goD_spec 0 rfl rfl h
    rw [List.nil_append] at hchk
    replace hT : s'.T = TA (fun _ => true) 0 l ps s.T := hT
    obtain ⟨hlen, hall⟩ := chkD_spec hchk
    refine draw_T (wc := wc) (ps := ps) (σs := fun m => σs.getD m []) hok hrd hσ0 hlen (fun o ho => List.all_eq_true.1 hdst o ho) (fun i o p ho hp m hlo hhi => ?_) ?_
    · refine ⟨seen l.toArray o s'.T, fun t q hq => ?_, ?_⟩
      · obtain ⟨h1, h2⟩ := look_seen hq
        exact ⟨h1, by rw [← hT]; exact h2⟩
      · have hil := (List.getElem?_eq_some_iff.1 ho).1
        simp only [Option.some.injEq] at hplan
        have hrg : rg'[i]? = some (clsAt wc l i, (List.range (hiOf wc l (clos l []) i + 1)).filter (loOf wc l (clos l []) i ≤ ·)) := by
          rw [← hplan]
          simp [hil]
        have := hall i o p _ _ ho hp hrg m (by simp; omega)
        have hw : wrN (clsAt wc l i) = if wrAt wc l i = true then 1 else 0 := by
          simp only [wrN, clsAt, wrAt, ho]
          by_cases hc : wc.contains i = true
          · simp only [hc, if_true]; simp
          · simp only [hc]
            have : clsOf o.op ≠ 3 := clsOf_ne o.op
            simp [this]
        rw [← hw]; exact this
    · have : (⟨s.N, TA (fun _ => true) 0 l ps s.T, σs.getD ((List.range l.length).countP (wrAt wc l)) [], s.k⟩ : St) = s' := by
        rw [← hT, ← hσ, ← hN, ← hk]
      rw [this]; exact hQ
  · simp at hplan

end Go.Proofs.YtidhdlhblhbahaaGreat.Am
