/- The machine of values: calls that write boxes, in any place. -/
import Derived.Test.YtmkgechjbbekmaaAm26
set_option linter.unusedVariables false
set_option linter.unusedSimpArgs false
namespace Go.Proofs.Ytmkgechjbbekmaa.Am
open Go Go.RowKit

theorem does_call {P : Program} {s : St} {o : Oper} {f : Operand} {args : Array Operand} {ts : Array TypeId} {g : FuncId} {caps ps args' : List PV} {th : List Nat} {σc : List (List PV)} {R : PV → Boxes → Prop}
    (ho : o.op = .call { callee := .value f, args := args, argTypes := ts }) (hcal : calleePV s f = some (g, caps)) (hargs : opds s args.toList = some ps)
    (he : enterable P g = true) (hc : FnG P g args' σc R) (hl : th.length = σc.length) (hnd : th.Nodup)
    (hren : ps ++ caps = renL (thF th s.σ.length) args') (hlt : ltL th.length args' = true)
    (hbox : ∀ (i t : Nat) (cs : List PV), th[i]? = some t → σc[i]? = some cs → box s.σ t = some (renL (thF th s.σ.length) cs) ∧ ltL th.length cs = true)
    {c : Ctx} {ι : Nat → Option Nat} {S : Nat → Prop} {a : Act} {w : World} (hr : Rel c ι S s a w) {K : Act → World → Prop} {QQ : Exit → Act → World → Prop}
    (hK : ∀ p σ' ι' S' v w', R p σ' → Store c ι' S' (merge s.σ th σ') w' → (∀ v p, VRel s.σ.length ι S w v p → VRel (merge s.σ th σ').length ι' S' w' v p) →
      VRel (merge s.σ th σ').length ι' S' w' v (p.ren (thF th s.σ.length)) → (∀ b, b < s.σ.length → ι' b = ι b) → K (a.put o.dst v) w') : o.wp P a w K QQ := by
  obtain ⟨vs, hf, hvs, hcaps⟩ := callee_rel hr hcal
  obtain ⟨hal, harel⟩ := opds_rel hr hargs
  unfold Oper.wp
  rw [exec_call ho hf he]
  rw [Oper.upon_enter]
  have hσ := hr.st
  have hθ : ∀ b, b < th.length → (fun i => ι (thF th s.σ.length i)) b = ι (thF th s.σ.length b) := fun _ _ => rfl
  -- the arguments in the callee's numbers
  have hall : ∀ (j : Nat) (p : PV), args'[j]? = some p → ∃ v, ((args.toList.map a.eval) ++ vs.toList)[j]? = some v ∧ VRel th.length (fun i => ι (thF th s.σ.length i)) S w v p := fun j p hj => by
    have hj2 : (ps ++ caps)[j]? = some (p.ren (thF th s.σ.length)) := by rw [hren, renL_map]; simp [hj]
    have hpl : p.lt th.length = true := by rw [ltL_all] at hlt; exact List.all_eq_true.1 hlt p (List.mem_of_getElem? hj)
    have hv : ∃ v, ((args.toList.map a.eval) ++ vs.toList)[j]? = some v ∧ VRel s.σ.length ι S w v (p.ren (thF th s.σ.length)) := by
      rcases Nat.lt_or_ge j ps.length with h1 | h1
      · rw [List.getElem?_append_left h1] at hj2
        rw [List.getElem?_append_left (by rw [hal]; exact h1)]
        exact harel j _ hj2
      · rw [List.getElem?_append_right h1] at hj2
        rw [List.getElem?_append_right (by rw [hal]; exact h1), hal]
        obtain ⟨v, hv1, hv2⟩ := hcaps _ _ hj2
        exact ⟨v, by simpa using hv1, hv2⟩
    obtain ⟨v, hv1, hv2⟩ := hv
    exact ⟨v, hv1, VRel.unren (m := s.σ.length) (ι' := ι) (fun b _ => rfl) p v hpl hv2⟩
  have hpre : Store (cx w (fun i => ι (thF th s.σ.length i)) S σc.length) (fun i => ι (thF th s.σ.length i)) S (σc.map some) w := by
    have hbx : ∀ i ci, box (σc.map some) i = some ci → ∃ t, th[i]? = some t ∧ thF th s.σ.length i = t ∧ box s.σ t = some (renL (thF th s.σ.length) ci) ∧ ltL th.length ci = true := fun i ci hi => by
      rw [box_some] at hi
      have hil := (List.getElem?_eq_some_iff.1 hi).1
      have hit : i < th.length := by omega
      obtain ⟨h1, h2⟩ := hbox i th[i] ci (List.getElem?_eq_getElem hit) hi
      exact ⟨th[i], List.getElem?_eq_getElem hit, by simp [thF, hit], h1, h2⟩
    refine ⟨rfl, rfl, rfl, Nat.le_refl _, fun _ _ _ => rfl, fun _ _ h => h, fun i ci hi => ?_, fun i ci blk hi hb => ?_, fun i ci blk hi hb => ?_, fun i j ci cj blk hi hj hbi hbj => ?_, hσ.Slt, fun _ h => h, fun _ h => .inl h, by simp [cx], fun _ _ => rfl⟩
    · obtain ⟨t, ht, hθt, hbt, hlt'⟩ := hbx i ci hi
      rcases hσ.boxes t _ hbt with ⟨h', h''⟩ | ⟨blk, c', e', hb', g1, g0, g2⟩
      · refine .inl ⟨by simp only [hθt]; exact h', ?_⟩
        rw [renL_map] at h''
        simpa using h''
      · refine .inr ⟨blk, c', e', by simp only [hθt]; exact hb', g1, ones_unren g0, fun j p hj => ?_⟩
        obtain ⟨v, hv1, hv2⟩ := g2 j (p.ren (thF th s.σ.length)) (by rw [renL_map]; simp [hj])
        refine ⟨v, hv1, ?_⟩
        have hpl : p.lt th.length = true := by rw [ltL_all] at hlt'; exact List.all_eq_true.1 hlt' p (List.mem_of_getElem? hj)
        have := VRel.unren (n := th.length) (m := s.σ.length) (ι := fun i => ι (thF th s.σ.length i)) (ι' := ι) (θ := thF th s.σ.length) (fun b _ => rfl) p v hpl hv2
        rw [List.length_map, ← hl]; exact this
    · obtain ⟨t, ht, hθt, hbt, _⟩ := hbx i ci hi
      exact hσ.notS t _ blk hbt (by rw [← hθt]; exact hb)
    · have hil := box_lt hi
      exact .inl ⟨i, by simpa using hil, hb⟩
    · obtain ⟨t, ht, hθt, hbt, _⟩ := hbx i ci hi
      obtain ⟨t', ht', hθt', hbt', _⟩ := hbx j cj hj
      have e := hσ.inj t t' _ _ blk hbt hbt' (by rw [← hθt]; exact hbi) (by rw [← hθt']; exact hbj)
      subst e
      exact nodup_inj th hnd i j t ht ht'
  have hlen : ((args.toList.map a.eval) ++ vs.toList).length = args'.length := by
    have := congrArg List.length hren
    rw [renL_map] at this
    simp at this hal ⊢
    omega
  have hcall := hc _ S w ((args.toList.map a.eval) ++ vs.toList) hpre hlen (by rw [← hl]; exact hall)
  have hargs2 : ((args.toList.map a.eval) ++ vs.toList).toArray = args.map a.eval ++ vs := by apply Array.ext'; simp
  rw [hargs2] at hcall
  refine hcall.mono ?_
  rintro e w' ⟨v, p, σ', ι', S', rfl, hR, hst, hvp⟩
  rw [← hl] at hst
  obtain ⟨ιn, k1, k2, k3, k4⟩ := call_back hr hl hnd (fun i t cs h1 h2 => (hbox i t cs h1 h2).1) hst
  exact hK p σ' ιn S' v w' hR k1 k2 (k3 v p hvp) k4

/-- A contract with boxes, where nothing is left open. -/
def FnD (P : Program) (f : FuncId) (args : List PV) (σ : List (List PV)) (r : PV) (σ' : Boxes) : Prop := FnG P f args σ fun p σ2 => p = r ∧ σ2 = σ'

def hboxL (σ : Boxes) (θ : Nat → Nat) (n : Nat) : List Nat → List (List PV) → Prop
  | t :: th, cs :: σc => (box σ t = some (renL θ cs) ∧ ltL n cs = true) ∧ hboxL σ θ n th σc
  | _, _ => True

theorem hboxL_spec {σ : Boxes} {θ : Nat → Nat} {n : Nat} : ∀ {th : List Nat} {σc : List (List PV)}, hboxL σ θ n th σc → ∀ (i t : Nat) (cs : List PV), th[i]? = some t → σc[i]? = some cs → box σ t = some (renL θ cs) ∧ ltL n cs = true
  | [], _, _, i, t, cs, h, _ => by simp at h
  | _ :: _, [], _, i, t, cs, _, h => by simp at h
  | t' :: th, c' :: σc, h, i, t, cs, ht, hc => by
    cases i with
    | zero => simp at ht hc; subst ht hc; exact h.1
    | succ i => exact hboxL_spec h.2 i t cs (by simpa using ht) (by simpa using hc)

theorem does_fnd {P : Program} {s : St} {o : Oper} {f : Operand} {args : Array Operand} {ts : Array TypeId} {g : FuncId} {caps ps args' : List PV} {σc : List (List PV)} {r : PV} {σ' : Boxes} (th : List Nat) {σ2 : Boxes} {r2 : PV}
    (hc : FnD P g args' σc r σ') (ho : o.op = .call { callee := .value f, args := args, argTypes := ts }) (hcal : calleePV s f = some (g, caps)) (hargs : opds s args.toList = some ps)
    (he : enterable P g = true) (hl : th.length = σc.length) (hnd : th.Nodup)
    (hren : ps ++ caps = renL (thF th s.σ.length) args') (hlt : ltL th.length args' = true) (hbox : hboxL s.σ (thF th s.σ.length) th.length th σc)
    (h2 : merge s.σ th σ' = σ2) (hr2 : r.ren (thF th s.σ.length) = r2) : Does P o s σ2 r2 := fun c ι S a w hr K QQ hK =>
  does_call ho hcal hargs he hc hl hnd hren hlt (hboxL_spec hbox) hr fun p σ'' ι' S' v w' hR k1 k2 k3 k4 => by
    obtain ⟨rfl, rfl⟩ := hR
    rw [h2] at k1 k2 k3
    rw [hr2] at k3
    exact hK ι' S' v w' k1 k2 k3 k4

theorem ops_fnd {P : Program} {ops : Array Oper} {rest : List Oper} {Q : St → Prop} {s : St} {o : Oper} {f : Operand} {args : Array Operand} {ts : Array TypeId} {g : FuncId} {caps ps args' : List PV} {σc : List (List PV)} {r : PV} {σ' : Boxes} (th : List Nat) {σ2 : Boxes} {r2 : PV}
    (hc : FnD P g args' σc r σ') (ho : o.op = .call { callee := .value f, args := args, argTypes := ts }) (hcal : calleePV s f = some (g, caps)) (hargs : opds s args.toList = some ps) (hw : wantedA s ops o = some true)
    (he : enterable P g = true) (hd : dstOk o.dst s.N = true) (hl : th.length = σc.length) (hnd : th.Nodup)
    (hren : ps ++ caps = renL (thF th s.σ.length) args') (hlt : ltL th.length args' = true) (hbox : hboxL s.σ (thF th s.σ.length) th.length th σc)
    (h2 : merge s.σ th σ' = σ2) (hr2 : r.ren (thF th s.σ.length) = r2) (h : @gOps (St.put { s with σ := σ2 } o.dst r2) ⟨P, ops, rest, Q⟩) : OpsOk P ops (o :: rest) s Q :=
  ops_step hw fun c ι S a w hr K QQ hK =>
    does_fnd th hc ho hcal hargs he hl hnd hren hlt hbox h2 hr2 c ι S a w hr K QQ fun ι' S' v w' k1 k2 k3 _ => hK ι' S' _ _ w' (Rel.next hr k1 k2 hd k3) (ops_goH h)

theorem finG_mk {P : Program} {rs : List ResultVar} {R : PV → Boxes → Prop} {s : St} {p p2 : PV} (th : List Nat) (σ2 : Boxes) (hres : resPV P s rs = some p) (hp : p = p2.ren (fun i => th.getD i 0)) (hlt : p2.lt σ2.length = true)
    (hl : th.length = σ2.length) (hk : s.k ≤ σ2.length) (hid : th.take s.k = List.range s.k) (hnd : th.Nodup) (hB : EntB s (fun i => th.getD i 0) σ2.length 0 σ2) (hR : R p2 σ2) : FinG P rs R s :=
  ⟨s, p, p2, th, σ2, Ent.refl s, hres, hp, hlt, hl, hk, hid, hnd, hB, hR⟩

theorem fnd_go {P : Program} {f : FuncId} {fn : Func} {code : Code} {args : List PV} {σ : List (List PV)} {r : PV} {σ' : Boxes} (hf : P.funcs[f]? = some fn) (hb : fn.body = some code)
    (h : @gC (entry fn args σ) ⟨P, code, fun e s' => RetOk e ∧ FinG P fn.results.toList (fun p σ2 => p = r ∧ σ2 = σ') s'⟩) : FnD P f args σ r σ' := fng_of hf hb (awp_go h)

attribute [simp] hboxL
end Go.Proofs.Ytmkgechjbbekmaa.Am
