/- The machine of values: functions of values alone, and how a call to one goes. -/
import Derived.Test.YtmkgechjbbekmaaAm15
set_option linter.unusedVariables false
set_option linter.unusedSimpArgs false
namespace Go.Proofs.Ytmkgechjbbekmaa.Am
open Go Go.RowKit

/-- Called with values that nobody writes, it returns r and leaves everything as it was. -/
def Fn (P : Program) (f : FuncId) (args : List PV) (r : PV) : Prop := FnG P f args [] fun p σ' => p = r ∧ σ' = []

mutual
theorem ren_lt0 (θ : Nat → Nat) : (p : PV) → p.lt 0 = true → p.ren θ = p
  | .k _, _ | .sl _ _, _ | .eptr _, _ => rfl
  | .osl b _ _ _, h => by simp [PV.lt] at h
  | .ptr b _, h => by simp [PV.lt] at h
  | .clo fn caps, h => by simp only [PV.ren]; rw [renL_lt0 θ caps (by simpa [PV.lt] using h)]
  | .agg cs, h => by simp only [PV.ren]; rw [renL_lt0 θ cs (by simpa [PV.lt] using h)]
  | .tup ps, h => by simp only [PV.ren]; rw [renL_lt0 θ ps (by simpa [PV.lt] using h)]
theorem renL_lt0 (θ : Nat → Nat) : (ps : List PV) → ltL 0 ps = true → renL θ ps = ps
  | [], _ => rfl
  | p :: ps, h => by
    have h2 : p.lt 0 = true ∧ ltL 0 ps = true := by simpa [ltL] using h
    simp only [renL]
    rw [ren_lt0 θ p h2.1, renL_lt0 θ ps h2.2]
end

theorem lt_mono0 {n : Nat} : ∀ (p : PV), p.lt 0 = true → ∀ θ, (p.ren θ) = p := fun p h θ => ren_lt0 θ p h

def RetOk : Exit → Prop
  | .normal | .ret => True
  | _ => False

/-- The function is at its end: its results, and the boxes that are left. -/
def FinG (P : Program) (rs : List ResultVar) (R : PV → Boxes → Prop) (s : St) : Prop :=
  ∃ (s2 : St) (p p2 : PV) (th : List Nat) (σ2 : Boxes), Ent s s2 ∧ resPV P s2 rs = some p ∧ p = p2.ren (fun i => th.getD i 0) ∧ p2.lt σ2.length = true ∧ th.length = σ2.length ∧ s2.k ≤ σ2.length ∧ th.take s2.k = List.range s2.k ∧ th.Nodup ∧
    EntB s2 (fun i => th.getD i 0) σ2.length 0 σ2 ∧ R p2 σ2

def FinF (P : Program) (rs : List ResultVar) (r : PV) (s : St) : Prop := ∃ s2, Ent s s2 ∧ resPV P s2 rs = some r ∧ r.lt 0 = true ∧ s2.k = 0

theorem fin_ent {P : Program} {rs : List ResultVar} {r : PV} {s s' : St} (h : Ent s s') (k : FinF P rs r s') : FinF P rs r s := by
  obtain ⟨s2, h1, h2⟩ := k
  exact ⟨s2, h.trans h1, h2⟩
theorem fin_now {P : Program} {rs : List ResultVar} {r : PV} {s : St} (h : resPV P s rs = some r) (hl : r.lt 0 = true) (hk : s.k = 0) : FinF P rs r s := ⟨s, Ent.refl s, h, hl, hk⟩

theorem finG_ent {P : Program} {rs : List ResultVar} {R : PV → Boxes → Prop} {s s' : St} (h : Ent s s') (k : FinG P rs R s') : FinG P rs R s := by
  obtain ⟨s2, p, p2, th, σ2, h1, h2⟩ := k
  exact ⟨s2, p, p2, th, σ2, h.trans h1, h2⟩

section
variable {P : Program}

theorem store_ren {c : Ctx} {ι : Nat → Option Nat} {S : Nat → Prop} {s : St} {a : Act} {w : World} (hr : Rel c ι S s a w) (th : List Nat) {σ2 : Boxes} (hl : th.length = σ2.length) (hkl : s.k ≤ σ2.length) (hid : th.take s.k = List.range s.k) (hnd : th.Nodup)
    (hB : EntB s (fun i => th.getD i 0) σ2.length 0 σ2) {v : Value} {p2 : PV} (hv : VRel s.σ.length ι S w v (p2.ren fun i => th.getD i 0)) (hlt : p2.lt σ2.length = true) :
    ∃ ι', Store c ι' S σ2 w ∧ VRel σ2.length ι' S w v p2 := by
  have hσ := hr.st
  have hid' : ∀ i, i < s.k → th.getD i 0 = i := fun i hi => by
    have := congrArg (fun l => l[i]?) hid
    simp [List.getElem?_take_of_lt hi, hi] at this
    simp [this]
  have hb := fun i cs h => entB_box σ2 0 hB i cs h
  simp only [Nat.zero_add] at hb
  have hu : ∀ p v, p.lt σ2.length = true → VRel s.σ.length ι S w v (p.ren fun i => th.getD i 0) → VRel σ2.length (fun i => ι (th.getD i 0)) S w v p := fun p v hp h => VRel.unren (fun b _ => rfl) p v hp h
  refine ⟨fun i => ι (th.getD i 0), ⟨hσ.os, hσ.tape, hσ.output, hσ.size, hσ.old, hσ.shape, fun i cs hi => ?_, fun i cs blk hi hbl => ?_, fun i cs blk hi hbl => ?_, fun i j ci cj blk hi hj hbi hbj => ?_, hσ.Slt, hσ.S0, hσ.Snew, by rw [hr.ck]; exact hkl, fun i hi => ?_⟩, hu p2 v hlt hv⟩
  · obtain ⟨h1, h2⟩ := hb i cs hi
    rcases hσ.boxes _ _ h1 with ⟨h', h''⟩ | ⟨blk, c', e', hb', g1, g0, g2⟩
    · exact .inl ⟨h', by rw [renL_map] at h''; simpa using h''⟩
    · refine .inr ⟨blk, c', e', hb', g1, ones_unren g0, fun j p hj => ?_⟩
      obtain ⟨v, hv1, hv2⟩ := g2 j (p.ren fun i => th.getD i 0) (by rw [renL_map, List.getElem?_map, hj]; rfl)
      exact ⟨v, hv1, hu p v (by rw [ltL_all] at h2; exact List.all_eq_true.1 h2 p (List.mem_of_getElem? hj)) hv2⟩
  · exact hσ.notS _ _ blk (hb i cs hi).1 hbl
  · exact hσ.live _ _ blk (hb i cs hi).1 hbl
  · have e := hσ.inj _ _ _ _ blk (hb i ci hi).1 (hb j cj hj).1 hbi hbj
    have hi' := box_lt hi
    have hj' := box_lt hj
    rw [← hl] at hi' hj'
    simp [List.getElem?_eq_getElem hi', List.getElem?_eq_getElem hj'] at e
    exact nodup_inj th hnd i j th[i] (List.getElem?_eq_getElem hi') (by rw [e]; exact List.getElem?_eq_getElem hj')
  · rw [hr.ck] at hi
    simp only [hid' i hi]
    exact hσ.kι i (by rw [hr.ck]; exact hi)

theorem run_results {c : Ctx} {ι : Nat → Option Nat} {S : Nat → Prop} {s : St} {a : Act} {w : World} (hr : Rel c ι S s a w) {fn : Func} {p : PV} (hres : resPV P s fn.results.toList = some p) :
    ∃ v, (results fn a.tmps).run P w = .ok v w ∧ VRel s.σ.length ι S w v p := by
  unfold resPV at hres
  split at hres
  · rename_i q hq
    simp at hres; subst hres
    obtain ⟨vs, hvs, hlv, hrv⟩ := results_rel hr _ _ hq
    match vs, hlv, hvs, hrv with
    | [v], _, hvs, hrv =>
      refine ⟨v, ?_, ?_⟩
      · simp only [results_eq, Array.mapM_eq_mapM_toList, Sem.run_bind, Sem.run_map, hvs, Result.andThen_ok, Sem.run_pure]
        simp
      · obtain ⟨u, hu, hr⟩ := hrv 0 q rfl
        simp at hu; subst hu; exact hr
  · rename_i ps hps hq
    simp at hres; subst hres
    obtain ⟨vs, hvs, hlv, hrv⟩ := results_rel hr _ _ hq
    have hne : vs.length ≠ 1 := fun e => by
      rw [hlv] at e
      match ps, e, hps with
      | [p], _, hps => exact hps p rfl
    refine ⟨.tuple vs.toArray, ?_, .tup (by simpa using hlv) (fun j p hj => ?_)⟩
    · simp only [results_eq, Array.mapM_eq_mapM_toList, Sem.run_bind, Sem.run_map, hvs, Result.andThen_ok, Sem.run_pure]
      simp [hne]
    · obtain ⟨u, hu, hr⟩ := hrv j p hj
      rw [Array.getD_eq_getD_getElem?]
      simp [hu, hr]
  · simp at hres

theorem fng_of {f : FuncId} {fn : Func} {code : Code} {args : List PV} {σ : List (List PV)} {R : PV → Boxes → Prop} (hf : P.funcs[f]? = some fn) (hb : fn.body = some code)
    (h : AWp P code (entry fn args σ) fun e s' => RetOk e ∧ FinG P fn.results.toList R s') : FnG P f args σ R := by
  intro ι S w vals hs hl hv
  refine calls_of_wp hf hb ?_
  have hrel : Rel (cx w ι S σ.length) ι S (entry fn args σ) { tmps := vals.toArray ++ Array.replicate (fn.ntmps - vals.toArray.size) undef, defers := [] } w := by
    refine ⟨hs, rfl, by simp [entry, hl], rfl, fun t p ht => ?_⟩
    obtain ⟨_, hp⟩ := look_entryT args 0 t p ht
    simp only [Nat.sub_zero] at hp
    obtain ⟨v, hv1, hv2⟩ := hv t p hp
    have hlt := (List.getElem?_eq_some_iff.1 hv1).1
    have e : (vals.toArray ++ Array.replicate (fn.ntmps - vals.toArray.size) undef).getD t undef = v := by
      rw [Array.getD_eq_getD_getElem?, Array.getElem?_append_left (by simpa using hlt)]
      simp [hv1]
    rw [e]
    simpa [entry] using hv2
  refine h _ _ _ _ _ hrel _ fun e ι' S' s' a' w' hr' hq => ?_
  obtain ⟨he, s2, p, p2, th, σ2, hent, hres, rfl, h1, h2, h3, h4, h5, h6, hR⟩ := hq
  obtain ⟨ι2, S2, hr2⟩ := hent _ _ _ _ _ hr'
  obtain ⟨v, hrun, hvp⟩ := run_results hr2 hres
  obtain ⟨ι3, hst, hvp2⟩ := store_ren hr2 th h2 h3 h4 h5 h6 hvp h1
  have hpost : ∃ v, (results fn a'.tmps).run P w' = .ok v w' ∧ ∃ v' p σ' ι' S', Ending.returned v = .returned v' ∧ R p σ' ∧ Store (cx w ι S σ.length) ι' S' σ' w' ∧ VRel σ'.length ι' S' w' v' p :=
    ⟨v, hrun, v, p2, σ2, ι3, S2, rfl, hR, hst, hvp2⟩
  cases e with
  | normal => exact ⟨hr2.defers, hpost⟩
  | ret => exact ⟨hr2.defers, hpost⟩
  | _ => exact he.elim

theorem fn_of {f : FuncId} {fn : Func} {code : Code} {args : List PV} {r : PV} (hf : P.funcs[f]? = some fn) (hb : fn.body = some code)
    (h : AWp P code (entry fn args []) fun e s' => RetOk e ∧ FinF P fn.results.toList r s') : Fn P f args r :=
  fng_of hf hb (awp_mono h fun e s' ⟨he, s2, h1, h2, h3, h4⟩ => ⟨he, s2, r, r, [], [], h1, h2, (ren_lt0 _ _ h3).symm, h3, rfl, by simp [h4], by simp [h4], List.nodup_nil, trivial, rfl, rfl⟩)

theorem fn_go {f : FuncId} {fn : Func} {code : Code} {args : List PV} {r : PV} (hf : P.funcs[f]? = some fn) (hb : fn.body = some code)
    (h : @gC (entry fn args []) ⟨P, code, fun e s' => RetOk e ∧ FinF P fn.results.toList r s'⟩) : Fn P f args r := fn_of hf hb (awp_go h)

/-- A call of a function of values. -/
theorem ops_fn {ops : Array Oper} {rest : List Oper} {o : Oper} {s : St} {Q : St → Prop} {f : Operand} {args : Array Operand} {ts : Array TypeId} {g : FuncId} {caps ps : List PV} {r : PV} {args' : List PV}
    (hc : Fn P g args' r) (ho : o.op = .call { callee := .value f, args := args, argTypes := ts }) (hcal : calleePV s f = some (g, caps)) (hargs : opds s args.toList = some ps) (hw : wantedA s ops o = some true)
    (he : enterable P g = true) (hd : dstOk o.dst s.N = true) (hren : ps ++ caps = args') (hlt : ltL 0 args' = true) (hlr : r.lt 0 = true)
    (h : @gOps (s.put o.dst r) ⟨P, ops, rest, Q⟩) : OpsOk P ops (o :: rest) s Q :=
  ops_call (th := []) (σc := []) hw ho hcal hargs he hc rfl List.nodup_nil (by rw [renL_lt0 _ _ hlt]; exact hren) hlt (by simp) hd fun p σ' hR => by
    obtain ⟨rfl, rfl⟩ := hR
    rw [ren_lt0 _ _ hlr]
    have : merge s.σ [] [] = s.σ := by simp [merge, setAll]
    rw [this]
    exact ops_go h
end

end Go.Proofs.Ytmkgechjbbekmaa.Am
