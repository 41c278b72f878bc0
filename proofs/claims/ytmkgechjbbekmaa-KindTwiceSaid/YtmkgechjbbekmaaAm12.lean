/- The machine of values: entering a function, calling one, forgetting, freezing. -/
import Derived.Test.YtmkgechjbbekmaaAm11
set_option linter.unusedVariables false
set_option linter.unusedSimpArgs false
namespace Go.Proofs.Ytmkgechjbbekmaa.Am
open Go Go.RowKit

/-! ### Entering a function -/
def resOne (P : Program) (s : St) : ResultVar → Option PV
  | .tmp t => look s.T t
  | .cell a t => match look s.T a with | some p => loadPV P s.σ t p | none => none

def resPV (P : Program) (s : St) (rs : List ResultVar) : Option PV :=
  match rs.mapM (resOne P s) with
  | some [p] => some p
  | some ps => some (.tup ps)
  | none => none

def entryT : Nat → List PV → List (Nat × PV)
  | _, [] => []
  | i, p :: ps => (i, p) :: entryT (i + 1) ps

def entry (fn : Func) (args : List PV) (σ : List (List PV)) : St := ⟨args.length + (fn.ntmps - args.length), entryT 0 args, σ.map some, σ.length⟩

theorem look_entryT : ∀ (ps : List PV) (i t : Nat) (p : PV), look (entryT i ps) t = some p → i ≤ t ∧ ps[t - i]? = some p
  | [], _, _, _, h => by simp [entryT, look] at h
  | q :: ps, i, t, p, h => by
    simp only [entryT, look] at h
    split at h
    · rename_i e; subst e; simp at h; subst h; simp
    · obtain ⟨h1, h2⟩ := look_entryT ps (i + 1) t p h
      refine ⟨by omega, ?_⟩
      rw [show t - i = (t - (i + 1)) + 1 by omega]
      simpa using h2

def enterable (P : Program) (f : FuncId) : Bool :=
  match P.funcs[f]? with
  | some fn => !(fn.name == "runtime.NumGoroutine") && fn.body.isSome
  | none => false

def readRes (tmps : Array Value) : ResultVar → Sem Value
  | .tmp t => pure (tmps.getD t undef)
  | .cell a t => do loadVar t (← asAddr (tmps.getD a undef))

theorem results_eq (fn : Func) (tmps : Array Value) : results fn tmps = (do
  let vs ← fn.results.mapM (readRes tmps)
  pure (if h : vs.size = 1 then vs[0] else .tuple vs)) := rfl

section
variable {P : Program} {c : Ctx} {ι : Nat → Option Nat} {S : Nat → Prop} {s : St} {a : Act} {w : World}

theorem resOne_rel (hr : Rel c ι S s a w) {r : ResultVar} {p : PV} (h : resOne P s r = some p) :
    ∃ v, (readRes a.tmps r).run P w = .ok v w ∧ VRel s.σ.length ι S w v p := by
  cases r with
  | tmp t => exact ⟨_, rfl, hr.temps t p h⟩
  | cell ad t =>
    simp only [resOne] at h
    split at h
    · rename_i q hq
      obtain ⟨v, hv, hp⟩ := load_rel hr (hr.temps ad q hq) h
      refine ⟨v, ?_, hp⟩
      have hh := hr.temps ad q hq
      simp only [readRes]
      generalize a.tmps.getD ad undef = x at hh hv ⊢
      have : ∃ ad', x = .pointer (some ad') := by
        cases hh with
        | imm hh => cases hh <;> first | exact ⟨_, rfl⟩ | (simp [loadPV] at h; done) | skip
                    all_goals (simp only [loadPV] at h; split at h <;> simp at h)
        | ptr _ _ => exact ⟨_, rfl⟩
        | _ => simp only [loadPV] at h; split at h <;> simp at h
      obtain ⟨ad', rfl⟩ := this
      simpa [asAddr, Instr.loadAt, Instr.sureAddr] using hv
    · simp at h

theorem results_rel (hr : Rel c ι S s a w) : ∀ (rs : List ResultVar) (ps : List PV), rs.mapM (resOne P s) = some ps →
    ∃ vs : List Value, (rs.mapM (readRes a.tmps)).run P w = .ok vs w ∧ vs.length = ps.length ∧ ∀ (j : Nat) (p : PV), ps[j]? = some p → ∃ v, vs[j]? = some v ∧ VRel s.σ.length ι S w v p
  | [], ps, h => by simp at h; subst h; exact ⟨[], by simp, rfl, by simp⟩
  | r :: rs, ps, h => by
    simp only [List.mapM_cons, Option.bind_eq_bind, Option.bind_eq_some_iff] at h
    obtain ⟨p, hp, ps', hps, h⟩ := h
    simp at h; subst h
    obtain ⟨v, hv, hvp⟩ := resOne_rel hr hp
    obtain ⟨vs, hvs, hl, hrel⟩ := results_rel hr rs ps' hps
    refine ⟨v :: vs, ?_, by simp [hl], fun j q hj => ?_⟩
    · simp only [List.mapM_cons, Sem.run_bind, hv, Result.andThen_ok, hvs, Sem.run_pure]
    · cases j with
      | zero => simp at hj; subst hj; exact ⟨v, rfl, hvp⟩
      | succ j => simpa using hrel j q (by simpa using hj)

theorem fng_of_awp {f : FuncId} {fn : Func} {code : Code} {args : List PV} {σ : List (List PV)} {R : PV → Boxes → Prop} (hf : P.funcs[f]? = some fn) (hb : fn.body = some code)
    (h : AWp P code (entry fn args σ) fun e s' => (e = .normal ∨ e = .ret) ∧ ∃ s'' p, Ent s' s'' ∧ resPV P s'' fn.results.toList = some p ∧ R p s''.σ) : FnG P f args σ R := by
  intro ι S w vals hs hl hv
  refine calls_of_wp hf hb ?_
  have hrel : Rel (cx w ι S σ.length) ι S (entry fn args σ) { tmps := vals.toArray ++ Array.replicate (fn.ntmps - vals.toArray.size) undef, defers := [] } w := by
    refine ⟨hs, rfl, by simp [entry, hl], rfl, fun t p ht => ?_⟩
    obtain ⟨_, hp⟩ := look_entryT args 0 t p ht
    simp only [Nat.sub_zero] at hp
    obtain ⟨v, hv1, hv2⟩ := hv t p hp
    have hlt := (List.getElem?_eq_some_iff.1 hv1).1
    have e : (vals.toArray ++ Array.replicate (fn.ntmps - vals.toArray.size) undef).getD t undef = v := by
      rw [Array.getD_eq_getD_getElem?, Array.getElem?_append_left (by simpa using hlt)]
      simp [hv1]
    rw [e]
    simpa [entry] using hv2
  refine h _ _ _ _ _ hrel _ fun e ι' S' s' a' w' hr' hq => ?_
  obtain ⟨he, s'', p, hent, hres, hR⟩ := hq
  obtain ⟨ι2, S2, hr2⟩ := hent _ _ _ _ _ hr'
  have hfin : ∃ v, (results fn a'.tmps).run P w' = .ok v w' ∧ VRel s''.σ.length ι2 S2 w' v p := by
    unfold resPV at hres
    split at hres
    · rename_i q hq
      simp at hres; subst hres
      obtain ⟨vs, hvs, hlv, hrv⟩ := results_rel hr2 _ _ hq
      match vs, hlv, hvs, hrv with
      | [v], _, hvs, hrv =>
        refine ⟨v, ?_, ?_⟩
        · simp only [results_eq, Array.mapM_eq_mapM_toList, Sem.run_bind, Sem.run_map, hvs, Result.andThen_ok, Sem.run_pure]
          simp
        · obtain ⟨u, hu, hr⟩ := hrv 0 q rfl
          simp at hu; subst hu; exact hr
    · rename_i ps hps hq
      simp at hres; subst hres
      obtain ⟨vs, hvs, hlv, hrv⟩ := results_rel hr2 _ _ hq
      have hne : vs.length ≠ 1 := fun e => by
        rw [hlv] at e
        match ps, e, hps with
        | [p], _, hps => exact hps p rfl
      refine ⟨.tuple vs.toArray, ?_, .tup (by simpa using hlv) (fun j p hj => ?_)⟩
      · simp only [results_eq, Array.mapM_eq_mapM_toList, Sem.run_bind, Sem.run_map, hvs, Result.andThen_ok, Sem.run_pure]
        simp [hne]
      · obtain ⟨u, hu, hr⟩ := hrv j p hj
        rw [Array.getD_eq_getD_getElem?]
        simp [hu, hr]
    · simp at hres
  obtain ⟨v, hrun, hvp⟩ := hfin
  have hpost : ∃ v, (results fn a'.tmps).run P w' = .ok v w' ∧ ∃ v' p σ' ι' S', Ending.returned v = .returned v' ∧ R p σ' ∧ Store (cx w ι S σ.length) ι' S' σ' w' ∧ VRel σ'.length ι' S' w' v' p :=
    ⟨v, hrun, v, p, s''.σ, ι2, S2, rfl, hR, hr2.st, hvp⟩
  rcases he with rfl | rfl
  · exact ⟨hr2.defers, hpost⟩
  · exact ⟨hr2.defers, hpost⟩
end

end Go.Proofs.Ytmkgechjbbekmaa.Am
