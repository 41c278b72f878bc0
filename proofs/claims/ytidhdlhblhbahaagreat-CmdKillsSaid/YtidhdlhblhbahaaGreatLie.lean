/- Contracts of functions that get all boxes as they lie; a region whose last operation may do what it likes. -/
import Derived.Test.YtidhdlhblhbahaaGreatDrawX
set_option linter.unusedVariables false
set_option linter.unusedSimpArgs false
namespace Go.Proofs.YtidhdlhblhbahaaGreat.Am
open Go Go.RowKit

/-- An operation that yields some value and leaves some boxes. -/
def DoesN (P : Program) (o : Oper) (s : St) (R : PV → Boxes → Prop) : Prop :=
  ∀ c ι S a w, Rel c ι S s a w → ∀ (K : Act → World → Prop) QQ, (∀ p τ ι' S' v w', R p τ → Store c ι' S' τ w' → (∀ v p, VRel s.σ.length ι S w v p → VRel τ.length ι' S' w' v p) →
    VRel τ.length ι' S' w' v p → (∀ b, b < s.σ.length → ι' b = ι b) → K (a.put o.dst v) w') → o.wpIn (wideR c.ro) 0 P a w K QQ

/-- Called where the boxes lie as σ, it returns p and they lie as τ, the old ones where they were. -/
def FnL (P : Program) (g : FuncId) (args : List PV) (σ : Boxes) (R : PV → Boxes → Prop) : Prop :=
  ∀ (s : St) (o : Oper) (f : Operand) (ars : Array Operand) (ts : Array TypeId) (caps ps : List PV), s.σ = σ → o.op = .call { callee := .value f, args := ars, argTypes := ts } → calleePV s f = some (g, caps) → opds s ars.toList = some ps →
    ps ++ caps = args → enterable P g = true → DoesN P o s R

def cxL (w : World) (ι : Nat → Option Nat) (S : Nat → Prop) (σ : Boxes) : Ctx := ⟨w, fun b => ∃ i cs, box σ i = some cs ∧ ι i = some b, S, σ.length, ι, none, []⟩
def entryL (fn : Func) (args : List PV) (σ : Boxes) : St := ⟨args.length + (fn.ntmps - args.length), entryT 0 args, σ, σ.length⟩
theorem boxG {σ : Boxes} {b : Nat} {cs : List PV} (h : box σ b = some cs) : σ[b]? = some (some cs) := by
  unfold box at h
  cases hx : σ[b]? with
  | none => rw [hx] at h; simp at h
  | some x => rw [hx] at h; simp at h; rw [h]
/-- Boxes name boxes among them. -/
def ltS (σ : Boxes) : Prop := ∀ i cs, box σ i = some cs → ltL σ.length cs = true
theorem store_ltS {c : Ctx} {ι : Nat → Option Nat} {S : Nat → Prop} {σ : Boxes} {w : World} (h : Store c ι S σ w) : ltS σ := fun i cs hi => by
  rcases h.boxes i cs hi with ⟨_, rfl⟩ | ⟨_, _, _, _, _, _, h4⟩
  · rfl
  · refine ltL_of fun j p hj => ?_
    obtain ⟨v, _, hv⟩ := h4 j p hj
    exact hv.lt
theorem awp_ltS {P : Program} {c : Code} {s : St} {Q : Exit → St → Prop} (h : ltS s.σ → AWp P c s Q) : AWp P c s Q := fun cc ι S a w hr => h (store_ltS hr.st) cc ι S a w hr
theorem ops_ltS {P : Program} {ops : Array Oper} {l : List Oper} {s : St} {Q : St → Prop} (h : ltS s.σ → OpsOk P ops l s Q) : OpsOk P ops l s Q := fun cc ι S a w hr => h (store_ltS hr.st) cc ι S a w hr
mutual
/-- What does not name box b stays as it is when b is frozen. -/
theorem fz_geP {b n : Nat} (hb : n ≤ b) (cs : List PV) : (p : PV) → p.lt n = true → p.fz b cs = p
  | .k _, _ | .sl _ _, _ | .eptr _, _ => rfl
  | .osl b' z off len, h => by
    simp [PV.lt] at h
    have : b' ≠ b := by omega
    simp [PV.fz, this]
  | .osc b' _ _ _ _, h => rfl
  | .ptr b' off, h => by
    simp [PV.lt] at h
    have : b' ≠ b := by omega
    simp [PV.fz, this]
  | .mref b', h => rfl
  | .clo fn caps, h => by simp only [PV.fz]; rw [fz_geL hb cs caps (by simpa [PV.lt] using h)]
  | .agg ps, h => by simp only [PV.fz]; rw [fz_geL hb cs ps (by simpa [PV.lt] using h)]
  | .tup ps, h => by simp only [PV.fz]; rw [fz_geL hb cs ps (by simpa [PV.lt] using h)]
theorem fz_geL {b n : Nat} (hb : n ≤ b) (cs : List PV) : (ps : List PV) → ltL n ps = true → fzL b cs ps = ps
  | [], _ => rfl
  | p :: ps, h => by
    have h2 : p.lt n = true ∧ ltL n ps = true := by simpa [ltL] using h
    simp only [fzL]
    rw [fz_geP hb cs p h2.1, fz_geL hb cs ps h2.2]
end
theorem ltS_fz {σ : Boxes} (h : ltS σ) {b : Nat} (hb : σ.length ≤ b) (cs : List PV) : (σ.map fun x => x.map (fzL b cs)) = σ := by
  refine List.ext_getElem (by simp) fun i h1 h2 => ?_
  rw [List.getElem_map]
  cases hx : σ[i] with
  | none => rfl
  | some ps =>
    rw [Option.map_some, fz_geL hb cs ps (h i ps (by simp [box, List.getElem?_eq_getElem h2, hx]))]
/-- The end, the boxes as they lie. -/
def FinL (P : Program) (rs : List ResultVar) (R : PV → Boxes → Prop) (s : St) : Prop := ∃ s2 p, Ent s s2 ∧ resPV P s2 rs = some p ∧ R p s2.σ

theorem finL_ent {P : Program} {rs : List ResultVar} {R : PV → Boxes → Prop} {s s' : St} (h : Ent s s') (k : FinL P rs R s') : FinL P rs R s := by
  obtain ⟨s2, p, h1, h2⟩ := k
  exact ⟨s2, p, h.trans h1, h2⟩
theorem finL {P : Program} {rs : List ResultVar} {R : PV → Boxes → Prop} {s : St} {p : PV} (hR : R p s.σ) (h : resPV P s rs = some p := by first | exact rfl | simp) : FinL P rs R s := ⟨s, p, Ent.refl s, h, hR⟩

theorem store_back {c : Ctx} {ι ι' : Nat → Option Nat} {S S' : Nat → Prop} {σ τ : Boxes} {w w' : World} (hσ : Store c ι S σ w) (h : Store (cxL w ι S σ) ι' S' τ w') :
    Store c ι' S' τ w' ∧ (∀ v p, VRel σ.length ι S w v p → VRel τ.length ι' S' w' v p) ∧ ∀ b, b < σ.length → ι' b = ι b := by
  have hM : ∀ b, (cxL w ι S σ).M b → c.M b ∨ c.w0.heap.size ≤ b := fun b ⟨i, cs, hi, hb⟩ => hσ.live i cs b hi hb
  have hnS : ∀ b, S b → ¬ (cxL w ι S σ).M b := fun b hb ⟨i, cs, hi, hbl⟩ => hσ.notS i cs b hi hbl hb
  have hsame : ∀ b, S b → w'.heap[b]? = w.heap[b]? := fun b hb => h.old b (hσ.Slt b hb) (hnS b hb)
  refine ⟨⟨h.os.trans hσ.os, h.tape.trans hσ.tape, h.output.trans hσ.output, Nat.le_trans hσ.size h.size, fun b hb hm => ?_, fun b x hx => h.shape b x (hσ.shape b x hx), h.boxes, h.notS, fun i cs blk hi hb => ?_, h.inj, h.Slt, fun b hb => h.S0 b (hσ.S0 b hb), fun b hb => ?_, Nat.le_trans hσ.klen h.klen, fun i hi => ?_⟩, fun v p hv => ?_, fun b hb => h.kι b hb⟩
  · exact (h.old b (Nat.lt_of_lt_of_le hb hσ.size) (fun hm' => (hM b hm').elim hm (fun h' => by omega))).trans (hσ.old b hb hm)
  · exact (h.live i cs blk hi hb).elim (hM _) (fun h' => .inr (Nat.le_trans hσ.size h'))
  · rcases h.Snew b hb with h1 | h1 | h1
    · exact hσ.Snew b h1
    · exact .inr (hM b h1)
    · exact .inr (.inr (Nat.le_trans hσ.size h1))
  · exact (h.kι i (Nat.lt_of_lt_of_le hi hσ.klen)).trans (hσ.kι i hi)
  · exact hv.mono h.klen (fun b hb => h.kι b hb) (fun b hb => h.S0 b hb) (fun b o hb => by have e := hsame b hb; simp only [World.cell?]; rw [e]; rfl) (fun b x hx => h.shape b x hx)

section
variable {P : Program}
/-- The same, told of the callee itself. -/
def FnC (P : Program) (g : FuncId) (args : List PV) (σ : Boxes) (R : PV → Boxes → Prop) : Prop :=
  ∀ (ι : Nat → Option Nat) (S : Nat → Prop) (w : World) (vals : List Value), Store (cxL w ι S σ) ι S σ w → vals.length = args.length → (∀ (j : Nat) (p : PV), args[j]? = some p → ∃ v, vals[j]? = some v ∧ VRel σ.length ι S w v p) →
    Calls P g vals.toArray w fun e w' => ∃ v p τ ι' S', e = .returned v ∧ R p τ ∧ Store (cxL w ι S σ) ι' S' τ w' ∧ VRel τ.length ι' S' w' v p
theorem fnl_calls {g : FuncId} {args : List PV} {σ : Boxes} {R : PV → Boxes → Prop} (hc : ltS σ → FnC P g args σ R) : FnL P g args σ R := by
  intro s o f ars ts caps ps hs ho hcal hargs hren he c ι S a w hr K QQ hK
  subst hs
  obtain ⟨vs, hf, hvs, hcaps⟩ := callee_rel hr hcal
  obtain ⟨hal, harel⟩ := opds_rel hr hargs
  refine wpIn_ent (exec_call ho hf he) ?_
  have hσ := hr.st
  have hpre : Store (cxL w ι S s.σ) ι S s.σ w := ⟨rfl, rfl, rfl, Nat.le_refl _, fun _ _ _ => rfl, fun _ _ h => h, hσ.boxes, hσ.notS, fun i cs blk hi hb => .inl ⟨i, cs, hi, hb⟩, hσ.inj, hσ.Slt, fun _ h => h, fun _ h => .inl h, Nat.le_refl _, fun _ _ => rfl⟩
  have hcall := hc (store_ltS hσ) ι S w ((ars.toList.map a.eval) ++ vs.toList) hpre (by
    have := congrArg List.length hren
    simp at this hal ⊢
    omega) fun j p hj => by
      rw [← hren] at hj
      rcases Nat.lt_or_ge j ps.length with h1 | h1
      · rw [List.getElem?_append_left h1] at hj
        rw [List.getElem?_append_left (by rw [hal]; exact h1)]
        exact harel j _ hj
      · rw [List.getElem?_append_right h1] at hj
        rw [List.getElem?_append_right (by rw [hal]; exact h1), hal]
        obtain ⟨v, hv1, hv2⟩ := hcaps _ _ hj
        exact ⟨v, by simpa using hv1, hv2⟩
  have hargs2 : ((ars.toList.map a.eval) ++ vs.toList).toArray = ars.map a.eval ++ vs := by apply Array.ext'; simp
  rw [hargs2] at hcall
  refine hcall.mono ?_
  rintro e w' ⟨v, p, τ, ι', S', rfl, hR, hst, hvp⟩
  obtain ⟨k1, k2, k3⟩ := store_back hσ hst
  exact hK p τ ι' S' v w' hR k1 k2 hvp k3

theorem entryL_rel {fn : Func} {args : List PV} {σ : Boxes} {ι : Nat → Option Nat} {S : Nat → Prop} {w : World} {vals : List Value} (hs : Store (cxL w ι S σ) ι S σ w) (hl : vals.length = args.length) (hv : ∀ (j : Nat) (p : PV), args[j]? = some p → ∃ v, vals[j]? = some v ∧ VRel σ.length ι S w v p) :
    Rel (cxL w ι S σ) ι S (entryL fn args σ) { tmps := vals.toArray ++ Array.replicate (fn.ntmps - vals.toArray.size) undef, defers := [] } w := by
  refine ⟨hs, rfl, by simp [entryL, hl], rfl, fun t p ht => ?_⟩
  obtain ⟨_, hp⟩ := look_entryT args 0 t p ht
  simp only [Nat.sub_zero] at hp
  obtain ⟨v, hv1, hv2⟩ := hv t p hp
  have hlt := (List.getElem?_eq_some_iff.1 hv1).1
  have e : (vals.toArray ++ Array.replicate (fn.ntmps - vals.toArray.size) undef).getD t undef = v := by
    rw [Array.getD_eq_getD_getElem?, Array.getElem?_append_left (by simpa using hlt)]
    simp [hv1]
  rw [e]
  simpa [entryL] using hv2

theorem fnc_of {f : FuncId} {fn : Func} {code : Code} {args : List PV} {σ : Boxes} {R : PV → Boxes → Prop} (hf : P.funcs[f]? = some fn) (hb : fn.body = some code)
    (h : ltS σ → AWp P code (entryL fn args σ) fun e s' => RetOk e ∧ FinL P fn.results.toList R s') : FnC P f args σ R := by
  intro ι S w vals hs hl hv
  have hlt := store_ltS hs
  refine calls_of_wp hf hb ?_
  refine wpIn_wide (n := 0).1 ?_
  refine h hlt _ _ _ _ _ (entryL_rel hs hl hv) _ fun e ι' S' s' a' w' hr' hq => ?_
  obtain ⟨he, s2, p, hent, hres, hR⟩ := hq
  obtain ⟨ι2, S2, hr2⟩ := hent _ _ _ _ _ hr'
  obtain ⟨v, hrun, hvp⟩ := run_results hr2 hres
  have hpost : ∃ v, (results fn a'.tmps).run P w' = .ok v w' ∧ ∃ v' p τ ι' S', Ending.returned v = .returned v' ∧ R p τ ∧ Store (cxL w ι S σ) ι' S' τ w' ∧ VRel τ.length ι' S' w' v' p :=
    ⟨v, hrun, v, p, s2.σ, ι2, S2, rfl, hR, hr2.st, hvp⟩
  cases e with
  | normal => exact ⟨hr2.defers, hpost⟩
  | ret => exact ⟨hr2.defers, hpost⟩
  | _ => exact he.elim
theorem fnl_of {f : FuncId} {fn : Func} {code : Code} {args : List PV} {σ : Boxes} {R : PV → Boxes → Prop} (hf : P.funcs[f]? = some fn) (hb : fn.body = some code)
    (h : ltS σ → AWp P code (entryL fn args σ) fun e s' => RetOk e ∧ FinL P fn.results.toList R s') : FnL P f args σ R := fnl_calls fun _ => fnc_of hf hb h
theorem cx_nil (w : World) (ι : Nat → Option Nat) (S : Nat → Prop) : cxL w ι S [] = cx w ι S 0 := by
  unfold cxL cx
  congr 1
  funext b
  simp [box]
/-- What needs no box of the caller's makes its own ones behind them. -/
theorem fnl_new {g : FuncId} {args : List PV} {σ : Boxes} {R : PV → Boxes → Prop} (h : FnC P g args [] R) (hlt : ltL 0 args = true := by simp) :
    FnL P g args σ (fun p τ => ∃ p0 τ0, R p0 τ0 ∧ p = p0.ren (fun i => σ.length + i) ∧ τ = σ ++ τ0.map fun x => x.map (renL fun i => σ.length + i)) := by
  have hG : FnG P g args [] R := fun ι S w vals hs hl hv => by
    have := h ι S w vals (by rw [cx_nil]; exact hs) hl hv
    rw [cx_nil] at this
    exact this
  have hθ : ∀ n, thF [] n = fun i => n + i := fun n => by funext i; simp [thF]
  intro s o f ars ts caps ps hs ho hcal hargs hren he c ι S a w hr K QQ hK
  subst hs
  refine does_call (th := []) ho hcal hargs he hG rfl List.nodup_nil (by rw [renL_lt0 _ _ hlt]; exact hren) (by simpa using hlt) (fun i t cs h => by simp at h) hr fun p σ' ι' S' v w' hR k1 k2 k3 k4 => ?_
  have hm : merge s.σ [] σ' = s.σ ++ σ'.map fun x => x.map (renL fun i => s.σ.length + i) := by
    simp only [merge, hθ]
    simp [setAll]
  rw [hm] at k1 k2 k3
  rw [hθ] at k3
  exact hK _ _ ι' S' v w' ⟨p, σ', hR, rfl, rfl⟩ k1 k2 k3 k4
theorem fnl_go {f : FuncId} {fn : Func} {code : Code} {args : List PV} {σ : Boxes} {R : PV → Boxes → Prop} (hf : P.funcs[f]? = some fn) (hb : fn.body = some code)
    (h : ltS σ → @gC (entryL fn args σ) ⟨P, code, fun e s' => RetOk e ∧ FinL P fn.results.toList R s'⟩) : FnL P f args σ R := fnl_of hf hb fun hl => awp_go (h hl)

theorem fnl_fnd {g : FuncId} {args args' : List PV} {σc : List (List PV)} {r r2 : PV} {σ σ' : Boxes} (th : List Nat) (hc : FnD P g args' σc r σ') (hargs : args = renL (thF th σ.length) args' := by simp) (hr2 : r.ren (thF th σ.length) = r2 := by first | exact rfl | simp)
    (hl : th.length = σc.length := by first | exact rfl | simp) (hnd : th.Nodup := by simp) (hlt : ltL th.length args' = true := by simp) (hbox : hboxL σ (thF th σ.length) th.length th σc := by simp) : FnL P g args σ (fun p τ => p = r2 ∧ τ = merge σ th σ') :=
  fun s o f ars ts caps ps hs ho hcal hargs' hren he c ι S a w hr K QQ hK => by
    subst hs
    exact does_fnd th hc ho hcal hargs' he hl hnd (by rw [hren, hargs]) hlt hbox rfl hr2 c ι S a w hr K QQ fun ι' S' v w' h1 h2 h3 h4 => hK _ _ ι' S' v w' ⟨rfl, rfl⟩ h1 h2 h3 h4
theorem fnl_fn {g : FuncId} {args : List PV} {r : PV} {σ : Boxes} (hc : Fn P g args r) (hlt : ltL 0 args = true := by simp) (hlr : r.lt 0 = true := by simp) : FnL P g args σ (fun p τ => p = r ∧ τ = σ) := by
  have hcD : FnD P g args [] r [] := hc
  have e : thF [] σ.length = thF [] σ.length := rfl
  have := fnl_fnd (σ := σ) (r2 := r) [] hcD (by rw [renL_lt0 _ _ hlt]) (ren_lt0 _ _ hlr) rfl (by simp) (by simpa using hlt) trivial
  simpa [merge] using this
theorem fnl_mono {g : FuncId} {args : List PV} {σ : Boxes} {R R' : PV → Boxes → Prop} (h : FnL P g args σ R) (hR : ∀ p τ, R p τ → R' p τ) : FnL P g args σ R' :=
  fun s o f ars ts caps ps hs ho hcal hargs hren he c ι S a w hr K QQ hK => h s o f ars ts caps ps hs ho hcal hargs hren he c ι S a w hr K QQ fun p τ ι' S' v w' hR' => hK p τ ι' S' v w' (hR p τ hR')
/-- Boxes of its own that nobody names are forgotten. -/
theorem fnl_trim {g : FuncId} {args : List PV} {σ : Boxes} {r : PV} (h : FnL P g args σ (fun p τ => p = r ∧ ∃ ext, τ = σ ++ ext)) (hr0 : r.lt σ.length = true) : FnL P g args σ (fun p τ => p = r ∧ τ = σ) :=
  fun s o f ars ts caps ps hs ho hcal hargs hren he c ι S a w hr K QQ hK => h s o f ars ts caps ps hs ho hcal hargs hren he c ι S a w hr K QQ fun p τ ι' S' v w' hR h1 h2 h3 h4 => by
    obtain ⟨rfl, ext, rfl⟩ := hR
    subst hs
    have hbx : ∀ i cs, box s.σ i = some cs → box (s.σ ++ ext) i = some cs := fun i cs hi => by rw [box_append, if_pos (box_lt hi)]; exact hi
    refine hK p s.σ ι' S' v w' ⟨rfl, rfl⟩ ⟨h1.os, h1.tape, h1.output, h1.size, h1.old, h1.shape, fun i cs hi => ?_, fun i cs blk hi => h1.notS i cs blk (hbx i cs hi), fun i cs blk hi => h1.live i cs blk (hbx i cs hi), fun i j ci cj blk hi hj => h1.inj i j ci cj blk (hbx i ci hi) (hbx j cj hj),
      h1.Slt, h1.S0, h1.Snew, hr.st.klen, h1.kι⟩ (fun v p hv => (h2 v p hv).less hv.lt) (h3.less hr0) h4
    rcases h1.boxes i cs (hbx i cs hi) with h | ⟨blk, c', o, g1, g2, g3, g4⟩
    · exact .inl h
    · refine .inr ⟨blk, c', o, g1, g2, g3, fun j p hj => ?_⟩
      obtain ⟨v, k1, k2⟩ := g4 j p hj
      refine ⟨v, k1, k2.less ?_⟩
      rcases hr.st.boxes i cs hi with ⟨_, rfl⟩ | ⟨_, _, _, _, _, _, k4⟩
      · simp at hj
      · obtain ⟨v', _, k5⟩ := k4 j p hj
        exact k5.lt

variable {ops : Array Oper} {rest : List Oper} {Q : St → Prop} {s : St} {o : Oper} {f : Operand} {args : Array Operand} {ts : Array TypeId} {g : FuncId} {caps ps args' : List PV} {r : PV}
theorem calL {R : PV → Boxes → Prop} (hc : FnL P g args' s.σ R) (h : ∀ p τ, R p τ → @gOps (St.put { s with σ := τ } o.dst p) ⟨P, ops, rest, Q⟩)
    (ho : o.op = .call { callee := .value f, args := args, argTypes := ts } := by exact rfl) (hcal : calleePV s f = some (g, caps) := by first | exact rfl | simp) (hargs : opds s args.toList = some ps := by first | exact rfl | simp) (hw : wantedA s ops o = some true := by simp)
    (he : enterable P g = true := by simp) (hd : dstOk o.dst s.N = true := by first | exact rfl | simp) (hren : ps ++ caps = args' := by simp) : OpsOk P ops (o :: rest) s Q :=
  ops_step hw fun c ι S a w hr K QQ hK => hc s o f args ts caps ps rfl ho hcal hargs hren he c ι S a w hr K QQ fun p τ ι' S' v w' hR k1 k2 k3 _ => hK ι' S' _ _ w' (Rel.next hr k1 k2 hd k3) (ops_goH (h p τ hR))
/-- What it does is told: for a region whose order is open. -/
theorem doL {σ2 : Boxes} (hc : FnL P g args' s.σ (fun p τ => p = r ∧ τ = σ2))
    (ho : o.op = .call { callee := .value f, args := args, argTypes := ts } := by exact rfl) (hcal : calleePV s f = some (g, caps) := by first | exact rfl | simp) (hargs : opds s args.toList = some ps := by first | exact rfl | simp)
    (he : enterable P g = true := by simp) (hren : ps ++ caps = args' := by simp) : Does P o s σ2 r := fun c ι S a w hr K QQ hK =>
  hc s o f args ts caps ps rfl ho hcal hargs hren he c ι S a w hr K QQ fun p τ ι' S' v w' hR => by
    obtain ⟨rfl, rfl⟩ := hR
    exact hK ι' S' v w'

/-- The last operation of a region. -/
def LastOk (P : Program) (ops : Array Oper) (o : Oper) (s : St) (Q : St → Prop) : Prop := wantedA s ops o = some true ∧ ∃ R, DoesN P o s R ∧ ∀ p τ, R p τ → Q (St.put { s with σ := τ } o.dst p)
theorem lastL {R : PV → Boxes → Prop} (hc : FnL P g args' s.σ R) (h : ∀ p τ, R p τ → Q (St.put { s with σ := τ } o.dst p))
    (ho : o.op = .call { callee := .value f, args := args, argTypes := ts } := by exact rfl) (hcal : calleePV s f = some (g, caps) := by first | exact rfl | simp) (hargs : opds s args.toList = some ps := by first | exact rfl | simp) (hw : wantedA s ops o = some true := by simp)
    (he : enterable P g = true := by simp) (hren : ps ++ caps = args' := by simp) : LastOk P ops o s Q :=
  ⟨hw, R, hc s o f args ts caps ps rfl ho hcal hargs hren he, h⟩
theorem doesN_fz {s : St} {o : Oper} {R : PV → Boxes → Prop} (b : Nat) (cs : List PV) (h : DoesN P o (s.fz b cs) R) (hb : box s.σ b = some cs) (hi : cs.all PV.immB = true) : DoesN P o s R := fun c ι S a w hr K QQ hK => by
  have hlen : (s.fz b cs).σ.length = s.σ.length := by simp [St.fz]
  refine h c ι _ a w (rel_fz hr b cs hb hi) K QQ fun p τ ι' S' v w' hR h1 h2 h3 h4 => hK p τ ι' S' v w' hR h1 (fun v p hv => h2 v p ?_) h3 (fun b' hb' => h4 b' (by rw [hlen]; exact hb'))
  rw [hlen]
  exact hv.mono (Nat.le_refl _) (fun _ _ => rfl) (fun _ h => .inl h) (fun _ _ _ => rfl) (fun _ _ h => h)
/-- The last operation, a box being frozen for it. -/
theorem lastLF {R : PV → Boxes → Prop} (b : Nat) (cs : List PV) (hc : FnL P g args' (s.fz b cs).σ R) (h : ∀ p τ, R p τ → Q (St.put { s with σ := τ } o.dst p)) (hb : box s.σ b = some cs) (hi : cs.all PV.immB = true)
    (ho : o.op = .call { callee := .value f, args := args, argTypes := ts } := by exact rfl) (hcal : calleePV (s.fz b cs) f = some (g, caps) := by first | exact rfl | simp) (hargs : opds (s.fz b cs) args.toList = some ps := by first | exact rfl | simp) (hw : wantedA s ops o = some true := by simp)
    (he : enterable P g = true := by simp) (hren : ps ++ caps = args' := by simp) : LastOk P ops o s Q :=
  ⟨hw, R, doesN_fz b cs (hc (s.fz b cs) o f args ts caps ps rfl ho hcal hargs hren he) hb hi, h⟩
end

theorem look_TA_congr2 {A A' : Nat → Bool} {t : Nat} : ∀ (l : List Oper) (ps : List PV) (i : Nat) (T T' : List (Nat × PV)), look T t = look T' t →
    (∀ (j : Nat) (o : Oper), l[j]? = some o → j < ps.length → o.dst = some t → A (i + j) = A' (i + j)) → look (TA A i l ps T) t = look (TA A' i l ps T') t
  | [], ps, i, T, T', h, _ => by simpa [TA] using h
  | o :: l, [], i, T, T', h, _ => by simpa [TA] using h
  | o :: l, p :: ps, i, T, T', h, hA => by
    simp only [TA]
    refine look_TA_congr2 l ps (i + 1) _ _ ?_ fun j o' hj hjl hd => ?_
    · cases hd : o.dst with
      | none => exact h
      | some d =>
        by_cases e : t = d
        · subst e
          have := hA 0 o rfl (by simp) hd
          simp only [Nat.add_zero] at this
          simp only [this]
          split <;> simp [look, h]
        · simp only
          split <;> split <;> simp [look, e, h]
    · have := hA (j + 1) o' (by simpa using hj) (by simpa using hjl) hd
      rwa [show i + (j + 1) = i + 1 + j by omega] at this

theorem draw_TL {P : Program} {pc wc : List Nat} {l : List Oper} {R : List (List Nat)} {s : St} {Q : St → Prop} {ps : List PV} {σs : Nat → Boxes}
    (hok : drawOk l R = true) (hrd : readOk l R = true) (hσ0 : σs 0 = s.σ) {n : Nat} (hn : l.length = n + 1) (hlen : ps.length = n) (hlast : ∀ j, j < n → j ∈ R.getD n []) (hwl : wrX pc wc l n = false) (hdst : ∀ o ∈ l, dstOk o.dst s.N = true)
    (H : ∀ i o p, i < n → l[i]? = some o → ps[i]? = some p → ∀ m, loX pc wc l R i ≤ m → m ≤ hiX pc wc l R i →
      ∃ T', (∀ t q, look T' t = some q → t ∈ o.looksAt l.toArray ∧ look (TA (fun _ => true) 0 l ps s.T) t = some q) ∧
        StepD P l.toArray o ⟨s.N, T', σs m, s.k⟩ (σs (m + if wrX pc wc l i = true then 1 else 0)) p)
    (HL : ∀ o, l[n]? = some o → LastOk P l.toArray o ⟨s.N, TA (fun _ => true) 0 l ps s.T, σs ((List.range l.length).countP (wrX pc wc l)), s.k⟩ Q) : DrawW P l s Q := by
  intro c ι S a w hr QQ hQQ
  have key : ∀ (fuel : Nat) (listed : Array Bool) (a : Act) (w : World) (ι : Nat → Option Nat) (S : Nat → Prop), listed.size = l.length → listed.getD n false = false → (List.range l.length).countP (fun j => !listed.getD j false) = fuel →
      (∀ (i : Nat) (o : Oper), l[i]? = some o → listed.getD i false = true → ∀ e ∈ edgesOf o, listed.getD e false = true) →
      Rel c ι S ⟨s.N, TA (fun j => listed.getD j false) 0 l ps s.T, σs ((List.range l.length).countP fun j => wrX pc wc l j && listed.getD j false), s.k⟩ a w →
      wpAnyIn (wideR c.ro) 0 P .any l.toArray QQ fuel listed a w := by
    intro fuel
    induction fuel with
    | zero =>
      intro listed a w ι S hsz hnl hcnt hcl hr
      exfalso
      have := List.countP_eq_zero.1 hcnt n (by simp; omega)
      rw [hnl] at this
      simp at this
    | succ fuel ih =>
      intro listed a w ι S hsz hnl hcnt hcl hr
      refine ⟨fun hnil => ?_, fun i hi => ?_⟩
      · exfalso
        have hall : ∀ i, i < l.length → listed.getD i false = true := by
          intro i
          induction i using Nat.strongRecOn with
          | _ i ihi =>
            intro hi
            cases hli : listed.getD i false with
            | true => rfl
            | false =>
              exfalso
              have hoi : l[i]? = some l[i] := List.getElem?_eq_getElem hi
              have hmem : i ∈ Region.ready .any l.toArray listed := mem_ready.2 ⟨by
                rw [Array.getD_eq_getD_getElem?, Array.getElem?_eq_getElem (by omega)] at hli ⊢
                simpa using hli, l[i], by simp [hi], fun e he hb => by
                have hedge := edges_mem.2 ⟨e, he, hb, rfl⟩
                have := (drawOk_spec hok hoi).1 _ hedge
                exact ihi _ this (by omega)⟩
              rw [hnil] at hmem
              simp at hmem
        have : (List.range l.length).countP (fun j => !listed.getD j false) = 0 := List.countP_eq_zero.2 fun j hj => by simp [hall j (by simpa using hj)]
        omega
      · obtain ⟨h1, o, ho', hed⟩ := mem_ready.1 hi
        have hil : i < l.length := by simpa using (Array.getElem?_eq_some_iff.1 ho').1
        have ho : l[i]? = some o := by simpa using ho'
        have hAi : listed.getD i false = false := by
          rw [Array.getD_eq_getD_getElem?, Array.getElem?_eq_getElem (by omega)] at h1 ⊢
          simpa using h1
        have hedges : ∀ e ∈ edgesOf o, listed.getD e false = true := fun e he => by
          obtain ⟨x, hx, hb, rfl⟩ := edges_mem.1 he
          exact hed x hx hb
        have hin := clos_in hok hcl i o ho hedges
        by_cases hin' : i = n
        · subst hin'
          have hall : ∀ j, j < i → listed.getD j false = true := fun j hj => hin j (hlast j hj)
          obtain ⟨hwt, RR, hdo, hQR⟩ := HL o ho
          have hone : ∀ A : Nat → Bool, (∀ j, j < i → A j = true) → A i = false → (List.range (i + 1)).countP (fun j => !A j) = 1 := fun A h1 h2 => by
            rw [List.range_succ, List.countP_append]
            have : (List.range i).countP (fun j => !A j) = 0 := List.countP_eq_zero.2 fun j hj => by simp [h1 j (by simpa using hj)]
            rw [this]; simp [h2]
          have hf0 : fuel = 0 := by
            have := hone (fun j => listed.getD j false) hall hAi
            rw [hn] at hcnt; omega
          subst hf0
          have hrT : Rel c ι S ⟨s.N, TA (fun _ => true) 0 l ps s.T, σs ((List.range l.length).countP (wrX pc wc l)), s.k⟩ a w := hr.temps_of rfl (congrArg σs (List.countP_congr fun j hj => by
              rcases Nat.lt_or_ge j i with h | h
              · simp only [hall j h, Bool.and_true]
              · have : j = i := by have : j < i + 1 := by rw [← hn]; simpa using hj
                                   omega
                subst this
                rw [hwl]; simp)) rfl fun t q ht => by
            rw [← ht]
            refine look_TA_congr2 l ps 0 _ _ rfl fun j o' hj hjl hd => ?_
            rw [hlen] at hjl
            simpa using hall j hjl
          unfold wpOpIn
          rw [ho']
          simp only
          rw [if_pos (wanted_rel hrT hwt)]
          refine hdo c ι S a w hrT _ QQ fun q τ ι' S' v w' hR h1 h2 h3 _ => ?_
          have hrn := Rel.next hrT h1 h2 (hdst o (List.mem_of_getElem? ho)) h3
          refine ⟨?_, hQQ ι' S' _ _ w' hrn (hQR q τ hR)⟩
          rw [List.eq_nil_iff_forall_not_mem]
          intro j hj
          obtain ⟨h1, o2, ho2, _⟩ := mem_ready.1 hj
          have hjl : j < l.length := by simpa using (Array.getElem?_eq_some_iff.1 ho2).1
          have hset := listed_set (listed := listed) (i := i) (by omega)
          have hjt : (listed.setIfInBounds i true).getD j false = true := by
            rw [congrFun hset j]
            rcases Nat.lt_or_ge j i with h | h
            · simp [hall j h]
            · have : j = i := by omega
              simp [this]
          have hsz2 : (listed.setIfInBounds i true).size = l.length := by simpa using hsz
          rw [Array.getD_eq_getD_getElem?, Array.getElem?_eq_getElem (by omega)] at hjt h1
          simp only [Option.getD_some] at hjt h1
          rw [hjt] at h1; cases h1
        have hilt : i < n := by omega
        obtain ⟨p, hp⟩ : ∃ p, ps[i]? = some p := ⟨_, List.getElem?_eq_getElem (by omega)⟩
        obtain ⟨T', hT', hstep⟩ := H i o p hilt ho hp ((List.range l.length).countP fun j => wrX pc wc l j && listed.getD j false)
          (List.countP_mono_left fun j _ h => by
            simp only [Bool.and_eq_true, List.contains_iff_mem] at h ⊢
            exact ⟨h.1, hin j h.2⟩)
          (List.countP_mono_left fun j hj h => by
            simp only [Bool.and_eq_true, decide_eq_true_eq, Bool.not_eq_true'] at h ⊢
            refine ⟨h.1, fun e => ?_, ?_⟩
            · subst e; rw [hAi] at h; simp at h
            · cases hc : (R.getD j []).contains i with
              | false => rfl
              | true =>
                exfalso
                have hjl : j < l.length := by simpa using hj
                have hoj : l[j]? = some l[j] := List.getElem?_eq_getElem hjl
                have := clos_in hok hcl j _ hoj (hcl j _ hoj h.2) i (by simpa using hc)
                rw [hAi] at this; cases this)
        have hrT : Rel c ι S ⟨s.N, T', σs ((List.range l.length).countP fun j => wrX pc wc l j && listed.getD j false), s.k⟩ a w := hr.temps_of rfl rfl rfl fun t q ht => by
          obtain ⟨g1, g2⟩ := hT' t q ht
          rw [← g2]
          exact look_TA_congr l ps 0 _ _ rfl fun j o' hj hd => by
            simpa using hin j (readOk_spec hrd ho t g1 j o' hj hd)
        have hnext : ∀ ι' S' v w', Store c ι' S' (σs ((List.range l.length).countP (fun j => wrX pc wc l j && listed.getD j false) + if wrX pc wc l i = true then 1 else 0)) w' →
            (∀ v p, VRel (σs ((List.range l.length).countP fun j => wrX pc wc l j && listed.getD j false)).length ι S w v p → VRel (σs ((List.range l.length).countP (fun j => wrX pc wc l j && listed.getD j false) + if wrX pc wc l i = true then 1 else 0)).length ι' S' w' v p) →
            VRel (σs ((List.range l.length).countP (fun j => wrX pc wc l j && listed.getD j false) + if wrX pc wc l i = true then 1 else 0)).length ι' S' w' v p →
            wpAnyIn (wideR c.ro) 0 P .any l.toArray QQ fuel (listed.setIfInBounds i true) (a.put o.dst v) w' := fun ι' S' v w' hst hmono hv => by
          have hset := listed_set (listed := listed) (i := i) (by omega)
          have hset' : ∀ j, (listed.setIfInBounds i true).getD j false = (listed.getD j false || decide (j = i)) := fun j => congrFun hset j
          have hrn := Rel.next hr hst hmono (hdst o (List.mem_of_getElem? ho)) hv
          refine ih _ _ _ ι' S' (by simpa using hsz) (by rw [hset' n, hnl]; simp; omega) ?_ ?_ ?_
          · have h3 := countP_one (f := fun _ => true) (A := fun j => listed.getD j false) hAi (List.range l.length) List.nodup_range (by simpa using hil)
            simp only [Bool.true_and, if_true] at h3
            have h4 := List.length_eq_countP_add_countP (fun j => listed.getD j false) (l := List.range l.length)
            have h5 := List.length_eq_countP_add_countP (fun j => listed.getD j false || decide (j = i)) (l := List.range l.length)
            have e1 : (List.range l.length).countP (fun j => !(listed.setIfInBounds i true).getD j false) = (List.range l.length).countP (fun a => decide ¬(fun j => listed.getD j false || decide (j = i)) a = true) := by
              refine List.countP_congr fun j _ => ?_
              rw [hset' j]; simp
            have e2 : (List.range l.length).countP (fun j => !listed.getD j false) = (List.range l.length).countP (fun a => decide ¬(fun j => listed.getD j false) a = true) := by
              refine List.countP_congr fun j _ => ?_
              simp
            rw [e1]
            rw [e2] at hcnt
            try simp only [] at h4 h5 hcnt ⊢
            generalize (List.range l.length).countP (fun a => decide ¬(fun j => listed.getD j false || decide (j = i)) a = true) = x1 at *
            try simp only [] at h4 h5 hcnt h3 ⊢
            omega
          · intro j oj hj hlj e he
            rw [hset' j] at hlj
            rw [hset' e]
            simp only [Bool.or_eq_true, decide_eq_true_eq] at hlj ⊢
            rcases hlj with g | rfl
            · exact .inl (hcl j oj hj g e he)
            · rw [ho] at hj; simp at hj; subst hj; exact .inl (hedges e he)
          · rw [hset]
            have hc1 := countP_one (f := wrX pc wc l) (A := fun j => listed.getD j false) hAi (List.range l.length) List.nodup_range (by simpa using hil)
            simp only [hset', hc1]
            refine hrn.temps_of (by cases o.dst <;> rfl) (by cases o.dst <;> rfl) (by cases o.dst <;> rfl) fun t q ht => ?_
            rw [← ht]
            have hcongr : o.dst ≠ some t → look (TA (fun j => listed.getD j false) 0 l ps s.T) t = look (TA (fun j => listed.getD j false || decide (j = i)) 0 l ps s.T) t := fun hne =>
              look_TA_congr l ps 0 _ _ rfl fun j o' hj hd => by
                have : j ≠ i := fun e => by subst e; rw [ho] at hj; simp at hj; subst hj; exact hne hd
                simp [this]
            cases hd : o.dst with
            | none => exact hcongr (by rw [hd]; simp)
            | some d =>
              by_cases e : t = d
              · subst e
                rw [look_TA_at l ps 0 s.T i ho hp hd (by simp) fun j' o' hj hne => (drawOk_spec hok ho).2.2.2 t hd j' o' hj hne]
                simp [St.put, look]
              · simp only [St.put, look, if_neg e]
                exact hcongr (by rw [hd]; simpa using fun h => e h.symm)
        unfold wpOpIn
        rw [ho']
        simp only
        rcases hstep with ⟨hw, hdoes⟩ | ⟨hw, hs', rfl⟩
        · rw [if_pos (wanted_rel hrT hw)]
          exact (hdoes c ι S a w hrT _ QQ fun ι' S' v w' h1 h2 h3 _ => hnext ι' S' v w' h1 h2 h3)
        · rw [wanted_rel hrT hw]
          simp only [Bool.false_eq_true, if_false]
          refine ⟨fun _ _ => trivial, ?_⟩
          refine hnext ι S undef w (by rw [hs']; exact hr.st) (fun v p h => by rw [hs']; exact h) (.imm (IRel.und _ _))
  have hA0 : ∀ j, (Array.replicate l.length false).getD j false = false := fun j => by
    rw [Array.getD_eq_getD_getElem?]
    by_cases h : j < l.length <;> simp [h]
  have hsize : l.toArray.size = l.length := by simp
  rw [hsize]
  refine key l.length (Array.replicate l.length false) a _ ι S (by simp) (hA0 n) ?_ (fun i o _ h => by rw [hA0] at h; cases h) ?_
  · simp [hA0]
  · have e1 : TA (fun j => (Array.replicate l.length false).getD j false) 0 l ps s.T = s.T := TA_none l ps 0 s.T hA0
    have e2 : (List.range l.length).countP (fun j => wrX pc wc l j && (Array.replicate l.length false).getD j false) = 0 := List.countP_eq_zero.2 fun j _ => by rw [hA0]; simp
    rw [e1, e2, hσ0]
    exact ⟨hr.st.drew, hr.ck, hr.tsz, hr.defers, fun t p ht => (hr.temps t p ht).drew⟩


/-- The operations but the last, and the last. -/
def initO : List Oper → List Oper
  | a :: b :: l => a :: initO (b :: l)
  | _ => []
def lastO : List Oper → Option Oper
  | a :: b :: l => lastO (b :: l)
  | [a] => some a
  | [] => none
theorem initO_two (a b : Oper) (l : List Oper) : initO (a :: b :: l) = a :: initO (b :: l) := rfl
theorem initO_one (a : Oper) : initO [a] = [] := rfl
theorem gD_init {P : Program} {ops : Array Oper} {a b : Oper} {l : List Oper} {rg : List (Nat × List Nat)} {K : St → List PV → List Boxes → Prop} {s : St} {ps : List PV} {σs : List Boxes} :
    @gD s ps σs ⟨P, ops, initO (a :: b :: l), rg, K⟩ = @gD s ps σs ⟨P, ops, a :: initO (b :: l), rg, K⟩ := rfl
theorem gD_init1 {P : Program} {ops : Array Oper} {a : Oper} {rg : List (Nat × List Nat)} {K : St → List PV → List Boxes → Prop} {s : St} {ps : List PV} {σs : List Boxes} :
    @gD s ps σs ⟨P, ops, initO [a], rg, K⟩ = K s ps σs := rfl
attribute [simp] gD_init gD_init1 initO_two initO_one
theorem initO_spec : ∀ (l : List Oper) (o : Oper), lastO l = some o → l = initO l ++ [o]
  | [], o, h => by simp [lastO] at h
  | [a], o, h => by simp [lastO] at h; subst h; rfl
  | a :: b :: l, o, h => by
    rw [initO_two, List.cons_append, ← initO_spec (b :: l) o h]
theorem TA_init {A : Nat → Bool} : ∀ (l : List Oper) (x : Oper) (ps : List PV) (i : Nat) (T : List (Nat × PV)), ps.length ≤ l.length → TA A i (l ++ [x]) ps T = TA A i l ps T
  | [], x, [], i, T, h => by simp [TA]
  | [], x, p :: ps, i, T, h => by simp at h
  | o :: l, x, [], i, T, h => by simp [TA]
  | o :: l, x, p :: ps, i, T, h => by
    rw [List.cons_append]; simp only [TA]
    exact TA_init l x ps (i + 1) _ (by simpa using h)

def planWL (pc wc : List Nat) (l : List Oper) : Option (List (Nat × List Nat) × Nat) :=
  if wrX pc wc l (l.length - 1) = false ∧ ((List.range (l.length - 1)).all fun j => ((clos l []).getD (l.length - 1) []).contains j) = true then (planWX pc wc l).map fun x => (x.1.take (l.length - 1), x.2) else none

theorem draw_DL {P : Program} {l : List Oper} {o : Oper} {s : St} {Q : St → Prop} (pc wc : List Nat) (rg : List (Nat × List Nat)) (W : Nat) (hp : planWL pc wc l = some (rg, W)) (ho : lastO l = some o)
    (hdst : l.all (fun o => dstOk o.dst s.N) = true)
    (h : @gD s [] [s.σ] ⟨P, l.toArray, initO l, rg, fun s' ps σs => (chkD P l.toArray s.N s.k s'.T σs (initO l) rg ps ∧ σs.getD 0 [] = s.σ ∧ s'.σ = σs.getD W []) ∧ LastOk P l.toArray o s' Q⟩) : DrawW P l s Q := by
  unfold planWL at hp
  split at hp
  · rename_i hL
    obtain ⟨hwl, hall0⟩ := hL
    simp only [planWX, Option.map_eq_some_iff, Prod.mk.injEq] at hp
    obtain ⟨x, ⟨rg', hplan, hx⟩, h1, h2⟩ := hp
    subst hx
    simp only at h1 h2
    subst h1 h2
    have hl := initO_spec l o ho
    have hlen1 : l.length = (initO l).length + 1 := by have := congrArg List.length hl; simpa using this
    have hn : l.length - 1 = (initO l).length := by omega
    unfold planX at hplan
    split at hplan
    · rename_i hok2
      obtain ⟨hok, hrd⟩ := hok2
      obtain ⟨ps, σs, s', ⟨⟨hchk, hσ0, hσ⟩, hQ⟩, hN, hk, hT⟩ := goD_spec 0 rfl rfl h
      rw [List.nil_append] at hchk
      replace hT : s'.T = TA (fun _ => true) 0 (initO l) ps s.T := hT
      obtain ⟨hlen, hall⟩ := chkD_spec hchk
      have hT2 : s'.T = TA (fun _ => true) 0 l ps s.T := by
        have := TA_init (A := fun _ => true) (initO l) o ps 0 s.T (by omega)
        rw [← hl] at this
        rw [hT, this]
      have hget : ∀ i, i < (initO l).length → l[i]? = (initO l)[i]? := fun i hi => by
        have := List.getElem?_append_left (l₂ := [o]) hi
        rw [← hl] at this
        exact this
      refine draw_TL (pc := pc) (wc := wc) (R := clos l []) (ps := ps) (σs := fun m => σs.getD m []) hok hrd hσ0 hlen1 hlen (fun j hj => ?_) (by rw [← hn]; exact hwl) (fun o ho => List.all_eq_true.1 hdst o ho) (fun i o p hi ho hp m hlo hhi => ?_) (fun o' ho' => ?_)
      · rw [hn] at hall0
        have := List.all_eq_true.1 hall0 j (by simpa using hj)
        simpa using this
      · refine ⟨seen l.toArray o s'.T, fun t q hq => ?_, ?_⟩
        · obtain ⟨h1, h2⟩ := look_seen hq
          exact ⟨h1, by rw [← hT2]; exact h2⟩
        · have hil := (List.getElem?_eq_some_iff.1 ho).1
          simp only [Option.some.injEq] at hplan
          have hrg : (rg'.take (l.length - 1))[i]? = some (clsX pc wc l i, (List.range (hiX pc wc l (clos l []) i + 1)).filter (loX pc wc l (clos l []) i ≤ ·)) := by
            rw [List.getElem?_take_of_lt (by omega), ← hplan]
            simp [hil]
          have := hall i o p _ _ (by rw [← hget i hi]; exact ho) hp hrg m (by simp; omega)
          have hw : wrN (clsX pc wc l i) = if wrX pc wc l i = true then 1 else 0 := by
            have h3 : clsOf o.op ≠ 3 := clsOf_ne o.op
            by_cases hpc : i ∈ pc
            · simp [clsX, wrX, hpc, wrN]
            · by_cases hc : i ∈ wc
              · simp [clsX, wrX, wrN, clsAt, wrAt, ho, hpc, hc]
              · simp [clsX, wrX, wrN, clsAt, wrAt, ho, hpc, hc, h3]
          rw [← hw]; exact this
      · have hoo : o' = o := by
          have h1 : (initO l ++ [o])[(initO l).length]? = some o := by simp
          rw [← hl, ho'] at h1
          simpa using h1
        subst hoo
        have : (⟨s.N, TA (fun _ => true) 0 l ps s.T, σs.getD ((List.range l.length).countP (wrX pc wc l)) [], s.k⟩ : St) = s' := by
          rw [← hT2, ← hσ, ← hN, ← hk]
        rw [this]; exact hQ
    · simp at hplan
  · simp at hp

/-- A region whose last operation comes last in any order, and may do what it likes. -/
theorem awp_drawL {P : Program} (hm : P.follows .mixedOrders = true) {id : Nat} {l : List Oper} {o : Oper} {s : St} {Q : Exit → St → Prop} (pc wc : List Nat) (rg : List (Nat × List Nat)) (W : Nat) (hp : planWL pc wc l = some (rg, W)) (ho : lastO l = some o)
    (hdst : l.all (fun o => dstOk o.dst s.N) = true)
    (h : @gD s [] [s.σ] ⟨P, l.toArray, initO l, rg, fun s' ps σs => (chkD P l.toArray s.N s.k s'.T σs (initO l) rg ps ∧ σs.getD 0 [] = s.σ ∧ s'.σ = σs.getD W []) ∧ LastOk P l.toArray o s' (Q .normal)⟩) : AWp P (.region id l.toArray true) s Q :=
  awp_of_draw hm (draw_DL pc wc rg W hp ho hdst h)
end Go.Proofs.YtidhdlhblhbahaaGreat.Am
