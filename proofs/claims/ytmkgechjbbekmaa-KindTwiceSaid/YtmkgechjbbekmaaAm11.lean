/- The machine of values: rules for lists of operations, for calls, and for forgetting. -/
import Derived.Test.YtmkgechjbbekmaaAm10
set_option linter.unusedVariables false
set_option linter.unusedSimpArgs false
namespace Go.Proofs.Ytmkgechjbbekmaa.Am
open Go Go.RowKit

/-- Is the operation wanted? -/
def wantedA (s : St) (ops : Array Oper) (o : Oper) : Option Bool :=
  match o.guard with
  | none => some true
  | some (i, b) =>
    match (ops[i]?).bind (·.dst) with
    | some d => match look s.T d with
      | some (.k (.bool x)) => some (x == b)
      | some (.tup _) => some false
      | _ => none
    | none => none

def OpsOk (P : Program) (ops : Array Oper) (l : List Oper) (s : St) (Q : St → Prop) : Prop :=
  ∀ c ι S a w, Rel c ι S s a w → ∀ QQ : Exit → Act → World → Prop, (∀ ι' S' s' a' w', Rel c ι' S' s' a' w' → Q s' → QQ .normal a' w') → wpList P ops QQ l a w

/-- A function's contract: called with these values, the boxes σ being all that it may write, it returns p and leaves the boxes σ'. -/
def cx (w : World) (ι : Nat → Option Nat) (S : Nat → Prop) (k : Nat) : Ctx := ⟨w, fun b => ∃ i, i < k ∧ ι i = some b, S, k, ι⟩

def FnG (P : Program) (f : FuncId) (args : List PV) (σ : List (List PV)) (R : PV → Boxes → Prop) : Prop :=
  ∀ (ι : Nat → Option Nat) (S : Nat → Prop) (w : World) (vals : List Value), Store (cx w ι S σ.length) ι S (σ.map some) w →
    vals.length = args.length → (∀ (j : Nat) (p : PV), args[j]? = some p → ∃ v, vals[j]? = some v ∧ VRel σ.length ι S w v p) →
    Calls P f vals.toArray w fun e w' => ∃ v p σ' ι' S', e = .returned v ∧ R p σ' ∧ Store (cx w ι S σ.length) ι' S' σ' w' ∧ VRel σ'.length ι' S' w' v p

section
variable {P : Program} {ops : Array Oper} {rest : List Oper} {o : Oper} {s : St} {Q : St → Prop}

theorem wanted_rel {c : Ctx} {ι : Nat → Option Nat} {S : Nat → Prop} {a : Act} {w : World} (hr : Rel c ι S s a w) {b : Bool} (h : wantedA s ops o = some b) : Region.wanted o (yielded ops a.tmps) = b := by
  unfold wantedA at h
  unfold Region.wanted
  split at h
  · rename_i hg; simp at h; subst h; rw [hg]
  · rename_i i b' hg
    rw [hg]
    simp only
    split at h
    · rename_i d hd
      split at h
      · rename_i x hx
        simp at h; subst h
        have hv := (hr.temps d _ hx).k_inv.1
        have : a.tmps[d]? = some (.bool x) := by
          rw [Array.getD_eq_getD_getElem?] at hv
          cases ht : a.tmps[d]? with
          | none => rw [ht] at hv; simp [undef] at hv
          | some u => rw [ht] at hv; simp at hv; rw [hv]
        simp only [yielded, hd, Option.bind_some, this]
        rw [Bool.eq_iff_iff]; simp
      · rename_i ps hx
        simp at h; subst h
        obtain ⟨vs, hv, _⟩ := tup_inv (hr.temps d _ hx)
        have : ∀ b : Bool, a.tmps[d]? ≠ some (.bool b) := fun b e => by
          rw [Array.getD_eq_getD_getElem?, e] at hv; simp at hv
        simp only [yielded, hd, Option.bind_some]
        cases ht : a.tmps[d]? with
        | none => rfl
        | some u => cases u <;> first | rfl | exact absurd ht (this _)
      · simp at h
    · simp at h

theorem ops_nil (h : Q s) : OpsOk P ops [] s Q := fun c ι S a w hr QQ hQ => wpList_nil (hQ ι S s a w hr h)

theorem ops_step (hw : wantedA s ops o = some true)
    (h : ∀ c ι S a w, Rel c ι S s a w → ∀ K QQ, (∀ ι' S' s' a' w', Rel c ι' S' s' a' w' → OpsOk P ops rest s' Q → K a' w') → o.wp P a w K QQ) : OpsOk P ops (o :: rest) s Q :=
  fun c ι S a w hr QQ hQ => wpList_step fun K hK => by
    rw [if_pos (wanted_rel hr hw)]
    exact h c ι S a w hr K QQ fun ι' S' s' a' w' hr' ho => hK _ _ (ho c ι' S' a' w' hr' QQ hQ)

theorem ops_skip (hw : wantedA s ops o = some false) (hd : dstOk o.dst s.N = true) (h : OpsOk P ops rest (s.put o.dst (.tup [])) Q) : OpsOk P ops (o :: rest) s Q :=
  fun c ι S a w hr QQ hQ => wpList_step fun K hK => by
    rw [wanted_rel hr hw]
    exact hK _ _ (h c ι S _ w (hr.skip hd) QQ hQ)

theorem ops_val {p : PV} (hw : wantedA s ops o = some true) (hp : pureVal P s o.op = some p) (hd : dstOk o.dst s.N = true) (h : OpsOk P ops rest (s.put o.dst p) Q) : OpsOk P ops (o :: rest) s Q :=
  ops_step hw fun c ι S a w hr K QQ hK => by
    obtain ⟨v, hv, hp'⟩ := pure_rel hr hp
    unfold Oper.wp
    rw [hv]
    exact hK ι S _ _ w (Rel.next hr hr.st (fun _ _ h => h) hd hp') h

theorem ops_mem {σ' : Boxes} {p : PV} (hw : wantedA s ops o = some true) (hp : memVal P s o.op = some (σ', p)) (hd : dstOk o.dst s.N = true) (h : OpsOk P ops rest (St.put { s with σ := σ' } o.dst p) Q) : OpsOk P ops (o :: rest) s Q :=
  ops_step hw fun c ι S a w hr K QQ hK => by
    obtain ⟨v, w', ι', hv, h1, h2, h3, _⟩ := mem_rel hr hp
    unfold Oper.wp
    rw [hv]
    exact hK ι' S _ _ w' (Rel.next hr h1 h2 hd h3) h

theorem ops_store {σ' : Boxes} (hw : wantedA s ops o = some true) (hp : storeVal P s o.op = some σ') (hd : dstOk o.dst s.N = true) (h : OpsOk P ops rest (St.put { s with σ := σ' } o.dst (.tup [])) Q) : OpsOk P ops (o :: rest) s Q :=
  ops_step hw fun c ι S a w hr K QQ hK => by
    unfold storeVal at hp
    split at hp
    · rename_i t ad x hop
      split at hp
      · rename_i z b off p hz had hx
        split at hp
        · rename_i cs hb
          split at hp
          · rename_i hc
            simp at hp; subst hp
            obtain ⟨w', hrun, h1, h2⟩ := storeVar_rel (P := P) (s := s) hr.st hz hb (opd_rel hr had) (opd_rel hr hx) hc.1 hc.2.1 hc.2.2
            unfold Oper.wp
            have : (execOp a.eval o).run P w = .ok .skip w' := by
              unfold execOp
              simp only [hop, Sem.run_bind, hrun, Result.andThen_ok, Sem.run_pure]
            rw [this]
            exact hK ι S _ _ w' (Rel.next hr h1 (fun v p hv => by rw [List.length_set]; exact h2 _ v p hv) hd (.imm (IRel.und _ _))) h
          · simp at hp
        · simp at hp
      · simp at hp
    · simp at hp

theorem awp_region {id : Nat} {l : List Oper} {Q : Exit → St → Prop} (h : OpsOk P l.toArray l s (Q .normal)) : AWp P (.region id l.toArray false) s Q :=
  fun c ι S a w hr QQ hQ => wp_region_lit (h c ι S a w hr QQ fun ι' S' s' a' w' hr' hq => hQ _ ι' S' s' a' w' hr' hq)

theorem awp_cond {x y : Code} {cnd : Operand} {t : Bool} {Q : Exit → St → Prop} (hc : opd s cnd = some (.k (.bool t))) (h : if t then AWp P x s Q else AWp P y s Q) : AWp P (.cond cnd x y) s Q :=
  fun c ι S a w hr QQ hQ => by
    have hv := (opd_rel hr hc).k_inv.1
    cases t with
    | true => exact wp_cond_true hv (h c ι S a w hr QQ hQ)
    | false => exact wp_cond_false hv (h c ι S a w hr QQ hQ)
end

/-! ### Renaming boxes -/
mutual
def PV.ren (θ : Nat → Nat) : PV → PV
  | .k v => .k v
  | .sl z rows => .sl z rows
  | .eptr cs => .eptr cs
  | .osl b z off len => .osl (θ b) z off len
  | .ptr b off => .ptr (θ b) off
  | .clo fn caps => .clo fn (renL θ caps)
  | .agg cs => .agg (renL θ cs)
  | .tup ps => .tup (renL θ ps)
def renL (θ : Nat → Nat) : List PV → List PV
  | [] => []
  | p :: ps => p.ren θ :: renL θ ps
end

mutual
/-- All boxes that a value names lie below n. -/
def PV.lt (n : Nat) : PV → Bool
  | .k _ | .sl _ _ | .eptr _ => true
  | .osl b _ _ _ => decide (b < n)
  | .ptr b _ => decide (b < n)
  | .clo _ caps => ltL n caps
  | .agg cs => ltL n cs
  | .tup ps => ltL n ps
def ltL (n : Nat) : List PV → Bool
  | [] => true
  | p :: ps => p.lt n && ltL n ps
end

theorem renL_map (θ : Nat → Nat) : ∀ ps, renL θ ps = ps.map (PV.ren θ)
  | [] => rfl
  | p :: ps => by simp [renL, renL_map θ ps]
theorem ltL_all (n : Nat) : ∀ ps, ltL n ps = ps.all (PV.lt n)
  | [] => rfl
  | p :: ps => by simp [ltL, ltL_all n ps]
theorem one_ren (θ : Nat → Nat) (p : PV) : (p.ren θ).one = p.one := by cases p <;> simp [PV.ren, PV.one]

section
variable {n m : Nat} {ι ι' : Nat → Option Nat} {S : Nat → Prop} {w : World}

theorem IRel.ren (θ : Nat → Nat) {v : Value} {p : PV} (h : IRel S w v p) : IRel S w v (p.ren θ) := by
  induction h with
  | k h => exact .k h
  | sl g h1 h2 h3 h4 h5 h6 h7 h8 _ => exact .sl g h1 h2 h3 h4 h5 h6 h7 h8
  | eptr g h1 h2 h3 h4 _ => exact .eptr g h1 h2 h3 h4
  | clo h1 h2 _ ih =>
    simp only [PV.ren, renL_map]
    refine .clo (by simpa using h1) (fun p hp => ?_) (fun j p hj => ?_)
    · simp at hp; obtain ⟨q, hq, rfl⟩ := hp; rw [one_ren]; exact h2 q hq
    · simp at hj; obtain ⟨q, hq, rfl⟩ := hj; exact ih j q hq
  | agg h1 h2 _ ih =>
    simp only [PV.ren, renL_map]
    refine .agg (by simpa using h1) (fun p hp => ?_) (fun j p hj => ?_)
    · simp at hp; obtain ⟨q, hq, rfl⟩ := hp; rw [one_ren]; exact h2 q hq
    · simp at hj; obtain ⟨q, hq, rfl⟩ := hj; exact ih j q hq
  | tup h1 _ ih =>
    simp only [PV.ren, renL_map]
    refine .tup (by simpa using h1) (fun j p hj => ?_)
    simp at hj; obtain ⟨q, hq, rfl⟩ := hj; exact ih j q hq

/-- From small boxes to great ones. -/
theorem VRel.ren {θ : Nat → Nat} (hθ : ∀ b, b < n → θ b < m ∧ ι' (θ b) = ι b) {v : Value} {p : PV} (h : VRel n ι S w v p) : VRel m ι' S w v (p.ren θ) := by
  induction h with
  | imm h => exact .imm (h.ren θ)
  | osl h1 h2 h3 h4 h5 h6 => exact .osl (hθ _ h1).1 h2 h3 (by rw [(hθ _ h1).2]; exact h4) h5 h6
  | osl0 h1 => exact .osl0 (hθ _ h1).1
  | ptr h1 h2 => exact .ptr (hθ _ h1).1 (by rw [(hθ _ h1).2]; exact h2)
  | clo h1 h2 _ ih =>
    simp only [PV.ren, renL_map]
    refine .clo (by simpa using h1) (fun p hp => ?_) (fun j p hj => ?_)
    · simp at hp; obtain ⟨q, hq, rfl⟩ := hp; rw [one_ren]; exact h2 q hq
    · simp at hj; obtain ⟨q, hq, rfl⟩ := hj; exact ih j q hq
  | agg h1 h2 _ ih =>
    simp only [PV.ren, renL_map]
    refine .agg (by simpa using h1) (fun p hp => ?_) (fun j p hj => ?_)
    · simp at hp; obtain ⟨q, hq, rfl⟩ := hp; rw [one_ren]; exact h2 q hq
    · simp at hj; obtain ⟨q, hq, rfl⟩ := hj; exact ih j q hq
  | tup h1 _ ih =>
    simp only [PV.ren, renL_map]
    refine .tup (by simpa using h1) (fun j p hj => ?_)
    simp at hj; obtain ⟨q, hq, rfl⟩ := hj; exact ih j q hq

/-- And back: what is told with small numbers. -/
theorem seg_unren {θ : Nat → Nat} {vs : Array Value} {ps : List PV} (hall : ∀ q ∈ ps, ∀ v, VRel m ι' S w v (q.ren θ) → VRel n ι S w v q)
    (h : ∀ (j : Nat) (p : PV), (renL θ ps)[j]? = some p → VRel m ι' S w (vs.getD j undef) p) : ∀ (j : Nat) (p : PV), ps[j]? = some p → VRel n ι S w (vs.getD j undef) p := fun j p hj =>
  hall p (List.mem_of_getElem? hj) _ (h j _ (by rw [renL_map]; simp [hj]))

theorem ones_unren {θ : Nat → Nat} {ps : List PV} (h : ∀ p ∈ renL θ ps, PV.one p = true) : ∀ p ∈ ps, PV.one p = true := fun p hp => by
  have := h (p.ren θ) (by rw [renL_map]; exact List.mem_map_of_mem hp)
  rwa [one_ren] at this

mutual
theorem VRel.unren {θ : Nat → Nat} (hθ : ∀ b, b < n → ι' (θ b) = ι b) : (p : PV) → ∀ v, p.lt n = true → VRel m ι' S w v (p.ren θ) → VRel n ι S w v p
  | .k x, v, _, h => by
    obtain ⟨rfl, hs⟩ := h.k_inv
    exact .imm (.k hs)
  | .sl z rows, v, _, h => by
    cases h with | imm h => exact .imm h
  | .eptr cs, v, _, h => by
    cases h with | imm h => exact .imm h
  | .osl b z off len, v, hl, h => by
    have hb : b < n := by simpa [PV.lt] using hl
    cases h with
    | imm h => cases h
    | osl h1 h2 h3 h4 h5 h6 => exact .osl hb h2 h3 (by rw [← hθ b hb]; exact h4) h5 h6
    | osl0 h1 => exact .osl0 hb
  | .ptr b off, v, hl, h => by
    have hb : b < n := by simpa [PV.lt] using hl
    cases h with
    | imm h => cases h
    | ptr h1 h2 => exact .ptr hb (by rw [← hθ b hb]; exact h2)
  | .clo fn caps, v, hl, h => by
    have hall := unrenL hθ caps (by simpa [PV.lt] using hl)
    have hlen : (renL θ caps).length = caps.length := by rw [renL_map]; simp
    cases h with
    | imm h => cases h with | clo h1 h2 h3 => exact .clo (by rw [h1, hlen]) (ones_unren h2) (seg_unren hall fun j p hj => .imm (h3 j p hj))
    | clo h1 h2 h3 => exact .clo (by rw [h1, hlen]) (ones_unren h2) (seg_unren hall h3)
  | .agg cs, v, hl, h => by
    have hall := unrenL hθ cs (by simpa [PV.lt] using hl)
    have hlen : (renL θ cs).length = cs.length := by rw [renL_map]; simp
    cases h with
    | imm h => cases h with | agg h1 h2 h3 => exact .agg (by rw [h1, hlen]) (ones_unren h2) (seg_unren hall fun j p hj => .imm (h3 j p hj))
    | agg h1 h2 h3 => exact .agg (by rw [h1, hlen]) (ones_unren h2) (seg_unren hall h3)
  | .tup ps, v, hl, h => by
    have hall := unrenL hθ ps (by simpa [PV.lt] using hl)
    have hlen : (renL θ ps).length = ps.length := by rw [renL_map]; simp
    cases h with
    | imm h => cases h with | tup h1 h3 => exact .tup (by rw [h1, hlen]) (seg_unren hall fun j p hj => .imm (h3 j p hj))
    | tup h1 h3 => exact .tup (by rw [h1, hlen]) (seg_unren hall h3)
theorem unrenL {θ : Nat → Nat} (hθ : ∀ b, b < n → ι' (θ b) = ι b) : (ps : List PV) → ltL n ps = true → ∀ q ∈ ps, ∀ v, VRel m ι' S w v (q.ren θ) → VRel n ι S w v q
  | [], _ => fun q hq => by simp at hq
  | p :: ps, hl => fun q hq v h => by
    have h2 : p.lt n = true ∧ ltL n ps = true := by simpa [ltL] using hl
    have hp := VRel.unren hθ p
    have hps := unrenL hθ ps h2.2
    rcases List.mem_cons.1 hq with e | hq
    · rw [e] at h ⊢; exact hp v h2.1 h
    · exact hps q hq v h
end
end

end Go.Proofs.Ytmkgechjbbekmaa.Am
