/- The machine of values: calls that look at boxes and tell a plain value. -/
import Derived.Test.YtmkgechjbbekmaaAm28
set_option linter.unusedVariables false
set_option linter.unusedSimpArgs false
namespace Go.Proofs.Ytmkgechjbbekmaa.Am
open Go Go.RowKit

/-- The heap only grows. -/
theorem Store.grow {c : Ctx} {ι : Nat → Option Nat} {S : Nat → Prop} {σ : Boxes} {w w' : World} (h : Store c ι S σ w) (h1 : w'.os = w.os) (h2 : w'.tape = w.tape) (h3 : w'.output = w.output) (h4 : w.heap.size ≤ w'.heap.size)
    (h5 : ∀ b, b < w.heap.size → w'.heap[b]? = w.heap[b]?) (h6 : ∀ b x, w.shape? b = some x → w'.shape? b = some x) : Store c ι S σ w' ∧ ∀ m v p, VRel m ι S w v p → VRel m ι S w' v p := by
  have hv : ∀ m v p, VRel m ι S w v p → VRel m ι S w' v p := fun m v p hh =>
    hh.mono (Nat.le_refl _) (fun _ _ => rfl) (fun _ h => h) (fun b o hb => World.cell?_of_block (h5 b (h.Slt b hb))) h6
  refine ⟨⟨h1.trans h.os, h2.trans h.tape, h3.trans h.output, Nat.le_trans h.size h4, fun b hb hM => ?_, fun b x hx => h6 b x (h.shape b x hx), fun i cs hi => ?_, h.notS, h.live, h.inj, fun b hb => Nat.lt_of_lt_of_le (h.Slt b hb) h4, h.S0, h.Snew, h.klen, h.kι⟩, hv⟩
  · rw [h5 b (by have := h.size; omega)]; exact h.old b hb hM
  · rcases h.boxes i cs hi with g | ⟨blk, c', e, g1, g2, g3, g4⟩
    · exact .inl g
    · exact .inr ⟨blk, c', e, g1, by rw [h5 blk (Array.getElem?_eq_some_iff.1 g2).1]; exact g2, g3, fun j p hj => by obtain ⟨v, hv1, hv2⟩ := g4 j p hj; exact ⟨v, hv1, hv _ _ _ hv2⟩⟩

mutual
/-- What a value looks like to one who only looks. -/
def PV.snap (σ : Boxes) : PV → PV
  | .osl b z off len => match box σ b with
    | some cs => if off = 0 ∧ len * z ≤ cs.length ∧ cs.all PV.immB = true then .sl z (chunks z cs len) else .osl b z off len
    | none => .osl b z off len
  | .agg cs => .agg (snapL σ cs)
  | .k v => .k v
  | .sl z rows => .sl z rows
  | .eptr cs => .eptr cs
  | .ptr b off => .ptr b off
  | .clo fn caps => .clo fn caps
  | .tup ps => .tup ps
def snapL (σ : Boxes) : List PV → List PV
  | [] => []
  | p :: ps => p.snap σ :: snapL σ ps
end
theorem snapL_map (σ : Boxes) : ∀ ps, snapL σ ps = ps.map (PV.snap σ)
  | [] => rfl
  | p :: ps => by simp [snapL, snapL_map σ ps]

/-- All the plain boxes taken for blocks that nobody writes. -/
def snapS (ι : Nat → Option Nat) (S : Nat → Prop) (σ : Boxes) : Nat → Prop := fun q => S q ∨ ∃ b cs, box σ b = some cs ∧ ι b = some q

theorem IRel.of_lt {n : Nat} {ι : Nat → Option Nat} {S : Nat → Prop} {w : World} {v : Value} {p : PV} (h : VRel n ι S w v p) (hp : p.lt 0 = true) : IRel S w v p := by
  induction h with
  | imm h => exact h
  | osl h1 _ _ _ _ _ => simp [PV.lt] at hp
  | osl0 h => simp [PV.lt] at hp
  | ptr h _ => simp [PV.lt] at hp
  | clo h1 h2 _ ih => exact .clo h1 h2 fun j p hj => ih j p hj (by simp only [PV.lt, ltL_all] at hp; exact List.all_eq_true.1 hp p (List.mem_of_getElem? hj))
  | agg h1 h2 _ ih => exact .agg h1 h2 fun j p hj => ih j p hj (by simp only [PV.lt, ltL_all] at hp; exact List.all_eq_true.1 hp p (List.mem_of_getElem? hj))
  | tup h1 _ ih => exact .tup h1 fun j p hj => ih j p hj (by simp only [PV.lt, ltL_all] at hp; exact List.all_eq_true.1 hp p (List.mem_of_getElem? hj))

theorem one_snap (σ : Boxes) (p : PV) : (p.snap σ).one = p.one := by
  cases p with
  | osl b z off len =>
    simp only [PV.snap]
    split
    · split <;> rfl
    · rfl
  | _ => simp only [PV.snap, PV.one]

theorem snap_rel {c : Ctx} {ι : Nat → Option Nat} {S : Nat → Prop} {σ : Boxes} {w : World} (hσ : Store c ι S σ w) {v : Value} {p : PV} (h : VRel σ.length ι S w v p) (hl : (p.snap σ).lt 0 = true) : IRel (snapS ι S σ) w v (p.snap σ) := by
  have hm : ∀ v p, IRel S w v p → IRel (snapS ι S σ) w v p := fun v p hh => hh.mono (fun q hq => .inl hq) (fun _ _ _ => rfl)
  induction h with
  | imm h =>
    have hi : ∀ {v p}, IRel S w v p → p.snap σ = p := by
      intro v p hh
      induction hh with
      | agg h1 h2 h3 ih =>
        simp only [PV.snap, snapL_map]
        congr 1
        refine List.ext_getElem? fun j => ?_
        rw [List.getElem?_map]
        cases hj : (_ : List PV)[j]? with
        | none => rfl
        | some q => simp [ih j q hj]
      | _ => rfl
    rw [hi h]; exact hm _ _ h
  | osl h1 h2 h3 h4 h5 h6 =>
    simp only [PV.snap] at hl ⊢
    split at hl
    · rename_i cs hb
      split at hl
      · rename_i hc
        obtain ⟨rfl, hc1, hc2⟩ := hc
        simp only [hc1, hc2, and_self, if_true]
        exact (frz_rel hσ hb hc1 hc2 _ (.osl h1 h2 h3 h4 h5 h6)).mono (fun q hq => by
          rcases hq with g | g
          · exact .inl g
          · exact .inr ⟨_, _, hb, g⟩) (fun _ _ _ => rfl)
      · simp [PV.lt] at hl
    · simp [PV.lt] at hl
  | osl0 h1 =>
    simp only [PV.snap] at hl ⊢
    split at hl
    · rename_i cs hb
      split at hl
      · rename_i hc
        obtain ⟨rfl, hc1, hc2⟩ := hc
        simp only [hc1, hc2, and_self, if_true]
        exact (frz_rel hσ hb hc1 hc2 _ (.osl0 h1)).mono (fun q hq => by
          rcases hq with g | g
          · exact .inl g
          · exact .inr ⟨_, _, hb, g⟩) (fun _ _ _ => rfl)
      · simp [PV.lt] at hl
    · simp [PV.lt] at hl
  | ptr h h2 => simp [PV.snap, PV.lt] at hl
  | clo h1 h2 h3 ih => exact hm _ _ (IRel.of_lt (.clo h1 h2 h3) (by simpa [PV.snap] using hl))
  | agg h1 h2 h3 ih =>
    simp only [PV.snap, snapL_map, PV.lt] at hl ⊢
    refine .agg (by simpa using h1) (fun q hq => ?_) (fun j q hj => ?_)
    · simp at hq; obtain ⟨q', hq', rfl⟩ := hq; rw [one_snap]; exact h2 q' hq'
    · simp at hj; obtain ⟨q', hq', rfl⟩ := hj
      exact ih j q' hq' (by rw [ltL_all] at hl; exact List.all_eq_true.1 hl _ (List.mem_map_of_mem (List.mem_of_getElem? hq')))
  | tup h1 h3 ih => exact hm _ _ (IRel.of_lt (.tup h1 h3) (by simpa [PV.snap] using hl))

/-- A plain result. -/
def plain : PV → Bool
  | .k _ => true
  | .tup ps => ps.all fun p => match p with | .k _ => true | _ => false
  | _ => false

theorem plain_rel {n m : Nat} {ι ι' : Nat → Option Nat} {S S' : Nat → Prop} {w w' : World} {v : Value} {p : PV} (h : VRel n ι S w v p) (hp : plain p = true) : VRel m ι' S' w' v p := by
  cases p with
  | k x => obtain ⟨rfl, hs⟩ := h.k_inv; exact .imm (.k hs)
  | tup ps =>
    obtain ⟨vs, rfl, h1, h2⟩ := tup_inv h
    refine .tup h1 fun j q hj => ?_
    have := List.all_eq_true.1 hp q (List.mem_of_getElem? hj)
    cases q with
    | k x => obtain ⟨e, hs⟩ := (h2 j _ hj).k_inv; rw [e]; exact .imm (.k hs)
    | _ => simp at this
  | _ => simp [plain] at hp

theorem does_snap {P : Program} {o : Oper} {s : St} {f : Operand} {args : Array Operand} {ts : Array TypeId} {g : FuncId} {caps ps : List PV} {r : PV} {args' : List PV}
    (hc : Fn P g args' r) (ho : o.op = .call { callee := .value f, args := args, argTypes := ts }) (hcal : calleePV s f = some (g, caps)) (hargs : opds s args.toList = some ps)
    (he : enterable P g = true) (hren : snapL s.σ (ps ++ caps) = args') (hlt : ltL 0 args' = true) (hlr : plain r = true) : Does P o s s.σ r := by
  intro c ι S a w hr K QQ hK
  obtain ⟨vs, hf, hvs, hcaps⟩ := callee_rel hr hcal
  obtain ⟨hal, harel⟩ := opds_rel hr hargs
  unfold Oper.wp
  rw [exec_call ho hf he]
  rw [Oper.upon_enter]
  have hσ := hr.st
  have hall : ∀ (j : Nat) (p : PV), args'[j]? = some p → ∃ v, ((args.toList.map a.eval) ++ vs.toList)[j]? = some v ∧ VRel 0 ι (snapS ι S s.σ) w v p := fun j p hj => by
    rw [← hren, snapL_map, List.getElem?_map] at hj
    simp only [Option.map_eq_some_iff] at hj
    obtain ⟨p0, hj2, rfl⟩ := hj
    have hpl : (p0.snap s.σ).lt 0 = true := by rw [← hren, snapL_map, ltL_all] at hlt; exact List.all_eq_true.1 hlt _ (List.mem_map_of_mem (List.mem_of_getElem? hj2))
    have hv : ∃ v, ((args.toList.map a.eval) ++ vs.toList)[j]? = some v ∧ VRel s.σ.length ι S w v p0 := by
      rcases Nat.lt_or_ge j ps.length with h1 | h1
      · rw [List.getElem?_append_left h1] at hj2
        rw [List.getElem?_append_left (by rw [hal]; exact h1)]
        exact harel j _ hj2
      · rw [List.getElem?_append_right h1] at hj2
        rw [List.getElem?_append_right (by rw [hal]; exact h1), hal]
        obtain ⟨v, hv1, hv2⟩ := hcaps _ _ hj2
        exact ⟨v, by simpa using hv1, hv2⟩
    obtain ⟨v, hv1, hv2⟩ := hv
    exact ⟨v, hv1, .imm (snap_rel hσ hv2 hpl)⟩
  have hpre : Store (cx w ι (snapS ι S s.σ) ([] : List (List PV)).length) ι (snapS ι S s.σ) (([] : List (List PV)).map some) w :=
    ⟨rfl, rfl, rfl, Nat.le_refl _, fun _ _ _ => rfl, fun _ _ h => h, fun i ci hi => by simp [box] at hi, fun i ci blk hi hb => by simp [box] at hi, fun i ci blk hi hb => by simp [box] at hi,
      fun i j ci cj blk hi hj hbi hbj => by simp [box] at hi, fun q hq => by
        rcases hq with g | ⟨b, cs, g1, g2⟩
        · exact hσ.Slt q g
        · rcases hσ.boxes b cs g1 with ⟨h', _⟩ | ⟨blk, c', e, k1, k2, _, _⟩
          · rw [h'] at g2; cases g2
          · rw [k1] at g2; cases g2; exact (Array.getElem?_eq_some_iff.1 k2).1, fun _ h => h, fun _ h => .inl h, by simp [cx], fun _ _ => rfl⟩
  have hlen : ((args.toList.map a.eval) ++ vs.toList).length = args'.length := by
    have := congrArg List.length hren
    rw [snapL_map] at this
    simp at this hal ⊢
    omega
  have hcall := hc _ _ w ((args.toList.map a.eval) ++ vs.toList) hpre hlen hall
  have hargs2 : ((args.toList.map a.eval) ++ vs.toList).toArray = args.map a.eval ++ vs := by apply Array.ext'; simp
  rw [hargs2] at hcall
  refine hcall.mono ?_
  rintro e w' ⟨v, p, σ', ι', S', rfl, ⟨rfl, rfl⟩, hst, hvp⟩
  obtain ⟨k1, k2⟩ := hσ.grow (w' := w') hst.os hst.tape hst.output hst.size (fun b hb => hst.old b hb (fun ⟨i, hi, _⟩ => by simp at hi)) (fun b x hx => hst.shape b x hx)
  exact hK ι S _ w' k1 (fun v p h => k2 _ v p h) (plain_rel hvp hlr) (fun _ _ => rfl)

theorem ops_snap {P : Program} {ops : Array Oper} {rest : List Oper} {Q : St → Prop} {o : Oper} {s : St} {f : Operand} {args : Array Operand} {ts : Array TypeId} {g : FuncId} {caps ps : List PV} {r : PV} {args' : List PV}
    (hc : Fn P g args' r) (ho : o.op = .call { callee := .value f, args := args, argTypes := ts }) (hcal : calleePV s f = some (g, caps)) (hargs : opds s args.toList = some ps) (hw : wantedA s ops o = some true)
    (he : enterable P g = true) (hd : dstOk o.dst s.N = true) (hren : snapL s.σ (ps ++ caps) = args') (hlt : ltL 0 args' = true) (hlr : plain r = true) (h : @gOps (s.put o.dst r) ⟨P, ops, rest, Q⟩) : OpsOk P ops (o :: rest) s Q :=
  ops_step hw fun c ι S a w hr K QQ hK =>
    does_snap hc ho hcal hargs he hren hlt hlr c ι S a w hr K QQ fun ι' S' v w' k1 k2 k3 _ => hK ι' S' _ _ w' (Rel.next hr k1 k2 hd k3) (ops_goH h)
attribute [simp] PV.snap snapL plain
end Go.Proofs.Ytmkgechjbbekmaa.Am
