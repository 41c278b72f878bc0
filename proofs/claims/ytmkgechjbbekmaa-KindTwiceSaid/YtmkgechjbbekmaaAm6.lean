/- The machine of values: the operations that only compute, together, and the rules for a list of operations. -/
import Derived.Test.YtmkgechjbbekmaaAm5
set_option linter.unusedVariables false
set_option linter.unusedSimpArgs false
namespace Go.Proofs.Ytmkgechjbbekmaa.Am
open Go Go.RowKit

def lenPV (P : Program) (t : TypeId) : PV → Option PV
  | .sl _ rows => if (elemOf P t).isSome then some (.k (.int .i64 rows.length)) else none
  | .osl _ _ _ n => if (elemOf P t).isSome then some (.k (.int .i64 n)) else none
  | .k (.string s) => if isStr P t then some (.k (.int .i64 s.size)) else none
  | .k (.slice none 0 0) => if (elemOf P t).isSome then some (.k (.int .i64 0)) else none
  | _ => none

def builtinPV (P : Program) (b : Builtin) (ts : Array TypeId) (args : List PV) : Option PV :=
  match b, args with
  | .len, [p] => match ts[0]? with | some t => lenPV P t p | none => none
  | .min, [.k (.int k x), .k (.int _ y)] => some (.k (.int k (if y < x then y else x)))
  | .max, [.k (.int k x), .k (.int _ y)] => some (.k (.int k (if x < y then y else x)))
  | _, _ => none

def opds (s : St) (l : List Operand) : Option (List PV) := l.mapM (opd s)

def opdI (s : St) (x : Operand) : Option Int := match opd s x with | some (.k (.int _ i)) => some i | _ => none
def opdIO (s : St) : Option Operand → Option (Option Int)
  | none => some none
  | some x => (opdI s x).map some

def pureVal (P : Program) (s : St) : Op → Option PV
  | .move x | .assign x => opd s x
  | .pick c a b => match opd s c with | some (.k (.bool true)) => opd s a | some (.k (.bool false)) => opd s b | _ => none
  | .load t a => match opd s a with | some p => loadPV P s.σ t p | none => none
  | .nilCheck x => match opd s x with | some (.ptr b o) => some (.ptr b o) | some (.eptr cs) => some (.eptr cs) | _ => none
  | .fieldAddr t x f => match opd s x with | some p => fieldAtPV P t f p | none => none
  | .field t x f => match fieldOf P t f, opd s x with | some (ft, o), some (.agg cs) => partPV P ft cs o | _, _ => none
  | .indexAddr t x i => match opd s x, opdI s i with | some p, some n => indexAtPV P t p n | _, _ => none
  | .index t x i => match opd s x, opdI s i with
    | some (.k (.string b)), some n => if isStr P t then (match (if 0 ≤ n then b[n.toNat]? else none) with | some c => some (.k (.int .u8 c.toNat)) | none => none) else none
    | _, _ => none
  | .binOp op t x y _ => match opd s x, opd s y with
    | some (.k u), some (.k v) => (binK P op t u v).map .k
    | _, _ => none
  | .unOp op _ x => match op, opd s x with
    | .not, some (.k (.bool b)) => some (.k (.bool (!b)))
    | .neg, some (.k (.int k n)) => some (.k (.int k (k.wrap (0 - n))))
    | .xor, some (.k (.int k n)) => some (.k (.int k (k.wrap (BitVec.ofInt k.bits (if k.signed then -1 else k.max) ^^^ BitVec.ofInt k.bits n).toNat)))
    | _, _ => none
  | .convert src dst x => match (P.underlying src).isSome, intOfT P dst, opd s x with | true, some k, some (.k (.int _ n)) => some (.k (.int k (k.wrap n))) | _, _, _ => none
  | .makeFunc fn first caps => if first = #[] then (match opds s caps.toList with | some ps => if ps.all PV.one then some (.clo fn ps) else none | none => none) else none
  | .slice t x lo hi mx => match opd s x, opdIO s lo, opdIO s hi, opdIO s mx with | some p, some l, some h, some m => slicePV P t p l h m | _, _, _, _ => none
  | .extract x i => match opd s x with | some (.tup ps) => ps[i]? | _ => none
  | .call { callee := .builtin b, args, argTypes } => match opds s args.toList with | some ps => builtinPV P b argTypes ps | none => none
  | _ => none

section
variable {P : Program} {c : Ctx} {ι : Nat → Option Nat} {S : Nat → Prop} {s : St} {a : Act} {w : World}

theorem opdI_rel (hr : Rel c ι S s a w) {x : Operand} {i : Int} (h : opdI s x = some i) : ∃ k, a.eval x = .int k i := by
  unfold opdI at h
  split at h
  · rename_i k i' hx
    simp at h; subst h
    exact ⟨k, ((opd_rel hr hx).k_inv).1⟩
  · simp at h

theorem opdIO_rel (hr : Rel c ι S s a w) {x : Option Operand} {i : Option Int} (h : opdIO s x = some i) : IntO (x.map a.eval) i := by
  cases x with
  | none => simp [opdIO] at h; subst h; trivial
  | some x =>
    simp [opdIO] at h
    obtain ⟨j, hj, rfl⟩ := h
    exact opdI_rel hr hj

theorem opds_rel (hr : Rel c ι S s a w) : ∀ {l : List Operand} {ps : List PV}, opds s l = some ps → (l.map a.eval).length = ps.length ∧ ∀ (j : Nat) (p : PV), ps[j]? = some p → ∃ v, (l.map a.eval)[j]? = some v ∧ VRel s.σ.length ι S w v p
  | [], ps, h => by simp [opds] at h; subst h; simp
  | x :: l, ps, h => by
    simp only [opds, List.mapM_cons, Option.bind_eq_bind, Option.bind_eq_some_iff] at h
    obtain ⟨p, hp, ps', hps, h⟩ := h
    simp at h; subst h
    obtain ⟨h1, h2⟩ := opds_rel hr (l := l) (ps := ps') hps
    refine ⟨by simpa using h1, fun j q hj => ?_⟩
    cases j with
    | zero => simp at hj; subst hj; exact ⟨_, rfl, opd_rel hr hp⟩
    | succ j => simp at hj ⊢; simpa using h2 j q hj

theorem len_rel {n : Nat} {t : TypeId} {x : Value} {q p : PV} (hx : VRel n ι S w x q) (h : lenPV P t q = some p) (ty : TypeId) (ts : Array TypeId) (ht : ts[0]? = some t) : ∃ v, (Builtin.len_ ts ty #[x]).run P w = .ok v w ∧ VRel n ι S w v p := by
  have hk : ∀ m : Int, VRel n ι S w (goInt m) (.k (.int .i64 m)) := fun m => .imm (.k (v := .int .i64 m) rfl)
  unfold lenPV at h
  split at h
  · split at h
    · rename_i he
      simp at h; subst h
      obtain ⟨e, he⟩ := Option.isSome_iff_exists.1 he
      cases hx with
      | imm hx => cases hx with
        | sl g h1 h2 h3 h4 h5 h6 h7 h8 =>
          subst h1
          exact ⟨_, by simp [Builtin.len_, ht, run_underlying (und_elemOf he)], hk _⟩
    · simp at h
  · split at h
    · rename_i he
      simp at h; subst h
      obtain ⟨e, he⟩ := Option.isSome_iff_exists.1 he
      cases hx with
      | imm hx => cases hx
      | osl h1 h2 h3 h4 h5 h6 => exact ⟨_, by simp [Builtin.len_, ht, run_underlying (und_elemOf he)], hk _⟩
      | osl0 h1 => exact ⟨_, by simp [Builtin.len_, ht, run_underlying (und_elemOf he)], hk 0⟩
    · simp at h
  · split at h
    · rename_i hs
      simp at h; subst h
      obtain ⟨rfl, _⟩ := hx.k_inv
      have hu : P.underlying t = some .string := by
        unfold isStr at hs; split at hs
        · assumption
        · simp at hs
      exact ⟨_, by simp [Builtin.len_, ht, run_underlying hu], hk _⟩
    · simp at h
  · split at h
    · rename_i he
      simp at h; subst h
      obtain ⟨e, he⟩ := Option.isSome_iff_exists.1 he
      obtain ⟨rfl, _⟩ := hx.k_inv
      exact ⟨_, by simp [Builtin.len_, ht, run_underlying (und_elemOf he)], hk 0⟩
    · simp at h
  · simp at h

theorem arr1 {α : Type} {l : List α} {x : α} (h : l.length = 1) (hx : l[0]? = some x) : l.toArray = #[x] := by
  match l, h, hx with
  | [y], _, hx => simp at hx; subst hx; rfl

theorem arr2 {α : Type} {l : List α} {x y : α} (h : l.length = 2) (hx : l[0]? = some x) (hy : l[1]? = some y) : l.toArray = #[x, y] := by
  match l, h, hx, hy with
  | [u, v], _, hx, hy => simp at hx hy; subst hx hy; rfl

theorem isStr_und {t : TypeId} (hs : isStr P t = true) : P.underlying t = some .string := by
  unfold isStr at hs; split at hs
  · assumption
  · simp at hs
theorem intOfT_und {t : TypeId} {k : IntKind} (hk : intOfT P t = some k) : P.underlying t = some (.int k) := by
  unfold intOfT at hk; split at hk
  · rename_i hh; simp at hk; subst hk; exact hh
  · simp at hk
theorem kVR {n : Nat} {v : Value} (h : scal v = true) : VRel n ι S w v (.k v) := .imm (.k h)

theorem tup_inv {n : Nat} {v : Value} {ps : List PV} (h : VRel n ι S w v (.tup ps)) : ∃ vs : Array Value, v = .tuple vs ∧ vs.size = ps.length ∧ ∀ (j : Nat) (p : PV), ps[j]? = some p → VRel n ι S w (vs.getD j undef) p := by
  cases h with
  | imm h => cases h with
    | tup e1 e2 => exact ⟨_, rfl, e1, fun j p hj => .imm (e2 j p hj)⟩
  | tup e1 e2 => exact ⟨_, rfl, e1, e2⟩

theorem pure_rel (hr : Rel c ι S s a w) {o : Oper} {p : PV} (h : pureVal P s o.op = some p) : ∃ v, (execOp a.eval o).run P w = .ok (.value v) w ∧ VRel s.σ.length ι S w v p := by
  unfold execOp
  unfold pureVal at h
  split at h <;> rename_i hop <;> (try rw [hop]) <;> simp only []
  · exact ⟨_, rfl, opd_rel hr h⟩
  · exact ⟨_, rfl, opd_rel hr h⟩
  · split at h
    · rename_i hc
      have := (opd_rel hr hc).k_inv.1
      exact ⟨_, by simp [this, asBool], opd_rel hr h⟩
    · rename_i hc
      have := (opd_rel hr hc).k_inv.1
      exact ⟨_, by simp [this, asBool], opd_rel hr h⟩
    · simp at h
  · split at h
    · rename_i hx
      obtain ⟨v, hv, hp⟩ := load_rel hr (opd_rel hr hx) h
      exact ⟨v, by simp [hv], hp⟩
    · simp at h
  · split at h
    · rename_i b o' hx
      simp at h; subst h
      have hh := opd_rel hr hx
      generalize a.eval _ = y at hh ⊢
      cases hh with
      | imm hh => cases hh
      | ptr hb hb2 => exact ⟨_, rfl, .ptr hb hb2⟩
    · rename_i cs hx
      simp at h; subst h
      have hh := opd_rel hr hx
      generalize a.eval _ = y at hh ⊢
      cases hh with
      | imm hh => cases hh with
        | eptr g e1 e2 e3 e4 => exact ⟨_, rfl, .imm (.eptr g e1 e2 e3 e4)⟩
    · simp at h
  · split at h
    · rename_i hx
      obtain ⟨v, hv, hp⟩ := fieldAt_rel (opd_rel hr hx) h
      exact ⟨v, by simp [hv], hp⟩
    · simp at h
  · split at h
    · rename_i ft o' cs hf hx
      obtain ⟨fs, fl, hu, hfs, ht, ho⟩ := und_fieldOf hf
      obtain ⟨vs, hv, h0, h1, h2⟩ := agg_inv (opd_rel hr hx)
      obtain ⟨v, hv2, hp⟩ := part_rel h0 h1 h2 h
      simp only at ht ho
      subst ht ho
      exact ⟨v, by simp [Instr.field, run_underlying hu, hfs, hv, asAgg, hv2], hp⟩
    · simp at h
  · split at h
    · rename_i q i hx hi
      obtain ⟨k, hk⟩ := opdI_rel hr hi
      obtain ⟨v, hv, hp⟩ := indexAt_rel (opd_rel hr hx) h (kk := k)
      exact ⟨v, by simp [hk, hv], hp⟩
    · simp at h
  · split at h
    · rename_i b i hx hi
      split at h
      · rename_i hs
        obtain ⟨k, hk⟩ := opdI_rel hr hi
        have hb := (opd_rel hr hx).k_inv.1
        have hu := isStr_und hs
        split at h
        · rename_i cc hcc
          simp at h; subst h
          refine ⟨.int .u8 cc.toNat, ?_, kVR rfl⟩
          simp only [hk, hb, Sem.run_bind, Instr.index, asIntOf, Sem.run_pure, Result.andThen_ok, run_underlying hu, hcc]
        · simp at h
      · simp at h
    · simp at h
  · split at h
    · rename_i u v hx hy
      simp only [Option.map_eq_some_iff] at h
      obtain ⟨r, hr', rfl⟩ := h
      have hu := (opd_rel hr hx).k_inv.1
      have hv := (opd_rel hr hy).k_inv.1
      obtain ⟨h1, h2⟩ := run_binK hr' w _ _
      refine ⟨r, ?_, kVR h2⟩
      rw [hu, hv]
      simp only [Sem.run_bind] at h1 ⊢
      rw [h1]
      rfl
    · simp at h
  · split at h
    · rename_i b hx
      simp at h; subst h
      have hu := (opd_rel hr hx).k_inv.1
      exact ⟨_, by simp [hu, Op.unary], kVR rfl⟩
    · rename_i k n hx
      simp at h; subst h
      have hu := (opd_rel hr hx).k_inv.1
      exact ⟨_, by simp [hu, Op.unary, Op.intArith], kVR rfl⟩
    · rename_i k n hx
      simp at h; subst h
      have hu := (opd_rel hr hx).k_inv.1
      exact ⟨_, by simp [hu, Op.unary, Op.intBits], kVR rfl⟩
    · simp at h
  · split at h
    · rename_i k' n hs hk hx
      simp at h; subst h
      have hu := (opd_rel hr hx).k_inv.1
      obtain ⟨d, hd⟩ := Option.isSome_iff_exists.1 hs
      have hk' := intOfT_und hk
      exact ⟨_, by simp only [hu, convert, Sem.run_bind, run_underlying hd, run_underlying hk', Result.andThen_ok, Conv.intToInt, Sem.run_pure], kVR rfl⟩
    · simp at h
  · split at h
    · rename_i hf
      split at h
      · rename_i ps hps
        split at h
        · rename_i h1
          simp at h; subst h
          obtain ⟨e1, e2⟩ := opds_rel hr hps
          refine ⟨_, by simp [hf, Instr.makeFunc]; rfl, .clo (by simpa using e1) (List.all_eq_true.1 h1) (fun j p hj => ?_)⟩
          obtain ⟨v, hv, hp⟩ := e2 j p hj
          rw [Array.getD_eq_getD_getElem?]
          simp only [List.getElem?_map, Array.getElem?_toList, Array.getElem?_map] at hv ⊢
          rw [hv]; exact hp
        · simp at h
      · simp at h
    · simp at h
  · split at h
    · rename_i q l hh m hx hl hhi hm
      obtain ⟨v, hv, hp⟩ := slice_rel (opdIO_rel hr hl) (opdIO_rel hr hhi) (opdIO_rel hr hm) (opd_rel hr hx) h
      exact ⟨v, by simp [hv], hp⟩
    · simp at h
  · split at h
    · rename_i ps hx
      have hh := opd_rel hr hx
      obtain ⟨vs, hv, h1, h2⟩ := tup_inv hh
      have hlt := (List.getElem?_eq_some_iff.1 h).1
      refine ⟨_, ?_, h2 _ _ h⟩
      rw [hv]
      simp [Instr.extract, Array.getD, h1, hlt]
    · simp at h
  · split at h
    · rename_i args ts _ ps hps
      obtain ⟨e1, e2⟩ := opds_rel hr hps
      unfold builtinPV at h
      split at h
      · rename_i q
        split at h
        · rename_i t ht
          obtain ⟨x, hx, hq⟩ := e2 0 q rfl
          have hargs := arr1 e1 hx
          obtain ⟨v, hv, hp⟩ := len_rel hq h o.type ts ht
          refine ⟨v, ?_, hp⟩
          have ha : args.map a.eval = #[x] := by rw [← hargs]; apply Array.ext'; simp
          simp only [Sem.run_bind, resolve, Sem.run_pure, Result.andThen_ok, invoke, builtin, ha, hv]
        · simp at h
      · rename_i k x k' y
        simp at h; subst h
        obtain ⟨u, hu, hq⟩ := e2 0 _ rfl
        obtain ⟨v, hv, hq'⟩ := e2 1 _ rfl
        have hargs := arr2 e1 hu hv
        obtain ⟨rfl, _⟩ := hq.k_inv
        obtain ⟨rfl, _⟩ := hq'.k_inv
        have ha : args.map a.eval = #[.int k x, .int k' y] := by rw [← hargs]; apply Array.ext'; simp
        exact ⟨_, by simp [resolve, invoke, builtin, ha, Builtin.min_, Builtin.min2], kVR rfl⟩
      · rename_i k x k' y
        simp at h; subst h
        obtain ⟨u, hu, hq⟩ := e2 0 _ rfl
        obtain ⟨v, hv, hq'⟩ := e2 1 _ rfl
        have hargs := arr2 e1 hu hv
        obtain ⟨rfl, _⟩ := hq.k_inv
        obtain ⟨rfl, _⟩ := hq'.k_inv
        have ha : args.map a.eval = #[.int k x, .int k' y] := by rw [← hargs]; apply Array.ext'; simp
        exact ⟨_, by simp [resolve, invoke, builtin, ha, Builtin.max_, Builtin.max2], kVR rfl⟩
      · simp at h
    · simp at h
  · simp at h
end

end Go.Proofs.Ytmkgechjbbekmaa.Am
