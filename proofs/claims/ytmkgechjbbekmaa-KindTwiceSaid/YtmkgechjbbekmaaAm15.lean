/- The machine of values: going on as far as it goes. -/
import Derived.Test.YtmkgechjbbekmaaAm14
set_option linter.unusedVariables false
set_option linter.unusedSimpArgs false
namespace Go.Proofs.Ytmkgechjbbekmaa.Am
open Go Go.RowKit

/-- One operation: what it makes, if it is none that calls. -/
def oneOp (P : Program) (s : St) (op : Op) : Option (Boxes × PV) :=
  match pureVal P s op with
  | some p => some (s.σ, p)
  | none => match memVal P s op with
    | some x => some x
    | none => match storeVal P s op with
      | some σ' => some (σ', .tup [])
      | none => none

/-! What is held back from simp until it is its turn stands in instance arguments. -/
class Hold where
  p : Prop
class HoldS where
  p : St → Prop
class HoldX where
  p : Boxes × PV → Prop
class HoldO where
  P : Program
  ops : Array Oper
  l : List Oper
  Q : St → Prop
class HoldC where
  P : Program
  c : Code
  Q : Exit → St → Prop

def brk (o : Option (Boxes × PV)) [F : HoldX] [D : Hold] : Prop := match o with | some x => F.p x | none => D.p
def brkB (o : Option Bool) [A : Hold] [B : Hold] [D : Hold] : Prop := match o with | some true => A.p | some false => B.p | none => D.p
def at_ (s : St) [F : HoldS] : Prop := F.p s
theorem brk_some (x : Boxes × PV) (F : HoldX) (D : Hold) : @brk (some x) F D = F.p x := (rfl)
theorem brk_none (F : HoldX) (D : Hold) : @brk none F D = D.p := (rfl)
theorem brkB_true (A B D : Hold) : @brkB (some true) A B D = A.p := (rfl)
theorem brkB_false (A B D : Hold) : @brkB (some false) A B D = B.p := (rfl)
theorem brkB_none (A B D : Hold) : @brkB none A B D = D.p := (rfl)
theorem brkB_split {b : Bool} {A B D : Hold} (h1 : b = true → A.p) (h2 : b = false → B.p) : @brkB (some b) A B D := by
  cases b with
  | true => exact h1 rfl
  | false => exact h2 rfl

theorem brkB_splitN {b : Bool} {A B D : Hold} (h1 : b = false → A.p) (h2 : b = true → B.p) : @brkB (some (!b)) A B D := by
  cases b with
  | true => exact h2 rfl
  | false => exact h1 rfl

def wantedD (s : St) (ops : Array Oper) (o : Oper) : Option Bool := if dstOk o.dst s.N = true then wantedA s ops o else none

def goOps (P : Program) (ops : Array Oper) : List Oper → St → (St → Prop) → Prop
  | [], s, Q => Q s
  | o :: rest, s, Q =>
    @brkB (wantedD s ops o) ⟨@brk (oneOp P s o.op) ⟨fun x => goOps P ops rest (St.put { s with σ := x.1 } o.dst x.2) Q⟩ ⟨OpsOk P ops (o :: rest) s Q⟩⟩
      ⟨goOps P ops rest (s.put o.dst (.tup [])) Q⟩ ⟨OpsOk P ops (o :: rest) s Q⟩

theorem ops_go {P : Program} {ops : Array Oper} {Q : St → Prop} : ∀ {l : List Oper} {s : St}, goOps P ops l s Q → OpsOk P ops l s Q
  | [], s, h => ops_nil h
  | o :: rest, s, h => by
    unfold goOps at h
    unfold brkB wantedD at h
    split at h
    · rename_i hw
      split at hw
      · rename_i hd
        simp only at h
        unfold brk at h
        split at h
        · rename_i x hp
          unfold oneOp at hp
          split at hp
          · rename_i q hq
            simp at hp; subst hp
            exact ops_val hw hq hd (ops_go h)
          · split at hp
            · rename_i x hx
              simp at hp; subst hp
              exact ops_mem hw hx hd (ops_go h)
            · split at hp
              · rename_i σ'' hs
                simp at hp; subst hp
                exact ops_store hw hs hd (ops_go h)
              · simp at hp
        · exact h
      · simp at hw
    · rename_i hw
      split at hw
      · rename_i hd; exact ops_skip hw hd (ops_go h)
      · simp at hw
    · exact h

/-- The operations from here on. -/
def gOps (s : St) [H : HoldO] : Prop := goOps H.P H.ops H.l s H.Q
theorem gOps_nil {P : Program} {ops : Array Oper} {s : St} {Q : St → Prop} : @gOps s ⟨P, ops, [], Q⟩ = Q s := (rfl)
theorem gOps_cons {P : Program} {ops : Array Oper} {o : Oper} {rest : List Oper} {s : St} {Q : St → Prop} : @gOps s ⟨P, ops, o :: rest, Q⟩ =
    @brkB (wantedD s ops o) ⟨@brk (oneOp P s o.op) ⟨fun x => @gOps (St.put { s with σ := x.1 } o.dst x.2) ⟨P, ops, rest, Q⟩⟩ ⟨@at_ s ⟨fun s => OpsOk P ops (o :: rest) s Q⟩⟩⟩
      ⟨@gOps (s.put o.dst (.tup [])) ⟨P, ops, rest, Q⟩⟩ ⟨@at_ s ⟨fun s => OpsOk P ops (o :: rest) s Q⟩⟩ := (rfl)

def condB : Option PV → Option Bool
  | some (.k (.bool b)) => some b
  | _ => none

def goC (P : Program) : Code → St → (Exit → St → Prop) → Prop
  | .skip, s, Q => Q .normal s
  | .seq x y, s, Q => goC P x s (thenA (fun s' => goC P y s' Q) Q)
  | .region id ops draw, s, Q => if draw = true then AWp P (.region id ops draw) s Q else goOps P ops ops.toList s (Q .normal)
  | .cond c x y, s, Q => @brkB (condB (opd s c)) ⟨goC P x s Q⟩ ⟨goC P y s Q⟩ ⟨AWp P (.cond c x y) s Q⟩
  | .block id c, s, Q => goC P c s (inBlockA id Q)
  | .exit id, s, Q => Q (.exit id) s
  | .ret, s, Q => Q .ret s
  | c, s, Q => AWp P c s Q

/-- The code from here on. -/
def gC (s : St) [H : HoldC] : Prop := goC H.P H.c s H.Q

section
variable {P : Program} {s : St} {Q : Exit → St → Prop}
theorem gC_skip : @gC s ⟨P, .skip, Q⟩ = Q .normal s := (rfl)
theorem gC_seq {x y : Code} : @gC s ⟨P, .seq x y, Q⟩ = @gC s ⟨P, x, thenA (fun s' => @gC s' ⟨P, y, Q⟩) Q⟩ := (rfl)
theorem gC_region {id : Nat} {l : List Oper} : @gC s ⟨P, .region id l.toArray false, Q⟩ = @gOps s ⟨P, l.toArray, l, Q .normal⟩ := (rfl)
theorem gC_draw {id : Nat} {ops : Array Oper} : @gC s ⟨P, .region id ops true, Q⟩ = @at_ s ⟨fun s => AWp P (.region id ops true) s Q⟩ := (rfl)
theorem gC_cond {c : Operand} {x y : Code} : @gC s ⟨P, .cond c x y, Q⟩ = @brkB (condB (opd s c)) ⟨@gC s ⟨P, x, Q⟩⟩ ⟨@gC s ⟨P, y, Q⟩⟩ ⟨@at_ s ⟨fun s => AWp P (.cond c x y) s Q⟩⟩ := (rfl)
theorem gC_block {id : Nat} {c : Code} : @gC s ⟨P, .block id c, Q⟩ = @gC s ⟨P, c, inBlockA id Q⟩ := (rfl)
theorem gC_exit {id : Nat} : @gC s ⟨P, .exit id, Q⟩ = Q (.exit id) s := (rfl)
theorem gC_ret : @gC s ⟨P, .ret, Q⟩ = Q .ret s := (rfl)
theorem gC_loop {c : Code} : @gC s ⟨P, .loop c, Q⟩ = @at_ s ⟨fun s => AWp P (.loop c) s Q⟩ := (rfl)
theorem gC_rangeFunc {f : Operand} {ps : Array Tmp} {x y : Code} : @gC s ⟨P, .rangeFunc f ps x y, Q⟩ = @at_ s ⟨fun s => AWp P (.rangeFunc f ps x y) s Q⟩ := (rfl)
theorem thenA_normal {next : St → Prop} : thenA next Q .normal s = next s := (rfl)
theorem thenA_ret {next : St → Prop} : thenA next Q .ret s = Q .ret s := (rfl)
theorem thenA_exit {next : St → Prop} {i : Nat} : thenA next Q (.exit i) s = Q (.exit i) s := (rfl)
theorem inBlockA_normal {id : Nat} : inBlockA id Q .normal s = Q .normal s := (rfl)
theorem inBlockA_ret {id : Nat} : inBlockA id Q .ret s = Q .ret s := (rfl)
theorem inBlockA_exit {id i : Nat} : inBlockA id Q (.exit i) s = if i = id then Q .normal s else Q (.exit i) s := (rfl)
end

theorem awp_goC {P : Program} : ∀ {c : Code} {s : St} {Q : Exit → St → Prop}, goC P c s Q → AWp P c s Q
  | .skip, s, Q, h => awp_skip h
  | .seq x y, s, Q, h => awp_seq (awp_mono (awp_goC h) fun e s' hq => by
      cases e with
      | normal => exact awp_goC hq
      | _ => exact hq)
  | .region id ops draw, s, Q, h => by
    unfold goC at h
    split at h
    · exact h
    · rename_i hd
      have : draw = false := by simpa using hd
      subst this
      have h2 := ops_go h
      have e : ops = ops.toList.toArray := by simp
      rw [e]
      refine awp_region ?_
      rw [← e]; exact h2
  | .cond c x y, s, Q, h => by
    unfold goC at h
    unfold condB brkB at h
    split at h
    · rename_i hc
      split at hc
      · rename_i b hb
        simp at hc; subst hc
        exact awp_cond hb (awp_goC h)
      · simp at hc
    · rename_i hc
      split at hc
      · rename_i b hb
        simp at hc; subst hc
        exact awp_cond hb (awp_goC h)
      · simp at hc
    · exact h
  | .block id c, s, Q, h => awp_block (awp_goC h)
  | .exit id, s, Q, h => awp_exit h
  | .ret, s, Q, h => awp_ret h
  | .loop _, s, Q, h => h
  | .rangeFunc .., s, Q, h => h
  | .scope _, s, Q, h => h
  | .label _, s, Q, h => h
  | .goto _, s, Q, h => h
  | .refuse _, s, Q, h => h

theorem awp_go {P : Program} {c : Code} {s : St} {Q : Exit → St → Prop} (h : @gC s ⟨P, c, Q⟩) : AWp P c s Q := awp_goC h
theorem ops_goH {P : Program} {ops : Array Oper} {l : List Oper} {s : St} {Q : St → Prop} (h : @gOps s ⟨P, ops, l, Q⟩) : OpsOk P ops l s Q := ops_go h

/-! ### Numbers -/
theorem wrap_id {x : Int} (h1 : -9223372036854775808 ≤ x) (h2 : x ≤ 9223372036854775807) : IntKind.i64.wrap x = x := by rw [IntKind.wrap_i64]; omega

end Go.Proofs.Ytmkgechjbbekmaa.Am
