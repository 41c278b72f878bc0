/- The machine of values: operations that change no memory. -/
import Derived.Test.YtmkgechjbbekmaaAm2
import Derived.Laws.Strings
set_option linter.unusedVariables false
set_option linter.unusedSimpArgs false
namespace Go.Proofs.Ytmkgechjbbekmaa.Am
open Go Go.RowKit

/-! ### What is asked of types -/
def szOf (P : Program) (t : TypeId) : Option Nat := (P.info? t).map (·.size)
def aggOf (P : Program) (t : TypeId) : Option Bool := (P.underlying t).map fun | .struct _ | .array _ _ => true | _ => false
def fieldOf (P : Program) (t : TypeId) (f : Nat) : Option (TypeId × Nat) := match P.underlying t with | some (.struct fs) => (fs[f]?).map fun x => (x.type, x.offset) | _ => none
def elemOf (P : Program) (t : TypeId) : Option TypeId := match P.underlying t with | some (.slice e) => some e | _ => none
def isStr (P : Program) (t : TypeId) : Bool := P.underlying t matches some .string
def isBool (P : Program) (t : TypeId) : Bool := P.underlying t matches some .bool
def intOfT (P : Program) (t : TypeId) : Option IntKind := match P.underlying t with | some (.int k) => some k | _ => none

section
variable {P : Program} (w : World)
theorem run_szOf {t : TypeId} {z : Nat} (h : szOf P t = some z) : (sizeOf t).run P w = .ok z w := by
  unfold szOf at h
  cases hi : P.info? t with
  | none => simp [hi] at h
  | some i => simp [hi] at h; simp [sizeOf, typeInfo, hi, h]
theorem run_aggOf {t : TypeId} {b : Bool} (h : aggOf P t = some b) : (isAgg t).run P w = .ok b w := by
  unfold aggOf at h
  cases hi : P.underlying t with
  | none => simp [hi] at h
  | some d =>
    simp [hi] at h
    simp only [isAgg, Sem.run_bind, run_underlying hi, Result.andThen_ok]
    cases d <;> simp_all
theorem und_fieldOf {t : TypeId} {f : Nat} {x : TypeId × Nat} (h : fieldOf P t f = some x) : ∃ fs g, P.underlying t = some (.struct fs) ∧ fs[f]? = some g ∧ g.type = x.1 ∧ g.offset = x.2 := by
  unfold fieldOf at h
  split at h
  · rename_i fs hu
    cases hg : fs[f]? with
    | none => simp [hg] at h
    | some g => simp [hg] at h; subst h; exact ⟨fs, g, hu, hg, rfl, rfl⟩
  · simp at h
theorem und_elemOf {t e : TypeId} (h : elemOf P t = some e) : P.underlying t = some (.slice e) := by
  unfold elemOf at h
  split at h
  · rename_i hu; simp at h; subst h; exact hu
  · simp at h
end

/-! ### Operands -/
def constPV : Value → Option PV
  | .agg cs => if cs.toList.all scal then some (.agg (cs.toList.map .k)) else none
  | .tuple cs => if cs.toList.all scal then some (.tup (cs.toList.map .k)) else none
  | v => if scal v then some (.k v) else none

def opd (s : St) : Operand → Option PV
  | .tmp t => look s.T t
  | .const v => constPV v
  | .func f => some (.k (.func (.func f) #[] #[]))
  | .global _ => none

theorem IRel.ks (S : Nat → Prop) (w : World) (l : List Value) (h : l.all scal = true) : ∀ (j : Nat) (p : PV), (l.map PV.k)[j]? = some p → IRel S w (l.toArray.getD j Go.undef) p := by
  intro j p hj
  simp only [List.getElem?_map, Option.map_eq_some_iff] at hj
  obtain ⟨v, hv, rfl⟩ := hj
  have hlt := (List.getElem?_eq_some_iff.1 hv).1
  have : l.toArray.getD j Go.undef = v := by simp [Array.getD, hlt]; exact (List.getElem?_eq_some_iff.1 hv).2
  rw [this]
  exact .k (List.all_eq_true.1 h v (List.mem_of_getElem? hv))

theorem constPV_rel {S : Nat → Prop} {w : World} {v : Value} {p : PV} (h : constPV v = some p) : IRel S w v p := by
  have hk : ∀ v p, (if scal v = true then some (PV.k v) else none) = some p → IRel S w v p := by
    intro v p h; split at h
    · simp at h; subst h; exact .k ‹_›
    · simp at h
  cases v with
  | agg cs =>
    simp only [constPV] at h
    split at h
    · rename_i hs
      simp at h; subst h
      refine .agg (by simp) (fun p hp => ?_) (by have := IRel.ks S w cs.toList hs; simpa using this)
      simp at hp; obtain ⟨v, _, rfl⟩ := hp; rfl
    · simp at h
  | tuple cs =>
    simp only [constPV] at h
    split at h
    · rename_i hs
      simp at h; subst h
      exact .tup (by simp) (by have := IRel.ks S w cs.toList hs; simpa using this)
    · simp at h
  | _ => exact hk _ _ h

theorem opd_rel {c : Ctx} {ι : Nat → Option Nat} {S : Nat → Prop} {s : St} {a : Act} {w : World} (hr : Rel c ι S s a w) {x : Operand} {p : PV} (h : opd s x = some p) : VRel s.σ.length ι S w (a.eval x) p := by
  cases x with
  | tmp t => exact hr.temps t p h
  | const v => exact .imm (constPV_rel h)
  | func f => simp only [opd, Option.some.injEq] at h; subst h; exact .imm (.k (by simp [scal, Act.eval]))
  | global g => simp [opd] at h

theorem VRel.k_inv {n : Nat} {ι : Nat → Option Nat} {S : Nat → Prop} {w : World} {u v : Value} (h : VRel n ι S w u (.k v)) : u = v ∧ scal v = true := by
  cases h with | imm h => cases h with | k h => exact ⟨rfl, h⟩

/-! ### Computing with numbers, strings and bools -/
def binK (P : Program) (op : BinOp) (t : TypeId) (x y : Value) : Option Value :=
  match x, y with
  | .int k a, .int k' b =>
    match op with
    | .shl => if b < 0 then none else some (.int k (k.wrap (a * 2 ^ (min b.toNat k.bits))))
    | .shr => if b < 0 then none else some (.int k (a.fdiv (2 ^ (min b.toNat k.bits))))
    | op => if k ≠ k' then none else
      match op with
      | .add => some (.int k (k.wrap (a + b)))
      | .sub => some (.int k (k.wrap (a - b)))
      | .mul => some (.int k (k.wrap (a * b)))
      | .quo => if b = 0 then none else some (.int k (k.wrap (a.tdiv b)))
      | .rem => if b = 0 then none else some (.int k (a.tmod b))
      | .and => some (.int k (k.wrap (BitVec.ofInt k.bits a &&& BitVec.ofInt k.bits b).toNat))
      | .or => some (.int k (k.wrap (BitVec.ofInt k.bits a ||| BitVec.ofInt k.bits b).toNat))
      | .xor => some (.int k (k.wrap (BitVec.ofInt k.bits a ^^^ BitVec.ofInt k.bits b).toNat))
      | .andNot => some (.int k (k.wrap (BitVec.ofInt k.bits a &&& ~~~ BitVec.ofInt k.bits b).toNat))
      | .eql => some (.bool (decide (a = b)))
      | .neq => some (.bool (!decide (a = b)))
      | .lss => some (.bool (decide (a < b)))
      | .leq => some (.bool (decide (a ≤ b)))
      | .gtr => some (.bool (decide (a > b)))
      | .geq => some (.bool (decide (a ≥ b)))
      | _ => none
  | .string a, .string b =>
    match op with
    | .add => if ((a.size + b.size : Nat) : Int) > IntKind.i64.max then none else some (.string (a ++ b))
    | .eql => some (.bool (decide (a = b)))
    | .neq => some (.bool (!decide (a = b)))
    | _ => none
  | .bool a, .bool b => if isBool P t then (match op with | .eql => some (.bool (a == b)) | .neq => some (.bool (!(a == b))) | _ => none) else none
  | _, _ => none

theorem toList_eq_iff (a b : ByteArray) : (a.toList == b.toList) = decide (a = b) := by
  rw [Bool.eq_iff_iff, beq_iff_eq, decide_eq_true_iff, ByteArray.toList_eq, ByteArray.toList_eq]
  constructor
  · intro h
    have h2 : a.data = b.data := Array.ext' h
    cases a; cases b
    simpa using h2
  · intro h; rw [h]

theorem run_equal_bool {P : Program} {t : TypeId} (hu : P.underlying t = some .bool) (a b : Bool) (w : World) : (Op.equal t (.bool a) (.bool b)).run P w = .ok (a == b) w := by
  have h : ∀ d, (Op.equalIn (d + 1) t (.bool a) (.bool b)).run P w = .ok (a == b) w := fun d => by
    rw [Op.equalIn]; simp only [Sem.run_bind, run_underlying hu, Result.andThen_ok]; rfl
  exact h 9999

theorem run_binK {P : Program} {op : BinOp} {t : TypeId} {x y : Value} {v : Value} (h : binK P op t x y = some v) (w : World) (X Y : Operand) :
    (do eqGuard op t X Y x y; binOp op t x y : Sem Value).run P w = .ok v w ∧ scal v = true := by
  unfold binK at h
  split at h
  · rename_i k a k' b
    have hg : (eqGuard op t X Y (.int k a) (.int k' b)).run P w = .ok () w := by
      unfold eqGuard; cases op <;> simp
    simp only [Sem.run_bind, hg, Result.andThen_ok]
    split at h
    · split at h
      · simp at h
      · rename_i hb; simp at h; subst h; simp [binOp, Op.shift, hb, scal]
    · split at h
      · simp at h
      · rename_i hb; simp at h; subst h; simp [binOp, Op.shift, hb, scal]
    · rename_i hs1 hs2
      split at h
      · simp at h
      · rename_i hk
        have hk' : k = k' := by simpa using hk
        subst hk'
        cases op <;> simp at h hs1 hs2 <;> first
          | (subst h; simp [binOp, Op.intArith, Op.intBits, Op.intCmp, scal, bne]; done)
          | (obtain ⟨h0, h⟩ := h; subst h; simp [binOp, Op.intDiv, h0, scal]; done)
          | skip
        all_goals (subst h; simp [binOp, Op.intCmp, scal]; rw [Bool.eq_iff_iff]; simp)
  · rename_i a b
    have hg : (eqGuard op t X Y (.string a) (.string b)).run P w = .ok () w := by
      unfold eqGuard; cases op <;> simp
    simp only [Sem.run_bind, hg, Result.andThen_ok]
    split at h
    · split at h
      · simp at h
      · rename_i hb; simp at h; subst h; simp only [binOp, Op.stringOp, if_neg hb]; simp [scal]
    · simp at h; subst h; simp [binOp, Op.stringOp, toList_eq_iff, scal]
    · simp at h; subst h; simp [binOp, Op.stringOp, toList_eq_iff, scal]
    · simp at h
  · rename_i a b
    split at h
    · rename_i hb
      have hu : P.underlying t = some .bool := by
        unfold isBool at hb
        split at hb
        · assumption
        · simp at hb
      have hg : (eqGuard op t X Y (.bool a) (.bool b)).run P w = .ok () w := by
        unfold eqGuard; cases op <;> simp
      simp only [Sem.run_bind, hg, Result.andThen_ok]
      split at h
      · simp at h; subst h; simp only [binOp, Sem.run_bind, run_equal_bool hu]; exact ⟨rfl, rfl⟩
      · simp at h; subst h; simp only [binOp, Sem.run_bind, run_equal_bool hu]; exact ⟨rfl, rfl⟩
      · simp at h
    · simp at h
  · simp at h

end Go.Proofs.Ytmkgechjbbekmaa.Am
