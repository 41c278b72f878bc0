/- The machine of values: is it nil? -/
import Derived.Test.YtmkgechjbbekmaaAm27
set_option linter.unusedVariables false
set_option linter.unusedSimpArgs false
namespace Go.Proofs.Ytmkgechjbbekmaa.Am
open Go Go.RowKit

theorem run_equal_slice {P : Program} {t e : TypeId} (hu : P.underlying t = some (.slice e)) (a : Option Addr) (n cap : Nat) (w : World) : (Op.equal t (.slice a n cap) (.slice none 0 0)).run P w = .ok a.isNone w := by
  have h : ∀ d, (Op.equalIn (d + 1) t (.slice a n cap) (.slice none 0 0)).run P w = .ok a.isNone w := fun d => by
    rw [Op.equalIn]; simp only [Sem.run_bind, run_underlying hu, Result.andThen_ok]
    cases a <;> rfl
  exact h 9999

theorem run_nilcmp {P : Program} {t e : TypeId} (hu : P.underlying t = some (.slice e)) (a : Option Addr) (n cap : Nat) (w : World) (X Y : Operand) (neq : Bool) :
    (do eqGuard (if neq then .neq else .eql) t X Y (.slice a n cap) (.slice none 0 0); binOp (if neq then .neq else .eql) t (.slice a n cap) (.slice none 0 0) : Sem Value).run P w = .ok (.bool (a.isNone != neq)) w := by
  have hg : (eqGuard (if neq then .neq else .eql) t X Y (.slice a n cap) (.slice none 0 0)).run P w = .ok () w := by
    unfold eqGuard; cases neq <;> simp
  simp only [Sem.run_bind, hg, Result.andThen_ok]
  cases neq
  · simp [binOp, run_equal_slice hu]
  · simp [binOp, run_equal_slice hu]

/-- What is known of whether a slice is nil. -/
def nilK : PV → Bool → Prop
  | .sl _ rows, b => rows ≠ [] → b = false
  | .osl _ _ _ len, b => len ≠ 0 → b = false
  | .k (.slice none 0 0), b => b = true
  | _, _ => True
def slPV : PV → Bool
  | .sl _ _ | .osl _ _ _ _ | .k (.slice none 0 0) => true
  | _ => false

theorem nilK_rel {n : Nat} {ι : Nat → Option Nat} {S : Nat → Prop} {w : World} {v : Value} {p : PV} (h : VRel n ι S w v p) (hp : slPV p = true) : ∃ a len cap, v = .slice a len cap ∧ nilK p a.isNone := by
  cases h with
  | imm h => cases h with
    | k hs =>
      have : v = .slice none 0 0 := by
        unfold slPV at hp
        split at hp <;> simp_all
      subst this
      exact ⟨none, 0, 0, rfl, rfl⟩
    | sl g h1 h2 h3 h4 h5 h6 h7 h8 =>
      rename_i rows a len cap
      refine ⟨a, len, cap, rfl, fun hne => ?_⟩
      have : 0 < len := by
        rw [← h1]; exact List.length_pos_iff.2 hne
      obtain ⟨b, o, rfl, _⟩ := h7 this
      rfl
    | _ => simp [slPV] at hp
  | osl h1 h2 h3 h4 h5 h6 => exact ⟨_, _, _, rfl, fun _ => rfl⟩
  | osl0 h1 => exact ⟨_, _, _, rfl, fun h => absurd rfl h⟩
  | _ => simp [slPV] at hp

theorem ops_nil_eq {P : Program} {ops : Array Oper} {rest : List Oper} {o : Oper} {s : St} {Q : St → Prop} {neq : Bool} {t ty : TypeId} {x y : Operand} {p : PV} (ho : o.op = .binOp (if neq then .neq else .eql) t x y ty) (hx : opd s x = some p) (hy : opd s y = some (.k (.slice none 0 0)))
    (hp : slPV p = true) (ht : (elemOf P t).isSome = true) (hw : wantedA s ops o = some true) (hd : dstOk o.dst s.N = true)
    (h : ∀ b, nilK p b → @gOps (s.put o.dst (.k (.bool (b != neq)))) ⟨P, ops, rest, Q⟩) : OpsOk P ops (o :: rest) s Q :=
  ops_step hw fun c ι S a w hr K QQ hK => by
    obtain ⟨e, he⟩ := Option.isSome_iff_exists.1 ht
    obtain ⟨ad, len, cap, hv, hn⟩ := nilK_rel (opd_rel hr hx) hp
    have hy' := (opd_rel hr hy).k_inv.1
    have hrun := run_nilcmp (P := P) (und_elemOf he) ad len cap w x y neq
    unfold Oper.wp
    have : (execOp a.eval o).run P w = .ok (.value (.bool (ad.isNone != neq))) w := by
      unfold execOp
      simp only [Sem.run_bind] at hrun
      simp only [ho, hv, hy', Sem.run_bind]
      generalize (eqGuard (if neq then .neq else .eql) t x y (.slice ad len cap) (.slice none 0 0)).run P w = g at hrun ⊢
      cases g with
      | ok u w1 =>
        simp only [Result.andThen_ok] at hrun ⊢
        rw [hrun]; rfl
      | halt x w1 => simp [Result.andThen] at hrun
    rw [this]
    exact hK ι S _ _ w (Rel.next hr hr.st (fun _ _ h => h) hd (.imm (.k rfl))) (ops_goH (h _ hn))
end Go.Proofs.Ytmkgechjbbekmaa.Am
