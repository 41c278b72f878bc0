/- The machine of values: slices.overlaps. Slices of two boxes never do. -/
import Derived.Test.YtidhdlhblhbahaaGreatAmB
import Derived.Lib.Overlaps
set_option linter.unusedVariables false
set_option linter.unusedSimpArgs false
namespace Go.Proofs.YtidhdlhblhbahaaGreat.Am
open Go Go.RowKit

theorem run_overlaps_boxes {P : Program} {c : Ctx} {ι : Nat → Option Nat} {S : Nat → Prop} {σ : Boxes} {w : World} (hs : Store c ι S σ w) {tS tR e : TypeId} (ht : elemOf P tS = some e) {z : Nat} (hz : szOf P e = some z)
    {x y : Value} {p q : PV} {n n' : Nat} (hx : VRel n ι S w x p) (hy : VRel n' ι S w y q) {i k off len j off' len' : Nat} (hp : dstPV p = some (i, k, off, len)) (hq : dstPV q = some (j, z, off', len'))
    {ci cj : List PV} (hi : box σ i = some ci) (hj : box σ j = some cj) (hne : i ≠ j) (hl : len ≠ 0) (hl2 : len' ≠ 0) (hz0 : z ≠ 0) :
    (Extern.SlicesOverlaps.overlaps #[tS, tS] #[tR] #[x, y]).run P w = .ok (.bool false) w := by
  have hu := und_elemOf ht
  have hzr : ∀ w, (Go.sizeOf e).run P w = .ok z w := fun w => run_szOf w hz
  rcases dst_rel hx hp with ⟨a, rfl, rfl⟩ | ⟨blk, cap, e1, m1, rfl, h2, h4, h5, h6⟩
  · exact absurd rfl hl
  · rcases dst_rel hy hq with ⟨b, rfl, rfl⟩ | ⟨blk2, cap2, e2, m2, rfl, g2, g4, g5, g6⟩
    · exact absurd rfl hl2
    · obtain ⟨b1, c1, e1', hb1, k1, _, _⟩ := hs.cellsE hi h4 h5
      obtain ⟨b2, c2, e2', hb2, k2, _, _⟩ := hs.cellsE hj g4 g5
      rw [hb1] at h4; simp at h4; subst h4
      rw [hb2] at g4; simp at g4; subst g4
      have hbl : b1 ≠ b2 := fun hh => hne (hs.inj _ _ _ _ _ hi hj hb1 (by rw [hh]; exact hb2))
      have hm2 : m2 ≠ 0 := by
        have : 0 < cap2 * z := Nat.mul_pos (by omega) (by omega)
        omega
      exact Lib.run_overlaps_apart w tS tR e hu z hzr ⟨b1, off, none⟩ ⟨b2, off', none⟩ len cap len' cap2 hbl e1 e2 m1 m2 h5 g5 hm2 (by simp [World.frozen?, k1]) (by simp [World.frozen?, k1])

theorem ops_ovl {P : Program} {ops : Array Oper} {rest : List Oper} {o : Oper} {s : St} {Q : St → Prop} {f : FuncId} {fn : Func} {x y : Operand} {ts : Array TypeId} {tS tR e : TypeId} {z : Nat} {p q : PV}
    {i k off len j off' len' : Nat} {ci cj : List PV}
    (ho : o.op = .call { callee := .value (.func f), args := #[x, y], argTypes := ts })
    (hf : P.funcs[f]? = some fn) (hname : (fn.name == "runtime.NumGoroutine") = false) (hb : fn.body.isNone = true) (hn : Extern.findNext fn = none) (he : Extern.find fn = some (Extern.SlicesOverlaps.overlaps #[tS, tS] #[tR]))
    (ht : elemOf P tS = some e) (hz : szOf P e = some z) (hx : opd s x = some p) (hy : opd s y = some q) (hp : dstPV p = some (i, k, off, len)) (hq : dstPV q = some (j, z, off', len'))
    (hi : box s.σ i = some ci) (hj : box s.σ j = some cj) (hne : i ≠ j) (hl : len ≠ 0) (hl2 : len' ≠ 0) (hz0 : z ≠ 0)
    (hw : wantedA s ops o = some true) (hd : dstOk o.dst s.N = true)
    (h : @gOps (s.put o.dst (.k (.bool false))) ⟨P, ops, rest, Q⟩) : OpsOk P ops (o :: rest) s Q :=
  ops_step hw fun c ι S a w hr K QQ hK => by
    have hrun := run_overlaps_boxes (tR := tR) hr.st ht hz (opd_rel hr hx) (opd_rel hr hy) hp hq hi hj hne hl hl2 hz0
    have hev : a.eval (.func f) = .func (.func f) #[] #[] := rfl
    have : (execOp a.eval o).run P w = .ok (.value (.bool false)) w := by
      unfold execOp
      simp only [ho, Sem.run_bind, resolve, hev, Deferred.ofValue, Sem.run_pure, Result.andThen_ok, invoke]
      simp only [List.map_toArray, List.map_cons, List.map_nil, Array.append_empty, Array.empty_append, run_callFunc_extern hf hname hb hn he, hrun, Result.andThen_ok]
    refine wpIn_val this ?_
    exact hK ι S _ _ w (Rel.next hr hr.st (fun _ _ h => h) hd (.imm (.k rfl))) (ops_goH h)
theorem calOvl {P : Program} {ops : Array Oper} {rest : List Oper} {o : Oper} {s : St} {Q : St → Prop} {f : FuncId} {fn : Func} {x y : Operand} {ts : Array TypeId} {tS tR e : TypeId} {z : Nat} {p q : PV}
    {i k off len j off' len' : Nat} {ci cj : List PV} (hf : P.funcs[f]? = some fn) (h : @gOps (s.put o.dst (.k (.bool false))) ⟨P, ops, rest, Q⟩)
    (ho : o.op = .call { callee := .value (.func f), args := #[x, y], argTypes := ts } := by exact rfl)
    (hname : (fn.name == "runtime.NumGoroutine") = false := by kernel_rfl) (hb : fn.body.isNone = true := by kernel_rfl) (hn : Extern.findNext fn = none := by kernel_rfl)
    (hps : fn.params = #[tS, tS] := by exact rfl) (hrs : fn.resultTypes = #[tR] := by exact rfl) (he : Extern.find fn = some (Extern.SlicesOverlaps.overlaps fn.params fn.resultTypes) := by kernel_rfl)
    (ht : elemOf P tS = some e := by simp; exact rfl) (hz : szOf P e = some z := by simp; exact rfl) (hx : opd s x = some p := by first | exact rfl | simp) (hy : opd s y = some q := by first | exact rfl | simp)
    (hp : dstPV p = some (i, k, off, len) := by exact rfl) (hq : dstPV q = some (j, z, off', len') := by exact rfl)
    (hi : box s.σ i = some ci := by first | exact rfl | simp) (hj : box s.σ j = some cj := by first | exact rfl | simp) (hne : i ≠ j := by simp) (hz0 : z ≠ 0 := by simp) (hl : len ≠ 0 := by first | omega | simp) (hl2 : len' ≠ 0 := by first | omega | simp)
    (hw : wantedA s ops o = some true := by simp) (hd : dstOk o.dst s.N = true := by first | exact rfl | simp) : OpsOk P ops (o :: rest) s Q :=
  ops_ovl ho hf hname hb hn (by rw [he, hps, hrs]) ht hz hx hy hp hq hi hj hne hl hl2 hz0 hw hd h
/-- A temp of which less is told. -/
theorem ent_tmp {s : St} (t : Nat) {p p' : PV} (hw : Tell p p') (h : look s.T t = some p := by first | exact rfl | simp) : Ent s { s with T := (t, p') :: s.T } := fun c ι S a w hr =>
  ⟨ι, S, hr.st, hr.ck, hr.tsz, hr.defers, fun t' q ht => by
    simp only [look] at ht
    split at ht
    · rename_i e; subst e; simp at ht; subst ht; exact hw.2 _ _ _ _ _ (hr.temps _ _ h)
    · exact hr.temps t' q ht⟩
end Go.Proofs.YtidhdlhblhbahaaGreat.Am
