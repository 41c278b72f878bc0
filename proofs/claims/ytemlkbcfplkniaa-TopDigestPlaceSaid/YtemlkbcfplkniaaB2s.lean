/- The machine of values: bytes to a string. -/
import Derived.Test.YtemlkbcfplkniaaAmB
import Derived.Laws.BytesArg
set_option linter.unusedVariables false
set_option linter.unusedSimpArgs false
namespace Go.Proofs.Ytemlkbcfplkniaa.Am
open Go Go.RowKit

theorem ops_b2s {P : Program} {ops : Array Oper} {rest : List Oper} {o : Oper} {s : St} {Q : St → Prop} {src dst e : TypeId} {x : Operand} {b : Nat} {xs : List Int}
    (ho : o.op = .convert src dst x) (hs : P.underlying src = some (.slice e)) (he : P.underlying e = some (.int .u8)) (hd : P.underlying dst = some .string)
    (hx : opd s x = some (.osl b 1 0 xs.length)) (hb : box s.σ b = some (xs.map fun n => .k (.int .u8 n))) (hl : xs.length ≠ 0)
    (hw : wantedA s ops o = some true) (hdst : dstOk o.dst s.N = true)
    (h : @gOps (s.put o.dst (kS (strOfNums xs))) ⟨P, ops, rest, Q⟩) : OpsOk P ops (o :: rest) s Q :=
  ops_step hw fun c ι S a w hr K QQ hK => by
    have hv := opd_rel hr hx
    generalize hev : a.eval x = v at hv
    obtain ⟨n, hn⟩ : ∃ n, xs.length = n := ⟨_, rfl⟩
    rw [hn] at hv hl
    cases hv with
    | imm hi => cases hi
    | osl0 _ => exact absurd rfl hl
    | osl hbn hlc hcm hib hsh hle =>
      rename_i cap blk e2 m
      obtain ⟨b1, c1, e1, hb1, k1, _, hcs⟩ := hr.st.cellsE hb hib hsh
      rw [hb1] at hib
      obtain rfl : b1 = blk := Option.some.inj hib
      have hrun := run_convert_bytes_arg (P := P) w src e hs he b1 0 n cap xs hn (fun i hi => by
        have hi : i < xs.length := by omega
        obtain ⟨v, hv1, hv2⟩ := hcs i (.k (.int .u8 xs[i])) (by simp [hi])
        have : v = .int .u8 xs[i] := by cases hv2 with | imm hi => cases hi; rfl
        subst this
        simp only [Nat.zero_add, List.getD, List.getElem?_eq_getElem hi, Option.getD_some]
        simp [World.cell?, k1, hv1]) dst hd
      have : (execOp a.eval o).run P w = .ok (.value (.string (strOfNums xs))) w := by
        unfold execOp
        simp only [ho, hev, Sem.run_bind, hrun, Result.andThen_ok, Sem.run_pure]
      refine wpIn_val this ?_
      exact hK ι S _ _ w (Rel.next hr hr.st (fun _ _ h => h) hdst (.imm (.k rfl))) (ops_goH h)
end Go.Proofs.Ytemlkbcfplkniaa.Am
