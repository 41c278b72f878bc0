/- The machine of values: bytes as strings; a slice of bytes that is handed on as one; the byte that is looked for. -/
import Derived.Test.YtemlkbcfplkniaaB2s
import Derived.Lib.BytesEntry
set_option linter.unusedVariables false
set_option linter.unusedSimpArgs false
namespace Go.Proofs.Ytemlkbcfplkniaa.Am
open Go Go.RowKit

abbrev slB (xs : List Int) : PV := .sl 1 (xs.map fun n => [.k (.int .u8 n)])

theorem flatB : ∀ xs : List Int, (xs.map fun n => [PV.k (.int .u8 n)]).flatten = xs.map fun n => PV.k (.int .u8 n)
  | [] => rfl
  | x :: xs => by simp [flatB xs]
theorem slB_inv {S : Nat → Prop} {w : World} {v : Value} {xs : List Int} (h : IRel S w v (slB xs)) : ∃ (a : Option Addr) (cap : Nat), v = .slice a xs.length cap ∧ xs.length ≤ cap ∧
    (0 < xs.length → ∃ b o, a = some ⟨b, o, none⟩ ∧ ∀ i, i < xs.length → w.cell? ⟨b, o + i, none⟩ = some (.int .u8 (xs.getD i 0))) := by
  cases h with
  | sl g h1 h2 h3 h4 h5 h6 h7 h8 =>
    rename_i a n cap
    simp at h1; subst h1
    refine ⟨a, cap, rfl, h2, fun hn => ?_⟩
    obtain ⟨b, o, e, hS, hg⟩ := h7 hn
    refine ⟨b, o, e, fun i hi => ?_⟩
    rw [hg i (by omega)]
    have hf := flatB xs
    have := h8 i (.k (.int .u8 xs[i])) (by rw [hf]; simp [hi])
    have hv := (VRel.imm (n := 0) (ι := fun _ => none) this).k_inv.1
    simp [hv, List.getD, hi]

/-- Bytes that nobody writes, as a string. -/
theorem ops_b2sI {P : Program} {ops : Array Oper} {rest : List Oper} {o : Oper} {s : St} {Q : St → Prop} {src dst e : TypeId} {x : Operand} {xs : List Int}
    (h : @gOps (s.put o.dst (kS (strOfNums xs))) ⟨P, ops, rest, Q⟩) (ho : o.op = .convert src dst x := by exact rfl) (hs : P.underlying src = some (.slice e) := by kernel_rfl) (he : P.underlying e = some (.int .u8) := by kernel_rfl) (hd : P.underlying dst = some .string := by kernel_rfl)
    (hx : opd s x = some (slB xs) := by first | exact rfl | simp) (hw : wantedA s ops o = some true := by simp) (hdst : dstOk o.dst s.N = true := by first | exact rfl | simp) : OpsOk P ops (o :: rest) s Q :=
  ops_step hw fun c ι S a w hr K QQ hK => by
    have hv := (opd_rel hr hx).immI rfl
    generalize hev : a.eval x = v at hv
    obtain ⟨ad, cap, rfl, hle, hc⟩ := slB_inv hv
    have hrun : (convert src dst (.slice ad xs.length cap)).run P w = .ok (.string (strOfNums xs)) w := by
      rcases Nat.eq_zero_or_pos xs.length with h0 | h0
      · have hnil : xs = [] := List.length_eq_zero_iff.1 h0
        subst hnil
        cases ad with
        | none => simp [convert, run_underlying hs, run_underlying hd, run_underlying he, Conv.bytesToString, strOfNums]; rfl
        | some ad => simp [convert, run_underlying hs, run_underlying hd, run_underlying he, Conv.bytesToString, strOfNums, loadCells, loadCellsFrom]; rfl
      · obtain ⟨b, off, rfl, hcell⟩ := hc h0
        exact run_convert_bytes_arg w src e hs he b off _ cap xs rfl hcell dst hd
    have : (execOp a.eval o).run P w = .ok (.value (.string (strOfNums xs))) w := by
      unfold execOp
      simp only [ho, hev, Sem.run_bind, hrun, Result.andThen_ok, Sem.run_pure]
    refine wpIn_val this ?_
    exact hK ι S _ _ w (Rel.next hr hr.st (fun _ _ h => h) hdst (.imm (.k rfl))) (ops_goH h)

/-- The place of a byte. -/
theorem ops_idx {P : Program} {ops : Array Oper} {rest : List Oper} {o : Oper} {s : St} {Q : St → Prop} {f : FuncId} {fn : Func} {x y : Operand} {ts : Array TypeId} {xs : List Int} {n : Int}
    (hf : P.funcs[f]? = some fn) (h : @gOps (s.put o.dst (kI (Lib.indexByte (Lib.bytesOf xs) n.toNat.toUInt8))) ⟨P, ops, rest, Q⟩) (hl : 0 < xs.length)
    (ho : o.op = .call { callee := .value (.func f), args := #[x, y], argTypes := ts } := by exact rfl)
    (hname : (fn.name == "runtime.NumGoroutine") = false := by kernel_rfl) (hb : fn.body.isNone = true := by kernel_rfl) (hn : Extern.findNext fn = none := by kernel_rfl) (he : Extern.find fn = some Extern.BytealgIndexByte.indexByte := by kernel_rfl)
    (hx : opd s x = some (slB xs) := by first | exact rfl | simp) (hy : opd s y = some (.k (.int .u8 n)) := by first | exact rfl | simp)
    (hw : wantedA s ops o = some true := by simp) (hd : dstOk o.dst s.N = true := by first | exact rfl | simp) : OpsOk P ops (o :: rest) s Q :=
  ops_step hw fun c ι S a w hr K QQ hK => by
    have hv := (opd_rel hr hx).immI rfl
    have hyv := (opd_rel hr hy).k_inv.1
    generalize hev : a.eval x = v at hv
    obtain ⟨ad, cap, rfl, hle, hc⟩ := slB_inv hv
    obtain ⟨b, off, rfl, hcell⟩ := hc hl
    have hrun := Lib.run_indexByteSlice (P := P) (w := w) b off xs.length cap xs rfl hcell n
    have hef : a.eval (.func f) = .func (.func f) #[] #[] := rfl
    have : (execOp a.eval o).run P w = .ok (.value (.int .i64 (Lib.indexByte (Lib.bytesOf xs) n.toNat.toUInt8))) w := by
      unfold execOp
      simp only [ho, Sem.run_bind, resolve, hef, Deferred.ofValue, Sem.run_pure, Result.andThen_ok, invoke]
      simp only [List.map_toArray, List.map_cons, List.map_nil, Array.append_empty, Array.empty_append, run_callFunc_extern hf hname hb hn he, hev, hyv, hrun, Result.andThen_ok]
    refine wpIn_val this ?_
    exact hK ι S _ _ w (Rel.next hr hr.st (fun _ _ h => h) hd (.imm (.k rfl))) (ops_goH h)

/-- A block that nobody writes gets a mark behind its cells. -/
def World.marked (w : World) (blk : Nat) (C : Array Value) (e : TypeId) : World := { w with heap := w.heap.setIfInBounds blk (.cells C e (C.size, C.size + 1)) }

theorem Store.marked {c : Ctx} {ι : Nat → Option Nat} {S : Nat → Prop} {σ : Boxes} {w : World} (h : Store c ι S σ w) {blk : Nat} {C : Array Value} {e : TypeId} (hw : w.heap[blk]? = some (.cells C e (0, 0))) (hS : S blk) (hl : c.M blk ∨ c.w0.heap.size ≤ blk) :
    Store c ι S σ (World.marked w blk C e) ∧ ∀ m v p, VRel m ι S w v p → VRel m ι S (World.marked w blk C e) v p := by
  have hlt : blk < w.heap.size := (Array.getElem?_eq_some_iff.1 hw).1
  have hoth : ∀ b, b ≠ blk → (World.marked w blk C e).heap[b]? = w.heap[b]? := fun b hb => by simp [World.marked, Array.getElem?_setIfInBounds_ne (Ne.symm hb)]
  have hsame : (World.marked w blk C e).heap[blk]? = some (.cells C e (C.size, C.size + 1)) := by simp [World.marked, hlt]
  have hcell : ∀ b o, (World.marked w blk C e).cell? ⟨b, o, none⟩ = w.cell? ⟨b, o, none⟩ := fun b o => by
    by_cases hb : b = blk
    · subst hb; simp only [World.cell?, hsame, hw]
    · simp only [World.cell?, hoth b hb]
  have hsh : ∀ b x, w.shape? b = some x → (World.marked w blk C e).shape? b = some x := fun b x hx => by
    by_cases hb : b = blk
    · subst hb; simp only [World.shape?, hsame, hw] at hx ⊢; exact hx
    · simp only [World.shape?, hoth b hb] at hx ⊢; exact hx
  have hv : ∀ m v p, VRel m ι S w v p → VRel m ι S (World.marked w blk C e) v p := fun m v p hh =>
    hh.mono (Nat.le_refl _) (fun _ _ => rfl) (fun _ h => h) (fun b o _ => hcell b o) hsh
  refine ⟨⟨h.os, h.tape, h.output, by simpa [World.marked] using h.size, fun b hb hM => ?_, fun b x hx => hsh b x (h.shape b x hx), fun i cs hi => ?_, h.notS, h.live, h.inj, fun b hb => by simpa [World.marked] using h.Slt b hb, h.S0, h.Snew, h.klen, h.kι⟩, hv⟩
  · rw [hoth b (fun e => by subst e; rcases hl with k | k; exact hM k; omega)]; exact h.old b hb hM
  · rcases h.boxes i cs hi with g | ⟨b, c', o, g1, g2, g3, g4⟩
    · exact .inl g
    · refine .inr ⟨b, c', o, g1, ?_, g3, fun j p hj => by obtain ⟨v, hv1, hv2⟩ := g4 j p hj; exact ⟨v, hv1, hv _ _ _ hv2⟩⟩
      rw [hoth b (fun e => h.notS i cs b hi g1 (e ▸ hS))]; exact g2

/-- A fresh slice of bytes that is handed on as a slice of bytes of its own: from then on nobody writes it. -/
theorem ops_conv {P : Program} {ops : Array Oper} {rest : List Oper} {o : Oper} {s : St} {Q : St → Prop} {t e : TypeId} {x : Operand} {b len : Nat} {cs : List PV}
    (h : @gOps ((s.fz b cs).put o.dst (.sl 1 (chunks 1 cs len))) ⟨P, ops, rest, Q⟩) (hl : 0 < len) (hlen : cs.length = len)
    (ho : o.op = .convert t t x := by exact rfl) (ht : P.underlying t = some (.slice e) := by kernel_rfl) (he : P.underlying e = some (.int .u8) := by kernel_rfl)
    (hx : opd s x = some (.osl b 1 0 len) := by first | exact rfl | simp) (hb : box s.σ b = some cs := by first | exact rfl | simp) (hi : cs.all PV.immB = true := by simp) (hk : s.k ≤ b := by simp)
    (hx2 : opd (s.fz b cs) x = some (.sl 1 (chunks 1 cs len)) := by simp) (hw : wantedA s ops o = some true := by simp) (hd : dstOk o.dst s.N = true := by first | exact rfl | simp) : OpsOk P ops (o :: rest) s Q :=
  ops_step hw fun c ι S a w hr K QQ hK => by
    have hv := opd_rel hr hx
    generalize hev : a.eval x = v at hv
    cases hv with
    | imm hi => cases hi
    | osl0 _ => omega
    | osl hbn hlc hcm hib hsh hle =>
      rename_i cap blk e2 m
      obtain ⟨b1, C, e1, hb1, k1, _, hcs⟩ := hr.st.cellsE hb hib hsh
      rw [hb1] at hib
      obtain rfl : b1 = blk := Option.some.inj hib
      have hlive := hr.st.live b cs b1 hb hb1
      obtain ⟨ι', S', hr'⟩ := ent_fz b cs hb hi hk c ι S a w hr
      have hv2 := opd_rel hr' hx2
      rw [hev] at hv2
      have hS1 : S' b1 := by
        have hI := hv2.immI rfl
        cases hI with
        | sl g i1 i2 i3 i4 i5 i6 i7 i8 =>
          obtain ⟨b', o', e', hS', _⟩ := i7 hl
          simp at e'
          rw [e'.1]; exact hS'
      obtain ⟨hst, hm⟩ := hr'.st.marked k1 hS1 hlive
      have hshp : w.shape? b1 = some (e1, C.size) := by simp [World.shape?, k1]
      have hfr : w.freeze ⟨b1, C.size, none⟩ 1 = World.marked w b1 C e1 := by
        unfold World.freeze World.marked
        rw [if_neg (by decide)]
        congr 1
        apply Array.ext
        · simp
        · intro i h1 h2
          simp only [Array.getElem_modify, Array.getElem_setIfInBounds]
          by_cases hbi : b1 = i
          · subst hbi
            have : w.heap[b1]'(by simpa using h1) = .cells C e1 (0, 0) := by
              have := Array.getElem?_eq_some_iff.1 k1
              exact this.2
            simp [this]
          · simp [hbi]; rw [Array.getElem_setIfInBounds (by simpa using h1)]; simp [hbi]
      have hrun : (convert t t (.slice (some ⟨b1, 0, none⟩) len cap)).run P w = .ok (.slice (some ⟨b1, 0, none⟩) len cap) (World.marked w b1 C e1) := by
        simp [convert, run_underlying ht, run_underlying he, markStringish, hshp, hfr]
      have : (execOp a.eval o).run P w = .ok (.value (.slice (some ⟨b1, 0, none⟩) len cap)) (World.marked w b1 C e1) := by
        unfold execOp
        simp only [ho, hev, Sem.run_bind, hrun, Result.andThen_ok, Sem.run_pure]
      refine wpIn_val this ?_
      have hd2 : dstOk o.dst (s.fz b cs).N = true := hd
      exact hK ι' S' _ _ _ (Rel.next hr' hst (fun v p hv => hm _ _ _ hv) hd2 (hm _ _ _ hv2)) (ops_goH h)
end Go.Proofs.Ytemlkbcfplkniaa.Am
