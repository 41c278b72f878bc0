/- The machine of values: lists of operations. -/
import Derived.Test.YtmkgechjbbekmaaAm9
set_option linter.unusedVariables false
set_option linter.unusedSimpArgs false
namespace Go.Proofs.Ytmkgechjbbekmaa.Am
open Go Go.RowKit

def St.put (s : St) (d : Option Tmp) (p : PV) : St :=
  match d with
  | some d => { s with T := (d, p) :: s.T }
  | none => s

def dstOk (d : Option Tmp) (N : Nat) : Bool := match d with | some d => decide (d < N) | none => true

def partsPV (s : St) (parts : List (Nat × Operand)) : Option (List (Nat × PV)) := parts.mapM fun x => (opd s x.2).map fun p => (x.1, p)

def memVal (P : Program) (s : St) : Op → Option (Boxes × PV)
  | .alloc t => match zeroOf P t with | some zs => if zs.all scal = true then some (s.σ ++ [some (zs.map .k)], .ptr s.σ.length 0) else none | none => none
  | .box _ x => match opd s x with | some p => if p.isTup = false then some (s.σ ++ [some (pcells p)], .ptr s.σ.length 0) else none | none => none
  | .build t parts => match partsPV s parts.toList with | some ps => (buildPV P t ps).map fun p => (s.σ, p) | none => none
  | .buildSlice t len parts =>
    match elemOf P t, partsPV s parts.toList with
    | some e, some ps =>
      match szOf P e, zeroOf P e with
      | some z, some zs =>
        if zs.all scal = true ∧ zs.length = z ∧ len * z ≤ 16777216 ∧ len ≤ 16777216 then
          (fillPV (fun i => some (i * z, z)) (List.replicate len (zs.map .k)).flatten ps).map fun cs => (s.σ ++ [some cs], .osl s.σ.length z 0 len)
        else none
      | _, _ => none
    | _, _ => none
  | .makeSlice t l cp =>
    match elemOf P t, opdI s l, opdI s cp with
    | some e, some n, some m =>
      match szOf P e, zeroOf P e, bytesOf P e with
      | some z, some zs, some by_ =>
        if zs.all scal = true ∧ zs.length = z ∧ n = m ∧ 0 ≤ n ∧ by_ * n ≤ 281474976710656 ∧ n ≤ 9223372036854775807 then
          some (s.σ ++ [some (List.replicate n.toNat (zs.map .k)).flatten], .osl s.σ.length z 0 n.toNat) else none
      | _, _, _ => none
    | _, _, _ => none
  | .call { callee := .builtin .append, args, argTypes } =>
    match args.toList, argTypes.toList with
    | [x, y], [t, t2] => match opd s x, opd s y with
      | some p, some q => appendPV P s.σ t t2 p q
      | _, _ => none
    | _, _ => none
  | _ => none

def storeVal (P : Program) (s : St) : Op → Option Boxes
  | .store t ad x =>
    match szOf P t, opd s ad, opd s x with
    | some z, some (.ptr b off), some p =>
      match box s.σ b with
      | some cs => if p.isTup = false ∧ (pcells p).length = z ∧ off + z ≤ cs.length then some (s.σ.set b (some (splice cs off (pcells p)))) else none
      | none => none
    | _, _, _ => none
  | _ => none

section
variable {P : Program} {c : Ctx} {ι : Nat → Option Nat} {S : Nat → Prop} {s : St} {a : Act} {w : World} {n : Nat} {σ : Boxes}

theorem Rel.next (hr : Rel c ι S s a w) {ι' : Nat → Option Nat} {S' : Nat → Prop} {σ' : Boxes} {w' : World} (hs : Store c ι' S' σ' w') (hm : ∀ v p, VRel s.σ.length ι S w v p → VRel σ'.length ι' S' w' v p)
    {dst : Option Tmp} (hd : dstOk dst s.N = true) {v : Value} {p : PV} (hv : VRel σ'.length ι' S' w' v p) : Rel c ι' S' (St.put { s with σ := σ' } dst p) (a.put dst v) w' := by
  cases dst with
  | none => exact ⟨hs, hr.ck, hr.tsz, hr.defers, fun t p' h => hm _ _ (hr.temps t p' h)⟩
  | some d =>
    simp [dstOk] at hd
    refine ⟨hs, hr.ck, by simp [Act.put, hr.tsz, St.put], hr.defers, fun t p' h => ?_⟩
    simp only [St.put, look] at h
    by_cases e : t = d
    · subst e
      simp at h; subst h
      have : t < a.tmps.size := by rw [hr.tsz]; exact hd
      simp only [Act.put, Array.getD_eq_getD_getElem?, Array.getElem?_setIfInBounds_self_of_lt this, Option.getD_some]
      exact hv
    · rw [if_neg e] at h
      have := hm _ _ (hr.temps t p' h)
      simp only [Act.put, Array.getD_eq_getD_getElem?] at this ⊢
      rw [Array.getElem?_setIfInBounds_ne (fun h => e h.symm)]
      exact this

theorem Rel.skip (hr : Rel c ι S s a w) {dst : Option Tmp} (hd : dstOk dst s.N = true) : Rel c ι S (s.put dst (.tup [])) (a.put dst undef) w :=
  Rel.next hr hr.st (fun _ _ h => h) hd (.imm (IRel.und _ _))

theorem parts_rel (hr : Rel c ι S s a w) : ∀ {l : List (Nat × Operand)} {ps : List (Nat × PV)}, partsPV s l = some ps →
    ps.length = (l.map fun x => (x.1, a.eval x.2)).length ∧ ∀ (j i : Nat) (p : PV), ps[j]? = some (i, p) → ∃ v, (l.map fun x => (x.1, a.eval x.2))[j]? = some (i, v) ∧ VRel s.σ.length ι S w v p
  | [], ps, h => by simp [partsPV] at h; subst h; simp
  | x :: l, ps, h => by
    simp only [partsPV, List.mapM_cons, Option.bind_eq_bind, Option.bind_eq_some_iff, Option.map_eq_some_iff] at h
    obtain ⟨_, ⟨p, hp, rfl⟩, ps', hps, h⟩ := h
    simp at h; subst h
    obtain ⟨h1, h2⟩ := parts_rel hr (l := l) (ps := ps') hps
    refine ⟨by simpa using h1, fun j i q hj => ?_⟩
    cases j with
    | zero => simp at hj; obtain ⟨rfl, rfl⟩ := hj; exact ⟨_, rfl, opd_rel hr hp⟩
    | succ j => simp at hj ⊢; simpa using h2 j i q hj

theorem made_seg (zv : Value) (zs : List Value) (hz : zv.cells.toList = zs) (hsc : zs.all scal = true) (m : Nat) :
    Seg n ι S w ((Array.range (m * zs.length)).map (zv.cells[· % zv.cells.size]!)).toList (List.replicate m (zs.map PV.k)).flatten := by
  have hall : ∀ r ∈ List.replicate m (zs.map PV.k), r.length = zs.length := fun r hr => by rw [List.eq_of_mem_replicate hr]; simp
  have hfl : (List.replicate m (zs.map PV.k)).flatten.length = m * zs.length := by rw [flatten_len (sz := zs.length) _ hall]; simp
  have hsz : zv.cells.size = zs.length := by rw [← hz]; simp
  refine ⟨by rw [hfl]; simp, fun p hp => ?_, fun j p hj => ?_⟩
  · obtain ⟨r, hr, hpr⟩ := List.mem_flatten.1 hp
    rw [List.eq_of_mem_replicate hr] at hpr
    simp at hpr; obtain ⟨v, _, rfl⟩ := hpr; rfl
  · have hj' := (List.getElem?_eq_some_iff.1 hj).1
    rw [hfl] at hj'
    have hz0 : 0 < zs.length := Nat.pos_of_ne_zero (fun e => by simp [e] at hj')
    have hq : j / zs.length < m := Nat.div_lt_of_lt_mul (by rw [Nat.mul_comm]; exact hj')
    have hm := Nat.mod_lt j hz0
    have e : j = (j / zs.length) * zs.length + j % zs.length := by rw [Nat.mul_comm]; exact (Nat.div_add_mod j zs.length).symm
    rw [e, flatten_at (sz := zs.length) (j / zs.length) _ hall (zs.map .k) (by simp [hq]) _ hm] at hj
    simp only [List.getElem?_map, Option.map_eq_some_iff] at hj
    obtain ⟨v, hv, rfl⟩ := hj
    refine ⟨v, ?_, kVR (List.all_eq_true.1 hsc v (List.mem_of_getElem? hv))⟩
    simp only [Array.toList_map, List.getElem?_map, Array.getElem?_toList, Array.getElem?_range, hj', if_true, Option.map_some, hsz]
    congr 1
    have : zv.cells[j % zs.length]? = some v := by rw [← Array.getElem?_toList, hz]; exact hv
    rw [getElem!_def, this]

theorem fillPV_len (place : Nat → Option (Nat × Nat)) : ∀ (parts : List (Nat × PV)) (cs cs' : List PV), fillPV place cs parts = some cs' → cs'.length = cs.length
  | [], cs, cs', h => by simp [fillPV] at h; rw [h]
  | (i, p) :: rest, cs, cs', h => by
    simp only [fillPV] at h
    split at h
    · simp at h
    · split at h
      · rename_i hc
        rw [fillPV_len place rest _ _ h, splice_length _ _ _ (by omega)]
      · simp at h

theorem appendCore_len {t t2 : TypeId} {p q r : PV} {σ' : Boxes} (h : appendCore P σ t t2 p q = some (σ', r)) : σ.length ≤ σ'.length := by
  unfold appendCore at h
  repeat' (split at h)
  all_goals first
    | (simp at h; done)
    | (simp at h; obtain ⟨rfl, _⟩ := h; simp)
theorem appendPV_len {t t2 : TypeId} {p q r : PV} {σ' : Boxes} (h : appendPV P σ t t2 p q = some (σ', r)) : σ.length ≤ σ'.length := by
  unfold appendPV at h
  split at h
  · split at h
    · split at h
      · have := appendCore_len h; simp at this; omega
      · simp at h
    · simp at h
  · exact appendCore_len h

theorem mem_rel (hr : Rel c ι S s a w) {o : Oper} {σ' : Boxes} {p : PV} (h : memVal P s o.op = some (σ', p)) :
    ∃ v w' ι', (execOp a.eval o).run P w = .ok (.value v) w' ∧ Store c ι' S σ' w' ∧ (∀ v p, VRel s.σ.length ι S w v p → VRel σ'.length ι' S w' v p) ∧ VRel σ'.length ι' S w' v p ∧ ∀ b, b < s.σ.length → ι' b = ι b := by
  have wide : ∀ {ι' : Nat → Option Nat} {w' : World} {x : Option (List PV)} {v : Value} {p : PV}, VRel s.σ.length ι' S w' v p → VRel (s.σ ++ [x]).length ι' S w' v p := fun h =>
    h.mono (by simp) (fun _ _ => rfl) (fun _ h => h) (fun _ _ _ => rfl) (fun _ _ h => h)
  have newbox : ∀ {vs : Array Value} {ps : List PV} (e : TypeId), Seg s.σ.length ι S w vs.toList ps → Store c (upd ι s.σ.length (some w.heap.size)) S (s.σ ++ [some ps]) (w.alloc (.cells vs e)) ∧
      (∀ v p, VRel s.σ.length ι S w v p → VRel (s.σ ++ [some ps]).length (upd ι s.σ.length (some w.heap.size)) S (w.alloc (.cells vs e)) v p) ∧
      VRel (s.σ ++ [some ps]).length (upd ι s.σ.length (some w.heap.size)) S (w.alloc (.cells vs e)) (.pointer (some ⟨w.heap.size, 0, none⟩)) (.ptr s.σ.length 0) ∧
      ∀ (z m : Nat), m * z = ps.length → m ≤ maxLen → VRel (s.σ ++ [some ps]).length (upd ι s.σ.length (some w.heap.size)) S (w.alloc (.cells vs e)) (.slice (some ⟨w.heap.size, 0, none⟩) m m) (.osl s.σ.length z 0 m) := fun {vs} {ps} e hseg => by
    obtain ⟨h1, h2⟩ := new_rel (s := s) hr.st hseg e
    refine ⟨h1, fun v p hv => wide (h2 _ v p (Nat.le_refl _) hv), .ptr (by simp) (by simp [upd]), fun z m hm hml => .osl (blk := w.heap.size) (e := e) (m := vs.size) (by simp) (Nat.le_refl _) hml (by simp [upd]) ?_ ?_⟩
    · have := heap_alloc_new w (Obj.cells vs e)
      simp only [World.shape?, this]
    · have := hseg.len; simp at this; omega
  unfold memVal at h
  unfold execOp
  split at h
  · rename_i t hop
    simp only [hop]
    split at h
    · rename_i zs hz
      split at h
      · rename_i hsc
        simp at h; obtain ⟨rfl, rfl⟩ := h
        obtain ⟨it, z, hi, hzv, rfl⟩ := zeroOf_some hz
        obtain ⟨h1, h2, h3, _⟩ := newbox (vs := z.cells) t (Seg.ks _ hsc)
        exact ⟨_, _, _, by simp [Instr.alloc, zeroValue, typeInfo, hi, hzv, newVar, newRow], h1, h2, h3, fun b hb => by simp [upd]; omega⟩
      · simp at h
    · simp at h
  · rename_i t x hop
    simp only [hop]
    split at h
    · rename_i q hx
      split at h
      · rename_i ht
        simp at h; obtain ⟨rfl, rfl⟩ := h
        obtain ⟨h1, h2, h3, _⟩ := newbox (vs := (a.eval x).cells) t (pcells_rel (opd_rel hr hx) ht)
        exact ⟨_, _, _, by simp [Instr.box, newVar, newRow], h1, h2, h3, fun b hb => by simp [upd]; omega⟩
      · simp at h
    · simp at h
  · rename_i t parts hop
    simp only [hop]
    split at h
    · rename_i ps hps
      simp only [Option.map_eq_some_iff] at h
      obtain ⟨q, hq, h⟩ := h
      simp at h; obtain ⟨rfl, rfl⟩ := h
      obtain ⟨h1, h2⟩ := parts_rel hr hps
      obtain ⟨v, hv, hp⟩ := build_rel (w := w) (vparts := (Array.map (fun x : Nat × Operand => (x.1, a.eval x.2)) parts)) (by rw [h1, Array.toList_map]) (by rw [Array.toList_map]; exact h2) hq
      exact ⟨v, w, ι, by simp only [Sem.run_bind, hv, Result.andThen_ok, Sem.run_pure], hr.st, fun _ _ h => h, hp, fun _ _ => rfl⟩
    · simp at h
  · rename_i t len parts hop
    simp only [hop]
    split at h
    · rename_i e ps he hps
      split at h
      · rename_i z zs hz hzs
        split at h
        · rename_i hc
          obtain ⟨c1, c2, c3, c4⟩ := hc
          simp only [Option.map_eq_some_iff] at h
          obtain ⟨cs, hf, h⟩ := h
          simp at h; obtain ⟨rfl, rfl⟩ := h
          obtain ⟨it, zv, hi, hzv, rfl⟩ := zeroOf_some hzs
          have hisz : it.size = z := by simpa [szOf, hi] using hz
          subst hisz
          obtain ⟨h1, h2⟩ := parts_rel hr hps
          have hseg := made_seg (n := s.σ.length) (ι := ι) (S := S) (w := w) zv _ rfl c1 len
          rw [c2] at hseg
          have hlen0 : (List.replicate len (zv.cells.toList.map PV.k)).flatten.length = len * it.size := by
            have := hseg.len; rw [← this]; simp
          have hcl : cs.length = len * it.size := by rw [fillPV_len _ _ _ _ hf, hlen0]
          obtain ⟨cs', hfill, hseg'⟩ := fill_rel (n := s.σ.length) (ι := ι) (S := S) (w := w) (fun i => some (i * it.size, it.size)) ps (parts.toList.map fun x => (x.1, a.eval x.2)) _ _ cs h1 h2 hseg hf
          obtain ⟨k1, k2, _, k4⟩ := newbox e hseg'
          have hlm : len ≤ maxLen := by simp only [maxLen]; omega
          rcases Nat.eq_zero_or_pos (len * it.size) with h0 | h0
          · have hfill' : Instr.fill (fun i => some (i * it.size, it.size)) #[] (parts.toList.map fun x => (x.1, a.eval x.2)) = some cs' := by
              rw [← hfill, h0]; simp [Array.range_zero']
            refine ⟨_, _, _, ?_, k1, k2, k4 it.size len hcl.symm hlm, fun b hb => by simp [upd]; omega⟩
            have hfill2 : Instr.fill (fun i => some (i * it.size, it.size)) #[] (Array.map (fun x : Nat × Operand => (x.1, a.eval x.2)) parts).toList = some cs' := by rw [Array.toList_map]; exact hfill'
            have hb : (Instr.buildSlice t len (Array.map (fun x : Nat × Operand => (x.1, a.eval x.2)) parts)).run P w = .ok (.slice (some ⟨w.heap.size, 0, none⟩) len len) (w.alloc (.cells cs' e)) := by
              simp only [Instr.buildSlice, Sem.run_bind, run_underlying (und_elemOf he), Result.andThen_ok, run_szOf w hz, h0]
              simp only [show ¬ (0 > 2 ^ 24) by decide, if_false, if_true, Sem.run_bind, Sem.run_pure, Result.andThen_ok, Array.range_zero', Array.map_empty, hfill2]
              simp [newRow]
            simp only [Sem.run_bind, hb, Result.andThen_ok, Sem.run_pure]
          · have hrun := run_buildSlice w t e len (Array.map (fun x : Nat × Operand => (x.1, a.eval x.2)) parts) cs' it zv (und_elemOf he) hi hzv (by omega) (by omega) (by rw [Array.toList_map]; exact hfill)
            exact ⟨_, _, _, by simp only [Sem.run_bind, hrun, Result.andThen_ok, Sem.run_pure], k1, k2, k4 it.size len hcl.symm hlm, fun b hb => by simp [upd]; omega⟩
        · simp at h
      · simp at h
    · simp at h
  · rename_i t l cp hop
    simp only [hop]
    split at h
    · rename_i e m m' he hl hcp
      split at h
      · rename_i z zs by_ hz hzs hby
        split at h
        · rename_i hc
          obtain ⟨c1, c2, rfl, c4, c5, c6⟩ := hc
          simp at h; obtain ⟨rfl, rfl⟩ := h
          obtain ⟨it, zv, hi, hzv, rfl⟩ := zeroOf_some hzs
          have hisz : it.size = z := by simpa [szOf, hi] using hz
          have hiby : it.bytes = by_ := by simpa [bytesOf, hi] using hby
          subst hisz; subst hiby
          obtain ⟨k1, hk1⟩ := opdI_rel hr hl
          obtain ⟨k2, hk2⟩ := opdI_rel hr hcp
          have hrun := run_make (P := P) w t e it zv (und_elemOf he) hi hzv k1 k2 m m c4 (Int.le_refl _) c5 c6
          have hseg := made_seg (n := s.σ.length) (ι := ι) (S := S) (w := w) zv _ rfl c1 m.toNat
          rw [c2] at hseg
          obtain ⟨g1, g2, _, g4⟩ := newbox e hseg
          have hlen0 : (List.replicate m.toNat (zv.cells.toList.map PV.k)).flatten.length = m.toNat * it.size := by
            have := hseg.len; rw [← this]; simp
          exact ⟨_, _, _, by simp only [hk1, hk2, Sem.run_bind, hrun, Result.andThen_ok, Sem.run_pure, madeCells], g1, g2, g4 it.size m.toNat hlen0.symm (by simp only [maxLen]; omega), fun b hb => by simp [upd]; omega⟩
        · simp at h
      · simp at h
    · simp at h
  · rename_i args ts hop
    simp only [hop]
    split at h
    · rename_i x y t t2 hargs hts
      split at h
      · rename_i p' q' hx hy
        obtain ⟨v, w', ι', hrun, h1, h2, h3, h4⟩ := append_rel (ty := o.type) hr.st (opd_rel hr hx) (opd_rel hr hy) h
        have hts' : ts = #[t, t2] := Array.ext' (by simpa using hts)
        have hargs' : args.map a.eval = #[a.eval x, a.eval y] := Array.ext' (by simp [hargs])
        have hlen : s.σ.length ≤ σ'.length := appendPV_len h
        refine ⟨v, w', ι', by simp only [resolve, Sem.run_bind, Sem.run_pure, Result.andThen_ok, invoke, builtin, hts', hargs', hrun], h1, fun v p hv => (h2 _ v p (Nat.le_refl _) hv).mono hlen (fun _ _ => rfl) (fun _ h => h) (fun _ _ _ => rfl) (fun _ _ h => h), h3, h4⟩
      · simp at h
    · simp at h
  · simp at h

end

end Go.Proofs.Ytmkgechjbbekmaa.Am
