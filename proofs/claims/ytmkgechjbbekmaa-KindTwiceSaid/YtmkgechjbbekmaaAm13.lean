/- The machine of values: calls. -/
import Derived.Test.YtmkgechjbbekmaaAm12
set_option linter.unusedVariables false
set_option linter.unusedSimpArgs false
namespace Go.Proofs.Ytmkgechjbbekmaa.Am
open Go Go.RowKit

def calleePV (s : St) (f : Operand) : Option (FuncId × List PV) :=
  match opd s f with
  | some (.k (.func (.func g) _ _)) => some (g, [])
  | some (.clo (.func g) caps) => some (g, caps)
  | _ => none

/-- From the callee's numbers to the caller's. -/
def thF (th : List Nat) (n : Nat) : Nat → Nat := fun i => if i < th.length then th.getD i 0 else n + (i - th.length)

def setAll (σ : Boxes) (θ : Nat → Nat) : List Nat → Boxes → Boxes
  | [], _ => σ
  | t :: th, x :: xs => setAll (σ.set t (x.map (renL θ))) θ th xs
  | _ :: _, [] => σ

def merge (σ : Boxes) (th : List Nat) (σ' : Boxes) : Boxes :=
  setAll σ (thF th σ.length) th σ' ++ (σ'.drop th.length).map fun x => x.map (renL (thF th σ.length))

theorem setAll_length (θ : Nat → Nat) : ∀ (th : List Nat) (xs σ : Boxes), (setAll σ θ th xs).length = σ.length
  | [], _, _ => by simp [setAll]
  | _ :: _, [], _ => by simp [setAll]
  | t :: th, x :: xs, σ => by rw [setAll, setAll_length θ th xs]; simp

theorem box_setAll (θ : Nat → Nat) : ∀ (th : List Nat) (xs σ : Boxes) (i : Nat), th.Nodup → (∀ t ∈ th, t < σ.length) → th.length ≤ xs.length →
    (∀ j, th[j]? = some i → box (setAll σ θ th xs) i = (box xs j).map (renL θ)) ∧ (i ∉ th → box (setAll σ θ th xs) i = box σ i)
  | [], xs, σ, i, _, _, _ => ⟨fun j h => by simp at h, fun _ => by simp [setAll]⟩
  | t :: th, [], σ, i, _, _, h => by simp at h
  | t :: th, x :: xs, σ, i, hn, hl, h => by
    have hn2 := List.nodup_cons.1 hn
    have ih := box_setAll θ th xs (σ.set t (x.map (renL θ))) i hn2.2 (fun t' ht' => by rw [List.length_set]; exact hl t' (by simp [ht'])) (by simpa using h)
    refine ⟨fun j hj => ?_, fun hi => ?_⟩
    · cases j with
      | zero =>
        simp at hj; subst hj
        rw [setAll, ih.2 hn2.1, box_set (hl t (by simp)), if_pos rfl]
        simp [box]
      | succ j =>
        simp at hj
        rw [setAll, ih.1 j hj]
        simp [box]
    · simp at hi
      rw [setAll, ih.2 hi.2, box_set (hl t (by simp)), if_neg hi.1]

theorem nodup_inj : ∀ (th : List Nat), th.Nodup → ∀ (i j t : Nat), th[i]? = some t → th[j]? = some t → i = j
  | [], _, i, j, t, h, _ => by simp at h
  | x :: th, hn, i, j, t, hi, hj => by
    have h2 := List.nodup_cons.1 hn
    cases i <;> cases j
    · rfl
    · simp at hi hj; subst hi; exact absurd (List.mem_of_getElem? hj) h2.1
    · simp at hi hj; subst hj; exact absurd (List.mem_of_getElem? hi) h2.1
    · simp at hi hj; rw [nodup_inj th h2.2 _ _ t hi hj]

theorem box_drop {σ : Boxes} {k i : Nat} : box (σ.drop k) i = box σ (k + i) := by simp [box, List.getElem?_drop]
theorem box_map {σ : Boxes} {f : List PV → List PV} {i : Nat} : box (σ.map fun x => x.map f) i = (box σ i).map f := by
  simp only [box, List.getElem?_map]
  cases σ[i]? with
  | none => rfl
  | some x => cases x <;> rfl
theorem box_append {σ τ : Boxes} {i : Nat} : box (σ ++ τ) i = if i < σ.length then box σ i else box τ (i - σ.length) := by
  unfold box
  split
  · rename_i h; rw [List.getElem?_append_left h]
  · rename_i h; rw [List.getElem?_append_right (by omega)]
theorem box_some {σ : List (List PV)} {i : Nat} {cs : List PV} : box (σ.map some) i = some cs ↔ σ[i]? = some cs := by
  simp only [box, List.getElem?_map]
  cases σ[i]? <;> simp

section
variable {P : Program} {c : Ctx} {ι : Nat → Option Nat} {S : Nat → Prop} {s : St} {a : Act} {w : World}

theorem callee_rel (hr : Rel c ι S s a w) {f : Operand} {g : FuncId} {caps : List PV} (h : calleePV s f = some (g, caps)) :
    ∃ vs : Array Value, a.eval f = .func (.func g) #[] vs ∧ vs.size = caps.length ∧ ∀ (j : Nat) (p : PV), caps[j]? = some p → ∃ v, vs[j]? = some v ∧ VRel s.σ.length ι S w v p := by
  have get : ∀ (vs : Array Value), vs.size = caps.length → (∀ (j : Nat) (p : PV), caps[j]? = some p → VRel s.σ.length ι S w (vs.getD j undef) p) → ∀ (j : Nat) (p : PV), caps[j]? = some p → ∃ v, vs[j]? = some v ∧ VRel s.σ.length ι S w v p :=
    fun vs hsz hh j p hj => by
      have hlt := (List.getElem?_eq_some_iff.1 hj).1
      have h2 := hh j p hj
      have : j < vs.size := by omega
      rw [Array.getD_eq_getD_getElem?] at h2
      simp [this] at h2
      exact ⟨_, Array.getElem?_eq_getElem this, h2⟩
  unfold calleePV at h
  split at h
  · rename_i g' fs cs hx
    simp at h; obtain ⟨rfl, rfl⟩ := h
    obtain ⟨hv, hs⟩ := (opd_rel hr hx).k_inv
    simp [scal] at hs
    obtain ⟨rfl, rfl⟩ := hs
    exact ⟨#[], hv, rfl, by simp⟩
  · rename_i g' caps' hx
    simp at h; obtain ⟨rfl, rfl⟩ := h
    have hh := opd_rel hr hx
    generalize a.eval f = x at hh ⊢
    cases hh with
    | imm hh => cases hh with
      | clo h1 h2 h3 => exact ⟨_, rfl, h1, get _ h1 fun j p hj => .imm (h3 j p hj)⟩
    | clo h1 h2 h3 => exact ⟨_, rfl, h1, get _ h1 h3⟩
  · simp at h

theorem exec_call {o : Oper} {f : Operand} {args : Array Operand} {ts : Array TypeId} (ho : o.op = .call { callee := .value f, args := args, argTypes := ts }) {g : FuncId} {vs : Array Value}
    (hf : a.eval f = .func (.func g) #[] vs) (he : enterable P g = true) : (execOp a.eval o).run P w = .ok (.enter g (args.map a.eval ++ vs)) w := by
  unfold enterable at he
  split at he
  · rename_i fn hfn
    simp at he
    have hb : fn.body.isNone = false := by cases h : fn.body <;> simp_all
    unfold execOp
    simp only [ho, Sem.run_bind, resolve, hf, Deferred.ofValue, Sem.run_pure, Result.andThen_ok, invoke, callFunc, run_program, hfn, hb]
    simp [he.1]
  · simp at he

/-- What a call leaves in the caller. -/
theorem call_back (hr : Rel c ι S s a w) {th : List Nat} {σc : List (List PV)} (hl : th.length = σc.length) (hnd : th.Nodup)
    (hbox : ∀ (i t : Nat) (cs : List PV), th[i]? = some t → σc[i]? = some cs → box s.σ t = some (renL (thF th s.σ.length) cs))
    {w' : World} {ι' : Nat → Option Nat} {S' : Nat → Prop} {σ' : Boxes}
    (hst : Store (cx w (fun i => ι (thF th s.σ.length i)) S th.length) ι' S' σ' w') :
    ∃ ιn, Store c ιn S' (merge s.σ th σ') w' ∧ (∀ v p, VRel s.σ.length ι S w v p → VRel (merge s.σ th σ').length ιn S' w' v p) ∧
      (∀ v p, VRel σ'.length ι' S' w' v p → VRel (merge s.σ th σ').length ιn S' w' v (p.ren (thF th s.σ.length))) ∧ ∀ b, b < s.σ.length → ιn b = ι b := by
  have hσ := hr.st
  have hk : th.length ≤ σ'.length := hst.klen
  let θ := thF th s.σ.length
  let n := s.σ.length
  have hth : ∀ i, i < th.length → θ i = th.getD i 0 := fun i hi => by simp [θ, thF, hi]
  have hlive : ∀ i, i < th.length → ∃ cs, box s.σ (θ i) = some cs := fun i hi => by
    have hi' : i < σc.length := by omega
    have := hbox i (th.getD i 0) σc[i] (by simp [List.getElem?_eq_getElem hi]) (List.getElem?_eq_getElem hi')
    rw [hth i hi]; exact ⟨_, this⟩
  have htlt : ∀ t ∈ th, t < s.σ.length := fun t ht => by
    obtain ⟨i, hi, rfl⟩ := List.getElem_of_mem ht
    obtain ⟨cs, hcs⟩ := hlive i hi
    rw [hth i hi] at hcs
    simp [List.getElem?_eq_getElem hi] at hcs
    exact box_lt hcs
  have hmlen : (merge s.σ th σ').length = n + (σ'.length - th.length) := by
    simp [merge, setAll_length, n]
  let ιn : Nat → Option Nat := fun i => if i < n then ι i else ι' (th.length + (i - n))
  have hιn : ∀ b, b < σ'.length → θ b < (merge s.σ th σ').length ∧ ιn (θ b) = ι' b := fun b hb => by
    rw [hmlen]
    by_cases hbt : b < th.length
    · have h1 : θ b < n := by obtain ⟨cs, hcs⟩ := hlive b hbt; exact box_lt hcs
      refine ⟨by omega, ?_⟩
      simp only [ιn, if_pos h1]
      rw [hst.kι b hbt]
      rfl
    · have h1 : θ b = n + (b - th.length) := by simp [θ, thF, hbt, n]
      refine ⟨by omega, ?_⟩
      simp only [ιn]
      rw [if_neg (by omega), h1]
      congr 1; omega
  -- what the callee may have written
  have hM : ∀ b, (∃ i, i < th.length ∧ ι (θ i) = some b) → c.M b ∨ c.w0.heap.size ≤ b := fun b ⟨i, hi, hb⟩ => by
    obtain ⟨cs, hcs⟩ := hlive i hi
    exact hσ.live _ _ _ hcs hb
  have hMS : ∀ b, (∃ i, i < th.length ∧ ι (θ i) = some b) → ¬ S b := fun b ⟨i, hi, hb⟩ => by
    obtain ⟨cs, hcs⟩ := hlive i hi
    exact hσ.notS _ _ _ hcs hb
  have hold : ∀ b, b < w.heap.size → ¬ (∃ i, i < th.length ∧ ι (θ i) = some b) → w'.heap[b]? = w.heap[b]? := fun b hb hm => hst.old b hb hm
  have hold' : ∀ b, S b → w'.heap[b]? = w.heap[b]? := fun b hb => hold b (hσ.Slt b hb) (fun hm => hMS b hm hb)
  have hv0 : ∀ v p, VRel s.σ.length ι S w v p → VRel (merge s.σ th σ').length ιn S' w' v p := fun v p hh =>
    hh.mono (by rw [hmlen]; omega) (fun b hb => by simp [ιn, n, hb]) hst.S0 (fun b o hb => World.cell?_of_block (hold' b hb)) (fun b x hx => hst.shape b x hx)
  have hv1 : ∀ v p, VRel σ'.length ι' S' w' v p → VRel (merge s.σ th σ').length ιn S' w' v (p.ren θ) := fun v p hh => hh.ren hιn
  -- the caller's boxes: one that the callee did not have, or one of the callee's
  have hcase : ∀ i ci, box (merge s.σ th σ') i = some ci → (i < n ∧ i ∉ th ∧ box s.σ i = some ci) ∨ ∃ j cj, j < σ'.length ∧ θ j = i ∧ box σ' j = some cj ∧ ci = renL θ cj := fun i ci hi => by
    unfold merge at hi
    rw [box_append, setAll_length] at hi
    split at hi
    · rename_i hin
      by_cases hm : i ∈ th
      · obtain ⟨j, hj, hjt⟩ := List.getElem_of_mem hm
        have hb := (box_setAll (thF th s.σ.length) th σ' s.σ i hnd htlt hk).1 j (by rw [List.getElem?_eq_getElem hj, hjt])
        rw [hb] at hi
        simp only [Option.map_eq_some_iff] at hi
        obtain ⟨cj, hcj, rfl⟩ := hi
        refine .inr ⟨j, cj, by omega, ?_, hcj, rfl⟩
        rw [hth j hj]; simp [List.getElem?_eq_getElem hj, hjt]
      · have hb := (box_setAll (thF th s.σ.length) th σ' s.σ i hnd htlt hk).2 hm
        rw [hb] at hi
        exact .inl ⟨hin, hm, hi⟩
    · rename_i hin
      rw [box_map, box_drop] at hi
      simp only [Option.map_eq_some_iff] at hi
      obtain ⟨cj, hcj, rfl⟩ := hi
      refine .inr ⟨th.length + (i - s.σ.length), cj, box_lt hcj, ?_, hcj, rfl⟩
      simp only [θ, thF]
      rw [if_neg (by omega)]; omega
  have hnotin : ∀ i ci blk, i < n → i ∉ th → box s.σ i = some ci → ι i = some blk → ¬ ∃ j, j < th.length ∧ ι (θ j) = some blk := fun i ci blk hin hm hi hb ⟨j, hj, hjb⟩ => by
    obtain ⟨cs, hcs⟩ := hlive j hj
    have := hσ.inj i (θ j) ci cs blk hi hcs hb hjb
    subst this
    rw [hth j hj] at hm
    exact hm (by simp [List.getElem?_eq_getElem hj])
  have hblt : ∀ i ci blk, box s.σ i = some ci → ι i = some blk → blk < w.heap.size := fun i ci blk hi hb => by
    rcases hσ.boxes i ci hi with ⟨h', _⟩ | ⟨blk', c', e', hb', g1, _⟩
    · rw [h'] at hb; simp at hb
    · rw [hb'] at hb; simp at hb; subst hb; exact (Array.getElem?_eq_some_iff.1 g1).1
  have hιlt : ∀ i, i < n → ιn i = ι i := fun i hi => by simp [ιn, hi]
  refine ⟨ιn, ⟨hst.os.trans hσ.os, hst.tape.trans hσ.tape, hst.output.trans hσ.output, Nat.le_trans hσ.size hst.size, fun b hb hbM => ?_, fun b x hx => hst.shape b x (hσ.shape b x hx), ?_, ?_, ?_, ?_, hst.Slt, fun b hb => hst.S0 b (hσ.S0 b hb), fun b hb => ?_, ?_, fun i hi => ?_⟩, hv0, hv1, hιlt⟩
  · rw [hold b (by have := hσ.size; omega) (fun hm => by rcases hM b hm with h1 | h1; exact hbM h1; omega)]
    exact hσ.old b hb hbM
  · intro i ci hi
    rcases hcase i ci hi with ⟨hin, hm, hb⟩ | ⟨j, cj, hj, rfl, hb, rfl⟩
    · rcases hσ.boxes i ci hb with ⟨h', h''⟩ | ⟨blk, c', e', hb', g1, g0, g2⟩
      · exact .inl ⟨by rw [hιlt i hin]; exact h', h''⟩
      · refine .inr ⟨blk, c', e', by rw [hιlt i hin]; exact hb', ?_, g0, fun j p hj => ?_⟩
        · rw [hold blk (hblt i ci blk hb hb') (hnotin i ci blk hin hm hb hb')]; exact g1
        · obtain ⟨v, hv, hr⟩ := g2 j p hj; exact ⟨v, hv, hv0 _ _ hr⟩
    · rcases hst.boxes j cj hb with ⟨h', h''⟩ | ⟨blk, c', e', hb', g1, g0, g2⟩
      · exact .inl ⟨by rw [(hιn j hj).2]; exact h', by rw [h'']; rfl⟩
      · refine .inr ⟨blk, c', e', by rw [(hιn j hj).2]; exact hb', g1, fun p hp => ?_, fun q p hq => ?_⟩
        · rw [renL_map] at hp; simp at hp; obtain ⟨p', hp', rfl⟩ := hp; rw [one_ren]; exact g0 p' hp'
        · rw [renL_map] at hq; simp at hq; obtain ⟨p', hp', rfl⟩ := hq
          obtain ⟨v, hv, hr⟩ := g2 q p' hp'; exact ⟨v, hv, hv1 _ _ hr⟩
  · intro i ci blk hi hbi hSb
    rcases hcase i ci hi with ⟨hin, hm, hb⟩ | ⟨j, cj, hj, rfl, hb, rfl⟩
    · rw [hιlt i hin] at hbi
      rcases hst.Snew blk hSb with h1 | h1 | h1
      · exact hσ.notS i ci blk hb hbi h1
      · exact hnotin i ci blk hin hm hb hbi h1
      · have := hblt i ci blk hb hbi
        have h2 : w.heap.size ≤ blk := h1
        omega
    · rw [(hιn j hj).2] at hbi; exact hst.notS j cj blk hb hbi hSb
  · intro i ci blk hi hbi
    rcases hcase i ci hi with ⟨hin, hm, hb⟩ | ⟨j, cj, hj, rfl, hb, rfl⟩
    · rw [hιlt i hin] at hbi; exact hσ.live i ci blk hb hbi
    · rw [(hιn j hj).2] at hbi
      rcases hst.live j cj blk hb hbi with h1 | h1
      · exact hM blk h1
      · have h2 : w.heap.size ≤ blk := h1
        have := hσ.size; exact .inr (by omega)
  · intro i i' ci ci' blk hi hi' hbi hbi'
    have mixed : ∀ i ci j cj, i < n → i ∉ th → box s.σ i = some ci → ι i = some blk → j < σ'.length → box σ' j = some cj → ι' j = some blk → False := fun i ci j cj hin hm hb hbi hj hbj hbj' => by
      rcases hst.live j cj blk hbj hbj' with h1 | h1
      · exact hnotin i ci blk hin hm hb hbi h1
      · have := hblt i ci blk hb hbi
        have h2 : w.heap.size ≤ blk := h1
        omega
    rcases hcase i ci hi with ⟨hin, hm, hb⟩ | ⟨j, cj, hj, rfl, hb, rfl⟩ <;> rcases hcase i' ci' hi' with ⟨hin', hm', hb'⟩ | ⟨j', cj', hj', rfl, hb', rfl⟩
    · rw [hιlt i hin] at hbi; rw [hιlt i' hin'] at hbi'; exact hσ.inj i i' ci ci' blk hb hb' hbi hbi'
    · rw [hιlt i hin] at hbi; rw [(hιn j' hj').2] at hbi'; exact (mixed i ci j' cj' hin hm hb hbi hj' hb' hbi').elim
    · rw [hιlt i' hin'] at hbi'; rw [(hιn j hj).2] at hbi; exact (mixed i' ci' j cj hin' hm' hb' hbi' hj hb hbi).elim
    · rw [(hιn j hj).2] at hbi; rw [(hιn j' hj').2] at hbi'
      rw [hst.inj j j' cj cj' blk hb hb' hbi hbi']
  · rcases hst.Snew b hb with h1 | h1 | h1
    · exact hσ.Snew b h1
    · rcases hM b h1 with h2 | h2
      · exact .inr (.inl h2)
      · exact .inr (.inr h2)
    · have h2 : w.heap.size ≤ b := h1
      have := hσ.size; exact .inr (.inr (by omega))
  · rw [hmlen]; have := hσ.klen; omega
  · have := hσ.klen
    rw [hιlt i (by omega)]; exact hσ.kι i hi

theorem ops_call {ops : Array Oper} {rest : List Oper} {o : Oper} {Q : St → Prop} {f : Operand} {args : Array Operand} {ts : Array TypeId} {g : FuncId} {caps ps args' : List PV} {th : List Nat} {σc : List (List PV)} {R : PV → Boxes → Prop}
    (hw : wantedA s ops o = some true) (ho : o.op = .call { callee := .value f, args := args, argTypes := ts }) (hcal : calleePV s f = some (g, caps)) (hargs : opds s args.toList = some ps)
    (he : enterable P g = true) (hc : FnG P g args' σc R) (hl : th.length = σc.length) (hnd : th.Nodup)
    (hren : ps ++ caps = renL (thF th s.σ.length) args') (hlt : ltL th.length args' = true)
    (hbox : ∀ (i t : Nat) (cs : List PV), th[i]? = some t → σc[i]? = some cs → box s.σ t = some (renL (thF th s.σ.length) cs) ∧ ltL th.length cs = true)
    (hd : dstOk o.dst s.N = true)
    (h : ∀ p σ', R p σ' → OpsOk P ops rest (St.put { s with σ := merge s.σ th σ' } o.dst (p.ren (thF th s.σ.length))) Q) : OpsOk P ops (o :: rest) s Q :=
  ops_step hw fun c ι S a w hr K QQ hK => by
    obtain ⟨vs, hf, hvs, hcaps⟩ := callee_rel hr hcal
    obtain ⟨hal, harel⟩ := opds_rel hr hargs
    unfold Oper.wp
    rw [exec_call ho hf he]
    rw [Oper.upon_enter]
    have hσ := hr.st
    have hθ : ∀ b, b < th.length → (fun i => ι (thF th s.σ.length i)) b = ι (thF th s.σ.length b) := fun _ _ => rfl
    -- the arguments in the callee's numbers
    have hall : ∀ (j : Nat) (p : PV), args'[j]? = some p → ∃ v, ((args.toList.map a.eval) ++ vs.toList)[j]? = some v ∧ VRel th.length (fun i => ι (thF th s.σ.length i)) S w v p := fun j p hj => by
      have hj2 : (ps ++ caps)[j]? = some (p.ren (thF th s.σ.length)) := by rw [hren, renL_map]; simp [hj]
      have hpl : p.lt th.length = true := by rw [ltL_all] at hlt; exact List.all_eq_true.1 hlt p (List.mem_of_getElem? hj)
      have hv : ∃ v, ((args.toList.map a.eval) ++ vs.toList)[j]? = some v ∧ VRel s.σ.length ι S w v (p.ren (thF th s.σ.length)) := by
        rcases Nat.lt_or_ge j ps.length with h1 | h1
        · rw [List.getElem?_append_left h1] at hj2
          rw [List.getElem?_append_left (by rw [hal]; exact h1)]
          exact harel j _ hj2
        · rw [List.getElem?_append_right h1] at hj2
          rw [List.getElem?_append_right (by rw [hal]; exact h1), hal]
          obtain ⟨v, hv1, hv2⟩ := hcaps _ _ hj2
          exact ⟨v, by simpa using hv1, hv2⟩
      obtain ⟨v, hv1, hv2⟩ := hv
      exact ⟨v, hv1, VRel.unren (m := s.σ.length) (ι' := ι) (fun b _ => rfl) p v hpl hv2⟩
    have hpre : Store (cx w (fun i => ι (thF th s.σ.length i)) S σc.length) (fun i => ι (thF th s.σ.length i)) S (σc.map some) w := by
      have hbx : ∀ i ci, box (σc.map some) i = some ci → ∃ t, th[i]? = some t ∧ thF th s.σ.length i = t ∧ box s.σ t = some (renL (thF th s.σ.length) ci) ∧ ltL th.length ci = true := fun i ci hi => by
        rw [box_some] at hi
        have hil := (List.getElem?_eq_some_iff.1 hi).1
        have hit : i < th.length := by omega
        obtain ⟨h1, h2⟩ := hbox i th[i] ci (List.getElem?_eq_getElem hit) hi
        exact ⟨th[i], List.getElem?_eq_getElem hit, by simp [thF, hit], h1, h2⟩
      refine ⟨rfl, rfl, rfl, Nat.le_refl _, fun _ _ _ => rfl, fun _ _ h => h, fun i ci hi => ?_, fun i ci blk hi hb => ?_, fun i ci blk hi hb => ?_, fun i j ci cj blk hi hj hbi hbj => ?_, hσ.Slt, fun _ h => h, fun _ h => .inl h, by simp [cx], fun _ _ => rfl⟩
      · obtain ⟨t, ht, hθt, hbt, hlt'⟩ := hbx i ci hi
        rcases hσ.boxes t _ hbt with ⟨h', h''⟩ | ⟨blk, c', e', hb', g1, g0, g2⟩
        · refine .inl ⟨by simp only [hθt]; exact h', ?_⟩
          rw [renL_map] at h''
          simpa using h''
        · refine .inr ⟨blk, c', e', by simp only [hθt]; exact hb', g1, ones_unren g0, fun j p hj => ?_⟩
          obtain ⟨v, hv1, hv2⟩ := g2 j (p.ren (thF th s.σ.length)) (by rw [renL_map]; simp [hj])
          refine ⟨v, hv1, ?_⟩
          have hpl : p.lt th.length = true := by rw [ltL_all] at hlt'; exact List.all_eq_true.1 hlt' p (List.mem_of_getElem? hj)
          have := VRel.unren (n := th.length) (m := s.σ.length) (ι := fun i => ι (thF th s.σ.length i)) (ι' := ι) (θ := thF th s.σ.length) (fun b _ => rfl) p v hpl hv2
          rw [List.length_map, ← hl]; exact this
      · obtain ⟨t, ht, hθt, hbt, _⟩ := hbx i ci hi
        exact hσ.notS t _ blk hbt (by rw [← hθt]; exact hb)
      · have hil := box_lt hi
        exact .inl ⟨i, by simpa using hil, hb⟩
      · obtain ⟨t, ht, hθt, hbt, _⟩ := hbx i ci hi
        obtain ⟨t', ht', hθt', hbt', _⟩ := hbx j cj hj
        have e := hσ.inj t t' _ _ blk hbt hbt' (by rw [← hθt]; exact hbi) (by rw [← hθt']; exact hbj)
        subst e
        exact nodup_inj th hnd i j t ht ht'
    have hlen : ((args.toList.map a.eval) ++ vs.toList).length = args'.length := by
      have := congrArg List.length hren
      rw [renL_map] at this
      simp at this hal ⊢
      omega
    have hcall := hc _ S w ((args.toList.map a.eval) ++ vs.toList) hpre hlen (by rw [← hl]; exact hall)
    have hargs2 : ((args.toList.map a.eval) ++ vs.toList).toArray = args.map a.eval ++ vs := by apply Array.ext'; simp
    rw [hargs2] at hcall
    refine hcall.mono ?_
    rintro e w' ⟨v, p, σ', ι', S', rfl, hR, hst, hvp⟩
    rw [← hl] at hst
    obtain ⟨ιn, k1, k2, k3, _⟩ := call_back hr hl hnd (fun i t cs h1 h2 => (hbox i t cs h1 h2).1) hst
    exact hK ιn S' _ _ w' (Rel.next hr k1 k2 hd (k3 v p hvp)) (h p σ' hR)
end

end Go.Proofs.Ytmkgechjbbekmaa.Am
