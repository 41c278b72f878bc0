/- The machine of values: regions whose operations go in any order. -/
import Derived.Test.YtmkgechjbbekmaaAm18
import Derived.Orders
set_option linter.unusedVariables false
set_option linter.unusedSimpArgs false
namespace Go.Proofs.Ytmkgechjbbekmaa.Am
open Go Go.RowKit

/-- The operation makes p, and the boxes σ'. -/
def Does (P : Program) (o : Oper) (s : St) (σ' : Boxes) (p : PV) : Prop :=
  ∀ c ι S a w, Rel c ι S s a w → ∀ (K : Act → World → Prop) QQ, (∀ ι' S' v w', Store c ι' S' σ' w' → (∀ v p, VRel s.σ.length ι S w v p → VRel σ'.length ι' S' w' v p) →
    VRel σ'.length ι' S' w' v p → (∀ b, b < s.σ.length → ι' b = ι b) → K (a.put o.dst v) w') → o.wp P a w K QQ

def StepD (P : Program) (ops : Array Oper) (o : Oper) (s : St) (σ' : Boxes) (p : PV) : Prop :=
  (wantedA s ops o = some true ∧ Does P o s σ' p) ∨ (wantedA s ops o = some false ∧ σ' = s.σ ∧ p = .tup [])

theorem does_one {P : Program} {o : Oper} {s : St} {x : Boxes × PV} (h : oneOp P s o.op = some x) : Does P o s x.1 x.2 := by
  intro c ι S a w hr K QQ hK
  unfold oneOp at h
  split at h
  · rename_i q hq
    simp only [Option.some.injEq] at h; subst h
    obtain ⟨v, hv, hp'⟩ := pure_rel hr hq
    unfold Oper.wp
    rw [hv]
    exact hK ι S _ w hr.st (fun _ _ h => h) hp' (fun _ _ => rfl)
  · split at h
    · rename_i x hx
      simp only [Option.some.injEq] at h; subst h
      obtain ⟨v, w', ι', hv, h1, h2, h3, h4⟩ := mem_rel (σ' := x.1) (p := x.2) hr hx
      unfold Oper.wp
      rw [hv]
      exact hK ι' S _ w' h1 h2 h3 h4
    · split at h
      · rename_i σ'' hp
        simp only [Option.some.injEq] at h; subst h
        unfold storeVal at hp
        split at hp
        · rename_i t ad x hop
          split at hp
          · rename_i z b off p hz had hx
            split at hp
            · rename_i cs hb
              split at hp
              · rename_i hc
                simp only [Option.some.injEq] at hp; subst hp
                obtain ⟨w', hrun, h1, h2⟩ := storeVar_rel (P := P) (s := s) hr.st hz hb (opd_rel hr had) (opd_rel hr hx) hc.1 hc.2.1 hc.2.2
                unfold Oper.wp
                have : (execOp a.eval o).run P w = .ok .skip w' := by
                  unfold execOp
                  simp only [hop, Sem.run_bind, hrun, Result.andThen_ok, Sem.run_pure]
                rw [this]
                exact hK ι S _ w' h1 (fun v p hv => by rw [List.length_set]; exact h2 _ v p hv) (.imm (IRel.und _ _)) (fun _ _ => rfl)
              · simp at hp
            · simp at hp
          · simp at hp
        · simp at hp
      · simp at h

theorem does_fn {P : Program} {o : Oper} {s : St} {f : Operand} {args : Array Operand} {ts : Array TypeId} {g : FuncId} {caps ps : List PV} {r : PV} {args' : List PV}
    (hc : Fn P g args' r) (ho : o.op = .call { callee := .value f, args := args, argTypes := ts }) (hcal : calleePV s f = some (g, caps)) (hargs : opds s args.toList = some ps)
    (he : enterable P g = true) (hren : ps ++ caps = args') (hlt : ltL 0 args' = true) (hlr : r.lt 0 = true) : Does P o s s.σ r := by
  intro c ι S a w hr K QQ hK
  obtain ⟨vs, hf, hvs, hcaps⟩ := callee_rel hr hcal
  obtain ⟨hal, harel⟩ := opds_rel hr hargs
  unfold Oper.wp
  rw [exec_call ho hf he]
  rw [Oper.upon_enter]
  have hσ := hr.st
  have hall : ∀ (j : Nat) (p : PV), args'[j]? = some p → ∃ v, ((args.toList.map a.eval) ++ vs.toList)[j]? = some v ∧ VRel 0 ι S w v p := fun j p hj => by
    have hj2 : (ps ++ caps)[j]? = some p := by rw [hren]; exact hj
    have hpl : p.lt 0 = true := by rw [ltL_all] at hlt; exact List.all_eq_true.1 hlt p (List.mem_of_getElem? hj)
    have hv : ∃ v, ((args.toList.map a.eval) ++ vs.toList)[j]? = some v ∧ VRel s.σ.length ι S w v p := by
      rcases Nat.lt_or_ge j ps.length with h1 | h1
      · rw [List.getElem?_append_left h1] at hj2
        rw [List.getElem?_append_left (by rw [hal]; exact h1)]
        exact harel j _ hj2
      · rw [List.getElem?_append_right h1] at hj2
        rw [List.getElem?_append_right (by rw [hal]; exact h1), hal]
        obtain ⟨v, hv1, hv2⟩ := hcaps _ _ hj2
        exact ⟨v, by simpa using hv1, hv2⟩
    obtain ⟨v, hv1, hv2⟩ := hv
    exact ⟨v, hv1, VRel.unren (m := s.σ.length) (ι' := ι) (θ := fun b => b) (fun b _ => rfl) p v hpl (by rw [ren_lt0 _ _ hpl]; exact hv2)⟩
  have hpre : Store (cx w ι S ([] : List (List PV)).length) ι S (([] : List (List PV)).map some) w :=
    ⟨rfl, rfl, rfl, Nat.le_refl _, fun _ _ _ => rfl, fun _ _ h => h, fun i ci hi => by simp [box] at hi, fun i ci blk hi hb => by simp [box] at hi, fun i ci blk hi hb => by simp [box] at hi,
      fun i j ci cj blk hi hj hbi hbj => by simp [box] at hi, hσ.Slt, fun _ h => h, fun _ h => .inl h, by simp [cx], fun _ _ => rfl⟩
  have hlen : ((args.toList.map a.eval) ++ vs.toList).length = args'.length := by
    have := congrArg List.length hren
    simp at this hal ⊢
    omega
  have hcall := hc _ S w ((args.toList.map a.eval) ++ vs.toList) hpre hlen hall
  have hargs2 : ((args.toList.map a.eval) ++ vs.toList).toArray = args.map a.eval ++ vs := by apply Array.ext'; simp
  rw [hargs2] at hcall
  refine hcall.mono ?_
  rintro e w' ⟨v, p, σ', ι', S', rfl, ⟨rfl, rfl⟩, hst, hvp⟩
  have hst' : Store (cx w (fun i => ι (thF [] s.σ.length i)) S ([] : List Nat).length) ι' S' [] w' := by
    refine ⟨hst.os, hst.tape, hst.output, hst.size, fun b hb hm => hst.old b hb (fun ⟨i, hi, _⟩ => by simp at hi), hst.shape, hst.boxes, hst.notS, fun i ci blk hi hb => by simp [box] at hi, hst.inj, hst.Slt, hst.S0, fun b hb => ?_, hst.klen, fun i hi => by simp [cx] at hi⟩
    rcases hst.Snew b hb with h | ⟨i, hi, _⟩ | h
    · exact .inl h
    · simp at hi
    · exact .inr (.inr h)
  obtain ⟨ιn, k1, k2, k3, k4⟩ := call_back (th := []) (σc := []) hr rfl List.nodup_nil (fun i t cs h1 h2 => by simp at h1) hst'
  have hm : merge s.σ [] [] = s.σ := by simp [merge, setAll]
  rw [hm] at k1 k2 k3
  have := k3 v p hvp
  rw [ren_lt0 _ _ hlr] at this
  exact hK ιn S' _ w' k1 k2 this k4

/-! ### The state when some of the operations are done -/
def TA (A : Nat → Bool) : Nat → List Oper → List PV → List (Nat × PV) → List (Nat × PV)
  | i, o :: l, p :: ps, T => TA A (i + 1) l ps (match o.dst with | some d => if A i then (d, p) :: T else T | none => T)
  | _, _, _, T => T

theorem look_TA_congr {A A' : Nat → Bool} {t : Nat} : ∀ (l : List Oper) (ps : List PV) (i : Nat) (T T' : List (Nat × PV)), look T t = look T' t →
    (∀ (j : Nat) (o : Oper), l[j]? = some o → o.dst = some t → A (i + j) = A' (i + j)) → look (TA A i l ps T) t = look (TA A' i l ps T') t
  | [], ps, i, T, T', h, _ => by simpa [TA] using h
  | o :: l, [], i, T, T', h, _ => by simpa [TA] using h
  | o :: l, p :: ps, i, T, T', h, hA => by
    unfold TA
    refine look_TA_congr l ps (i + 1) _ _ ?_ fun j o' hj hd => by
      have := hA (j + 1) o' (by simpa using hj) hd
      rwa [show i + (j + 1) = i + 1 + j by omega] at this
    split
    · rename_i d hd
      by_cases e : t = d
      · subst e
        have := hA 0 o (by simp) hd
        simp at this
        rw [this]
        split <;> simp [look, h]
      · split <;> split <;> simp [look, e, h]
    · exact h

theorem look_TA_none {A : Nat → Bool} {t : Nat} : ∀ (l : List Oper) (ps : List PV) (i : Nat) (T : List (Nat × PV)),
    (∀ (j : Nat) (o : Oper), l[j]? = some o → o.dst ≠ some t) → look (TA A i l ps T) t = look T t
  | [], ps, i, T, _ => by simp [TA]
  | o :: l, [], i, T, _ => by simp [TA]
  | o :: l, p :: ps, i, T, hA => by
    unfold TA
    rw [look_TA_none l ps (i + 1) _ fun j o' hj => hA (j + 1) o' (by simpa using hj)]
    split
    · rename_i d hd
      have : t ≠ d := fun e => hA 0 o (by simp) (by rw [hd, e])
      split <;> simp [look, this]
    · rfl

theorem look_TA_at {A : Nat → Bool} {t : Nat} {p : PV} {o : Oper} : ∀ (l : List Oper) (ps : List PV) (i : Nat) (T : List (Nat × PV)) (j : Nat), l[j]? = some o → ps[j]? = some p → o.dst = some t → A (i + j) = true →
    (∀ (j' : Nat) (o' : Oper), l[j']? = some o' → j' ≠ j → o'.dst ≠ some t) → look (TA A i l ps T) t = some p
  | [], ps, i, T, j, h, _, _, _, _ => by simp at h
  | o' :: l, [], i, T, j, _, h, _, _, _ => by simp at h
  | o' :: l, p' :: ps, i, T, j, ho, hp, hd, hA, hno => by
    unfold TA
    cases j with
    | zero =>
      simp at ho hp
      subst ho hp
      rw [look_TA_none l ps (i + 1) _ fun j o' hj => hno (j + 1) o' (by simpa using hj) (by omega)]
      rw [hd]
      simp at hA
      simp [hA, look]
    | succ j =>
      exact look_TA_at l ps (i + 1) _ j (by simpa using ho) (by simpa using hp) hd (by rw [show i + 1 + j = i + (j + 1) by omega]; exact hA) fun j' o' hj hne => hno (j' + 1) o' (by simpa using hj) (by omega)

theorem TA_none {A : Nat → Bool} : ∀ (l : List Oper) (ps : List PV) (i : Nat) (T : List (Nat × PV)), (∀ j, A j = false) → TA A i l ps T = T
  | [], ps, i, T, _ => by simp [TA]
  | o :: l, [], i, T, _ => by simp [TA]
  | o :: l, p :: ps, i, T, h => by
    unfold TA
    rw [TA_none l ps (i + 1) _ h]
    split <;> simp [h]

/-! ### What binds the order -/
def edgesOf (o : Oper) : List Nat := (o.after.toList.filter (Region.binds .any)).map (·.on)

def clos : List Oper → List (List Nat) → List (List Nat)
  | [], acc => acc
  | o :: l, acc => clos l (acc ++ [(edgesOf o ++ (edgesOf o).flatMap fun j => acc.getD j []).eraseDups])

def clsOf : Op → Nat
  | .alloc .. | .box .. | .buildSlice .. | .makeSlice .. | .store .. => 1
  | .call c => match c.callee with | .builtin b => if b = .append then 1 else 0 | _ => 2
  | _ => 0

def drawOk (l : List Oper) (R : List (List Nat)) : Bool :=
  (List.range l.length).all fun i => match l[i]? with
    | none => true
    | some o => (edgesOf o).all (· < i) && (R.getD i []).all (fun j => (edgesOf o).contains j || (edgesOf o).any fun e => (R.getD e []).contains j) &&
      (o.looksAt l.toArray).all (fun t => (List.range l.length).all fun j => match l[j]? with | some o' => decide (o'.dst ≠ some t) || (R.getD i []).contains j | none => true) &&
      ((List.range l.length).all fun j => decide (j = i) || match l[j]? with | some o' => o.dst.isNone || decide (o'.dst ≠ o.dst) | none => true)

def wrAt (wc : List Nat) (l : List Oper) (j : Nat) : Bool := match l[j]? with | some o => decide (clsOf o.op = 1) || wc.contains j | none => false
def loOf (wc : List Nat) (l : List Oper) (R : List (List Nat)) (i : Nat) : Nat := (List.range l.length).countP fun j => wrAt wc l j && (R.getD i []).contains j
def hiOf (wc : List Nat) (l : List Oper) (R : List (List Nat)) (i : Nat) : Nat := (List.range l.length).countP fun j => wrAt wc l j && (decide (j ≠ i) && !(R.getD j []).contains i)
def clsAt (wc : List Nat) (l : List Oper) (i : Nat) : Nat := if wc.contains i then 3 else match l[i]? with | some o => clsOf o.op | none => 0

/-- For each operation what it is (3: a call that writes, as the list wc tells), and how many writes may lie before it. -/
def plan (wc : List Nat) (l : List Oper) : Option (List (Nat × List Nat)) :=
  if drawOk l (clos l []) = true then
    some ((List.range l.length).map fun i => (clsAt wc l i, (List.range (hiOf wc l (clos l []) i + 1)).filter (loOf wc l (clos l []) i ≤ ·)))
  else none

theorem drawOk_spec {l : List Oper} {R : List (List Nat)} (h : drawOk l R = true) {i : Nat} {o : Oper} (ho : l[i]? = some o) :
    (∀ e ∈ edgesOf o, e < i) ∧ (∀ j ∈ R.getD i [], j ∈ edgesOf o ∨ ∃ e ∈ edgesOf o, j ∈ R.getD e []) ∧
    (∀ t ∈ o.looksAt l.toArray, ∀ j o', l[j]? = some o' → o'.dst = some t → j ∈ R.getD i []) ∧
    (∀ t, o.dst = some t → ∀ j o', l[j]? = some o' → j ≠ i → o'.dst ≠ some t) := by
  have hi := (List.getElem?_eq_some_iff.1 ho).1
  have h2 := List.all_eq_true.1 h i (by simpa using hi)
  rw [ho] at h2
  simp only [Bool.and_eq_true, List.all_eq_true, decide_eq_true_eq, Bool.or_eq_true, List.contains_iff_mem, List.any_eq_true, List.mem_range] at h2
  obtain ⟨⟨⟨h3, h4⟩, h5⟩, h6⟩ := h2
  refine ⟨h3, fun j hj => h4 j hj, fun t ht j o' hj hd => ?_, fun t ht j o' hj hne hd => ?_⟩
  · have := h5 t ht j (List.getElem?_eq_some_iff.1 hj).1
    rw [hj] at this
    simp only [Bool.or_eq_true, decide_eq_true_eq, List.contains_iff_mem] at this
    exact this.resolve_left (fun g => g hd)
  · have := (h6 j (List.getElem?_eq_some_iff.1 hj).1).resolve_left hne
    rw [hj] at this
    simp only [Bool.or_eq_true, decide_eq_true_eq, ht] at this
    rcases this with g | g
    · simp at g
    · exact g hd

theorem clos_in {l : List Oper} {R : List (List Nat)} (h : drawOk l R = true) {A : Nat → Bool} (hA : ∀ i o, l[i]? = some o → A i = true → ∀ e ∈ edgesOf o, A e = true) :
    ∀ (i : Nat) (o : Oper), l[i]? = some o → (∀ e ∈ edgesOf o, A e = true) → ∀ j ∈ R.getD i [], A j = true := by
  intro i
  induction i using Nat.strongRecOn with
  | _ i ih =>
    intro o ho he j hj
    obtain ⟨h1, h2, _, _⟩ := drawOk_spec h ho
    rcases h2 j hj with g | ⟨e, he', g⟩
    · exact he j g
    · have hlt := h1 e he'
      have hil := (List.getElem?_eq_some_iff.1 ho).1
      have hoe : l[e]? = some l[e] := List.getElem?_eq_getElem (by omega)
      exact ih e hlt _ hoe (hA e _ hoe (he e he')) j g

theorem countP_one {f : Nat → Bool} {A : Nat → Bool} {i : Nat} (hA : A i = false) : ∀ (r : List Nat), r.Nodup → i ∈ r →
    r.countP (fun j => f j && (A j || decide (j = i))) = r.countP (fun j => f j && A j) + (if f i = true then 1 else 0)
  | [], _, h => by simp at h
  | x :: r, hn, h => by
    have hn2 := List.nodup_cons.1 hn
    rw [List.countP_cons, List.countP_cons]
    by_cases e : x = i
    · subst e
      have : r.countP (fun j => f j && (A j || decide (j = x))) = r.countP (fun j => f j && A j) := List.countP_congr fun j hj => by
        have : j ≠ x := fun e => hn2.1 (e ▸ hj)
        simp [this]
      rw [this]
      simp [hA]
    · have hm : i ∈ r := by
        rcases List.mem_cons.1 h with h' | h'
        · exact absurd h'.symm e
        · exact h'
      rw [countP_one hA r hn2.2 hm]
      simp [e]
      omega
end Go.Proofs.Ytmkgechjbbekmaa.Am
