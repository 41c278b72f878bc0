/- The machine of values: running a region whose operations go in any order. -/
import Derived.Test.YtmkgechjbbekmaaAm20
set_option linter.unusedVariables false
set_option linter.unusedSimpArgs false
namespace Go.Proofs.Ytmkgechjbbekmaa.Am
open Go Go.RowKit

class HoldD where
  P : Program
  ops : Array Oper
  l : List Oper
  rg : List (Nat × List Nat)
  K : St → List PV → List Boxes → Prop
class HoldW where
  p : PV → Prop

def goD (P : Program) (ops : Array Oper) : List Oper → List (Nat × List Nat) → St → List PV → List Boxes → (St → List PV → List Boxes → Prop) → Prop
  | [], _, s, ps, σs, K => K s ps σs
  | _ :: _, [], _, _, _, _ => False
  | o :: l, (cls, _) :: rg, s, ps, σs, K =>
    @brkB (wantedA s ops o)
      ⟨if cls = 2 then @at_ s ⟨fun s => ∃ r, goD P ops l rg (s.put o.dst r) (ps ++ [r]) σs K⟩
       else if cls = 3 then @at_ s ⟨fun s => ∃ r σ', goD P ops l rg (St.put { s with σ := σ' } o.dst r) (ps ++ [r]) (σs ++ [σ']) K⟩
       else @brk (oneOp P s o.op) ⟨fun x => if cls = 1 then goD P ops l rg (St.put { s with σ := x.1 } o.dst x.2) (ps ++ [x.2]) (σs ++ [x.1]) K else goD P ops l rg (s.put o.dst x.2) (ps ++ [x.2]) σs K⟩ ⟨False⟩⟩
      ⟨if cls = 1 then goD P ops l rg (s.put o.dst (.tup [])) (ps ++ [.tup []]) (σs ++ [s.σ]) K else goD P ops l rg (s.put o.dst (.tup [])) (ps ++ [.tup []]) σs K⟩ ⟨False⟩

def gD (s : St) (ps : List PV) (σs : List Boxes) [H : HoldD] : Prop := goD H.P H.ops H.l H.rg s ps σs H.K
theorem gD_nil {P : Program} {ops : Array Oper} {rg : List (Nat × List Nat)} {K : St → List PV → List Boxes → Prop} {s : St} {ps : List PV} {σs : List Boxes} : @gD s ps σs ⟨P, ops, [], rg, K⟩ = K s ps σs := (rfl)
theorem gD_cons0 {P : Program} {ops : Array Oper} {o : Oper} {l : List Oper} {ms : List Nat} {rg : List (Nat × List Nat)} {K : St → List PV → List Boxes → Prop} {s : St} {ps : List PV} {σs : List Boxes} :
    @gD s ps σs ⟨P, ops, o :: l, (0, ms) :: rg, K⟩ = @brkB (wantedA s ops o) ⟨@brk (oneOp P s o.op) ⟨fun x => @gD (s.put o.dst x.2) (ps ++ [x.2]) σs ⟨P, ops, l, rg, K⟩⟩ ⟨False⟩⟩
      ⟨@gD (s.put o.dst (.tup [])) (ps ++ [.tup []]) σs ⟨P, ops, l, rg, K⟩⟩ ⟨False⟩ := (rfl)
theorem gD_cons1 {P : Program} {ops : Array Oper} {o : Oper} {l : List Oper} {ms : List Nat} {rg : List (Nat × List Nat)} {K : St → List PV → List Boxes → Prop} {s : St} {ps : List PV} {σs : List Boxes} :
    @gD s ps σs ⟨P, ops, o :: l, (1, ms) :: rg, K⟩ = @brkB (wantedA s ops o) ⟨@brk (oneOp P s o.op) ⟨fun x => @gD (St.put { s with σ := x.1 } o.dst x.2) (ps ++ [x.2]) (σs ++ [x.1]) ⟨P, ops, l, rg, K⟩⟩ ⟨False⟩⟩
      ⟨@gD (s.put o.dst (.tup [])) (ps ++ [.tup []]) (σs ++ [s.σ]) ⟨P, ops, l, rg, K⟩⟩ ⟨False⟩ := (rfl)
theorem gD_cons2 {P : Program} {ops : Array Oper} {o : Oper} {l : List Oper} {ms : List Nat} {rg : List (Nat × List Nat)} {K : St → List PV → List Boxes → Prop} {s : St} {ps : List PV} {σs : List Boxes} :
    @gD s ps σs ⟨P, ops, o :: l, (2, ms) :: rg, K⟩ = @brkB (wantedA s ops o) ⟨@at_ s ⟨fun s => ∃ r, @gD (s.put o.dst r) (ps ++ [r]) σs ⟨P, ops, l, rg, K⟩⟩⟩
      ⟨@gD (s.put o.dst (.tup [])) (ps ++ [.tup []]) σs ⟨P, ops, l, rg, K⟩⟩ ⟨False⟩ := (rfl)
theorem gD_cons3 {P : Program} {ops : Array Oper} {o : Oper} {l : List Oper} {ms : List Nat} {rg : List (Nat × List Nat)} {K : St → List PV → List Boxes → Prop} {s : St} {ps : List PV} {σs : List Boxes} :
    @gD s ps σs ⟨P, ops, o :: l, (3, ms) :: rg, K⟩ = @brkB (wantedA s ops o) ⟨@at_ s ⟨fun s => ∃ r σ', @gD (St.put { s with σ := σ' } o.dst r) (ps ++ [r]) (σs ++ [σ']) ⟨P, ops, l, rg, K⟩⟩⟩
      ⟨@gD (s.put o.dst (.tup [])) (ps ++ [.tup []]) σs ⟨P, ops, l, rg, K⟩⟩ ⟨False⟩ := (rfl)
theorem gD_callW {P : Program} {ops : Array Oper} {o : Oper} {l : List Oper} {rg : List (Nat × List Nat)} {K : St → List PV → List Boxes → Prop} {s : St} {ps : List PV} {σs : List Boxes} (r : PV) (σ' : Boxes)
    (h : @gD (St.put { s with σ := σ' } o.dst r) (ps ++ [r]) (σs ++ [σ']) ⟨P, ops, l, rg, K⟩) : @at_ s ⟨fun s => ∃ r σ', @gD (St.put { s with σ := σ' } o.dst r) (ps ++ [r]) (σs ++ [σ']) ⟨P, ops, l, rg, K⟩⟩ := ⟨r, σ', h⟩
/-- A call in such a region: its result (that it is the result is asked later). -/
theorem gD_call {P : Program} {ops : Array Oper} {o : Oper} {l : List Oper} {rg : List (Nat × List Nat)} {K : St → List PV → List Boxes → Prop} {s : St} {ps : List PV} {σs : List Boxes} (r : PV)
    (h : @gD (s.put o.dst r) (ps ++ [r]) σs ⟨P, ops, l, rg, K⟩) : @at_ s ⟨fun s => ∃ r, @gD (s.put o.dst r) (ps ++ [r]) σs ⟨P, ops, l, rg, K⟩⟩ := ⟨r, h⟩

theorem goD_spec {P : Program} {ops : Array Oper} {N k : Nat} : ∀ {l : List Oper} {rg : List (Nat × List Nat)} {s : St} {ps0 : List PV} {σs0 : List Boxes} {K : St → List PV → List Boxes → Prop} (i : Nat), s.N = N → s.k = k →
    goD P ops l rg s ps0 σs0 K → ∃ ps σs s', K s' (ps0 ++ ps) σs ∧ s'.N = N ∧ s'.k = k ∧ s'.T = TA (fun _ => true) i l ps s.T
  | [], rg, s, ps0, σs0, K, i, hN, hk, h => ⟨[], σs0, s, by simpa [goD] using h, hN, hk, by simp [TA]⟩
  | o :: l, [], s, ps0, σs0, K, i, hN, hk, h => by simp [goD] at h
  | o :: l, (cls, ms) :: rg, s, ps0, σs0, K, i, hN, hk, h => by
    have step : ∀ (p : PV) (s2 : St) (σs1 : List Boxes), s2.N = N → s2.k = k → s2.T = (match o.dst with | some d => (d, p) :: s.T | none => s.T) → goD P ops l rg s2 (ps0 ++ [p]) σs1 K →
        ∃ ps σs s', K s' (ps0 ++ ps) σs ∧ s'.N = N ∧ s'.k = k ∧ s'.T = TA (fun _ => true) i (o :: l) ps s.T := fun p s2 σs1 h1 h2 h3 h4 => by
      obtain ⟨ps, σs, s', g1, g2, g3, g4⟩ := goD_spec (i + 1) h1 h2 h4
      refine ⟨p :: ps, σs, s', by simpa using g1, g2, g3, ?_⟩
      rw [g4, h3]
      cases hd : o.dst <;> simp [TA, hd]
    have hput : ∀ (p : PV), (s.put o.dst p).N = N ∧ (s.put o.dst p).k = k ∧ (s.put o.dst p).T = (match o.dst with | some d => (d, p) :: s.T | none => s.T) := fun p => by
      cases o.dst <;> simp [St.put, hN, hk]
    have hputσ : ∀ (p : PV) (σ : Boxes), (St.put { s with σ := σ } o.dst p).N = N ∧ (St.put { s with σ := σ } o.dst p).k = k ∧ (St.put { s with σ := σ } o.dst p).T = (match o.dst with | some d => (d, p) :: s.T | none => s.T) := fun p σ => by
      cases o.dst <;> simp [St.put, hN, hk]
    unfold goD brkB at h
    split at h
    · simp only at h
      split at h
      · obtain ⟨r, h⟩ := h
        exact step r _ _ (hput r).1 (hput r).2.1 (hput r).2.2 h
      · split at h
        · obtain ⟨r, σ', h⟩ := h
          exact step r _ _ (hputσ r σ').1 (hputσ r σ').2.1 (hputσ r σ').2.2 h
        · unfold brk at h
          split at h
          · rename_i x hx
            simp only at h
            split at h
            · exact step x.2 _ _ (hputσ x.2 x.1).1 (hputσ x.2 x.1).2.1 (hputσ x.2 x.1).2.2 h
            · exact step x.2 _ _ (hput x.2).1 (hput x.2).2.1 (hput x.2).2.2 h
          · exact h.elim
    · simp only at h
      split at h
      · exact step _ _ _ (hput _).1 (hput _).2.1 (hput _).2.2 h
      · exact step _ _ _ (hput _).1 (hput _).2.1 (hput _).2.2 h
    · exact h.elim

/-- Once more, each operation by itself: at each number of writes that may lie before it, it makes the same. -/
def seen (ops : Array Oper) (o : Oper) (T : List (Nat × PV)) : List (Nat × PV) := T.filter fun x => (o.looksAt ops).contains x.1

def wrN (cls : Nat) : Nat := if cls = 1 ∨ cls = 3 then 1 else 0

def chkM (P : Program) (ops : Array Oper) (o : Oper) (N k : Nat) (T : List (Nat × PV)) (σs : List Boxes) (cls : Nat) (p : PV) : List Nat → Prop
  | [] => True
  | m :: ms => ((wantedA ⟨N, T, σs.getD m [], k⟩ ops o = some true ∧ oneOp P ⟨N, T, σs.getD m [], k⟩ o.op = some (σs.getD (m + wrN cls) [], p)) ∨
      (wantedA ⟨N, T, σs.getD m [], k⟩ ops o = some false ∧ σs.getD (m + wrN cls) [] = σs.getD m [] ∧ p = .tup [])) ∧ chkM P ops o N k T σs cls p ms

/-- A call: it is what it is, whatever the boxes are. -/
def CallOk (P : Program) (ops : Array Oper) (o : Oper) (N k : Nat) (T : List (Nat × PV)) (p : PV) : Prop := ∀ σ, StepD P ops o ⟨N, T, σ, k⟩ σ p

/-- A call that writes: so it does, whenever its turn may come. -/
def CallW (P : Program) (ops : Array Oper) (o : Oper) (N k : Nat) (T : List (Nat × PV)) (σs : List Boxes) (p : PV) : List Nat → Prop
  | [] => True
  | m :: ms => StepD P ops o ⟨N, T, σs.getD m [], k⟩ (σs.getD (m + 1) []) p ∧ CallW P ops o N k T σs p ms

theorem callW_spec {P : Program} {ops : Array Oper} {o : Oper} {N k : Nat} {T : List (Nat × PV)} {σs : List Boxes} {p : PV} : ∀ {ms : List Nat}, CallW P ops o N k T σs p ms → ∀ m ∈ ms, StepD P ops o ⟨N, T, σs.getD m [], k⟩ (σs.getD (m + 1) []) p
  | [], _, m, hm => by simp at hm
  | m' :: ms, h, m, hm => by
    rcases List.mem_cons.1 hm with rfl | hm
    · exact h.1
    · exact callW_spec h.2 m hm

def chkD (P : Program) (ops : Array Oper) (N k : Nat) (T : List (Nat × PV)) (σs : List Boxes) : List Oper → List (Nat × List Nat) → List PV → Prop
  | o :: l, (cls, ms) :: rg, p :: ps => (if cls = 2 then CallOk P ops o N k (seen ops o T) p else if cls = 3 then CallW P ops o N k (seen ops o T) σs p ms else chkM P ops o N k (seen ops o T) σs cls p ms) ∧ chkD P ops N k T σs l rg ps
  | [], _, [] => True
  | _, _, _ => False

theorem look_seen {ops : Array Oper} {o : Oper} {t : Nat} {q : PV} : ∀ {T : List (Nat × PV)}, look (seen ops o T) t = some q → t ∈ o.looksAt ops ∧ look T t = some q
  | [], h => by simp [seen, look] at h
  | (d, p) :: T, h => by
    have ih := look_seen (ops := ops) (o := o) (t := t) (q := q) (T := T)
    unfold seen at h ih
    rw [List.filter_cons] at h
    split at h
    · rename_i hc
      simp only [look] at h ⊢
      split at h
      · rename_i e; subst e
        rw [if_pos rfl]
        exact ⟨by simpa using hc, h⟩
      · rename_i e; rw [if_neg e]; exact ih h
    · rename_i hc
      obtain ⟨h1, h2⟩ := ih h
      refine ⟨h1, ?_⟩
      have : t ≠ d := fun e => hc (by subst e; simpa using h1)
      simp [look, this, h2]

theorem chkM_spec {P : Program} {ops : Array Oper} {o : Oper} {N k : Nat} {T : List (Nat × PV)} {σs : List Boxes} {cls : Nat} {p : PV} : ∀ {ms : List Nat}, chkM P ops o N k T σs cls p ms → ∀ m ∈ ms,
    StepD P ops o ⟨N, T, σs.getD m [], k⟩ (σs.getD (m + wrN cls) []) p
  | [], _, m, hm => by simp at hm
  | m' :: ms, h, m, hm => by
    rcases List.mem_cons.1 hm with rfl | hm
    · rcases h.1 with ⟨h1, h2⟩ | h2
      · exact .inl ⟨h1, does_one h2⟩
      · exact .inr h2
    · exact chkM_spec h.2 m hm

theorem chkD_spec {P : Program} {ops : Array Oper} {N k : Nat} {T : List (Nat × PV)} {σs : List Boxes} : ∀ {l : List Oper} {rg : List (Nat × List Nat)} {ps : List PV}, chkD P ops N k T σs l rg ps →
    ps.length = l.length ∧ ∀ (i : Nat) (o : Oper) (p : PV) (cls : Nat) (ms : List Nat), l[i]? = some o → ps[i]? = some p → rg[i]? = some (cls, ms) → ∀ m ∈ ms,
      StepD P ops o ⟨N, seen ops o T, σs.getD m [], k⟩ (σs.getD (m + wrN cls) []) p
  | [], rg, [], _ => ⟨rfl, fun i o p cls ms h => by simp at h⟩
  | [], rg, _ :: _, h => by unfold chkD at h; exact h.elim
  | _ :: _, [], _, h => by unfold chkD at h; exact h.elim
  | _ :: _, _ :: _, [], h => by unfold chkD at h; exact h.elim
  | o :: l, (cls, ms) :: rg, p :: ps, h => by
    unfold chkD at h
    obtain ⟨h1, h2⟩ := h
    obtain ⟨h3, h4⟩ := chkD_spec h2
    refine ⟨by simp [h3], fun i o' p' cls' ms' ho hp hr m hm => ?_⟩
    cases i with
    | zero =>
      simp only [List.getElem?_cons_zero, Option.some.injEq, Prod.mk.injEq] at ho hp hr
      subst ho hp
      obtain ⟨rfl, rfl⟩ := hr
      split at h1
      · rename_i e; subst e
        exact h1 _
      · split at h1
        · rename_i e; subst e
          exact callW_spec h1 m hm
        · exact chkM_spec h1 m hm
    | succ i => exact h4 i o' p' cls' ms' (by simpa using ho) (by simpa using hp) (by simpa using hr) m hm

/-- The plan: what each operation is, and how many writes there are. -/
def planW (wc : List Nat) (l : List Oper) : Option (List (Nat × List Nat) × Nat) := (plan wc l).map fun rg => (rg, (List.range l.length).countP (wrAt wc l))

theorem clsOf_ne (op : Op) : clsOf op ≠ 3 := by
  unfold clsOf
  split
  all_goals first
    | decide
    | (split <;> first | decide | (split <;> decide))

theorem awp_draw {P : Program} (hm : P.follows .mixedOrders = true) {id : Nat} {l : List Oper} {s : St} {Q : Exit → St → Prop} (wc : List Nat) (rg : List (Nat × List Nat)) (W : Nat) (hp : planW wc l = some (rg, W))
    (hdst : l.all (fun o => dstOk o.dst s.N) = true)
    (h : @gD s [] [s.σ] ⟨P, l.toArray, l, rg, fun s' ps σs => (chkD P l.toArray s.N s.k s'.T σs l rg ps ∧ σs.getD 0 [] = s.σ ∧ s'.σ = σs.getD W []) ∧ Q .normal s'⟩) : AWp P (.region id l.toArray true) s Q := by
  simp only [planW, Option.map_eq_some_iff, Prod.mk.injEq] at hp
  obtain ⟨rg', hplan, rfl, rfl⟩ := hp
  unfold plan at hplan
  split at hplan
  · rename_i hok
    obtain ⟨ps, σs, s', ⟨⟨hchk, hσ0, hσ⟩, hQ⟩, hN, hk, hT⟩ := goD_spec 0 rfl rfl h
    rw [List.nil_append] at hchk
    replace hT : s'.T = TA (fun _ => true) 0 l ps s.T := hT
    obtain ⟨hlen, hall⟩ := chkD_spec hchk
    refine awp_drawT hm (wc := wc) (ps := ps) (σs := fun m => σs.getD m []) hok hσ0 hlen (fun o ho => List.all_eq_true.1 hdst o ho) (fun i o p ho hp m hlo hhi => ?_) ?_
    · refine ⟨seen l.toArray o s'.T, fun t q hq => ?_, ?_⟩
      · obtain ⟨h1, h2⟩ := look_seen hq
        exact ⟨h1, by rw [← hT]; exact h2⟩
      · have hil := (List.getElem?_eq_some_iff.1 ho).1
        simp only [Option.some.injEq] at hplan
        have hrg : rg'[i]? = some (clsAt wc l i, (List.range (hiOf wc l (clos l []) i + 1)).filter (loOf wc l (clos l []) i ≤ ·)) := by
          rw [← hplan]
          simp [hil]
        have := hall i o p _ _ ho hp hrg m (by simp; omega)
        have hw : wrN (clsAt wc l i) = if wrAt wc l i = true then 1 else 0 := by
          simp only [wrN, clsAt, wrAt, ho]
          by_cases hc : wc.contains i = true
          · simp only [hc, if_true]; simp
          · simp only [hc]
            have : clsOf o.op ≠ 3 := clsOf_ne o.op
            simp [this]
        rw [← hw]; exact this
    · have : (⟨s.N, TA (fun _ => true) 0 l ps s.T, σs.getD ((List.range l.length).countP (wrAt wc l)) [], s.k⟩ : St) = s' := by
        rw [← hT, ← hσ, ← hN, ← hk]
      rw [this]; exact hQ
  · simp at hplan

theorem callOk_fn {P : Program} {ops : Array Oper} {o : Oper} {N k : Nat} {T : List (Nat × PV)} {f : Operand} {args : Array Operand} {ts : Array TypeId} {g : FuncId} {caps ps : List PV} {r : PV} {args' : List PV}
    (hc : Fn P g args' r) (ho : o.op = .call { callee := .value f, args := args, argTypes := ts }) (he : enterable P g = true) (hw : ∀ σ, wantedA ⟨N, T, σ, k⟩ ops o = some true)
    (hcal : ∀ σ, calleePV ⟨N, T, σ, k⟩ f = some (g, caps)) (hargs : ∀ σ, opds ⟨N, T, σ, k⟩ args.toList = some ps)
    (hren : ps ++ caps = args') (hlt : ltL 0 args' = true) (hlr : r.lt 0 = true) : CallOk P ops o N k T r := fun σ => .inl ⟨hw σ, does_fn hc ho (hcal σ) (hargs σ) he hren hlt hlr⟩

attribute [simp] gD_nil gD_cons0 gD_cons1 gD_cons2 gD_cons3 chkD chkM wrN CallW seen Oper.looksAt Op.operands Call.operands
end Go.Proofs.Ytmkgechjbbekmaa.Am
