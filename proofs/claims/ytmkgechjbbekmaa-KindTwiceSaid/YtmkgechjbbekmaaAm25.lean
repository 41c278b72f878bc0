/- The machine of values: running a region whose operations go in any order, with boxes. -/
import Derived.Test.YtmkgechjbbekmaaAm24
import Derived.Test.YtmkgechjbbekmaaAm21
set_option linter.unusedVariables false
set_option linter.unusedSimpArgs false
namespace Go.Proofs.Ytmkgechjbbekmaa.Am
open Go Go.RowKit

def ptrN : Option PV → List Nat
  | some (.ptr b _) => [b]
  | _ => []
def oslN : Option PV → List Nat
  | some (.osl b _ _ _) => [b]
  | _ => []
def needOf (s : St) : Op → List Nat
  | .load _ x => ptrN (opd s x)
  | .store _ x _ => ptrN (opd s x)
  | .call { callee := .builtin .append, args, argTypes } => match args.toList with
    | [x, y] => oslN (opd s x) ++ oslN (opd s y)
    | _ => []
  | _ => []
def killOf (s : St) : Op → List Nat
  | .call { callee := .builtin .append, args, argTypes } => match args.toList with
    | [x, _] => oslN (opd s x)
    | _ => []
  | _ => []
def PV.mv (j : Nat) : PV → PV
  | .ptr _ off => .ptr j off
  | .osl _ z off len => .osl j z off len
  | p => p

/-- Only some boxes are known. -/
def blur (L : Nat) (need : List Nat) (σ : Boxes) (y : Nat → Option (List PV)) : Boxes := (List.range L).map fun b => if need.contains b then box σ b else y b

theorem blur_eq {L : Nat} {need : List Nat} {σ σ' : Boxes} (hl : σ'.length = L) (h : ∀ b ∈ need, box σ' b = box σ b) : blur L need σ (box σ') = σ' := by
  refine List.ext_getElem (by simp [blur, hl]) fun i h1 h2 => ?_
  simp only [blur, List.getElem_map, List.getElem_range]
  have hb : box σ' i = σ'[i] := by unfold box; rw [List.getElem?_eq_getElem h2]; cases σ'[i] <;> rfl
  split
  · rename_i hc
    rw [← h i (by simpa using hc), hb]
  · exact hb

/-- The operation by itself, with what it looks at. -/
def OneAt (P : Program) (ops : Array Oper) (o : Oper) (N k : Nat) (T : List (Nat × PV)) (L : Nat) (need : List Nat) (σ : Boxes) (f : Boxes → Boxes) (q : PV) : Prop :=
  wantedA ⟨N, T, [], k⟩ ops o = some true ∧ ∀ y, oneOp P ⟨N, T, blur L need σ y, k⟩ o.op = some (f (blur L need σ y), q)

def effS (need : List Nat) (σ : Boxes) : Eff := need.map fun b => (b, box σ b)
def lastBox (σ : Boxes) : List PV := match box σ (σ.length - 1) with | some c => c | none => []
def effF (ks : List Nat) (j : Nat) (c : List PV) : Eff := (ks.map fun k => (k, none)) ++ [(j, some c)]

def isFr (c : Nat) : Bool := decide (c = 4) || decide (c = 5)

def goE (P : Program) (ops : Array Oper) (L : Nat) : List Oper → List (Nat × Nat) → St → List Rcd → (St → List Rcd → Prop) → Prop
  | [], _, s, rs, K => K s rs
  | _ :: _, [], _, _, _ => False
  | o :: l, (cls, j) :: rg, s, rs, K =>
    @brkB (wantedA s ops o)
      ⟨if cls = 2 then @at_ s ⟨fun s => ∃ r, CallOk P ops o s.N s.k (seen ops o s.T) r ∧ goE P ops L l rg (s.put o.dst r) (rs ++ [⟨r, [], [], none⟩]) K⟩
       else if cls = 3 then @at_ s ⟨fun s => ∃ r need eff, (wantedA ⟨s.N, seen ops o s.T, [], s.k⟩ ops o = some true ∧ ∀ y, Does P o ⟨s.N, seen ops o s.T, blur L need s.σ y, s.k⟩ (applyE eff (blur L need s.σ y)) r) ∧
         goE P ops L l rg (St.put { s with σ := applyE eff s.σ } o.dst r) (rs ++ [⟨r, need, eff, none⟩]) K⟩
       else if cls = 5 then @at_ s ⟨fun s => ∃ r need c, ((wantedA ⟨s.N, seen ops o s.T, [], s.k⟩ ops o = some true ∧ ∀ y, Does P o ⟨s.N, seen ops o s.T, blur L (j :: need) s.σ y, s.k⟩ (blur L (j :: need) s.σ y ++ [some c]) (r.ren (mvθ j L))) ∧
           (j < L ∧ s.k ≤ j ∧ ltL L c = true ∧ r.lt L = true)) ∧
         goE P ops L l rg (St.put { s with σ := applyE [(j, some c)] s.σ } o.dst r) (rs ++ [⟨r, j :: need, [(j, some c)], some j⟩]) K⟩
       else @brk (oneOp P s o.op) ⟨fun x =>
         if cls = 0 then OneAt P ops o s.N s.k (seen ops o s.T) L (needOf s o.op) s.σ (applyE []) x.2 ∧ goE P ops L l rg (s.put o.dst x.2) (rs ++ [⟨x.2, needOf s o.op, [], none⟩]) K
         else if cls = 1 then OneAt P ops o s.N s.k (seen ops o s.T) L (needOf s o.op) s.σ (applyE (effS (needOf s o.op) x.1)) x.2 ∧
           goE P ops L l rg (St.put { s with σ := applyE (effS (needOf s o.op) x.1) s.σ } o.dst x.2) (rs ++ [⟨x.2, needOf s o.op, effS (needOf s o.op) x.1, none⟩]) K
         else if cls = 4 then (OneAt P ops o s.N s.k (seen ops o s.T) L (j :: needOf s o.op) s.σ (fun σ => applyE ((killOf s o.op).map fun k => (k, none)) σ ++ List.replicate (x.1.length - L - 1) none ++ [some (lastBox x.1)]) ((x.2.mv j).ren (mvθ j (L + (x.1.length - L - 1)))) ∧
             (j < L ∧ s.k ≤ j ∧ ltL L (lastBox x.1) = true ∧ (x.2.mv j).lt L = true)) ∧
           goE P ops L l rg (St.put { s with σ := applyE (effF (killOf s o.op) j (lastBox x.1)) s.σ } o.dst (x.2.mv j)) (rs ++ [⟨x.2.mv j, j :: needOf s o.op, effF (killOf s o.op) j (lastBox x.1), some j⟩]) K else False⟩ ⟨False⟩⟩
      ⟨wantedA ⟨s.N, seen ops o s.T, [], s.k⟩ ops o = some false ∧ goE P ops L l rg (s.put o.dst (.tup [])) (rs ++ [⟨.tup [], [], [], none⟩]) K⟩ ⟨False⟩

def StepR (P : Program) (ops : Array Oper) (o : Oper) (s : St) (r : Rcd) : Prop :=
  (wantedA s ops o = some true ∧ DoesR P o s r) ∨ (wantedA s ops o = some false ∧ r.eff = [] ∧ r.fresh = none ∧ r.p = .tup [])

theorem TA_none' {A : Nat → Bool} : ∀ (l : List Oper) (ps : List PV) (i : Nat) (T : List (Nat × PV)), (∀ j, i ≤ j → A j = false) → TA A i l ps T = T
  | [], ps, i, T, _ => by simp [TA]
  | o :: l, [], i, T, _ => by simp [TA]
  | o :: l, p :: ps, i, T, h => by
    unfold TA
    rw [TA_none' l ps (i + 1) _ fun j hj => h j (by omega), h i (Nat.le_refl _)]
    split <;> rfl

theorem goE_spec {P : Program} {ops : Array Oper} {L N k : Nat} : ∀ {l : List Oper} {rg : List (Nat × Nat)} {s : St} {rs0 : List Rcd} {K : St → List Rcd → Prop} (i : Nat), s.N = N → s.k = k → s.σ.length = L →
    goE P ops L l rg s rs0 K → ∃ rs s', K s' (rs0 ++ rs) ∧ rs.length = l.length ∧ s'.N = N ∧ s'.k = k ∧ s'.T = TA (fun _ => true) i l (rs.map (·.p)) s.T ∧ s'.σ = SA (fun _ => true) i rs s.σ ∧
      ∀ (jj : Nat) (o : Oper) (r : Rcd), l[jj]? = some o → rs[jj]? = some r → ∃ cls j, rg[jj]? = some (cls, j) ∧ (∀ b, r.fresh = some b → isFr cls = true ∧ b = j) ∧ (r.eff ≠ [] → cls ≠ 0 ∧ cls ≠ 2) ∧
        ∀ y, StepR P ops o ⟨N, seen ops o (TA (fun m => decide (m < i + jj)) i l (rs.map (·.p)) s.T), blur L r.need (SA (fun m => decide (m < i + jj)) i rs s.σ) y, k⟩ r
  | [], rg, s, rs0, K, i, hN, hk, hL, h => ⟨[], s, by simpa [goE] using h, rfl, hN, hk, by simp [TA], rfl, fun jj o r ho => by simp at ho⟩
  | o :: l, [], s, rs0, K, i, hN, hk, hL, h => by simp [goE] at h
  | o :: l, (cls, j) :: rg, s, rs0, K, i, hN, hk, hL, h => by
    have step : ∀ (r : Rcd) (s2 : St), s2.N = N → s2.k = k → s2.T = (match o.dst with | some d => (d, r.p) :: s.T | none => s.T) → s2.σ = applyE r.eff s.σ →
        (∀ b, r.fresh = some b → isFr cls = true ∧ b = j) → (r.eff ≠ [] → cls ≠ 0 ∧ cls ≠ 2) → (∀ y, StepR P ops o ⟨N, seen ops o s.T, blur L r.need s.σ y, k⟩ r) → goE P ops L l rg s2 (rs0 ++ [r]) K →
        ∃ rs s', K s' (rs0 ++ rs) ∧ rs.length = (o :: l).length ∧ s'.N = N ∧ s'.k = k ∧ s'.T = TA (fun _ => true) i (o :: l) (rs.map (·.p)) s.T ∧ s'.σ = SA (fun _ => true) i rs s.σ ∧
          ∀ (jj : Nat) (o' : Oper) (r : Rcd), (o :: l)[jj]? = some o' → rs[jj]? = some r → ∃ cls' j', ((cls, j) :: rg)[jj]? = some (cls', j') ∧ (∀ b, r.fresh = some b → isFr cls' = true ∧ b = j') ∧ (r.eff ≠ [] → cls' ≠ 0 ∧ cls' ≠ 2) ∧
            ∀ y, StepR P ops o' ⟨N, seen ops o' (TA (fun m => decide (m < i + jj)) i (o :: l) (rs.map (·.p)) s.T), blur L r.need (SA (fun m => decide (m < i + jj)) i rs s.σ) y, k⟩ r := fun r s2 h1 h2 h3 h4 h5 h6 h7 h8 => by
      obtain ⟨rs, s', g1, g2, g3, g4, g5, g6, g7⟩ := goE_spec (i + 1) h1 h2 (by rw [h4, applyE_len]; exact hL) h8
      refine ⟨r :: rs, s', by simpa using g1, by simp [g2], g3, g4, ?_, ?_, fun jj o' r' ho hr => ?_⟩
      · rw [g5, h3]
        cases hd : o.dst <;> simp [TA, hd]
      · rw [g6, h4]; simp [SA]
      · cases jj with
        | zero =>
          simp only [List.getElem?_cons_zero, Option.some.injEq] at ho hr
          subst ho hr
          refine ⟨cls, j, rfl, h5, h6, fun y => ?_⟩
          rw [TA_none' _ _ i _ (fun m hm => by simp; omega), SA_none _ i _ (fun m hm => by simp; omega)]
          exact h7 y
        | succ jj =>
          obtain ⟨cls', j', k1, k2, k3, k4⟩ := g7 jj o' r' (by simpa using ho) (by simpa using hr)
          refine ⟨cls', j', by simpa using k1, k2, k3, fun y => ?_⟩
          have e : i + (jj + 1) = i + 1 + jj := by omega
          have e1 : TA (fun m => decide (m < i + (jj + 1))) i (o :: l) ((r :: rs).map (·.p)) s.T = TA (fun m => decide (m < i + 1 + jj)) (i + 1) l (rs.map (·.p)) s2.T := by
            rw [h3, e]
            have : (decide (i < i + 1 + jj)) = true := by simp; omega
            cases hd : o.dst <;> simp [TA, hd, this]
          have e2 : SA (fun m => decide (m < i + (jj + 1))) i (r :: rs) s.σ = SA (fun m => decide (m < i + 1 + jj)) (i + 1) rs s2.σ := by
            rw [h4, e]
            have : (decide (i < i + 1 + jj)) = true := by simp; omega
            simp [SA, this]
          rw [e1, e2]
          exact k4 y
    have hput : ∀ (p : PV) (σ : Boxes), (St.put { s with σ := σ } o.dst p).N = N ∧ (St.put { s with σ := σ } o.dst p).k = k ∧ (St.put { s with σ := σ } o.dst p).T = (match o.dst with | some d => (d, p) :: s.T | none => s.T) ∧ (St.put { s with σ := σ } o.dst p).σ = σ := fun p σ => by
      cases o.dst <;> simp [St.put, hN, hk]
    have hput' : ∀ (p : PV), (s.put o.dst p).N = N ∧ (s.put o.dst p).k = k ∧ (s.put o.dst p).T = (match o.dst with | some d => (d, p) :: s.T | none => s.T) ∧ (s.put o.dst p).σ = s.σ := fun p => hput p s.σ
    have hw : ∀ (T : List (Nat × PV)) (σ σ' : Boxes), wantedA ⟨s.N, T, σ, s.k⟩ ops o = wantedA ⟨N, T, σ', k⟩ ops o := fun T σ σ' => rfl
    unfold goE brkB at h
    split at h
    · simp only at h
      split at h
      · rename_i hc
        obtain ⟨r, hcall, h⟩ := h
        obtain ⟨g1, g2, g3, g4⟩ := hput' r
        refine step ⟨r, [], [], none⟩ _ g1 g2 g3 g4 (fun b hb => by cases hb) (fun h => absurd rfl h) (fun y => ?_) h
        rw [hN, hk] at hcall
        rcases hcall (blur L [] s.σ y) with ⟨a1, a2⟩ | ⟨a1, a2, a3⟩
        · exact .inl ⟨a1, doesR_of a2⟩
        · exact .inr ⟨a1, rfl, rfl, a3⟩
      · split at h
        · rename_i hc2 hc
          obtain ⟨r, need, eff, hstep, h⟩ := h
          obtain ⟨g1, g2, g3, g4⟩ := hput r (applyE eff s.σ)
          refine step ⟨r, need, eff, none⟩ _ g1 g2 g3 g4 (fun b hb => by cases hb) (fun _ => ⟨by omega, by omega⟩) (fun y => ?_) h
          have := hstep.2 y
          rw [hN, hk] at this
          exact .inl ⟨by rw [← hw]; exact hstep.1, doesR_of this⟩
        · split at h
          · rename_i hc5
            obtain ⟨r, need, c, ⟨⟨c1, c2⟩, c3, c4, c5, c6⟩, h⟩ := h
            obtain ⟨g1, g2, g3, g4⟩ := hput r (applyE [(j, some c)] s.σ)
            refine step ⟨r, j :: need, [(j, some c)], some j⟩ _ g1 g2 g3 g4 (fun b hb => ⟨by simp [isFr, hc5], by simp at hb; exact hb.symm⟩) (fun _ => ⟨by omega, by omega⟩) (fun y => .inl ⟨by rw [← hw]; exact c1, ?_⟩) h
            have := c2 y
            rw [hN, hk] at this
            have hbl : (blur L (j :: need) s.σ y).length = L := by simp [blur]
            exact doesR_fresh (ks := []) (d := 0) (s := ⟨N, seen ops o s.T, blur L (j :: need) s.σ y, k⟩) (by simpa [applyE] using this) (by rw [hbl]; exact c3) (by rw [← hk]; exact c4) (by rw [hbl]; exact c5) (by rw [hbl]; exact c6) (by rw [hbl]; rfl)
          unfold brk at h
          split at h
          · rename_i x hx
            simp only at h
            split at h
            · obtain ⟨⟨c1, c2⟩, h⟩ := h
              obtain ⟨g1, g2, g3, g4⟩ := hput' x.2
              refine step ⟨x.2, needOf s o.op, [], none⟩ _ g1 g2 g3 g4 (fun b hb => by cases hb) (fun h => absurd rfl h) (fun y => .inl ⟨by rw [← hw]; exact c1, doesR_of ?_⟩) h
              have := c2 y
              rw [hN, hk] at this
              exact does_one this
            · split at h
              · rename_i hc0 hc1
                obtain ⟨⟨c1, c2⟩, h⟩ := h
                obtain ⟨g1, g2, g3, g4⟩ := hput x.2 (applyE (effS (needOf s o.op) x.1) s.σ)
                refine step ⟨x.2, needOf s o.op, effS (needOf s o.op) x.1, none⟩ _ g1 g2 g3 g4 (fun b hb => by cases hb) (fun _ => ⟨by omega, by omega⟩) (fun y => .inl ⟨by rw [← hw]; exact c1, doesR_of ?_⟩) h
                have := c2 y
                rw [hN, hk] at this
                exact does_one this
              · split at h
                · rename_i hc4
                  obtain ⟨⟨⟨c1, c2⟩, c3, c4, c5, c6⟩, h⟩ := h
                  obtain ⟨g1, g2, g3, g4⟩ := hput (x.2.mv j) (applyE (effF (killOf s o.op) j (lastBox x.1)) s.σ)
                  refine step ⟨x.2.mv j, j :: needOf s o.op, effF (killOf s o.op) j (lastBox x.1), some j⟩ _ g1 g2 g3 g4 (fun b hb => ⟨by simp [isFr, hc4], by simp at hb; exact hb.symm⟩) (fun _ => ⟨by omega, by omega⟩) (fun y => .inl ⟨by rw [← hw]; exact c1, ?_⟩) h
                  have := c2 y
                  rw [hN, hk] at this
                  have hbl : (blur L (j :: needOf s o.op) s.σ y).length = L := by simp [blur]
                  exact doesR_fresh (s := ⟨N, seen ops o s.T, blur L (j :: needOf s o.op) s.σ y, k⟩) (does_one this) (by rw [hbl]; exact c3) (by rw [← hk]; exact c4) (by rw [hbl]; exact c5) (by rw [hbl]; exact c6) (by rw [hbl])
                · exact h.elim
          · exact h.elim
    · rename_i hw0
      obtain ⟨c1, h⟩ := h
      obtain ⟨g1, g2, g3, g4⟩ := hput' (.tup [])
      exact step ⟨.tup [], [], [], none⟩ _ g1 g2 g3 g4 (fun b hb => by cases hb) (fun h => absurd rfl h) (fun y => .inr ⟨by rw [← hw]; exact c1, rfl, rfl, rfl⟩) h
    · exact h.elim

def isEff (c : Nat) : Bool := decide (c ≠ 0) && decide (c ≠ 2)
def disjN (a b : List Nat) : Bool := a.all fun x => !b.contains x
def slotsR (rs : List Rcd) (i : Nat) : List Nat := match rs[i]? with | some r => r.eff.map (·.1) | none => []
def needR (rs : List Rcd) (i : Nat) : List Nat := match rs[i]? with | some r => r.need | none => []
def pairChk (rs : List Rcd) : List (Nat × Nat) → Prop
  | [] => True
  | x :: r => (disjN (slotsR rs x.2) (needR rs x.1 ++ slotsR rs x.1) = true ∧ disjN (slotsR rs x.1) (needR rs x.2 ++ slotsR rs x.2) = true) ∧ pairChk rs r

theorem pairChk_spec {rs : List Rcd} : ∀ {inc : List (Nat × Nat)}, pairChk rs inc → ∀ x ∈ inc, disjN (slotsR rs x.2) (needR rs x.1 ++ slotsR rs x.1) = true ∧ disjN (slotsR rs x.1) (needR rs x.2 ++ slotsR rs x.2) = true
  | [], _, x, hx => by simp at hx
  | y :: r, h, x, hx => by
    rcases List.mem_cons.1 hx with rfl | hx
    · exact h.1
    · exact pairChk_spec h.2 x hx

theorem disjN_spec {a b : List Nat} (h : disjN a b = true) : ∀ x ∈ a, x ∉ b := fun x hx hb => by
  have := List.all_eq_true.1 h x hx
  simp [hb] at this

/-- What is asked of the plan. -/
def statOk (l : List Oper) (R : List (List Nat)) (rg : List (Nat × Nat)) (n0 L : Nat) (inc : List (Nat × Nat)) : Bool :=
  drawOk l R && (decide (n0 ≤ L) && (decide (R.length = l.length) && (List.range l.length).all fun i => ((R.getD i []).all fun j => decide (j < i)) &&
    ((!isFr (rg.getD i (0, 0)).1 || (decide (n0 ≤ (rg.getD i (0, 0)).2) && decide ((rg.getD i (0, 0)).2 < L))) &&
    (List.range l.length).all fun j => decide (i = j) || (
      (!isFr (rg.getD i (0, 0)).1 || (!isFr (rg.getD j (0, 0)).1 || decide ((rg.getD i (0, 0)).2 ≠ (rg.getD j (0, 0)).2))) &&
      ((R.getD i []).contains j || ((R.getD j []).contains i || ((!isEff (rg.getD j (0, 0)).1) || (inc.contains (i, j) || inc.contains (j, i))))))))) 
end Go.Proofs.Ytmkgechjbbekmaa.Am
