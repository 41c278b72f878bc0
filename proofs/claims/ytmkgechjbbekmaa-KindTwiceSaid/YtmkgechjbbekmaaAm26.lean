/- The machine of values: regions in any order, with boxes: as it is used. -/
import Derived.Test.YtmkgechjbbekmaaAm25
set_option linter.unusedVariables false
set_option linter.unusedSimpArgs false
namespace Go.Proofs.Ytmkgechjbbekmaa.Am
open Go Go.RowKit

theorem awp_drawE {P : Program} (hm : P.follows .mixedOrders = true) {id : Nat} {l : List Oper} {s : St} {Q : Exit → St → Prop} (rg : List (Nat × Nat)) (n0 L : Nat) (inc : List (Nat × Nat))
    (hst : statOk l (clos l []) rg n0 L inc = true) (hn : s.σ.length = n0) (hdst : l.all (fun o => dstOk o.dst s.N) = true)
    (h : goE P l.toArray L l rg { s with σ := s.σ ++ List.replicate (L - n0) none } [] (fun s' rs => pairChk rs inc ∧ Q .normal s')) : AWp P (.region id l.toArray true) s Q := by
  subst hn
  simp only [statOk, Bool.and_eq_true, decide_eq_true_eq, List.all_eq_true, List.mem_range] at hst
  obtain ⟨hok, hL, hRl, hall⟩ := hst
  obtain ⟨rs, s', ⟨hpc, hQ⟩, hlen, hN, hk, hT, hσ, hsteps⟩ := goE_spec (s := { s with σ := s.σ ++ List.replicate (L - s.σ.length) none }) (N := s.N) (k := s.k) (L := L) 0 rfl rfl (by rw [List.length_append, List.length_replicate]; omega) h
  rw [List.nil_append] at hpc
  have hget : ∀ (i : Nat) (r : Rcd), rs[i]? = some r → ∃ o, l[i]? = some o := fun i r hr => by
    have := (List.getElem?_eq_some_iff.1 hr).1
    exact ⟨_, List.getElem?_eq_getElem (by omega)⟩
  have hrg : ∀ {i cls j : Nat}, rg[i]? = some (cls, j) → rg.getD i (0, 0) = (cls, j) := fun h => by simp [List.getD, h]
  refine awp_drawR hm (rs := rs) (L := L) hok (fun i j hj => ?_) hL hlen (fun o ho => List.all_eq_true.1 hdst o ho) (fun i r b hi hb => ?_) (fun i i' r r' b hi hi' hb hb' => ?_) (fun i j r r' hi hj hne h1 h2 b hb => ?_)
    (fun i o r ho hr σ hσl hσn => ?_) ?_
  · rcases Nat.lt_or_ge i l.length with hi | hi
    · exact (hall i hi).1 j hj
    · rw [List.getD, List.getElem?_eq_none (by omega)] at hj
      simp at hj
  · obtain ⟨o, ho⟩ := hget i r hi
    have hil := (List.getElem?_eq_some_iff.1 ho).1
    obtain ⟨cls, j, g1, g2, _⟩ := hsteps i o r ho hi
    obtain ⟨g3, rfl⟩ := g2 b hb
    have := (hall i hil).2.1
    rw [hrg g1] at this
    simpa [g3] using this
  · apply Classical.byContradiction
    intro hne
    obtain ⟨o, ho⟩ := hget i r hi
    obtain ⟨o', ho'⟩ := hget i' r' hi'
    have hil := (List.getElem?_eq_some_iff.1 ho).1
    have hil' := (List.getElem?_eq_some_iff.1 ho').1
    obtain ⟨cls, j, g1, g2, _⟩ := hsteps i o r ho hi
    obtain ⟨cls', j', k1, k2, _⟩ := hsteps i' o' r' ho' hi'
    obtain ⟨g3, rfl⟩ := g2 b hb
    obtain ⟨k3, rfl⟩ := k2 b hb'
    have := (hall i hil).2.2 i' hil'
    rw [hrg g1, hrg k1] at this
    simp [hne, g3, k3] at this
  · obtain ⟨o, ho⟩ := hget i r hi
    obtain ⟨o', ho'⟩ := hget j r' hj
    have hil := (List.getElem?_eq_some_iff.1 ho).1
    have hjl := (List.getElem?_eq_some_iff.1 ho').1
    obtain ⟨cls', j', k1, _, k3, _⟩ := hsteps j o' r' ho' hj
    have heff : isEff cls' = true := by
      have := k3 (fun e => by rw [e] at hb; simp at hb)
      simp [isEff, this]
    have := (hall i hil).2.2 j hjl
    rw [hrg k1] at this
    simp only [Bool.or_eq_true, Bool.and_eq_true, decide_eq_true_eq, hne, false_or, List.contains_iff_mem, h1, h2, heff, Bool.not_true, Bool.false_eq_true] at this
    have hs : slotsR rs j = r'.eff.map (·.1) := by simp [slotsR, hj]
    have hs' : slotsR rs i = r.eff.map (·.1) := by simp [slotsR, hi]
    have hn' : needR rs i = r.need := by simp [needR, hi]
    have hd : disjN (slotsR rs j) (needR rs i ++ slotsR rs i) = true := by
      rcases this.2 with g | g
      · exact (pairChk_spec hpc _ g).1
      · exact (pairChk_spec hpc _ g).2
    rw [hs, hs', hn'] at hd
    have := disjN_spec hd b hb
    simp only [List.mem_append, not_or] at this
    exact this
  · obtain ⟨cls, j, _, _, _, g4⟩ := hsteps i o r ho hr
    simp only [Nat.zero_add] at g4
    refine ⟨seen l.toArray o (TA (fun m => decide (m < i)) 0 l (rs.map (·.p)) s.T), fun t q hq => look_seen hq, ?_⟩
    have := g4 (box σ)
    rw [blur_eq hσl hσn] at this
    exact this
  · have : (⟨s.N, TA (fun _ => true) 0 l (rs.map (·.p)) s.T, SA (fun _ => true) 0 rs (s.σ ++ List.replicate (L - s.σ.length) none), s.k⟩ : St) = s' := by
      have hT : s'.T = TA (fun _ => true) 0 l (rs.map (·.p)) s.T := hT
      have hσ : s'.σ = SA (fun _ => true) 0 rs (s.σ ++ List.replicate (L - s.σ.length) none) := hσ
      rw [← hT, ← hσ, ← hN, ← hk]
    rw [this]; exact hQ

/-! ### With what is not yet due held back -/
class HoldE where
  P : Program
  ops : Array Oper
  L : Nat
  l : List Oper
  rg : List (Nat × Nat)
  K : St → List Rcd → Prop
def gE (s : St) (rs : List Rcd) [H : HoldE] : Prop := goE H.P H.ops H.L H.l H.rg s rs H.K

section
variable {P : Program} {ops : Array Oper} {L : Nat} {o : Oper} {l : List Oper} {j : Nat} {rg : List (Nat × Nat)} {K : St → List Rcd → Prop} {s : St} {rs : List Rcd}
theorem gE_nil : @gE s rs ⟨P, ops, L, [], rg, K⟩ = K s rs := (rfl)
theorem gE_cons0 : @gE s rs ⟨P, ops, L, o :: l, (0, j) :: rg, K⟩ = @brkB (wantedA s ops o)
    ⟨@brk (oneOp P s o.op) ⟨fun x => OneAt P ops o s.N s.k (seen ops o s.T) L (needOf s o.op) s.σ (applyE []) x.2 ∧ @gE (s.put o.dst x.2) (rs ++ [⟨x.2, needOf s o.op, [], none⟩]) ⟨P, ops, L, l, rg, K⟩⟩ ⟨False⟩⟩
    ⟨wantedA ⟨s.N, seen ops o s.T, [], s.k⟩ ops o = some false ∧ @gE (s.put o.dst (.tup [])) (rs ++ [⟨.tup [], [], [], none⟩]) ⟨P, ops, L, l, rg, K⟩⟩ ⟨False⟩ := (rfl)
theorem gE_cons1 : @gE s rs ⟨P, ops, L, o :: l, (1, j) :: rg, K⟩ = @brkB (wantedA s ops o)
    ⟨@brk (oneOp P s o.op) ⟨fun x => OneAt P ops o s.N s.k (seen ops o s.T) L (needOf s o.op) s.σ (applyE (effS (needOf s o.op) x.1)) x.2 ∧
      @gE (St.put { s with σ := applyE (effS (needOf s o.op) x.1) s.σ } o.dst x.2) (rs ++ [⟨x.2, needOf s o.op, effS (needOf s o.op) x.1, none⟩]) ⟨P, ops, L, l, rg, K⟩⟩ ⟨False⟩⟩
    ⟨wantedA ⟨s.N, seen ops o s.T, [], s.k⟩ ops o = some false ∧ @gE (s.put o.dst (.tup [])) (rs ++ [⟨.tup [], [], [], none⟩]) ⟨P, ops, L, l, rg, K⟩⟩ ⟨False⟩ := (rfl)
theorem gE_cons2 : @gE s rs ⟨P, ops, L, o :: l, (2, j) :: rg, K⟩ = @brkB (wantedA s ops o)
    ⟨@at_ s ⟨fun s => ∃ r, CallOk P ops o s.N s.k (seen ops o s.T) r ∧ @gE (s.put o.dst r) (rs ++ [⟨r, [], [], none⟩]) ⟨P, ops, L, l, rg, K⟩⟩⟩
    ⟨wantedA ⟨s.N, seen ops o s.T, [], s.k⟩ ops o = some false ∧ @gE (s.put o.dst (.tup [])) (rs ++ [⟨.tup [], [], [], none⟩]) ⟨P, ops, L, l, rg, K⟩⟩ ⟨False⟩ := (rfl)
theorem gE_cons3 : @gE s rs ⟨P, ops, L, o :: l, (3, j) :: rg, K⟩ = @brkB (wantedA s ops o)
    ⟨@at_ s ⟨fun s => ∃ r need eff, (wantedA ⟨s.N, seen ops o s.T, [], s.k⟩ ops o = some true ∧ ∀ y, Does P o ⟨s.N, seen ops o s.T, blur L need s.σ y, s.k⟩ (applyE eff (blur L need s.σ y)) r) ∧
      @gE (St.put { s with σ := applyE eff s.σ } o.dst r) (rs ++ [⟨r, need, eff, none⟩]) ⟨P, ops, L, l, rg, K⟩⟩⟩
    ⟨wantedA ⟨s.N, seen ops o s.T, [], s.k⟩ ops o = some false ∧ @gE (s.put o.dst (.tup [])) (rs ++ [⟨.tup [], [], [], none⟩]) ⟨P, ops, L, l, rg, K⟩⟩ ⟨False⟩ := (rfl)
theorem gE_cons5 : @gE s rs ⟨P, ops, L, o :: l, (5, j) :: rg, K⟩ = @brkB (wantedA s ops o)
    ⟨@at_ s ⟨fun s => ∃ r need c, ((wantedA ⟨s.N, seen ops o s.T, [], s.k⟩ ops o = some true ∧ ∀ y, Does P o ⟨s.N, seen ops o s.T, blur L (j :: need) s.σ y, s.k⟩ (blur L (j :: need) s.σ y ++ [some c]) (r.ren (mvθ j L))) ∧
        (j < L ∧ s.k ≤ j ∧ ltL L c = true ∧ r.lt L = true)) ∧
      @gE (St.put { s with σ := applyE [(j, some c)] s.σ } o.dst r) (rs ++ [⟨r, j :: need, [(j, some c)], some j⟩]) ⟨P, ops, L, l, rg, K⟩⟩⟩
    ⟨wantedA ⟨s.N, seen ops o s.T, [], s.k⟩ ops o = some false ∧ @gE (s.put o.dst (.tup [])) (rs ++ [⟨.tup [], [], [], none⟩]) ⟨P, ops, L, l, rg, K⟩⟩ ⟨False⟩ := (rfl)
theorem gE_call5 (r : PV) (need : List Nat) (c : List PV) (hw : wantedA ⟨s.N, seen ops o s.T, [], s.k⟩ ops o = some true)
    (hc : ∀ y, Does P o ⟨s.N, seen ops o s.T, blur L (j :: need) s.σ y, s.k⟩ (blur L (j :: need) s.σ y ++ [some c]) (r.ren (mvθ j L))) (h1 : j < L) (h2 : s.k ≤ j) (h3 : ltL L c = true) (h4 : r.lt L = true)
    (h : @gE (St.put { s with σ := applyE [(j, some c)] s.σ } o.dst r) (rs ++ [⟨r, j :: need, [(j, some c)], some j⟩]) ⟨P, ops, L, l, rg, K⟩) :
    @at_ s ⟨fun s => ∃ r need c, ((wantedA ⟨s.N, seen ops o s.T, [], s.k⟩ ops o = some true ∧ ∀ y, Does P o ⟨s.N, seen ops o s.T, blur L (j :: need) s.σ y, s.k⟩ (blur L (j :: need) s.σ y ++ [some c]) (r.ren (mvθ j L))) ∧
        (j < L ∧ s.k ≤ j ∧ ltL L c = true ∧ r.lt L = true)) ∧
      @gE (St.put { s with σ := applyE [(j, some c)] s.σ } o.dst r) (rs ++ [⟨r, j :: need, [(j, some c)], some j⟩]) ⟨P, ops, L, l, rg, K⟩⟩ := ⟨r, need, c, ⟨⟨hw, hc⟩, h1, h2, h3, h4⟩, h⟩
theorem gE_cons4 : @gE s rs ⟨P, ops, L, o :: l, (4, j) :: rg, K⟩ = @brkB (wantedA s ops o)
    ⟨@brk (oneOp P s o.op) ⟨fun x => (OneAt P ops o s.N s.k (seen ops o s.T) L (j :: needOf s o.op) s.σ (fun σ => applyE ((killOf s o.op).map fun k => (k, none)) σ ++ List.replicate (x.1.length - L - 1) none ++ [some (lastBox x.1)]) ((x.2.mv j).ren (mvθ j (L + (x.1.length - L - 1)))) ∧
        (j < L ∧ s.k ≤ j ∧ ltL L (lastBox x.1) = true ∧ (x.2.mv j).lt L = true)) ∧
      @gE (St.put { s with σ := applyE (effF (killOf s o.op) j (lastBox x.1)) s.σ } o.dst (x.2.mv j)) (rs ++ [⟨x.2.mv j, j :: needOf s o.op, effF (killOf s o.op) j (lastBox x.1), some j⟩]) ⟨P, ops, L, l, rg, K⟩⟩ ⟨False⟩⟩
    ⟨wantedA ⟨s.N, seen ops o s.T, [], s.k⟩ ops o = some false ∧ @gE (s.put o.dst (.tup [])) (rs ++ [⟨.tup [], [], [], none⟩]) ⟨P, ops, L, l, rg, K⟩⟩ ⟨False⟩ := (rfl)

theorem gE_call (r : PV) (hc : CallOk P ops o s.N s.k (seen ops o s.T) r) (h : @gE (s.put o.dst r) (rs ++ [⟨r, [], [], none⟩]) ⟨P, ops, L, l, rg, K⟩) :
    @at_ s ⟨fun s => ∃ r, CallOk P ops o s.N s.k (seen ops o s.T) r ∧ @gE (s.put o.dst r) (rs ++ [⟨r, [], [], none⟩]) ⟨P, ops, L, l, rg, K⟩⟩ := ⟨r, hc, h⟩
theorem gE_callW (r : PV) (need : List Nat) (eff : Eff) (hw : wantedA ⟨s.N, seen ops o s.T, [], s.k⟩ ops o = some true) (hc : ∀ y, Does P o ⟨s.N, seen ops o s.T, blur L need s.σ y, s.k⟩ (applyE eff (blur L need s.σ y)) r)
    (h : @gE (St.put { s with σ := applyE eff s.σ } o.dst r) (rs ++ [⟨r, need, eff, none⟩]) ⟨P, ops, L, l, rg, K⟩) :
    @at_ s ⟨fun s => ∃ r need eff, (wantedA ⟨s.N, seen ops o s.T, [], s.k⟩ ops o = some true ∧ ∀ y, Does P o ⟨s.N, seen ops o s.T, blur L need s.σ y, s.k⟩ (applyE eff (blur L need s.σ y)) r) ∧
      @gE (St.put { s with σ := applyE eff s.σ } o.dst r) (rs ++ [⟨r, need, eff, none⟩]) ⟨P, ops, L, l, rg, K⟩⟩ := ⟨r, need, eff, ⟨hw, hc⟩, h⟩
end

theorem awp_drawS {P : Program} (hm : P.follows .mixedOrders = true) {id : Nat} {l : List Oper} {s : St} {Q : Exit → St → Prop} (rg : List (Nat × Nat)) (n0 L : Nat) (inc : List (Nat × Nat))
    (hst : statOk l (clos l []) rg n0 L inc = true) (hn : s.σ.length = n0) (hdst : l.all (fun o => dstOk o.dst s.N) = true)
    (h : @gE { s with σ := s.σ ++ List.replicate (L - n0) none } [] ⟨P, l.toArray, L, l, rg, fun s' rs => pairChk rs inc ∧ Q .normal s'⟩) : AWp P (.region id l.toArray true) s Q :=
  awp_drawE hm rg n0 L inc hst hn hdst h

attribute [simp] gE_nil gE_cons0 gE_cons1 gE_cons2 gE_cons3 gE_cons4 gE_cons5 OneAt blur needOf killOf ptrN oslN PV.mv effS effF lastBox applyE mvθ pairChk disjN slotsR needR
end Go.Proofs.Ytmkgechjbbekmaa.Am
