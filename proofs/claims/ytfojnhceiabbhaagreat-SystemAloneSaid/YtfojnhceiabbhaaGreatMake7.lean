/- Package tourmake: systems. -/
import Derived.Test.YtfojnhceiabbhaaGreatMake6
set_option linter.unusedVariables false
set_option linter.unusedSimpArgs false
namespace Go.Proofs.YtfojnhceiabbhaaGreat.Am
open Go Go.RowKit

structure Sets where
  w : List Int
  wo : List Int
  r : List Int
  wr : List Int
  l : List Int
def setStep (i : Nat) (s : Sets) : Sets :=
  if nextV s.l 4 = 0 then ⟨s.w ++ [(i : Int)], s.wo, s.r ++ [(i : Int)], s.wr, nextL s.l 4⟩
  else if nextV s.l 4 = 1 then ⟨s.w ++ [(i : Int)], s.wo, s.r, s.wr ++ [(i : Int)], nextL s.l 4⟩
  else if nextV s.l 4 = 2 then ⟨s.w, s.wo ++ [(i : Int)], s.r, s.wr, nextL s.l 4⟩
  else ⟨s.w, s.wo, s.r, s.wr, nextL s.l 4⟩
def setsM : Nat → Nat → Sets → Sets
  | 0, _, s => s
  | n + 1, i, s => setsM n (i + 1) (setStep i s)
def fixSets (s : Sets) : Sets := if s.w = [] then ⟨[0], s.wo.filter (fun x => !decide (x = 0)), s.r, [0], s.l⟩ else s
def allSets (ks : List GKind) (l : List Int) : Sets := fixSets (setsM ks.length 0 ⟨[], [], [], [], l⟩)
def gArg0 : GArg := ⟨false, 0, ⟨0, 0⟩⟩
structure OpsS where
  ops : List GOp
  spawn : List GComp
  l : List Int
def opB (ks : List GKind) (seen : List Int) (d : Int) (l : List Int) : GArg × List Int :=
  if (1 ≤ d ∧ d ≤ 6 ∧ d ≠ 7) ∨ d = 12 then argM ks seen l else (gArg0, l)
def opStep (ks : List GKind) (seen wr : List Int) (s : OpsS) : OpsS :=
  let d := nextV s.l 13
  let a := argM ks seen (nextL s.l 13)
  let b := opB ks seen d a.2
  if d ≤ 7 ∧ wr = [] then ⟨s.ops ++ [⟨12, ⟨0, 0⟩, a.1, (argM ks seen b.2).1⟩], s.spawn, (argM ks seen b.2).2⟩
  else if d ≤ 7 then
    let i := wr.getD (nextV b.2 wr.length).toNat 0
    let l2 := nextL b.2 wr.length
    ⟨s.ops ++ [⟨d, ⟨i, nextV l2 (flds ks i)⟩, a.1, b.1⟩], s.spawn, nextL l2 (flds ks i)⟩
  else if d = 8 ∨ d = 9 then ⟨s.ops ++ [⟨d, ⟨nextV b.2 ks.length, 0⟩, a.1, b.1⟩], s.spawn, nextL b.2 ks.length⟩
  else if d = 11 ∧ s.spawn = [] then ⟨s.ops ++ [⟨d, ⟨0, 0⟩, a.1, b.1⟩], (compsM ks b.2).1, (compsM ks b.2).2⟩
  else ⟨s.ops ++ [⟨d, ⟨0, 0⟩, a.1, b.1⟩], s.spawn, b.2⟩
def opsM (ks : List GKind) (seen wr : List Int) : Nat → OpsS → OpsS
  | 0, s => s
  | n + 1, s => opsM ks seen wr n (opStep ks seen wr s)
def nm6 : Nat → Str
  | 0 => ⟨#[111, 110, 101]⟩
  | 1 => ⟨#[116, 119, 111]⟩
  | 2 => ⟨#[116, 104, 114, 101, 101]⟩
  | 3 => ⟨#[102, 111, 117, 114]⟩
  | 4 => ⟨#[102, 105, 118, 101]⟩
  | _ => ⟨#[115, 105, 120]⟩
def sysM (ks : List GKind) (l : List Int) (n : Nat) : GSystem × List Int :=
  let s := allSets ks l
  let o := opsM ks (s.r ++ s.wr) s.wr (nextV s.l 6).toNat ⟨[], [], nextL s.l 6⟩
  (⟨nm6 n, s.w, s.wo, s.r, s.wr, o.ops, o.spawn⟩, o.l)

/-- What the lists of kinds are like after some kinds. -/
structure SetsOk (i : Nat) (s : Sets) : Prop where
  w : ∀ x ∈ s.w, 0 ≤ x ∧ x < (i : Int)
  wo : ∀ x ∈ s.wo, 0 ≤ x ∧ x < (i : Int)
  r : ∀ x ∈ s.r, 0 ≤ x ∧ x < (i : Int)
  wr : ∀ x ∈ s.wr, 0 ≤ x ∧ x < (i : Int)
  len : s.w.length ≤ i ∧ s.wo.length ≤ i ∧ s.r.length ≤ i ∧ s.wr.length ≤ i
  sum : s.r.length + s.wr.length = s.w.length
theorem setStep_ok {i : Nat} {s : Sets} (h : SetsOk i s) : SetsOk (i + 1) (setStep i s) := by
  have hm : ∀ l : List Int, (∀ x ∈ l, 0 ≤ x ∧ x < (i : Int)) → ∀ x ∈ l, 0 ≤ x ∧ x < ((i + 1 : Nat) : Int) := fun l h x hx => by have := h x hx; omega
  have hp : ∀ l : List Int, (∀ x ∈ l, 0 ≤ x ∧ x < (i : Int)) → ∀ x ∈ l ++ [(i : Int)], 0 ≤ x ∧ x < ((i + 1 : Nat) : Int) := fun l h x hx => by
    rcases List.mem_append.1 hx with hx | hx
    · have := h x hx; omega
    · simp at hx; omega
  obtain ⟨h1, h2, h3, h4, h5, h6⟩ := h
  unfold setStep
  split
  · exact ⟨hp _ h1, hm _ h2, hp _ h3, hm _ h4, by simp; omega, by simp; omega⟩
  · split
    · exact ⟨hp _ h1, hm _ h2, hm _ h3, hp _ h4, by simp; omega, by simp; omega⟩
    · split
      · exact ⟨hm _ h1, hp _ h2, hm _ h3, hm _ h4, by simp; omega, by simpa using h6⟩
      · exact ⟨hm _ h1, hm _ h2, hm _ h3, hm _ h4, by simp; omega, by simpa using h6⟩
theorem setsM_ok : ∀ (n i : Nat) (s : Sets), SetsOk i s → SetsOk (i + n) (setsM n i s)
  | 0, _, _, h => h
  | n + 1, i, s, h => by
    have := setsM_ok n (i + 1) _ (setStep_ok h)
    rwa [show i + 1 + n = i + (n + 1) by omega] at this
/-- .. and at the end. -/
theorem allSets_ok {ks : List GKind} {l : List Int} (hk : 0 < ks.length) : InKs ks (allSets ks l).w ∧ InKs ks (allSets ks l).wo ∧ InKs ks (allSets ks l).r ∧ InKs ks (allSets ks l).wr ∧ 0 < ((allSets ks l).r ++ (allSets ks l).wr).length ∧
    (allSets ks l).w.length ≤ ks.length ∧ (allSets ks l).wo.length ≤ ks.length ∧ (allSets ks l).r.length ≤ ks.length ∧ (allSets ks l).wr.length ≤ ks.length ∧ InKs ks ((allSets ks l).r ++ (allSets ks l).wr) := by
  obtain ⟨h1, h2, h3, h4, h5, h6⟩ := setsM_ok ks.length 0 ⟨[], [], [], [], l⟩ ⟨by simp, by simp, by simp, by simp, by simp, by simp⟩
  rw [Nat.zero_add] at h1 h2 h3 h4 h5
  unfold allSets fixSets
  have h0 : InKs ks [0] := fun x hx => by simp at hx; omega
  split
  · rename_i hw
    refine ⟨h0, fun x hx => h2 x (List.mem_filter.1 hx).1, h3, h0, by simp, by simp; omega, Nat.le_trans (List.length_filter_le _ _) h5.2.1, h5.2.2.1, by simp; omega, fun x hx => ?_⟩
    rcases List.mem_append.1 hx with hx | hx
    · exact h3 x hx
    · exact h0 x hx
  · rename_i hw
    refine ⟨h1, h2, h3, h4, ?_, h5.1, h5.2.1, h5.2.2.1, h5.2.2.2, fun x hx => ?_⟩
    · have : 0 < (setsM ks.length 0 ⟨[], [], [], [], l⟩).w.length := List.length_pos_iff.2 hw
      simp; omega
    · rcases List.mem_append.1 hx with hx | hx
      · exact h3 x hx
      · exact h4 x hx

theorem sysDel_fn (x : Int) : Fn Tryz.prog 70 [kI x] (kB (decide (x = 0))) := by
  refine fn_go Tryz.func70 rfl ?_
  simp [Tryz.ntmps70]
  exact finm
end Go.Proofs.YtfojnhceiabbhaaGreat.Am
