/- Package save: the reader's get and name; quant.Get; bits.New; bytes.Equal. -/
import Derived.Test.YtemlkbcfplkniaaSv14
set_option linter.unusedVariables false
set_option linter.unusedSimpArgs false
namespace Go.Proofs.Ytemlkbcfplkniaa.Am
open Go Go.RowKit

/-- Where a reader stands: its place, and whether something failed. -/
abbrev RS := Nat × Bool
abbrev rdSt (s : RS) (b : Nat) : List PV := [.ptr b 0, kB s.2]
def qget (bs : List Int) (p : Nat) (f : GField) : Int × Int × Nat := if (getM bs p f.Bits.toNat).2.1 ≠ 0 then (0, (getM bs p f.Bits.toNat).2.1, (getM bs p f.Bits.toNat).2.2) else (f.Low + (getM bs p f.Bits.toNat).1, 0, (getM bs p f.Bits.toNat).2.2)
def rget (bs : List Int) (s : RS) (n : Nat) : Nat × RS := ((getM bs s.1 n).1, (getM bs s.1 n).2.2, s.2 || decide ((getM bs s.1 n).2.1 ≠ 0))

set_option maxRecDepth 20000 in
theorem QGet_fn (bs : List Int) (p : Nat) (f : GField) (hf : fieldB f = true) (hl : bs.length ≤ 100000) (hb : BytesOk bs) (hp : p ≤ 8 * bs.length) : FnD Try.prog 48 [.ptr 0 0, .agg f.e] [rSt bs p]
    (.tup [kI (qget bs p f).1, kI (qget bs p f).2.1]) [some (rSt bs (qget bs p f).2.2)] := by
  obtain ⟨h1, h2, h3, h4⟩ := field_in hf
  refine fnd_go Try.func48 rfl ?_
  simp [Try.ntmps48]
  refine cal (QCheck_fn f hf) ?_
  simp [GField.e]
  obtain ⟨m, hm⟩ : ∃ m : Nat, f.Bits = m := ⟨f.Bits.toNat, by omega⟩
  have hgm := Get_fn bs p m (by omega) hl hb hp
  have hq : qget bs p f = if (getM bs p m).2.1 ≠ 0 then (0, (getM bs p m).2.1, (getM bs p m).2.2) else (f.Low + (getM bs p m).1, 0, (getM bs p m).2.2) := by simp [qget, hm]
  have hlt := getM_lt bs p m
  rw [hm]
  refine calD [0] hgm ?_
  obtain ⟨g, hg⟩ : ∃ g, getM bs p m = g := ⟨_, rfl⟩
  rw [hg] at hq hlt ⊢
  have hp2 : 2 ^ m ≤ 2 ^ 32 := Nat.pow_le_pow_right (by decide) (by omega)
  by_cases h0 : g.2.1 = 0
  · rw [if_neg (by simpa using h0)] at hq
    rw [hq]
    have hw1 : IntKind.i64.wrap (g.1 : Int) = g.1 := wrap_id (by omega) (by omega)
    have hw2 : IntKind.i64.wrap (f.Low + (g.1 : Int)) = f.Low + g.1 := wrap_id (by omega) (by omega)
    simp [h0, hw1, hw2]
    exact finGm [0]
  · rw [if_pos h0] at hq
    rw [hq]
    simp [h0]
    exact finGm [0]

set_option maxRecDepth 20000 in
theorem RGet_fn (bs : List Int) (s : RS) (n : Nat) (hn : n ≤ 32) (hl : bs.length ≤ 100000) (hb : BytesOk bs) (hp : s.1 ≤ 8 * bs.length) : FnD Try.prog 79 [.ptr 0 0, kI n] [rdSt s 1, rSt bs s.1]
    (kI (rget bs s n).1) [some (rdSt (rget bs s n).2 1), some (rSt bs (rget bs s n).2.1)] := by
  refine fnd_go Try.func79 rfl ?_
  simp [Try.ntmps79]
  refine calD [1] (Get_fn bs s.1 n (by omega) hl hb hp) ?_
  have hlt := getM_lt bs s.1 n
  have hr : rget bs s n = ((getM bs s.1 n).1, (getM bs s.1 n).2.2, s.2 || decide ((getM bs s.1 n).2.1 ≠ 0)) := rfl
  rw [hr]
  obtain ⟨g, hg⟩ : ∃ g, getM bs s.1 n = g := ⟨_, rfl⟩
  rw [hg] at hlt ⊢
  have hp2 : 2 ^ n ≤ 2 ^ 32 := Nat.pow_le_pow_right (by decide) (by omega)
  have hw1 : IntKind.i64.wrap (g.1 : Int) = g.1 := wrap_id (by omega) (by omega)
  obtain ⟨p, bad⟩ := s
  cases bad with
  | true =>
    simp [hw1]
    exact finGm [0, 1]
  | false =>
    by_cases h0 : g.2.1 = 0
    · simp [hw1, h0]
      exact finGm [0, 1]
    · simp [hw1, h0]
      exact finGm [0, 1]

set_option maxRecDepth 20000 in
theorem Equal_fn (xs ys : List Int) (hx : BytesOk xs) (hy : BytesOk ys) : Fn Try.prog 77 [slB xs, slB ys] (kB (decide (xs = ys))) := by
  have hinj : ∀ {a b : List Int}, BytesOk a → BytesOk b → strOfNums a = strOfNums b → a = b := fun {a b} ha hb h => by
    have h1 := congrArg (fun s => s.data.toList) h
    simp only [strOfNums_data] at h1
    have h2 : a.map (fun n => UInt8.ofNat n.toNat) = b.map (fun n => UInt8.ofNat n.toNat) := h1
    clear h h1
    induction a generalizing b with
    | nil => cases b with
      | nil => rfl
      | cons y b => simp at h2
    | cons x a ih => cases b with
      | nil => simp at h2
      | cons y b =>
        simp only [List.map_cons, List.cons.injEq] at h2
        have hxx := ha x (by simp)
        have hyy := hb y (by simp)
        have h3 := congrArg UInt8.toNat h2.1
        simp at h3
        have : x = y := by omega
        rw [this, ih (fun c hc => ha c (by simp [hc])) (fun c hc => hb c (by simp [hc])) h2.2]
  refine fn_go Try.func77 rfl ?_
  simp [Try.ntmps77]
  refine ops_b2sI (xs := xs) (e := 5) ?_
  simp
  refine ops_b2sI (xs := ys) (e := 5) ?_
  simp
  by_cases h : xs = ys
  · simp [h]
    exact finm
  · have h2 : ¬ strOfNums xs = strOfNums ys := fun e => h (hinj hx hy e)
    simp [h, h2]
    exact finm
end Go.Proofs.Ytemlkbcfplkniaa.Am
