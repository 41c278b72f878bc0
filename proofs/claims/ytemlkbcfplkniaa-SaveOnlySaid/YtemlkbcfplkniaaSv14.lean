/- Package bits: the reader's Nat and Int. -/
import Derived.Test.YtemlkbcfplkniaaSv13
set_option linter.unusedVariables false
set_option linter.unusedSimpArgs false
namespace Go.Proofs.Ytemlkbcfplkniaa.Am
open Go Go.RowKit

/-- What Nat gives from the group i on: the value, the error, the place. -/
def rnGo (bs : List Int) (was : Nat) : Nat → Nat → Nat → Nat → Nat × Int × Nat
  | 0, _, _, _ => (0, 3, was)
  | k + 1, i, v, p =>
    if (getM bs p 5).2.1 ≠ 0 then (0, (getM bs p 5).2.1, was)
    else if i = 16 ∨ (getM bs p 5).1 = 0 ∧ 0 < i then (0, 3, was)
    else if (getM bs p 5).1 < 16 then (v + (getM bs p 5).1 % 16 * 2 ^ (4 * i), 0, (getM bs p 5).2.2)
    else rnGo bs was k (i + 1) (v + (getM bs p 5).1 % 16 * 2 ^ (4 * i)) (getM bs p 5).2.2
def rnat (bs : List Int) (p : Nat) : Nat × Int × Nat := rnGo bs p 17 0 0 p

theorem getM_le {bs : List Int} {p n : Nat} (h : p ≤ 8 * bs.length) : (getM bs p n).2.2 ≤ 8 * bs.length := by
  unfold getM; split
  · exact h
  · simp; omega
theorem getM_lt (bs : List Int) (p n : Nat) : (getM bs p n).1 < 2 ^ n := by
  unfold getM; split
  · exact Nat.two_pow_pos n
  · exact getV_lt bs p n

theorem or_gen (x c k : Nat) (hk : k ≤ 60) (hx : x < 2 ^ k) (hc : c < 16) :
    IntKind.u64.wrap ↑(x % 2 ^ IntKind.u64.bits ||| (IntKind.u64.wrap ((c : Int) * 2 ^ min k IntKind.u64.bits) % 2 ^ IntKind.u64.bits).toNat) = ((x + c * 2 ^ k : Nat) : Int) := by
  have e1 : min k IntKind.u64.bits = k := Nat.min_eq_left (by show k ≤ 64; omega)
  have e2 : (2 : Int) ^ IntKind.u64.bits = 18446744073709551616 := by decide
  have e3 : (2 : Nat) ^ IntKind.u64.bits = 18446744073709551616 := by decide
  have hp : 2 ^ k * 16 ≤ 18446744073709551616 := by
    have : (2 : Nat) ^ k * 16 = 2 ^ (k + 4) := by rw [Nat.pow_add]
    rw [this]
    exact Nat.le_trans (Nat.pow_le_pow_right (by decide) (show k + 4 ≤ 64 by omega)) (by decide)
  have hbp : c * 2 ^ k ≤ 15 * 2 ^ k := Nat.mul_le_mul_right _ (by omega)
  have hor := Nat.two_pow_add_eq_or_of_lt hx c
  rw [Nat.mul_comm] at hor
  have hcast : ((c : Int) * 2 ^ k) = ((c * 2 ^ k : Nat) : Int) := by push_cast; rfl
  rw [e1, e2, e3, hcast]
  obtain ⟨q, hq⟩ : ∃ q, c * 2 ^ k = q := ⟨_, rfl⟩
  obtain ⟨p2, hp2⟩ : ∃ p2, 2 ^ k = p2 := ⟨_, rfl⟩
  rw [hq] at hbp hor ⊢
  rw [hp2] at hp hbp hx
  simp only [wrapU]
  have a1 : x % 18446744073709551616 = x := by omega
  have a2 : ((q : Int) % 18446744073709551616 % 18446744073709551616).toNat = q := by omega
  rw [a1, a2, Nat.or_comm, ← hor]
  omega

set_option maxRecDepth 20000 in
set_option maxHeartbeats 1000000 in
theorem RNat_fn (bs : List Int) (p : Nat) (hl : bs.length ≤ 100000) (hb : BytesOk bs) (hp : p ≤ 8 * bs.length) : FnD Try.prog 132 [.ptr 0 0] [rSt bs p]
    (.tup [kU (rnat bs p).1, kI (rnat bs p).2.1]) [some (rSt bs (rnat bs p).2.2)] := by
  refine fnd_go Try.func132 rfl ?_
  simp [Try.ntmps132]
  refine awp_loop (fun x : Nat × Nat × Nat => ⟨51, [(0, .ptr 0 0), (4, kI p), (5, kU x.2.1), (6, kI x.1)], [some (rSt bs x.2.2)], 1⟩)
    (fun x => x.1 ≤ 16 ∧ x.2.1 < 2 ^ (4 * x.1) ∧ x.2.2 ≤ 8 * bs.length ∧ rnGo bs p (17 - x.1) x.1 x.2.1 x.2.2 = rnat bs p) (fun x => 17 - x.1) (0, 0, p) ?_ ?_ ?_
  · exact entm [0]
  · simp [hp, rnat]
  · rintro ⟨i, v, q⟩ ⟨hi, hv, hq, hrun⟩
    simp only at hi hv hq hrun
    rw [show 17 - i = (16 - i) + 1 by omega, rnGo] at hrun
    refine awp_go ?_
    simp
    refine calD [0] (Get_fn bs q 5 (by omega) hl hb hq) ?_
    have hgl := getM_lt bs q 5
    have hgp := getM_le (n := 5) hq
    obtain ⟨g, hg⟩ : ∃ g, getM bs q 5 = g := ⟨_, rfl⟩
    rw [hg] at hgl hgp hrun ⊢
    obtain ⟨gv, ge, gp⟩ := g
    simp only at hgl hgp hrun ⊢
    by_cases h0 : ge = 0
    · subst h0
      by_cases h16 : i = 16
      · subst h16
        simp at hrun
        simp
        rw [← hrun]
        exact finGm [0]
      · have h16' : ¬ (i : Int) = 16 := by omega
        by_cases hz : gv = 0 ∧ 0 < i
        · obtain ⟨hz1, hz2⟩ := hz
          subst hz1
          simp [hz2] at hrun
          have hz3 : (0 : Int) < i := by omega
          simp [h16', hz2, hz3]
          rw [← hrun]
          exact finGm [0]
        · rw [if_neg (by simp), if_neg (by omega)] at hrun
          have hw4 : IntKind.i64.wrap (4 * (i : Int)) = ((4 * i : Nat) : Int) := by rw [wrap_id (by omega) (by omega)]; omega
          have hw5 : ¬ 4 * (i : Int) < 0 := by omega
          have hw6 : (4 * (i : Int)).toNat = 4 * i := by omega
          have hw7 : IntKind.i64.wrap ((i : Int) + 1) = ((i + 1 : Nat) : Int) := wrap_id (by omega) (by omega)
          have ha : IntKind.u64.wrap ↑(gv % 2 ^ IntKind.u64.bits &&& 15 % 2 ^ IntKind.u64.bits) = ((gv % 16 : Nat) : Int) := by
            have := and15 (gv : Int) (by omega)
            have e : (((gv : Int) % 2 ^ IntKind.u64.bits).toNat) = gv % 2 ^ IntKind.u64.bits := by
              rw [show (2 : Int) ^ IntKind.u64.bits = 18446744073709551616 by decide, show (2 : Nat) ^ IntKind.u64.bits = 18446744073709551616 by decide]; omega
            rw [e] at this
            rw [this]; omega
          have ho := or_gen v (gv % 16) (4 * i) (by omega) hv (by omega)
          rw [show ((gv % 16 : Nat) : Int) = (gv : Int) % 16 by omega] at ho
          have hbd : v + gv % 16 * 2 ^ (4 * i) < 2 ^ (4 * (i + 1)) := by
            have h1 : gv % 16 * 2 ^ (4 * i) ≤ 15 * 2 ^ (4 * i) := Nat.mul_le_mul_right _ (by omega)
            rw [show 4 * (i + 1) = 4 * i + 4 by omega, Nat.pow_add]
            omega
          by_cases hgz : gv = 0
          · obtain rfl : i = 0 := by omega
            subst hgz
            obtain rfl : v = 0 := by simpa using hv
            simp at hrun
            have e0 : IntKind.u64.wrap ↑(0 % 2 ^ IntKind.u64.bits ||| (IntKind.u64.wrap (IntKind.u64.wrap 0) % 2 ^ IntKind.u64.bits).toNat) = 0 := by decide
            rw [← hrun]
            simp
            exact finGm [0] (hres := by simp; decide)
          · simp [h16', hgz, hw4, hw5, hw6, hw7, ha]
            by_cases hg16 : gv < 16
            · rw [if_pos hg16] at hrun
              have hg16' : (gv : Int) < 16 := by omega
              simp only [hg16', decide_true]
              simp
              rw [ho, ← hrun]
              exact finGm [0]
            · rw [if_neg hg16] at hrun
              have hg16' : ¬ (gv : Int) < 16 := by omega
              simp only [hg16', decide_false]
              simp [hw7]
              rw [ho]
              exact ⟨i + 1, v + gv % 16 * 2 ^ (4 * i), gp, ⟨by omega, hbd, hgp, by rw [show 17 - (i + 1) = 16 - i by omega]; exact hrun⟩, by omega, entm [0]⟩
    · rw [if_pos h0] at hrun
      simp [h0]
      rw [← hrun]
      exact finGm [0]

def zag (n : Nat) : Int := if n % 2 = 0 then ((n / 2 : Nat) : Int) else -((n / 2 : Nat) : Int) - 1
theorem zag_op (n : Nat) (h : n < 2 ^ 64) :
    IntKind.i64.wrap (IntKind.u64.wrap ↑(((n : Int).fdiv (2 ^ min 1 IntKind.u64.bits) % 2 ^ IntKind.u64.bits).toNat ^^^ (IntKind.u64.wrap (0 - IntKind.u64.wrap ↑(n % 2 ^ IntKind.u64.bits &&& 1 % 2 ^ IntKind.u64.bits)) % 2 ^ IntKind.u64.bits).toNat)) = zag n := by
  have e1 : (2 : Int) ^ min 1 IntKind.u64.bits = 2 := by decide
  have e2 : (2 : Int) ^ IntKind.u64.bits = 18446744073709551616 := by decide
  have e3 : (2 : Nat) ^ IntKind.u64.bits = 18446744073709551616 := by decide
  rw [e1, e2, e3, Int.fdiv_eq_ediv_of_nonneg _ (by decide), show (1 % 18446744073709551616 : Nat) = 1 by decide, Nat.and_one_is_mod]
  simp only [wrapU]
  have h' : n < 18446744073709551616 := h
  unfold zag
  have a0 : ((n : Int) / 2 % 18446744073709551616).toNat = n / 2 := by omega
  rw [a0]
  have hw : ∀ m : Nat, m < 18446744073709551616 → IntKind.i64.wrap ((m : Int) % 18446744073709551616) = if m < 9223372036854775808 then (m : Int) else (m : Int) - 18446744073709551616 := fun m hm => by
    rw [IntKind.wrap_i64]; split <;> omega
  by_cases hp : n % 2 = 0
  · rw [if_pos hp]
    have a1 : ((0 - ((n % 18446744073709551616 % 2 : Nat) : Int) % 18446744073709551616) % 18446744073709551616 % 18446744073709551616).toNat = 0 := by omega
    rw [a1, Nat.xor_zero, hw _ (by omega), if_pos (by omega)]
  · rw [if_neg hp]
    have a1 : ((0 - ((n % 18446744073709551616 % 2 : Nat) : Int) % 18446744073709551616) % 18446744073709551616 % 18446744073709551616).toNat = 2 ^ 64 - 1 := by omega
    rw [a1, xor_ones _ (by omega), hw _ (by omega), if_neg (by omega)]
    omega

def rint (bs : List Int) (p : Nat) : Int × Int × Nat := if (rnat bs p).2.1 ≠ 0 then (0, (rnat bs p).2.1, (rnat bs p).2.2) else (zag (rnat bs p).1, 0, (rnat bs p).2.2)
theorem rnGo_ok (bs : List Int) (was : Nat) : ∀ (k i v p : Nat), i + k = 17 → v < 2 ^ (4 * i) → was ≤ 8 * bs.length → p ≤ 8 * bs.length → (rnGo bs was k i v p).1 < 2 ^ 64 ∧ (rnGo bs was k i v p).2.2 ≤ 8 * bs.length
  | 0, i, v, p, _, _, hw, _ => by simp [rnGo, hw]
  | k + 1, i, v, p, hik, hv, hw, hp => by
    rw [rnGo]
    split
    · exact ⟨by simp, hw⟩
    · split
      · exact ⟨by simp, hw⟩
      · rename_i h1 h2
        have hi : i ≤ 15 := by omega
        have hg := getM_lt bs p 5
        have hgp := getM_le (bs := bs) (n := 5) hp
        have hbd : v + (getM bs p 5).1 % 16 * 2 ^ (4 * i) < 2 ^ (4 * (i + 1)) := by
          have h1 : (getM bs p 5).1 % 16 * 2 ^ (4 * i) ≤ 15 * 2 ^ (4 * i) := Nat.mul_le_mul_right _ (by omega)
          rw [show 4 * (i + 1) = 4 * i + 4 by omega, Nat.pow_add]
          omega
        split
        · exact ⟨Nat.lt_of_lt_of_le hbd (Nat.pow_le_pow_right (by decide) (by omega)), hgp⟩
        · exact rnGo_ok bs was k (i + 1) _ _ (by omega) hbd hw hgp
theorem rnat_ok (bs : List Int) {p : Nat} (hp : p ≤ 8 * bs.length) : (rnat bs p).1 < 2 ^ 64 ∧ (rnat bs p).2.2 ≤ 8 * bs.length := rnGo_ok bs p 17 0 0 p rfl (by simp) hp hp

set_option maxRecDepth 20000 in
theorem RInt_fn (bs : List Int) (p : Nat) (hl : bs.length ≤ 100000) (hb : BytesOk bs) (hp : p ≤ 8 * bs.length) : FnD Try.prog 131 [.ptr 0 0] [rSt bs p]
    (.tup [kI (rint bs p).1, kI (rint bs p).2.1]) [some (rSt bs (rint bs p).2.2)] := by
  refine fnd_go Try.func131 rfl ?_
  simp [Try.ntmps131]
  refine calD [0] (RNat_fn bs p hl hb hp) ?_
  obtain ⟨hok, _⟩ := rnat_ok bs hp
  have hr : rint bs p = if (rnat bs p).2.1 ≠ 0 then (0, (rnat bs p).2.1, (rnat bs p).2.2) else (zag (rnat bs p).1, 0, (rnat bs p).2.2) := rfl
  obtain ⟨g, hg⟩ : ∃ g, rnat bs p = g := ⟨_, rfl⟩
  rw [hg] at hr hok ⊢
  by_cases h0 : g.2.1 = 0
  · rw [if_neg (by simpa using h0)] at hr
    rw [hr]
    simp [h0]
    have hz := zag_op g.1 hok
    rw [Int.zero_sub] at hz
    rw [hz]
    exact finGm [0]
  · rw [if_pos h0] at hr
    rw [hr]
    simp [h0]
    exact finGm [0]
end Go.Proofs.Ytemlkbcfplkniaa.Am
