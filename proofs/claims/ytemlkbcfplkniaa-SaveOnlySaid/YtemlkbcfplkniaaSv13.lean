/- Package bits: the reader's Left and Get. -/
import Derived.Test.YtemlkbcfplkniaaSv12
set_option linter.unusedVariables false
set_option linter.unusedSimpArgs false
namespace Go.Proofs.Ytemlkbcfplkniaa.Am
open Go Go.RowKit

def bitAt (bs : List Int) (i : Nat) : Nat := (bs.getD (i / 8) 0 / 2 ^ (i % 8) % 2).toNat
def getV (bs : List Int) (p : Nat) : Nat → Nat
  | 0 => 0
  | n + 1 => getV bs p n + bitAt bs (p + n) * 2 ^ n
/-- A reader's box: the bytes, the place. -/
abbrev rSt (bs : List Int) (p : Nat) : List PV := [slB bs, kI p]
/-- What Get gives: the value, the error, the place. -/
def getM (bs : List Int) (p n : Nat) : Nat × Int × Nat := if 8 * bs.length < p + n then (0, 14, p) else (getV bs p n, 0, p + n)
theorem bitAt_lt (bs : List Int) (i : Nat) : bitAt bs i < 2 := by unfold bitAt; omega
theorem getV_lt (bs : List Int) (p : Nat) : ∀ n, getV bs p n < 2 ^ n
  | 0 => by simp [getV]
  | n + 1 => by
    have h1 := getV_lt bs p n
    have h2 := bitAt_lt bs (p + n)
    have h3 : bitAt bs (p + n) * 2 ^ n ≤ 1 * 2 ^ n := Nat.mul_le_mul_right _ (by omega)
    rw [getV, Nat.pow_succ]; omega

theorem bit8 (c : Int) (r : Nat) (h1 : 0 ≤ c) (h2 : c < 256) (hr : r < 8) : IntKind.u8.wrap ↑((c.fdiv (2 ^ min r IntKind.u8.bits) % 2 ^ IntKind.u8.bits).toNat &&& 1 % 2 ^ IntKind.u8.bits) = ((c / 2 ^ r % 2).toNat : Int) := by
  have e1 : min r IntKind.u8.bits = r := Nat.min_eq_left (by show r ≤ 8; omega)
  have e2 : (2 : Int) ^ IntKind.u8.bits = 256 := by decide
  have e3 : (1 % 2 ^ IntKind.u8.bits : Nat) = 1 := by decide
  rw [e1, e2, e3, Int.fdiv_eq_ediv_of_nonneg _ (by exact Int.pow_nonneg (by omega)), Nat.and_one_is_mod, IntKind.wrap_u8]
  have h3 : 0 ≤ c / 2 ^ r := Int.ediv_nonneg h1 (Int.pow_nonneg (by omega))
  have h4 : c / 2 ^ r ≤ c := Int.ediv_le_self _ h1
  generalize c / 2 ^ r = y at h3 h4 ⊢
  omega
theorem or_get (x b i : Nat) (hi : i ≤ 63) (hx : x < 2 ^ i) (hb : b < 2) :
    IntKind.u64.wrap ↑(x % 2 ^ IntKind.u64.bits ||| (IntKind.u64.wrap (IntKind.u64.wrap (b : Int) * 2 ^ min i IntKind.u64.bits) % 2 ^ IntKind.u64.bits).toNat) = ((x + b * 2 ^ i : Nat) : Int) := by
  have e1 : min i IntKind.u64.bits = i := Nat.min_eq_left (by show i ≤ 64; omega)
  have e2 : (2 : Int) ^ IntKind.u64.bits = 18446744073709551616 := by decide
  have e3 : (2 : Nat) ^ IntKind.u64.bits = 18446744073709551616 := by decide
  have hp : 2 ^ i * 2 ≤ 18446744073709551616 := by
    have : (2 : Nat) ^ i * 2 = 2 ^ (i + 1) := by rw [Nat.pow_succ]
    rw [this]
    exact Nat.le_trans (Nat.pow_le_pow_right (by decide) (show i + 1 ≤ 64 by omega)) (by decide)
  have hbp : b * 2 ^ i ≤ 1 * 2 ^ i := Nat.mul_le_mul_right _ (by omega)
  have hor := Nat.two_pow_add_eq_or_of_lt hx b
  rw [Nat.mul_comm] at hor
  have hcast : ((b : Int) * 2 ^ i) = ((b * 2 ^ i : Nat) : Int) := by push_cast; rfl
  have hbw : IntKind.u64.wrap (b : Int) = b := by rw [wrapU]; omega
  rw [e1, e2, e3, hbw, hcast]
  obtain ⟨q, hq⟩ : ∃ q, b * 2 ^ i = q := ⟨_, rfl⟩
  obtain ⟨p2, hp2⟩ : ∃ p2, 2 ^ i = p2 := ⟨_, rfl⟩
  rw [hq] at hbp hor ⊢
  rw [hp2] at hp hbp hx
  simp only [wrapU]
  have a1 : x % 18446744073709551616 = x := by omega
  have a2 : ((q : Int) % 18446744073709551616 % 18446744073709551616).toNat = q := by omega
  rw [a1, a2, Nat.or_comm, ← hor]
  omega

set_option maxRecDepth 20000 in
theorem Left_fn (bs : List Int) (p : Nat) (hl : bs.length ≤ 100000) (hp : p ≤ 8 * bs.length) : FnD Try.prog 149 [.ptr 0 0] [rSt bs p] (kI ((8 * bs.length - p : Nat) : Int)) [some (rSt bs p)] := by
  refine fnd_go Try.func149 rfl ?_
  have hw1 : IntKind.i64.wrap (8 * (bs.length : Int)) = ((8 * bs.length : Nat) : Int) := by rw [wrap_id (by omega) (by omega)]; omega
  have hw2 : IntKind.i64.wrap (8 * (bs.length : Int) - p) = ((8 * bs.length - p : Nat) : Int) := by rw [wrap_id (by omega) (by omega)]; omega
  simp [Try.ntmps149]
  refine awp_draw follows_mix [] [(0, [0]), (0, [0]), (0, [0]), (0, [0]), (0, [0]), (0, [0]), (0, [0]), (0, [0]), (0, [0]), (0, [0]), (0, [0]), (0, [0])] 0 (by kernel_rfl) rfl ?_
  simp [hw1, hw2]
  exact finGm [0]

set_option maxRecDepth 20000 in
set_option maxHeartbeats 1000000 in
theorem Get_fn (bs : List Int) (p n : Nat) (hn : n ≤ 63) (hl : bs.length ≤ 100000) (hb : BytesOk bs) (hp : p ≤ 8 * bs.length) : FnD Try.prog 100 [.ptr 0 0, kI n] [rSt bs p]
    (.tup [kU (getM bs p n).1, kI (getM bs p n).2.1]) [some (rSt bs (getM bs p n).2.2)] := by
  refine fnd_go Try.func100 rfl ?_
  have h1 : ¬ (n : Int) < 0 := by omega
  have h2 : ¬ 64 < (n : Int) := by omega
  simp [Try.ntmps100, h1, h2]
  refine calD [0] (Left_fn bs p hl hp) ?_
  by_cases h3 : 8 * bs.length < p + n
  · have e : getM bs p n = (0, 14, p) := by simp [getM, h3]
    have h3' : ((8 * bs.length - p : Nat) : Int) < n := by omega
    obtain ⟨q, hq⟩ : ∃ q, 8 * bs.length - p = q := ⟨_, rfl⟩
    rw [hq] at h3' ⊢
    rw [e]
    simp [h3']
    exact finGm [0]
  · have e : getM bs p n = (getV bs p n, 0, p + n) := by simp [getM, h3]
    have h3' : ¬ ((8 * bs.length - p : Nat) : Int) < n := by omega
    obtain ⟨q, hq⟩ : ∃ q, 8 * bs.length - p = q := ⟨_, rfl⟩
    rw [hq] at h3' ⊢
    rw [e]
    simp [h3']
    refine awp_loop (fun i : Nat => ⟨54, [(0, .ptr 0 0), (6, kU (getV bs p i)), (18, kI n), (19, kI i)], [some (rSt bs (p + i))], 1⟩) (fun i => i ≤ n) (fun i => n - i) 0 ?_ ?_ ?_
    · exact entm [0] (hT := by simp [getV])
    · simp
    · intro i hi
      refine awp_go ?_
      by_cases hlt : i < n
      · obtain ⟨s, hs⟩ : ∃ s, p + i = s := ⟨_, rfl⟩
        obtain ⟨x, hx⟩ : ∃ x, s / 8 = x := ⟨_, rfl⟩
        obtain ⟨r, hr⟩ : ∃ r, s % 8 = r := ⟨_, rfl⟩
        have hlen : x < bs.length := by omega
        obtain ⟨c, hc⟩ : ∃ c, bs[x] = c := ⟨_, rfl⟩
        obtain ⟨hc1, hc2⟩ := hb c (hc ▸ List.getElem_mem hlen)
        have hbit : bitAt bs s = (c / 2 ^ r % 2).toNat := by simp [bitAt, List.getD, hx, hr, hlen, hc]
        have hgs : getV bs p (i + 1) = getV bs p i + bitAt bs s * 2 ^ i := by rw [getV, hs]
        have ht : (s : Int).tmod 8 = r := by rw [Int.tmod_eq_emod_of_nonneg (by omega)]; omega
        have hq1 : (s : Int).tdiv 8 = x := by rw [Int.tdiv_eq_ediv_of_nonneg (by omega)]; omega
        have ht2 : (s : Int) % 8 = r := by omega
        have hq2 : (s : Int) / 8 = x := by omega
        have hqw : IntKind.i64.wrap (x : Int) = x := wrap_id (by omega) (by omega)
        have hr1 : ¬ (r : Int) < 0 := by omega
        have hi0 : ¬ (i : Int) < 0 := by omega
        have hw1 : IntKind.i64.wrap ((i : Int) + 1) = ((i + 1 : Nat) : Int) := wrap_id (by omega) (by omega)
        have hw2 : IntKind.i64.wrap ((s : Int) + 1) = ((s + 1 : Nat) : Int) := wrap_id (by omega) (by omega)
        simp [hlt]
        rw [hs]
        refine awp_drawS follows_mix [(0, 0), (0, 0), (0, 0), (0, 0), (0, 0), (0, 0), (0, 0), (0, 0), (0, 0), (0, 0), (0, 0), (0, 0), (0, 0), (0, 0), (0, 0), (0, 0), (0, 0), (0, 0), (0, 0), (0, 0), (0, 0), (0, 0), (0, 0), (0, 0)] 1 1 [] (by kernel_rfl) rfl rfl ?_
        simp [ht, hq1, ht2, hq2, hqw, hr1, hi0, hlen, hc]
        rw [bit8 c r hc1 hc2 (by omega), ← hbit, or_get _ _ i (by omega) (getV_lt bs p i) (bitAt_lt bs s), ← hgs, hw1, hw2]
        have hps : p + (i + 1) = s + 1 := by omega
        exact ⟨i + 1, by omega, by omega, entm [0] (hB := by simp [hps])⟩
      · obtain rfl : i = n := by omega
        simp
        exact finGm [0]
end Go.Proofs.Ytemlkbcfplkniaa.Am
