/- Package rnd: Next, Below, Of. -/
import Derived.Test.YtccebflmbnpheaaMixU
set_option linter.unusedVariables false
set_option linter.unusedSimpArgs false
namespace Go.Proofs.Ytccebflmbnpheaa.Am
open Go Go.RowKit

abbrev rE (s g : Int) : PV := .agg [kU s, kU g]
set_option maxRecDepth 20000 in
theorem RNext_fn (s g : Int) : Fn Try.prog 20 [rE s g] (.tup [kU (mixM (IntKind.u64.wrap (s + g))), rE (IntKind.u64.wrap (s + g)) g]) := by
  refine fn_go Try.func20 rfl ?_
  simp [Try.ntmps20]
  refine awp_drawS follows_mix [(0, 0), (0, 0), (2, 0), (0, 0), (0, 0), (1, 0)] 2 2 [] (by kernel_rfl) rfl rfl ?_
  simp
  refine gE_call (kU (mixM (IntKind.u64.wrap (s + g)))) ?_ ?_
  · simp
    exact calO (Mix_fn _)
  simp
  exact finm

theorem odd_inv (g : Int) (h : g % 2 = 1) : ∀ m : Nat, ∃ i q : Int, g * i - 1 = 2 ^ m * q
  | 0 => ⟨0, -1, by simp⟩
  | m + 1 => by
    obtain ⟨i, q, hq⟩ := odd_inv g h m
    by_cases h2 : q % 2 = 0
    · exact ⟨i, q / 2, by rw [hq, Int.pow_succ, Int.mul_assoc]; congr 1; omega⟩
    · refine ⟨i + 2 ^ m, (q + g) / 2, ?_⟩
      have e1 : g * (i + 2 ^ m) - 1 = (g * i - 1) + 2 ^ m * g := by rw [Int.mul_add, Int.mul_comm g (2 ^ m)]; omega
      rw [e1, hq, ← Int.mul_add, Int.pow_succ, Int.mul_assoc]
      congr 1; omega
theorem steps_zero (s g : Int) (h : g % 2 = 1) : ∃ k : Nat, 1 ≤ k ∧ (s + k * g) % 18446744073709551616 = 0 := by
  obtain ⟨i, q, hq⟩ := odd_inv g h 64
  have hp : (2 : Int) ^ 64 = 18446744073709551616 := by decide
  rw [hp] at hq
  obtain ⟨m, hm⟩ : ∃ m : Int, m = (-(s * i)) % 18446744073709551616 := ⟨_, rfl⟩
  have hm0 : 0 ≤ m := by rw [hm]; exact Int.emod_nonneg _ (by decide)
  obtain ⟨t, ht⟩ : ∃ t : Int, m = -(s * i) + 18446744073709551616 * t := by
    refine ⟨-((-(s * i)) / 18446744073709551616), ?_⟩
    rw [hm]
    generalize s * i = X
    omega
  refine ⟨m.toNat + 18446744073709551616, by omega, ?_⟩
  have e0 : ((m.toNat + 18446744073709551616 : Nat) : Int) = m + 18446744073709551616 := by omega
  rw [e0]
  have e1 : s + (m + 18446744073709551616) * g = 18446744073709551616 * (t * g + g - s * q) := by
    have h1 : g * i = 1 + 18446744073709551616 * q := by omega
    have h2 : (s * i) * g = s + 18446744073709551616 * (s * q) := by
      rw [Int.mul_assoc, Int.mul_comm i g, h1, Int.mul_add, Int.mul_one, Int.mul_left_comm]
    rw [ht, Int.add_mul, Int.add_mul, Int.neg_mul, h2, Int.mul_assoc, Int.mul_sub, Int.mul_add]
    omega
  rw [e1]
  exact Int.mul_emod_right _ _
def belowGo (g n lim : Int) : Nat → Int → Int × Int
  | 0, s => (0, s)
  | k + 1, s => if mixM (IntKind.u64.wrap (s + g)) ≤ lim then (mixM (IntKind.u64.wrap (s + g)) % n, IntKind.u64.wrap (s + g)) else belowGo g n lim k (IntKind.u64.wrap (s + g))
noncomputable def belowK (s g : Int) : Nat := open Classical in if h : ∃ k : Nat, 1 ≤ k ∧ (s + k * g) % 18446744073709551616 = 0 then h.choose else 0
noncomputable def belowM (s g n : Int) : Int × Int := belowGo g n (18446744073709551615 - (18446744073709551615 % n + 1) % n) (belowK s g) s
theorem belowK_spec {s g : Int} (h : g % 2 = 1) : 1 ≤ belowK s g ∧ (s + belowK s g * g) % 18446744073709551616 = 0 := by
  have hh := steps_zero s g h
  unfold belowK
  rw [dif_pos hh]
  exact hh.choose_spec
theorem mix_zero : mixM 0 = 0 := by kernel_rfl
theorem belowGo_lt {g n lim : Int} (hn : 0 < n) : ∀ (k : Nat) (s : Int), 0 ≤ (belowGo g n lim k s).1 ∧ (belowGo g n lim k s).1 < n
  | 0, s => ⟨Int.le_refl _, hn⟩
  | k + 1, s => by
    rw [belowGo]
    split
    · exact ⟨Int.emod_nonneg _ (by omega), Int.emod_lt_of_pos _ hn⟩
    · exact belowGo_lt hn k _
theorem belowGo_in {g n lim : Int} : ∀ (k : Nat) (s : Int), In64 s → In64 (belowGo g n lim k s).2
  | 0, s, h => h
  | k + 1, s, h => by
    rw [belowGo]
    split
    · exact in64_wrap _
    · exact belowGo_in k _ (in64_wrap _)
set_option maxRecDepth 20000 in
set_option maxHeartbeats 1000000 in
theorem RBelow_fn (s g n : Int) (hs : In64 s) (hg : In64 g) (ho : g % 2 = 1) (hn : 1 ≤ n) (hn2 : n ≤ 9223372036854775807) : Fn Try.prog 7 [rE s g, kI n] (.tup [kI (belowM s g n).1, rE (belowM s g n).2 g, kI 0]) := by
  obtain ⟨g1, g2⟩ := hg
  refine fn_go Try.func7 rfl ?_
  have h1 : ¬ n < 1 := by omega
  have hn0 : ¬ n = 0 := by omega
  have e0 : IntKind.u64.wrap n = n := by rw [wrapU]; omega
  have e1 : g.tmod 2 = 1 := by rw [Int.tmod_eq_emod_of_nonneg g1]; exact ho
  have e2 : Int.tmod 18446744073709551615 n = 18446744073709551615 % n := Int.tmod_eq_emod_of_nonneg (by omega)
  obtain ⟨p, hp⟩ : ∃ p, 18446744073709551615 % n = p := ⟨_, rfl⟩
  have hp0 := Int.emod_nonneg 18446744073709551615 (show n ≠ 0 by omega)
  have hp1 := Int.emod_lt_of_pos 18446744073709551615 (show 0 < n by omega)
  rw [hp] at hp0 hp1 e2
  have e3 : IntKind.u64.wrap (p + 1) = p + 1 := by rw [wrapU]; omega
  have e4 : Int.tmod (p + 1) n = (p + 1) % n := Int.tmod_eq_emod_of_nonneg (by omega)
  obtain ⟨q, hq⟩ : ∃ q, (p + 1) % n = q := ⟨_, rfl⟩
  have hq0 := Int.emod_nonneg (p + 1) (show n ≠ 0 by omega)
  have hq1 := Int.emod_lt_of_pos (p + 1) (show 0 < n by omega)
  rw [hq] at hq0 hq1 e4
  have e5 : IntKind.u64.wrap (18446744073709551615 - q) = 18446744073709551615 - q := by rw [wrapU]; omega
  obtain ⟨hk1, hk2⟩ := belowK_spec (s := s) ho
  have hM : belowM s g n = belowGo g n (18446744073709551615 - q) (belowK s g) s := by unfold belowM; rw [hp, hq]
  rw [hM]
  simp [Try.ntmps7, h1, e0, e1, e2, e3, e4, hn0]
  refine awp_loop (fun x : Nat × Int => ⟨40, [(2, .ptr 0 0), (5, .ptr 1 0), (7, kU n), (8, kU q)], [some [kU x.2, kU g], some [kU 0, kU 0]], 0⟩)
    (fun x => 1 ≤ x.1 ∧ In64 x.2 ∧ (x.2 + x.1 * g) % 18446744073709551616 = 0 ∧ belowGo g n (18446744073709551615 - q) x.1 x.2 = belowGo g n (18446744073709551615 - q) (belowK s g) s) (fun x => x.1) (belowK s g, s) ?_ ?_ ?_
  · exact entm [0, 1]
  · exact ⟨hk1, hs, hk2, rfl⟩
  · rintro ⟨k, t⟩ ⟨hk, ht, hz, hrun⟩
    simp only at hk ht hz hrun
    obtain ⟨j, rfl⟩ : ∃ j, k = j + 1 := ⟨k - 1, by omega⟩
    refine awp_go ?_
    rw [belowGo] at hrun
    simp
    refine cal (RNext_fn t g) ?_
    obtain ⟨t', ht'⟩ : ∃ t', IntKind.u64.wrap (t + g) = t' := ⟨_, rfl⟩
    have htm : t' = (t + g) % 18446744073709551616 := by rw [← ht', wrapU]
    have hti : In64 t' := ht' ▸ in64_wrap _
    have hmi := mixM_in t'
    rw [ht'] at hrun ⊢
    by_cases hle : mixM t' ≤ 18446744073709551615 - q
    · rw [if_pos hle] at hrun
      have hm1 : Int.tmod (mixM t') n = mixM t' % n := Int.tmod_eq_emod_of_nonneg hmi.1
      have hm2 := Int.emod_nonneg (mixM t') (show n ≠ 0 by omega)
      have hm3 := Int.emod_lt_of_pos (mixM t') (show 0 < n by omega)
      rw [← hrun]
      generalize mixM t' = x at hle hm1 hm2 hm3 ⊢
      have hm4 : IntKind.i64.wrap (x % n) = x % n := wrap_id (by omega) (by omega)
      simp [e5, hle]
      refine awp_drawS follows_mix [(0, 0), (0, 0), (0, 0), (0, 0), (0, 0), (0, 0), (1, 0), (0, 0)] 2 2 [] (by kernel_rfl) rfl rfl ?_
      simp [hm1, hm4, hn0]
      exact finm
    · rw [if_neg hle] at hrun
      have hj : 1 ≤ j := by
        rcases Nat.eq_zero_or_pos j with h0 | h0
        · subst h0
          have e : t' = 0 := by rw [htm, ← hz]; simp
          rw [e, mix_zero] at hle
          omega
        · exact h0
      simp [e5, hle]
      refine ⟨j, t', ⟨hj, hti, ?_, hrun⟩, by omega, entm [0, 1]⟩
      have e6 : ((j + 1 : Nat) : Int) * g = j * g + g := by push_cast; rw [Int.add_mul, Int.one_mul]
      rw [e6] at hz
      rw [htm]
      generalize (j : Int) * g = Y at hz ⊢
      omega
end Go.Proofs.Ytccebflmbnpheaa.Am
