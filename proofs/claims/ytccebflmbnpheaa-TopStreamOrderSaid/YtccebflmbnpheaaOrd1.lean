/- Package rnd: Order, New. -/
import Derived.Test.YtccebflmbnpheaaRnd2
import Derived.Test.YtccebflmbnpheaaKind6
import Derived.Test.YtccebflmbnpheaaCmp
set_option linter.unusedVariables false
set_option linter.unusedSimpArgs false
namespace Go.Proofs.Ytccebflmbnpheaa.Am
open Go Go.RowKit

def swpI (o : List Int) (i k : Nat) : List Int := (o.set i (o.getD k 0)).set k (o.getD i 0)
theorem swpI_perm {o : List Int} {i k : Nat} (hi : i < o.length) (hk : k < o.length) : (swpI o i k).Perm o := by
  unfold swpI
  have e1 : o.getD k 0 = o[k] := by simp [List.getD, hk]
  have e2 : o.getD i 0 = o[i] := by simp [List.getD, hi]
  rw [e1, e2]
  exact List.set_set_perm hi hk
noncomputable def ordGo (g : Int) : Nat → List Int → Int → List Int × Int
  | 0, o, s => (o, s)
  | i + 1, o, s => ordGo g i (swpI o (i + 1) (belowM s g ((i : Int) + 2)).1.toNat) (belowM s g ((i : Int) + 2)).2
theorem belowM_lt {s g n : Int} (hn : 0 < n) : 0 ≤ (belowM s g n).1 ∧ (belowM s g n).1 < n := belowGo_lt hn _ _
theorem belowM_in {s g n : Int} (hs : In64 s) : In64 (belowM s g n).2 := belowGo_in _ _ hs
theorem ordGo_perm (g : Int) : ∀ (i : Nat) (o : List Int) (s : Int), i < o.length ∨ i = 0 → (ordGo g i o s).1.Perm o
  | 0, o, s, _ => List.Perm.refl _
  | i + 1, o, s, h => by
    rw [ordGo]
    have hb := belowM_lt (s := s) (g := g) (n := (i : Int) + 2) (by omega)
    have hk : (belowM s g ((i : Int) + 2)).1.toNat < o.length := by omega
    refine (ordGo_perm g i _ _ (.inl (by simp [swpI]; omega))).trans (swpI_perm (by omega) hk)
def rangeI (n : Nat) : List Int := (List.range n).map fun i : Nat => (i : Int)
noncomputable def orderM (s g : Int) (n : Nat) : List Int × Int := ordGo g (n - 1) (rangeI n) s
theorem orderM_perm (s g : Int) (n : Nat) : (orderM s g n).1.Perm (rangeI n) := ordGo_perm g _ _ _ (by simp [rangeI]; omega)

theorem New_r (n : Int) : Fn Try.prog 10 [kI n] (rE (mixM (IntKind.u64.wrap n)) 11400714819323198485) := by
  refine fn_go Try.func10 rfl ?_
  simp [Try.ntmps10]
  refine cal (Mix_fn _) ?_ (hren := by rfl)
  simp
  exact finm

set_option maxRecDepth 20000 in
set_option maxHeartbeats 2000000 in
theorem Order_fn (s g : Int) (n : Nat) (hs : In64 s) (hg : In64 g) (ho : g % 2 = 1) (hn : n ≤ 1000) : Fn Try.prog 9 [rE s g, kI n] (.tup [slI (orderM s g n).1, rE (orderM s g n).2 g, kI 0]) := by
  obtain ⟨g1, g2⟩ := hg
  have e1 : g.tmod 2 = 1 := by rw [Int.tmod_eq_emod_of_nonneg g1]; exact ho
  have n1 : ¬ (n : Int) < 0 := by omega
  have n2 : ¬ 1000 < (n : Int) := by omega
  have w1 : IntKind.u64.wrap 1 = 1 := by decide
  have b1 : 8 * (n : Int) ≤ 281474976710656 := by omega
  have b2 : (n : Int) ≤ 9223372036854775807 := by omega
  refine fn_go Try.func9 rfl ?_
  simp [Try.ntmps9, e1, n1, n2, w1, b1, b2]
  have hre : ∀ i, i < n → (rangeI i ++ List.replicate (n - i) 0).set i (i : Int) = rangeI (i + 1) ++ List.replicate (n - (i + 1)) 0 := fun i hi => by
    have h1 : (rangeI i).length = i := by simp [rangeI]
    rw [List.set_append_right _ _ (by omega), h1, Nat.sub_self, show n - i = (n - (i + 1)) + 1 by omega, List.replicate_succ, List.set_cons_zero]
    simp [rangeI, List.range_succ]
  refine awp_loop (fun x : Nat × List Int => ⟨69, [(1, kI n), (2, .ptr 0 0), (5, .ptr 1 0), (6, kI 0), (7, .osl 2 1 0 n), (29, kI n), (30, kI x.1)], [some [kU s, kU g], some [kU 0, kU 0], some (x.2.map kI)], 0⟩)
    (fun x => x.1 ≤ n ∧ x.2 = rangeI x.1 ++ List.replicate (n - x.1) 0) (fun x => n - x.1) (0, List.replicate n 0) ?_ ?_ ?_
  · exact entm [0, 1, 2]
  · exact ⟨by simp, by simp [rangeI]⟩
  · rintro ⟨i, L⟩ ⟨hi, hL⟩
    simp only at hi hL
    refine awp_go ?_
    have hLl : L.length = n := by rw [hL]; simp [rangeI]; omega
    by_cases hlt : i < n
    · have hset := hre i hlt
      rw [← hL] at hset
      have hi2 : (i : Int) < n := by omega
      have hb : i + 1 ≤ n := by omega
      have hw : IntKind.i64.wrap ((i : Int) + 1) = (i : Int) + 1 := wrap_id (by omega) (by omega)
      have hsi := set_ints (A := L) (i := i) (by omega) (i : Int)
      simp [hlt, hi2, hb, hLl, hw]
      rw [hsi]
      obtain ⟨L', hL'⟩ : ∃ L', L.set i (i : Int) = L' := ⟨_, rfl⟩
      rw [hL'] at hset ⊢
      exact ⟨i + 1, L', ⟨by omega, hset⟩, by omega, entm [0, 1, 2]⟩
    · obtain rfl : i = n := by omega
      have hL2 : L = rangeI i := by rw [hL]; simp
      have hw : IntKind.i64.wrap ((i : Int) - 1) = (i : Int) - 1 := wrap_id (by omega) (by omega)
      simp [hw]
      refine awp_loop (fun x : Int × List Int × Int => ⟨69, [(2, .ptr 0 0), (5, .ptr 1 0), (6, kI 0), (7, .osl 2 1 0 i), (9, kI x.1)], [some [kU x.2.2, kU g], some [kU 0, kU 0], some (x.2.1.map kI)], 0⟩)
        (fun x => -1 ≤ x.1 ∧ x.1 < i ∧ x.2.1.length = i ∧ In64 x.2.2 ∧ ordGo g x.1.toNat x.2.1 x.2.2 = orderM s g i) (fun x => x.1.toNat) ((i : Int) - 1, L, s) ?_ ?_ ?_
      · exact entm [0, 1, 2]
      · refine ⟨by simp only; omega, by simp only; omega, hLl, hs, ?_⟩
        simp only
        rw [hL2, show ((i : Int) - 1).toNat = i - 1 by omega]; rfl
      · rintro ⟨z, o, t⟩ ⟨hz1, hz2, hol, ht, hrun⟩
        simp only at hz1 hz2 hol ht hrun
        refine awp_go ?_
        by_cases hz : 0 < z
        · obtain ⟨j, rfl⟩ : ∃ j : Nat, z = ((j + 1 : Nat) : Int) := ⟨z.toNat - 1, by omega⟩
          have e0 : ((j + 1 : Nat) : Int).toNat = j + 1 := by omega
          rw [e0, ordGo] at hrun
          have hbl := belowM_lt (s := t) (g := g) (n := (j : Int) + 2) (by omega)
          have hbi := belowM_in (g := g) (n := (j : Int) + 2) ht
          have hBe := RBelow_fn t g ((j : Int) + 2) ht ⟨g1, g2⟩ ho (by omega) (by omega)
          obtain ⟨k, hk⟩ : ∃ k : Nat, (belowM t g ((j : Int) + 2)).1 = k := ⟨(belowM t g ((j : Int) + 2)).1.toNat, by omega⟩
          obtain ⟨t', ht'⟩ : ∃ t', (belowM t g ((j : Int) + 2)).2 = t' := ⟨_, rfl⟩
          rw [hk, ht'] at hBe
          rw [hk, ht'] at hrun
          rw [ht'] at hbi
          simp only [Int.toNat_natCast] at hrun
          obtain ⟨q, hq⟩ : ∃ q, j + 1 = q := ⟨_, rfl⟩
          rw [hq] at hrun hz2 hz ⊢
          have hw3 : IntKind.i64.wrap ((q : Int) + 1) = (j : Int) + 2 := by rw [wrap_id (by omega) (by omega)]; omega
          have hw4 : IntKind.i64.wrap ((q : Int) - 1) = (j : Int) := by rw [wrap_id (by omega) (by omega)]; omega
          have hzq : 0 < q := by omega
          simp [hzq, hw3]
          refine cal hBe ?_
          have hqi : q < i := by omega
          have hki : k < i := by omega
          have hqi2 : (q : Int) < i := by omega
          have hki2 : (k : Int) < i := by omega
          have hqo : q < o.length := by omega
          have hko : k < o.length := by omega
          have b3 : q + 1 ≤ i := by omega
          have b4 : k + 1 ≤ i := by omega
          have s1 := set_ints (A := o) (i := q) hqo o[k]
          have s2 := set_ints (A := o.set q o[k]) (i := k) (by simpa using hko) o[q]
          have hsw : (o.set q o[k]).set k o[q] = swpI o q k := by unfold swpI; simp [List.getD, hqo, hko]
          rw [hsw] at s2
          obtain ⟨o1, ho1⟩ : ∃ o1, o.set q o[k] = o1 := ⟨_, rfl⟩
          rw [ho1] at s1 s2
          have ho1l : o1.length = i := by rw [← ho1]; simp [hol]
          have hsl : (swpI o q k).length = i := by simp [swpI, hol]
          obtain ⟨o2, ho2⟩ : ∃ o2, swpI o q k = o2 := ⟨_, rfl⟩
          rw [ho2] at s2 hrun hsl
          simp
          refine awp_draw follows_mix [] [(0, [0]), (0, [0]), (0, [0, 1]), (0, [0, 1]), (0, [0]), (0, [0]), (0, [0]), (0, [0]), (0, [0]), (0, [0]), (0, [0]), (0, [0]), (0, [0]), (1, [0]), (0, [1]), (1, [1])] 2 (by kernel_rfl) rfl ?_
          simp [hqi, hki, hqi2, hki2, hqo, hko, b3, b4, hol, s1, ho1l, s2, hw4]
          exact ⟨(j : Int), o2, t', ⟨by omega, by omega, hsl, hbi, by simpa using hrun⟩, by omega, entm [0, 1, 2]⟩
        · have hz0 : z.toNat = 0 := by omega
          rw [hz0, ordGo] at hrun
          simp [hz]
          refine awp_draw follows_mix [] [(0, [0]), (0, [0]), (0, [0]), (1, [0]), (0, [1])] 1 (by kernel_rfl) rfl ?_
          simp
          refine fin_fz 2 (o.map kI) ?_
          have hch := chunks_ints o
          rw [hol] at hch
          simp [hch, hol]
          exact finm (by simp [← hrun, slI_def])
end Go.Proofs.Ytccebflmbnpheaa.Am
