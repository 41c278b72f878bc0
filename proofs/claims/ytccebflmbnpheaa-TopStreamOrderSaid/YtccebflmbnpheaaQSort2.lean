/- Package queue: Take. -/
import Derived.Test.YtccebflmbnpheaaQSort1
set_option linter.unusedVariables false
set_option linter.unusedSimpArgs false
namespace Go.Proofs.Ytccebflmbnpheaa.Am
open Go Go.RowKit

theorem atQ_app {h t : List GMark} {i : Nat} (hi : i < h.length) : atQ (h ++ t) i = atQ h i := by simp [atQ, List.getD, List.getElem?_append_left hi]
theorem swp_app {h t : List GMark} {i k : Nat} (hi : i < h.length) (hk : k < h.length) : swp (h ++ t) i k = swp h i k ++ t := by
  unfold swp
  rw [atQ_app hi, atQ_app hk, List.set_append_left _ _ hi, List.set_append_left _ _ (by simpa using hk)]

set_option maxRecDepth 20000 in
set_option maxHeartbeats 4000000 in
theorem QTake_q (h zs : List GMark) (n : Nat) (c : Int) (hn : h.length = n + 1) (hl : n ≤ 1000000) : FnD Try.prog 24 [.ptr 0 0] [[.osl 1 3 0 (n + 1), kI c], ((h ++ zs).map GMark.e).flatten]
    (.tup [kI (atQ h 0).N, kI (atQ h 0).Kind, kI 0]) [some [.osl 1 3 0 n, kI c], some ((takeH h n ++ q0 :: zs).map GMark.e).flatten] := by
  refine fnd_go Try.func24 rfl ?_
  obtain ⟨H, hH⟩ : ∃ H, h ++ zs = H := ⟨_, rfl⟩
  have hHl : n + 1 ≤ H.length := by rw [← hH]; simp; omega
  have h0H : 0 < H.length := by omega
  have hnH : n < H.length := by omega
  have ha0 : atQ h 0 = H[0] := by rw [← atQ_get h0H, ← hH, atQ_app (by omega)]
  have han : atQ h n = H[n] := by rw [← atQ_get hnH, ← hH, atQ_app (by omega)]
  obtain ⟨x, hx⟩ : ∃ x, H[0] = x := ⟨_, rfl⟩
  obtain ⟨y, hy⟩ : ∃ y, H[n] = y := ⟨_, rfl⟩
  rw [hH, ha0, hx]
  have hw1 : IntKind.i64.wrap ((n : Int) + 1 - 1) = n := by rw [wrap_id (by omega) (by omega)]; omega
  have hw0 : IntKind.i64.wrap (n : Int) = n := wrap_id (by omega) (by omega)
  have hnn : ¬ (n : Int) < 0 := by omega
  have hn1 : (n : Int) < (n : Int) + 1 := by omega
  have hp1 : (0 : Int) < (n : Int) + 1 := by omega
  have hp2 : 0 < n + 1 := by omega
  have hn2 : n < n + 1 := by omega
  have hBl : (H.map GMark.e).flatten.length = H.length * 3 := flat_lenE GMark.e_len H
  have g0 : 3 ≤ H.length * 3 := by omega
  have gn : n * 3 + 3 ≤ H.length * 3 := by omega
  have q1 := GMark.row H 0 h0H
  have r1 := row_set (e := GMark.e) (z := 3) GMark.e_len H 0 y h0H
  have hnS : n < (H.set 0 y).length := by simpa using hnH
  have r2 := row_set (e := GMark.e) (z := 3) GMark.e_len (H.set 0 y) n q0 hnS
  have hD : (H.set 0 y).set n q0 = ((h.set 0 y).take n) ++ q0 :: zs := by
    rw [← hH, List.set_append_left _ _ (by omega), List.set_append_left _ _ (by simp; omega), List.set_eq_take_append_cons_drop, if_pos (by simp; omega)]
    have : (h.set 0 y).drop (n + 1) = [] := List.drop_of_length_le (by simp; omega)
    rw [this]; simp
  rw [hD] at r2
  simp only [Nat.zero_mul, Nat.zero_add, List.take_zero, List.nil_append, List.drop_zero] at q1 r1
  rw [hx] at q1
  obtain ⟨L1, hL1⟩ : ∃ L1, H.set 0 y = L1 := ⟨_, rfl⟩
  rw [hL1] at r1 r2
  have hl1 : L1.length = H.length := by rw [← hL1]; simp
  have gn1 : n * 3 + 3 ≤ L1.length * 3 := by omega
  obtain ⟨D0, hD0⟩ : ∃ D0, (h.set 0 y).take n = D0 := ⟨_, rfl⟩
  have hD0l : D0.length = n := by rw [← hD0]; simp; omega
  rw [hD0] at r2
  have r3 : (L1.map GMark.e).flatten.take (n * 3) ++ kI 0 :: kI 0 :: kI 0 :: (L1.map GMark.e).flatten.drop (n * 3 + 3) = ((D0 ++ q0 :: zs).map GMark.e).flatten := r2
  have hle : (n : Int) ≤ (n : Int) + 1 := by omega
  simp [Try.ntmps24, hw0, hw1, hnn, hp1, hp2, g0, q1]
  refine awp_draw follows_mix [] [(0, [0]), (0, [0]), (0, [0]), (0, [0]), (0, [0]), (0, [0]), (0, [0]), (0, [0]), (0, [0]), (0, [0]), (0, [0]), (0, [0]), (1, [0])] 1 (by kernel_rfl) rfl ?_
  simp [hn1, hn2, hp1, hp2, hnH, hy, g0, gn, gn1, r1, r3, h0H, hle]
  have hh0 : (h.set 0 y).take n = (h.set 0 (atQ h n)).take n := by rw [han, hy]
  have htk : takeH h n = down (n + 1) ((h.set 0 y).take n) n 0 := by unfold takeH; rw [hh0]
  rw [htk, hD0]
  refine awp_loop (fun z : Nat × List GMark × Nat => ⟨109, [(0, .ptr 0 0), (6, kI n), (7, .ptr 2 0), (8, kI z.2.2)], [some [.osl 1 3 0 n, kI c], some ((z.2.1 ++ q0 :: zs).map GMark.e).flatten, some x.e], 2⟩)
    (fun z => z.2.1.length = n ∧ n < z.1 + z.2.2 ∧ z.2.2 ≤ 2 * n ∧ down z.1 z.2.1 n z.2.2 = down (n + 1) D0 n 0) (fun z => n - z.2.2) (n + 1, D0, 0) ?_ ?_ ?_
  · exact entm [0, 1, 2] (hB := by simp)
  · exact ⟨hD0l, by simp, by simp, rfl⟩
  · rintro ⟨f, D, i⟩ ⟨hDl, hf, hi2n, hrun⟩
    simp only at hDl hf hi2n hrun
    refine awp_go ?_
    obtain ⟨k1, hk1⟩ : ∃ k1, 2 * i + 1 = k1 := ⟨_, rfl⟩
    obtain ⟨k2, hk2⟩ : ∃ k2, k1 + 1 = k2 := ⟨_, rfl⟩
    have hwA : IntKind.i64.wrap (2 * (i : Int)) = 2 * (i : Int) := wrap_id (by omega) (by omega)
    have hwB : IntKind.i64.wrap (2 * (i : Int) + 1) = (k1 : Int) := by rw [wrap_id (by omega) (by omega)]; omega
    have hwC : IntKind.i64.wrap ((k1 : Int) + 1) = (k2 : Int) := by rw [wrap_id (by omega) (by omega)]; omega
    by_cases hA : n ≤ k1
    · have hdn : down f D n i = D := by
        cases f with
        | zero => rfl
        | succ f =>
          unfold down
          have hc : ¬ (2 * i + 1 + 1 < n ∧ bef (atQ D (2 * i + 1 + 1)) (atQ D (2 * i + 1)) = true) := fun h => by omega
          rw [if_neg hc]
          simp only
          rw [if_pos (.inl (by omega))]
      rw [hdn] at hrun
      have n1 : ¬ k2 < n := by omega
      simp [hwA, hwB, hwC, n1, hA]
      refine awp_draw follows_mix [] [(0, [0]), (0, [0]), (0, [0]), (0, [0]), (0, [0]), (0, [0]), (0, [0])] 0 (by kernel_rfl) rfl ?_
      simp
      rw [← hrun]
      exact finGm [0, 1]
    · obtain ⟨f, rfl⟩ : ∃ g, f = g + 1 := ⟨f - 1, by omega⟩
      have hA' : ¬ n ≤ k1 := hA
      -- the least child
      have step : ∀ k, k < n → i < k → (if 2 * i + 1 + 1 < n ∧ bef (atQ D (2 * i + 1 + 1)) (atQ D (2 * i + 1)) = true then 2 * i + 1 + 1 else 2 * i + 1) = k → down (f + 1) D n i = if bef (atQ D i) (atQ D k) = true then D else down f (swp D i k) n k := fun k kn ik hk => by
        rw [down]
        simp only [hk]
        by_cases hb : bef (atQ D i) (atQ D k) = true
        · rw [if_pos (.inr hb), if_pos hb]
        · rw [if_neg (fun h => by rcases h with h | h; omega; exact hb h), if_neg hb]
      have n0 : ¬ (n : Int) ≤ k1 := by omega
      by_cases hB1 : k2 < n
      · have hB0 := before_fn (D ++ q0 :: zs) n c k2 k1 hB1 (by omega) (by simp; omega) (by omega)
        rw [atQ_app (by omega), atQ_app (by omega)] at hB0
        simp [hwA, hwB, hwC, hB1]
        refine calD [0, 1] hB0 ?_
        by_cases hb0 : bef (atQ D k2) (atQ D k1) = true
        · have hst := step k2 hB1 (by omega) (by rw [if_pos (by subst hk2; subst hk1; exact ⟨hB1, hb0⟩)]; omega)
          have kn : k2 < n := hB1
          have n2 : ¬ n ≤ k2 := by omega
          simp [hb0, hwC, n2]
          have hB := before_fn (D ++ q0 :: zs) n c i k2 (by omega) kn (by simp; omega) (by omega)
          rw [atQ_app (by omega), atQ_app (by omega)] at hB
          rw [hst] at hrun
          refine calD [0, 1] hB ?_
          by_cases hb : bef (atQ D i) (atQ D k2) = true
          · rw [if_pos hb] at hrun
            simp [hb]
            refine awp_draw follows_mix [] [(0, [0]), (0, [0]), (0, [0]), (0, [0]), (0, [0]), (0, [0]), (0, [0])] 0 (by kernel_rfl) rfl ?_
            simp
            rw [← hrun]
            exact finGm [0, 1]
          · rw [if_neg hb] at hrun
            obtain ⟨Z, hZ⟩ : ∃ Z, D ++ q0 :: zs = Z := ⟨_, rfl⟩
            have hZl : D.length < Z.length := by rw [← hZ]; simp
            have hiZ : i < Z.length := by omega
            have hkZ : k2 < Z.length := by omega
            have hin : i < n := by omega
            have hin2 : (i : Int) < (n : Int) := by omega
            have hkn2 : (k2 : Int) < (n : Int) := by omega
            have e1 : i * 3 + 3 ≤ Z.length * 3 := by omega
            have e2 : k2 * 3 + 3 ≤ Z.length * 3 := by omega
            have s1 := row_set (e := GMark.e) (z := 3) GMark.e_len Z i Z[k2] hiZ
            have hkS : k2 < (Z.set i Z[k2]).length := by simpa using hkZ
            have s2 := row_set (e := GMark.e) (z := 3) GMark.e_len (Z.set i Z[k2]) k2 Z[i] hkS
            have hsw : (Z.set i Z[k2]).set k2 Z[i] = swp D i k2 ++ q0 :: zs := by
              rw [← swp_app (by omega) (by omega), hZ]
              unfold swp; rw [atQ_get hiZ, atQ_get hkZ]
            rw [hsw] at s2
            obtain ⟨M1, hM1⟩ : ∃ M1, Z.set i Z[k2] = M1 := ⟨_, rfl⟩
            rw [hM1] at s1 s2
            have hm1 : M1.length = Z.length := by rw [← hM1]; simp
            have e3 : k2 * 3 + 3 ≤ M1.length * 3 := by omega
            have hsl := swp_len D i k2
            rw [hZ]
            simp [hb]
            refine awp_draw follows_mix [] [(0, [0]), (0, [0]), (0, [0]), (0, [0]), (0, [0]), (0, [0]), (0, [0]), (0, [0]), (0, [0]), (0, [0, 1]), (0, [0]), (0, [0]), (0, [0]), (0, [0]), (0, [0]), (0, [0]), (0, [0]), (0, [0]), (0, [0]), (0, [0]), (0, [0]), (0, [0]), (0, [0]), (0, [0]), (0, [0]), (1, [0]), (0, [1]), (1, [1])] 2 (by kernel_rfl) rfl ?_
            simp [hin, kn, hin2, hkn2, hiZ, hkZ, e1, e2, e3, s1, s2]
            exact ⟨f, swp D i k2, k2, ⟨by omega, by omega, by omega, hrun⟩, by omega, entm [0, 1, 2] (hB := by simp)⟩
        · have hst := step k1 (by omega) (by omega) (by rw [if_neg (by subst hk2; subst hk1; exact fun h => hb0 h.2)]; omega)
          have kn : k1 < n := by omega
          simp [hb0, hA']
          have hB := before_fn (D ++ q0 :: zs) n c i k1 (by omega) kn (by simp; omega) (by omega)
          rw [atQ_app (by omega), atQ_app (by omega)] at hB
          rw [hst] at hrun
          refine calD [0, 1] hB ?_
          by_cases hb : bef (atQ D i) (atQ D k1) = true
          · rw [if_pos hb] at hrun
            simp [hb]
            refine awp_draw follows_mix [] [(0, [0]), (0, [0]), (0, [0]), (0, [0]), (0, [0]), (0, [0]), (0, [0])] 0 (by kernel_rfl) rfl ?_
            simp
            rw [← hrun]
            exact finGm [0, 1]
          · rw [if_neg hb] at hrun
            obtain ⟨Z, hZ⟩ : ∃ Z, D ++ q0 :: zs = Z := ⟨_, rfl⟩
            have hZl : D.length < Z.length := by rw [← hZ]; simp
            have hiZ : i < Z.length := by omega
            have hkZ : k1 < Z.length := by omega
            have hin : i < n := by omega
            have hin2 : (i : Int) < (n : Int) := by omega
            have hkn2 : (k1 : Int) < (n : Int) := by omega
            have e1 : i * 3 + 3 ≤ Z.length * 3 := by omega
            have e2 : k1 * 3 + 3 ≤ Z.length * 3 := by omega
            have s1 := row_set (e := GMark.e) (z := 3) GMark.e_len Z i Z[k1] hiZ
            have hkS : k1 < (Z.set i Z[k1]).length := by simpa using hkZ
            have s2 := row_set (e := GMark.e) (z := 3) GMark.e_len (Z.set i Z[k1]) k1 Z[i] hkS
            have hsw : (Z.set i Z[k1]).set k1 Z[i] = swp D i k1 ++ q0 :: zs := by
              rw [← swp_app (by omega) (by omega), hZ]
              unfold swp; rw [atQ_get hiZ, atQ_get hkZ]
            rw [hsw] at s2
            obtain ⟨M1, hM1⟩ : ∃ M1, Z.set i Z[k1] = M1 := ⟨_, rfl⟩
            rw [hM1] at s1 s2
            have hm1 : M1.length = Z.length := by rw [← hM1]; simp
            have e3 : k1 * 3 + 3 ≤ M1.length * 3 := by omega
            have hsl := swp_len D i k1
            rw [hZ]
            simp [hb]
            refine awp_draw follows_mix [] [(0, [0]), (0, [0]), (0, [0]), (0, [0]), (0, [0]), (0, [0]), (0, [0]), (0, [0]), (0, [0]), (0, [0, 1]), (0, [0]), (0, [0]), (0, [0]), (0, [0]), (0, [0]), (0, [0]), (0, [0]), (0, [0]), (0, [0]), (0, [0]), (0, [0]), (0, [0]), (0, [0]), (0, [0]), (0, [0]), (1, [0]), (0, [1]), (1, [1])] 2 (by kernel_rfl) rfl ?_
            simp [hin, kn, hin2, hkn2, hiZ, hkZ, e1, e2, e3, s1, s2]
            exact ⟨f, swp D i k1, k1, ⟨by omega, by omega, by omega, hrun⟩, by omega, entm [0, 1, 2] (hB := by simp)⟩
      · have hst := step k1 (by omega) (by omega) (by rw [if_neg (fun h => hB1 (by omega)), hk1])
        have kn : k1 < n := by omega
        simp [hwA, hwB, hwC, hB1, hA']
        have hB := before_fn (D ++ q0 :: zs) n c i k1 (by omega) kn (by simp; omega) (by omega)
        rw [atQ_app (by omega), atQ_app (by omega)] at hB
        rw [hst] at hrun
        refine calD [0, 1] hB ?_
        by_cases hb : bef (atQ D i) (atQ D k1) = true
        · rw [if_pos hb] at hrun
          simp [hb]
          refine awp_draw follows_mix [] [(0, [0]), (0, [0]), (0, [0]), (0, [0]), (0, [0]), (0, [0]), (0, [0])] 0 (by kernel_rfl) rfl ?_
          simp
          rw [← hrun]
          exact finGm [0, 1]
        · rw [if_neg hb] at hrun
          obtain ⟨Z, hZ⟩ : ∃ Z, D ++ q0 :: zs = Z := ⟨_, rfl⟩
          have hZl : D.length < Z.length := by rw [← hZ]; simp
          have hiZ : i < Z.length := by omega
          have hkZ : k1 < Z.length := by omega
          have hin : i < n := by omega
          have hin2 : (i : Int) < (n : Int) := by omega
          have hkn2 : (k1 : Int) < (n : Int) := by omega
          have e1 : i * 3 + 3 ≤ Z.length * 3 := by omega
          have e2 : k1 * 3 + 3 ≤ Z.length * 3 := by omega
          have s1 := row_set (e := GMark.e) (z := 3) GMark.e_len Z i Z[k1] hiZ
          have hkS : k1 < (Z.set i Z[k1]).length := by simpa using hkZ
          have s2 := row_set (e := GMark.e) (z := 3) GMark.e_len (Z.set i Z[k1]) k1 Z[i] hkS
          have hsw : (Z.set i Z[k1]).set k1 Z[i] = swp D i k1 ++ q0 :: zs := by
            rw [← swp_app (by omega) (by omega), hZ]
            unfold swp; rw [atQ_get hiZ, atQ_get hkZ]
          rw [hsw] at s2
          obtain ⟨M1, hM1⟩ : ∃ M1, Z.set i Z[k1] = M1 := ⟨_, rfl⟩
          rw [hM1] at s1 s2
          have hm1 : M1.length = Z.length := by rw [← hM1]; simp
          have e3 : k1 * 3 + 3 ≤ M1.length * 3 := by omega
          have hsl := swp_len D i k1
          rw [hZ]
          simp [hb]
          refine awp_draw follows_mix [] [(0, [0]), (0, [0]), (0, [0]), (0, [0]), (0, [0]), (0, [0]), (0, [0]), (0, [0]), (0, [0]), (0, [0, 1]), (0, [0]), (0, [0]), (0, [0]), (0, [0]), (0, [0]), (0, [0]), (0, [0]), (0, [0]), (0, [0]), (0, [0]), (0, [0]), (0, [0]), (0, [0]), (0, [0]), (0, [0]), (1, [0]), (0, [1]), (1, [1])] 2 (by kernel_rfl) rfl ?_
          simp [hin, kn, hin2, hkn2, hiZ, hkZ, e1, e2, e3, s1, s2]
          exact ⟨f, swp D i k1, k1, ⟨by omega, by omega, by omega, hrun⟩, by omega, entm [0, 1, 2] (hB := by simp)⟩
end Go.Proofs.Ytccebflmbnpheaa.Am
