/- Package tourmake: kinds from a stream. -/
import Derived.Test.YtidhdlhblhbahaaGreatMake1
import Derived.Test.YtidhdlhblhbahaaGreatDat
set_option linter.unusedVariables false
set_option linter.unusedSimpArgs false
namespace Go.Proofs.YtidhdlhblhbahaaGreat.Am
open Go Go.RowKit

def nm4 : Nat → Str
  | 0 => ⟨#[115, 112, 111, 116]⟩
  | 1 => ⟨#[108, 105, 102, 101]⟩
  | 2 => ⟨#[116, 101, 97, 109]⟩
  | _ => ⟨#[103, 111, 97, 108]⟩
def nm3 : Nat → Str
  | 0 => ⟨#[120]⟩
  | 1 => ⟨#[121]⟩
  | _ => ⟨#[122]⟩
def mkField (i : Nat) (l : List Int) : GField × List Int :=
  let l1 := nextL l 9
  let l2 := nextL l1 40
  (if nextV l2 8 = 7 then ⟨nm3 i, 32, -2147483648⟩ else ⟨nm3 i, 1 + nextV l 9, nextV l1 40 - 30⟩, nextL l2 8)
def mkFields : Nat → Nat → List GField → List Int → List GField × List Int
  | 0, _, acc, l => (acc, l)
  | n + 1, i, acc, l => mkFields n (i + 1) (acc ++ [(mkField i l).1]) (mkField i l).2
def mkKind (i : Nat) (l : List Int) : GKind × List Int :=
  let f := mkFields (1 + nextV l 3).toNat 0 [] (nextL l 3)
  (⟨nm4 i, f.1⟩, f.2)
def mkKinds : Nat → Nat → List GKind → List Int → List GKind × List Int
  | 0, _, acc, l => (acc, l)
  | n + 1, i, acc, l => mkKinds n (i + 1) (acc ++ [(mkKind i l).1]) (mkKind i l).2
def kindsM (l : List Int) : List GKind × List Int := mkKinds (1 + nextV l 4).toNat 0 [] (nextL l 4)

theorem nextV_lt {l : List Int} {n : Int} (hn : 0 < n) : 0 ≤ nextV l n ∧ nextV l n < n := by
  unfold nextV
  split
  · omega
  · split
    · omega
    · exact ⟨Int.emod_nonneg _ (by omega), Int.emod_lt_of_pos _ hn⟩

set_option maxRecDepth 20000 in
theorem kinds_fn (l : List Int) : FnD Tryz.prog 60 [.ptr 0 0] [[slI l]] (.sl 2 ((kindsM l).1.map GKind.e)) [some [slI (kindsM l).2]] := by
  refine fnd_go Tryz.func60 rfl ?_
  simp [Tryz.ntmps60]
  refine ops_fnd [0] (Next_fn l 4 (by omega)) rfl rfl rfl (by simp) en_61 rfl rfl (by simp) (by simp) (by simp) (by simp [slI]) rfl rfl ?_
  have hv := nextV_lt (l := l) (n := 4) (by omega)
  obtain ⟨n, hn⟩ : ∃ n : Nat, 1 + nextV l 4 = n := ⟨(1 + nextV l 4).toNat, by omega⟩
  have hk : kindsM l = mkKinds n 0 [] (nextL l 4) := by simp [kindsM, hn]
  simp [slI]
  rw [wrap_id (by omega) (by omega), hn]
  refine awp_loop (fun x : Nat × List GKind × List Int => ⟨55, [(0, .ptr 0 0), (3, .osl 1 2 0 x.2.1.length), (10, kI n), (11, kI x.1)], [some [slI x.2.2], some (x.2.1.map GKind.e).flatten], 1⟩)
    (fun x => x.2.1.length = x.1 ∧ x.1 ≤ n ∧ mkKinds (n - x.1) x.1 x.2.1 x.2.2 = kindsM l) (fun x => n - x.1) (0, [], nextL l 4) ?_ ?_ ?_
  · exact (ent_nil (t := 3) (z := 2) rfl).trans (ent_mk [0, 1] rfl rfl rfl (by simp) (by simp) (by simp) (by simp) (by simp [slI]))
  · simp [hk]
  · rintro ⟨i, acc, l1⟩ ⟨hai, hi, hrun⟩
    simp only at hai hi hrun
    refine awp_go ?_
    by_cases hlt : i < n
    · have hi4 : i = 0 ∨ i = 1 ∨ i = 2 ∨ i = 3 := by omega
      have hv3 := nextV_lt (l := l1) (n := 3) (by omega)
      obtain ⟨m, hm⟩ : ∃ m : Nat, 1 + nextV l1 3 = m := ⟨(1 + nextV l1 3).toNat, by omega⟩
      have hi4' : (i : Int) < 4 := by omega
      have hnm : [kS ⟨#[115, 112, 111, 116]⟩, kS ⟨#[108, 105, 102, 101]⟩, kS ⟨#[116, 101, 97, 109]⟩, kS ⟨#[103, 111, 97, 108]⟩][i]? = some (kS (nm4 i)) := by
        rcases hi4 with rfl | rfl | rfl | rfl <;> rfl
      simp [hlt, slI, hi4', hnm]
      refine ops_fnd [0] (Next_fn l1 3 (by omega)) rfl rfl rfl (by simp) en_61 rfl rfl (by simp) (by simp) (by simp) (by simp [slI]) rfl rfl ?_
      simp [slI]
      rw [wrap_id (by omega) (by omega), hm]
      have hkd : mkKind i l1 = (⟨nm4 i, (mkFields m 0 [] (nextL l1 3)).1⟩, (mkFields m 0 [] (nextL l1 3)).2) := by simp [mkKind, hm]
      refine awp_loop (fun x : Nat × List GField × List Int => ⟨55, [(0, .ptr 0 0), (3, .osl 1 2 0 acc.length), (5, .ptr 2 0), (10, kI n), (11, kI i), (21, kI m), (22, kI x.1)],
          [some [slI x.2.2], some (acc.map GKind.e).flatten, some [kS (nm4 i), .osl 3 3 0 x.2.1.length], some (x.2.1.map GField.e).flatten], 1⟩)
        (fun x => x.2.1.length = x.1 ∧ x.1 ≤ m ∧ mkFields (m - x.1) x.1 x.2.1 x.2.2 = mkFields m 0 [] (nextL l1 3)) (fun x => m - x.1) (0, [], nextL l1 3) ?_ ?_ ?_
      · exact (ent_nilb (b := 3) (j := 1) (z := 3) rfl rfl).trans (ent_mk [0, 1, 3, 4] rfl rfl rfl (by simp) (by simp) (by simp) (by simp) (by simp [slI]))
      · simp
      · rintro ⟨j, facc, l2⟩ ⟨haj, hj, hrunf⟩
        simp only at haj hj hrunf
        refine awp_go ?_
        by_cases hjt : j < m
        · have hj3 : j = 0 ∨ j = 1 ∨ j = 2 := by omega
          have hj3' : (j : Int) < 3 := by omega
          have hnmj : [kS ⟨#[120]⟩, kS ⟨#[121]⟩, kS ⟨#[122]⟩][j]? = some (kS (nm3 j)) := by
            rcases hj3 with rfl | rfl | rfl <;> rfl
          simp [hjt]
          refine awp_drawS follows_mix [(4, 4), (0, 0), (0, 0), (0, 0), (0, 0), (3, 0), (0, 0), (0, 0), (4, 5), (1, 0)] 4 6 [(0, 1), (0, 4), (0, 5), (0, 6), (0, 8), (1, 5), (1, 8), (2, 5), (2, 8), (3, 5), (3, 8), (4, 8), (5, 8), (6, 8), (7, 8)] (by kernel_rfl) rfl rfl ?_
          simp [hj3', hnmj]
          refine gE_callW (kI (nextV l2 9)) [0] [(0, some [slI (nextL l2 9)])] rfl (fun y => ?_) ?_
          · simp
            exact does_fnd [0] (Next_fn l2 9 (by omega)) rfl rfl rfl en_61 rfl (by simp) (by simp) (by simp) (by simp [slI]) (by simp [slI]) rfl
          have hv9 := nextV_lt (l := l2) (n := 9) (by omega)
          have hv40 := nextV_lt (l := nextL l2 9) (n := 40) (by omega)
          have hw9 : IntKind.i64.wrap (1 + nextV l2 9) = 1 + nextV l2 9 := wrap_id (by omega) (by omega)
          have hw40 : IntKind.i64.wrap (nextV (nextL l2 9) 40 - 30) = nextV (nextL l2 9) 40 - 30 := wrap_id (by omega) (by omega)
          simp [hj3', hnmj, hw9]
          refine ops_fnd [0] (Next_fn (nextL l2 9) 40 (by omega)) rfl rfl rfl (by simp) en_61 rfl rfl (by simp) (by simp) (by simp) (by simp [slI]) rfl rfl ?_
          simp [hw40]
          refine ops_fnd [0] (Next_fn (nextL (nextL l2 9) 40) 8 (by omega)) rfl rfl rfl (by simp) en_61 rfl rfl (by simp) (by simp) (by simp) (by simp [slI]) rfl rfl ?_
          simp
          have hc1 : (facc.length + 1) * 32 ≤ 140737488355328 := by omega
          have hc2 : facc.length + 1 ≤ maxLen := by simp only [maxLen]; omega
          rw [show m - j = (m - (j + 1)) + 1 by omega, mkFields] at hrunf
          by_cases h7 : nextV (nextL (nextL l2 9) 40) 8 = 7
          · have hf : mkField j l2 = (⟨nm3 j, 32, -2147483648⟩, nextL (nextL (nextL l2 9) 40) 8) := by simp [mkField, h7]
            rw [hf] at hrunf
            simp [h7, hc1, hc2]
            rw [wrap_id (by omega) (by omega)]
            exact ⟨j + 1, facc ++ [⟨nm3 j, 32, -2147483648⟩], _, ⟨by simp [haj], by omega, hrunf⟩, by omega, ent_mk [0, 1, 2, 7] rfl rfl rfl (by simp) (by simp) (by simp) (by simp) (by simp [GField.e])⟩
          · have hf : mkField j l2 = (⟨nm3 j, 1 + nextV l2 9, nextV (nextL l2 9) 40 - 30⟩, nextL (nextL (nextL l2 9) 40) 8) := by simp [mkField, h7]
            rw [hf] at hrunf
            simp [h7, hc1, hc2]
            rw [wrap_id (by omega) (by omega)]
            exact ⟨j + 1, facc ++ [⟨nm3 j, 1 + nextV l2 9, nextV (nextL l2 9) 40 - 30⟩], _, ⟨by simp [haj], by omega, hrunf⟩, by omega, ent_mk [0, 1, 2, 7] rfl rfl rfl (by simp) (by simp) (by simp) (by simp) (by simp [GField.e])⟩
        · have hb1 : (acc.length + 1) * 40 ≤ 140737488355328 := by omega
          have hb2 : acc.length + 1 ≤ maxLen := by simp only [maxLen]; omega
          simp [hjt, hb1, hb2]
          have hmj : m = j := by omega
          subst hmj
          rw [Nat.sub_self, mkFields] at hrunf
          have hrun2 : mkKinds (n - (i + 1)) (i + 1) (acc ++ [⟨nm4 i, facc⟩]) l2 = kindsM l := by
            rw [← hrun, show n - i = (n - (i + 1)) + 1 by omega, mkKinds, hkd, ← hrunf]
          rw [wrap_id (by omega) (by omega)]
          refine ⟨i + 1, acc ++ [⟨nm4 i, facc⟩], l2, ⟨by simp [hai], by omega, hrun2⟩, by omega, (ent_frz 3 3 facc.length (facc.map GField.e).flatten (by simp) rfl (by rw [flat_len GField.e_len]; omega) (flat_imm GField.e_imm _)).trans ?_⟩
          simp [St.frz, chunks_map GField.e_len]
          exact ent_mk [0, 5] rfl rfl rfl (by simp) (by simp) (by simp) (by simp) (by simp [slI, GKind.e])
    · simp [hlt]
      have : i = n := by omega
      subst this
      rw [Nat.sub_self, mkKinds] at hrun
      refine finG_ent (ent_frz 1 2 acc.length (acc.map GKind.e).flatten (by simp) rfl (by rw [flat_len GKind.e_len]; omega) (flat_imm (fun x => by simp [GKind.e]) _)) ?_
      simp [St.frz, chunks_map GKind.e_len]
      exact finG_mk (p := .sl 2 (acc.map GKind.e)) (p2 := .sl 2 (acc.map GKind.e)) [0] [some [slI l1]] (by simp) (by simp) (by simp) (by simp) (by simp) (by simp) (by simp) (by simp [slI]) (by simp [← hrun])
end Go.Proofs.YtidhdlhblhbahaaGreat.Am
