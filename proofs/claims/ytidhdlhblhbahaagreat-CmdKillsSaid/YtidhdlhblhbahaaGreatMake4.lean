/- Package tourmake: components from a stream. -/
import Derived.Test.YtidhdlhblhbahaaGreatMake2
import Derived.Test.YtidhdlhblhbahaaGreatKind6
set_option linter.unusedVariables false
set_option linter.unusedSimpArgs false
namespace Go.Proofs.YtidhdlhblhbahaaGreat.Am
open Go Go.RowKit

def mkVals : List GField → List Int → List Int → List Int × List Int
  | [], acc, l => (acc, l)
  | f :: r, acc, l => mkVals r (acc ++ [f.Low + nextV l (2 ^ f.Bits.toNat)]) (nextL l (2 ^ f.Bits.toNat))
def mkComps : Nat → List GKind → List GComp → List Int → List GComp × List Int
  | _, [], acc, l => (acc, l)
  | i, k :: r, acc, l => if nextV l 3 = 2 then mkComps (i + 1) r acc (nextL l 3)
    else mkComps (i + 1) r (acc ++ [⟨i, (mkVals k.Fields [] (nextL l 3)).1⟩]) (mkVals k.Fields [] (nextL l 3)).2
def compsM (ks : List GKind) (l : List Int) : List GComp × List Int := mkComps 0 ks [] l

/-- Kinds as they are made. -/
def OkKs (ks : List GKind) : Prop := ks.length ≤ 16 ∧ ∀ k ∈ ks, k.Fields.length ≤ 8 ∧ ∀ f ∈ k.Fields, 1 ≤ f.Bits ∧ f.Bits ≤ 32 ∧ -4294967296 ≤ f.Low ∧ f.Low ≤ 4294967296

set_option maxRecDepth 20000 in
set_option maxHeartbeats 1000000 in
theorem comps_fn (ks : List GKind) (l : List Int) (hks : OkKs ks) : FnD Tryz.prog 62 [.sl 2 (ks.map GKind.e), .ptr 0 0] [[slI l]] (.sl 2 ((compsM ks l).1.map GComp.e)) [some [slI (compsM ks l).2]] := by
  refine fnd_go Tryz.func62 rfl ?_
  simp [Tryz.ntmps62]
  have hkl := hks.1
  refine awp_loop (fun x : Nat × List GComp × List Int => ⟨50, [(1, .ptr 0 0), (5, .osl 1 2 0 x.2.1.length), (11, .sl 2 (ks.map GKind.e)), (12, kI ks.length), (13, kI x.1)], [some [slI x.2.2], some (x.2.1.map GComp.e).flatten], 1⟩)
    (fun x => x.1 ≤ ks.length ∧ x.2.1.length ≤ x.1 ∧ mkComps x.1 (ks.drop x.1) x.2.1 x.2.2 = compsM ks l) (fun x => ks.length - x.1) (0, [], l) ?_ ?_ ?_
  · exact (ent_nil (t := 5) (z := 2) rfl).trans (ent_mk [0, 1] rfl rfl rfl (by simp) (by simp) (by simp) (by simp) (by simp))
  · simp [compsM]
  · rintro ⟨i, acc, l1⟩ ⟨hi, hai, hrun⟩
    simp only at hi hai hrun
    refine awp_go ?_
    by_cases hlt : i < ks.length
    · simp [hlt]
      obtain ⟨k, hk⟩ : ∃ k, ks[i] = k := ⟨_, rfl⟩
      have hkm : k ∈ ks := hk ▸ List.getElem_mem hlt
      obtain ⟨hf8, hfs⟩ := hks.2 k hkm
      rw [List.drop_eq_getElem_cons hlt, mkComps, hk] at hrun
      rw [hk]
      refine ops_fnd [0] (Next_fn l1 3 (by omega)) rfl rfl rfl (by simp) en_61 rfl rfl (by simp) (by simp) (by simp) (by simp) rfl rfl ?_
      by_cases h2 : nextV l1 3 = 2
      · simp [h2]
        rw [if_pos h2] at hrun
        rw [wrap_id (by omega) (by omega)]
        exact ⟨i + 1, acc, _, ⟨by omega, by omega, hrun⟩, by omega, ent_mk [0, 1] rfl rfl rfl (by simp) (by simp) (by simp) (by simp) (by simp)⟩
      · simp [h2]
        rw [if_neg h2] at hrun
        refine awp_loop (fun x : Nat × List Int × List Int => ⟨50, [(1, .ptr 0 0), (5, .osl 1 2 0 acc.length), (8, .ptr 2 0), (11, .sl 2 (ks.map GKind.e)), (12, kI ks.length), (13, kI i), (24, .sl 3 (k.Fields.map GField.e)), (25, kI k.Fields.length), (26, kI x.1)],
            [some [slI x.2.2], some (acc.map GComp.e).flatten, some [kI i, .osl 3 1 0 x.2.1.length], some (x.2.1.map kI)], 1⟩)
          (fun x => x.1 ≤ k.Fields.length ∧ x.2.1.length = x.1 ∧ mkVals (k.Fields.drop x.1) x.2.1 x.2.2 = mkVals k.Fields [] (nextL l1 3)) (fun x => k.Fields.length - x.1) (0, [], nextL l1 3) ?_ ?_ ?_
        · exact (ent_nilb (b := 3) (j := 1) (z := 1) rfl rfl).trans (ent_mk [0, 1, 3, 4] rfl rfl rfl (by simp) (by simp) (by simp) (by simp) (by simp))
        · simp
        · rintro ⟨j, va, l2⟩ ⟨hj, hva, hrunv⟩
          simp only at hj hva hrunv
          refine awp_go ?_
          by_cases hjt : j < k.Fields.length
          · obtain ⟨f, hf⟩ : ∃ f, k.Fields[j] = f := ⟨_, rfl⟩
            have hfm : f ∈ k.Fields := hf ▸ List.getElem_mem hjt
            obtain ⟨q1, q2, q3, q4⟩ := hfs f hfm
            rw [List.drop_eq_getElem_cons hjt, mkVals, hf] at hrunv
            simp [hjt, hf]
            have hnb : ¬ f.Bits < 0 := by omega
            have hmin : min f.Bits.toNat 64 = f.Bits.toNat := by omega
            have hp := pow_le32 (n := f.Bits.toNat) (by omega)
            have hw1 : IntKind.i64.wrap ((2 : Int) ^ f.Bits.toNat) = 2 ^ f.Bits.toNat := wrap_id (by omega) (by omega)
            have hv := nextV_lt (l := l2) (n := 2 ^ f.Bits.toNat) hp.2
            have hw2 : IntKind.i64.wrap (f.Low + nextV l2 (2 ^ f.Bits.toNat)) = f.Low + nextV l2 (2 ^ f.Bits.toNat) := wrap_id (by omega) (by omega)
            have hb1 : (va.length + 1) * 8 ≤ 140737488355328 := by omega
            have hb2 : va.length + 1 ≤ maxLen := by simp only [maxLen]; omega
            refine awp_drawS follows_mix [(0, 0), (0, 0), (0, 0), (0, 0), (0, 0), (0, 0), (0, 0), (0, 0), (3, 0), (0, 0), (4, 5), (4, 6), (0, 0), (1, 0)] 5 7 [(0, 8), (0, 10), (1, 8), (1, 10), (2, 8), (3, 8)] (by kernel_rfl) rfl rfl ?_
            simp [hnb, hmin, hw1, IntKind.bits]
            refine gE_callW (kI (nextV l2 (2 ^ f.Bits.toNat))) [0] [(0, some [slI (nextL l2 (2 ^ f.Bits.toNat))])] rfl (fun y => ?_) ?_
            · simp
              exact does_fnd [0] (Next_fn l2 (2 ^ f.Bits.toNat) (by omega)) rfl rfl rfl en_61 rfl (by simp) (by simp) (by simp) (by simp) (by simp) rfl
            simp [hw2, hb1, hb2]
            rw [wrap_id (by omega) (by omega)]
            exact ⟨j + 1, va ++ [f.Low + nextV l2 (2 ^ f.Bits.toNat)], _, ⟨by omega, by simp [hva], hrunv⟩, by omega, ent_mk [0, 1, 2, 6] rfl rfl rfl (by simp) (by simp) (by simp) (by simp) (by simp)⟩
          · have hc1 : (acc.length + 1) * 32 ≤ 140737488355328 := by omega
            have hc2 : acc.length + 1 ≤ maxLen := by simp only [maxLen]; omega
            simp [hjt, hc1, hc2]
            have hjk : j = k.Fields.length := by omega
            rw [hjk, List.drop_length, mkVals] at hrunv
            rw [← hrunv] at hrun
            rw [wrap_id (by omega) (by omega)]
            refine ⟨i + 1, acc ++ [⟨i, va⟩], l2, ⟨by omega, by simp; omega, hrun⟩, by omega, (ent_frz 3 1 va.length (va.map kI) (by simp) rfl (by simp) (ints_imm va)).trans ?_⟩
            simp [St.frz, chunks_ints]
            exact ent_mk [0, 5] rfl rfl rfl (by simp) (by simp) (by simp) (by simp) (by simp [GComp.e, slI])
    · simp [hlt]
      have : i = ks.length := by omega
      subst this
      rw [List.drop_length, mkComps] at hrun
      refine finG_ent (ent_frz 1 2 acc.length (acc.map GComp.e).flatten (by simp) rfl (by rw [flat_len GComp.e_len]; omega) (flat_imm GComp.e_imm _)) ?_
      simp [St.frz, chunks_map GComp.e_len]
      exact finG_mk (p := .sl 2 (acc.map GComp.e)) (p2 := .sl 2 (acc.map GComp.e)) [0] [some [slI l1]] (by simp) (by simp) (by simp) (by simp) (by simp) (by simp) (by simp) (by simp) (by simp [← hrun])
end Go.Proofs.YtidhdlhblhbahaaGreat.Am
