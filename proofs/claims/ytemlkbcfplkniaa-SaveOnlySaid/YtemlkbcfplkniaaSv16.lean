/- Package save: the reader's name. -/
import Derived.Test.YtemlkbcfplkniaaSv15
set_option linter.unusedVariables false
set_option linter.unusedSimpArgs false
namespace Go.Proofs.Ytemlkbcfplkniaa.Am
open Go Go.RowKit

def rnameGo (bs : List Int) : Nat → List Int → RS → List Int × RS
  | 0, out, s => (out, s)
  | k + 1, out, s => if (rget bs s 6).1 < 36 then rnameGo bs k (out ++ [lettersL.getD (rget bs s 6).1 0]) (rget bs s 6).2 else rnameGo bs k out ((rget bs s 6).2.1, true)
def rname (bs : List Int) (s : RS) : Str × RS :=
  (strOfNums (rnameGo bs (rget bs s 5).1 [] (rget bs s 5).2).1, (rnameGo bs (rget bs s 5).1 [] (rget bs s 5).2).2)

theorem rget_le {bs : List Int} {s : RS} {n : Nat} (h : s.1 ≤ 8 * bs.length) : (rget bs s n).2.1 ≤ 8 * bs.length := getM_le h
theorem rget_lt (bs : List Int) (s : RS) (n : Nat) : (rget bs s n).1 < 2 ^ n := getM_lt bs s.1 n
theorem rnameGo_le (bs : List Int) : ∀ (k : Nat) (out : List Int) (s : RS), s.1 ≤ 8 * bs.length → (rnameGo bs k out s).2.1 ≤ 8 * bs.length
  | 0, _, _, h => h
  | k + 1, out, s, h => by
    rw [rnameGo]
    split
    · exact rnameGo_le bs k _ _ (rget_le h)
    · exact rnameGo_le bs k _ _ (rget_le h)
theorem rname_le {bs : List Int} {s : RS} (h : s.1 ≤ 8 * bs.length) : (rname bs s).2.1 ≤ 8 * bs.length := rnameGo_le bs _ _ _ (rget_le h)
theorem rnameGo_len (bs : List Int) : ∀ (k : Nat) (out : List Int) (s : RS), (rnameGo bs k out s).1.length ≤ out.length + k
  | 0, _, _ => by simp [rnameGo]
  | k + 1, out, s => by
    rw [rnameGo]
    split
    · have := rnameGo_len bs k (out ++ [lettersL.getD (rget bs s 6).1 0]) (rget bs s 6).2
      simp at this; simp; omega
    · have := rnameGo_len bs k out ((rget bs s 6).2.1, true); omega
theorem rname_size {bs : List Int} {s : RS} : (rname bs s).1.size ≤ 1000 := by
  have h1 := rnameGo_len bs (rget bs s 5).1 [] (rget bs s 5).2
  have h2 := rget_lt bs s 5
  show (strOfNums _).size ≤ 1000
  rw [strOfNums_size]
  simp at h1; omega
abbrev lettersS : ByteArray := ⟨#[97, 98, 99, 100, 101, 102, 103, 104, 105, 106, 107, 108, 109, 110, 111, 112, 113, 114, 115, 116, 117, 118, 119, 120, 121, 122, 48, 49, 50, 51, 52, 53, 54, 55, 56, 57]⟩
theorem letters_at : ∀ c, c < 36 → ∃ u : UInt8, lettersS[c]? = some u ∧ (u.toNat : Int) = lettersL.getD c 0 := by decide

set_option maxRecDepth 20000 in
set_option maxHeartbeats 1000000 in
theorem RName_fn (bs : List Int) (s : RS) (hl : bs.length ≤ 100000) (hb : BytesOk bs) (hp : s.1 ≤ 8 * bs.length) : FnD Try.prog 130 [.ptr 0 0] [rdSt s 1, rSt bs s.1]
    (kS (rname bs s).1) [some (rdSt (rname bs s).2 1), some (rSt bs (rname bs s).2.1)] := by
  have him : ∀ bs : List Int, (bs.map kU8).all PV.immB = true := fun bs => by simp
  refine fnd_go Try.func130 rfl ?_
  simp [Try.ntmps130]
  refine calD [0, 1] (RGet_fn bs s 5 (by omega) hl hb hp) ?_
  have hr : rname bs s = (strOfNums (rnameGo bs (rget bs s 5).1 [] (rget bs s 5).2).1, (rnameGo bs (rget bs s 5).1 [] (rget bs s 5).2).2) := rfl
  have h5 := rget_lt bs s 5
  have h6 := rget_le (n := 5) hp
  rw [hr]
  obtain ⟨g, hg⟩ : ∃ g, rget bs s 5 = g := ⟨_, rfl⟩
  rw [hg] at h5 h6 ⊢
  simp
  refine awp_loop (fun x : Nat × List Int × RS => ⟨26, [(0, .ptr 0 0), (4, .osl 2 1 0 x.2.1.length), (8, kI g.1), (9, kI x.1)], [some (rdSt x.2.2 1), some (rSt bs x.2.2.1), some (x.2.1.map kU8)], 2⟩)
    (fun x => x.1 ≤ g.1 ∧ x.2.1.length ≤ x.1 ∧ x.2.2.1 ≤ 8 * bs.length ∧ rnameGo bs (g.1 - x.1) x.2.1 x.2.2 = rnameGo bs g.1 [] g.2) (fun x => g.1 - x.1) (0, [], g.2) ?_ ?_ ?_
  · exact (ent_nil (t := 4) (z := 1) rfl).trans (entm [0, 1, 2])
  · simp [h6]
  · rintro ⟨i, out, s2⟩ ⟨hi, hol, hs2, hrun⟩
    simp only at hi hol hs2 hrun
    refine awp_go ?_
    by_cases hlt : i < g.1
    · rw [show g.1 - i = (g.1 - (i + 1)) + 1 by omega, rnameGo] at hrun
      have hw1 : IntKind.i64.wrap ((i : Int) + 1) = ((i + 1 : Nat) : Int) := wrap_id (by omega) (by omega)
      simp [hlt]
      refine calD [0, 1] (RGet_fn bs s2 6 (by omega) hl hb hs2) ?_
      have h7 := rget_le (n := 6) hs2
      obtain ⟨c, hc⟩ : ∃ c, rget bs s2 6 = c := ⟨_, rfl⟩
      rw [hc] at h7 hrun ⊢
      by_cases h36 : c.1 < 36
      · rw [if_pos h36] at hrun
        obtain ⟨u, hu1, hu2⟩ := letters_at c.1 h36
        have hb1 : out.length + 1 ≤ 140737488355328 := by omega
        have hb2 : out.length + 1 ≤ maxLen := by simp only [maxLen]; omega
        have h36p : (c.1 : Int) < 36 := by omega
        simp [h36, h36p, hb1, hb2, hu1, hw1, -Bool.exists_bool]
        rw [hu2]
        generalize lettersL.getD c.1 0 = z at hrun ⊢
        exact ⟨i + 1, out ++ [z], c.2.1, c.2.2, ⟨by omega, by simp; omega, h7, hrun⟩, by omega, entm [0, 1, 4] (hT := by simp) (hB := by simp [imms_ren (him _), imms_lt (him _)])⟩
      · rw [if_neg h36] at hrun
        have h36' : ¬ (c.1 : Int) < 36 := by omega
        simp [h36, h36', hw1, -Bool.exists_bool]
        exact ⟨i + 1, out, c.2.1, true, ⟨by omega, by omega, h7, hrun⟩, by omega, entm [0, 1, 2] (hB := by simp [imms_ren (him _), imms_lt (him _)])⟩
    · obtain rfl : i = g.1 := by omega
      rw [Nat.sub_self, rnameGo] at hrun
      rw [← hrun]
      simp
      refine ops_fz 2 (out.map kU8) ?_
      simp
      rw [chunks_b]
      refine ops_b2sI (xs := out) (e := 5) ?_
      simp
      exact finGm [0, 1]
end Go.Proofs.Ytemlkbcfplkniaa.Am
