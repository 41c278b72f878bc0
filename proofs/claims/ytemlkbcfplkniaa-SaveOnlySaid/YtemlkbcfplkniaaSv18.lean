/- Package save: the reader's kinds. -/
import Derived.Test.YtemlkbcfplkniaaSv17
set_option linter.unusedVariables false
set_option linter.unusedSimpArgs false
namespace Go.Proofs.Ytemlkbcfplkniaa.Am
open Go Go.RowKit

def rfield (bs : List Int) (s : RS) : GField × RS :=
  (⟨(rname bs s).1, (rget bs (rname bs s).2 5).1 + 1, (rint bs (rget bs (rname bs s).2 5).2.1).1⟩,
    (rint bs (rget bs (rname bs s).2 5).2.1).2.2, (rget bs (rname bs s).2 5).2.2 || decide ((rint bs (rget bs (rname bs s).2 5).2.1).2.1 ≠ 0))
def rfields (bs : List Int) : Nat → List GField → RS → List GField × RS
  | 0, acc, s => (acc, s)
  | n + 1, acc, s => rfields bs n (acc ++ [(rfield bs s).1]) (rfield bs s).2
def rkind (bs : List Int) (s : RS) : GKind × RS :=
  (⟨(rname bs s).1, (rfields bs (rget bs (rname bs s).2 4).1 [] (rget bs (rname bs s).2 4).2).1⟩, (rfields bs (rget bs (rname bs s).2 4).1 [] (rget bs (rname bs s).2 4).2).2)
def rkindsGo (bs : List Int) : Nat → List GKind → RS → List GKind × RS
  | 0, acc, s => (acc, s)
  | n + 1, acc, s => rkindsGo bs n (acc ++ [(rkind bs s).1]) (rkind bs s).2
def rkinds (bs : List Int) (s : RS) : List GKind × RS :=
  let r := rkindsGo bs (rget bs s 5).1 [] (rget bs s 5).2
  (r.1, r.2.1, r.2.2 || decide (checkE r.1 ≠ 0))

theorem rint_le {bs : List Int} {p : Nat} (h : p ≤ 8 * bs.length) : (rint bs p).2.2 ≤ 8 * bs.length := by
  have := (rnat_ok bs h).2
  unfold rint; split <;> exact this
theorem rfield_le {bs : List Int} {s : RS} (h : s.1 ≤ 8 * bs.length) : (rfield bs s).2.1 ≤ 8 * bs.length := rint_le (rget_le (rname_le h))
theorem rfields_le (bs : List Int) : ∀ (n : Nat) (acc : List GField) (s : RS), s.1 ≤ 8 * bs.length → (rfields bs n acc s).2.1 ≤ 8 * bs.length
  | 0, _, _, h => h
  | n + 1, acc, s, h => rfields_le bs n _ _ (rfield_le h)
theorem rfields_len (bs : List Int) : ∀ (n : Nat) (acc : List GField) (s : RS), (rfields bs n acc s).1.length = acc.length + n
  | 0, _, _ => rfl
  | n + 1, acc, s => by rw [rfields, rfields_len bs n]; simp; omega
theorem rkind_le {bs : List Int} {s : RS} (h : s.1 ≤ 8 * bs.length) : (rkind bs s).2.1 ≤ 8 * bs.length := rfields_le bs _ _ _ (rget_le (rname_le h))
theorem rkindsGo_le (bs : List Int) : ∀ (n : Nat) (acc : List GKind) (s : RS), s.1 ≤ 8 * bs.length → (rkindsGo bs n acc s).2.1 ≤ 8 * bs.length
  | 0, _, _, h => h
  | n + 1, acc, s, h => rkindsGo_le bs n _ _ (rkind_le h)
theorem rkindsGo_len (bs : List Int) : ∀ (n : Nat) (acc : List GKind) (s : RS), (rkindsGo bs n acc s).1.length = acc.length + n
  | 0, _, _ => rfl
  | n + 1, acc, s => by rw [rkindsGo, rkindsGo_len bs n]; simp; omega
theorem rkind_fl (bs : List Int) (s : RS) : (rkind bs s).1.Fields.length ≤ 16 := by
  have h := rget_lt bs (rname bs s).2 4
  show (rfields bs _ _ _).1.length ≤ 16
  rw [rfields_len]; simp; omega
theorem rkindsGo_fl (bs : List Int) : ∀ (n : Nat) (acc : List GKind) (s : RS), (∀ k ∈ acc, k.Fields.length ≤ 16) → ∀ k ∈ (rkindsGo bs n acc s).1, k.Fields.length ≤ 16
  | 0, _, _, h => h
  | n + 1, acc, s, h => rkindsGo_fl bs n _ _ fun k hk => by
    rcases List.mem_append.1 hk with hk | hk
    · exact h k hk
    · obtain rfl := List.mem_singleton.1 hk; exact rkind_fl bs s

set_option maxRecDepth 20000 in
set_option maxHeartbeats 2000000 in
theorem RKinds_fn (bs : List Int) (s : RS) (hl : bs.length ≤ 100000) (hb : BytesOk bs) (hp : s.1 ≤ 8 * bs.length) :
    FnD Try.prog 80 [.ptr 0 0] [rdSt s 1, rSt bs s.1]
    (.sl 2 ((rkinds bs s).1.map GKind.e)) [some (rdSt (rkinds bs s).2 1), some (rSt bs (rkinds bs s).2.1)] := by
  refine fnd_go Try.func80 rfl ?_
  simp [Try.ntmps80]
  refine calD [0, 1] (RGet_fn bs s 5 (by omega) hl hb hp) ?_
  have hr : rkinds bs s = ((rkindsGo bs (rget bs s 5).1 [] (rget bs s 5).2).1, (rkindsGo bs (rget bs s 5).1 [] (rget bs s 5).2).2.1, (rkindsGo bs (rget bs s 5).1 [] (rget bs s 5).2).2.2 || decide (checkE (rkindsGo bs (rget bs s 5).1 [] (rget bs s 5).2).1 ≠ 0)) := rfl
  have h5 := rget_lt bs s 5
  have h6 := rget_le (n := 5) hp
  rw [hr]
  obtain ⟨g, hg⟩ : ∃ g, rget bs s 5 = g := ⟨_, rfl⟩
  rw [hg] at h5 h6 ⊢
  have hrl := rkindsGo_len bs g.1 [] g.2
  have hrf := rkindsGo_fl bs g.1 [] g.2 (by simp)
  simp
  refine awp_loop (fun x : Nat × List GKind × RS => ⟨72, [(0, .ptr 0 0), (3, .osl 2 2 0 x.2.1.length), (9, kI g.1), (10, kI x.1)], [some (rdSt x.2.2 1), some (rSt bs x.2.2.1), some (x.2.1.map GKind.e).flatten], 2⟩)
    (fun x => x.1 ≤ g.1 ∧ x.2.1.length = x.1 ∧ x.2.2.1 ≤ 8 * bs.length ∧ rkindsGo bs (g.1 - x.1) x.2.1 x.2.2 = rkindsGo bs g.1 [] g.2) (fun x => g.1 - x.1) (0, [], g.2) ?_ ?_ ?_
  · exact (ent_nil (t := 3) (z := 2) rfl).trans (entm [0, 1, 2])
  · simp [h6]
  · rintro ⟨i, acc, s1⟩ ⟨hi, hal, hs1, hrun⟩
    simp only at hi hal hs1 hrun
    have hacc := flat_imm GKind.e_imm acc
    by_cases hlt : i < g.1
    · refine awp_go ?_
      rw [show g.1 - i = (g.1 - (i + 1)) + 1 by omega, rkindsGo] at hrun
      have hw1 : IntKind.i64.wrap ((i : Int) + 1) = ((i + 1 : Nat) : Int) := wrap_id (by omega) (by omega)
      simp [hlt]
      refine calD [0, 1] (RName_fn bs s1 hl hb hs1) ?_
      have hk : rkind bs s1 = (⟨(rname bs s1).1, (rfields bs (rget bs (rname bs s1).2 4).1 [] (rget bs (rname bs s1).2 4).2).1⟩, (rfields bs (rget bs (rname bs s1).2 4).1 [] (rget bs (rname bs s1).2 4).2).2) := rfl
      rw [hk] at hrun
      have h7 := rname_le hs1
      obtain ⟨nm, hnm⟩ : ∃ nm, rname bs s1 = nm := ⟨_, rfl⟩
      rw [hnm] at h7 hrun ⊢
      simp
      refine calD [0, 1] (RGet_fn bs nm.2 4 (by omega) hl hb h7) ?_
      have h8 := rget_le (n := 4) h7
      have h9 := rget_lt bs nm.2 4
      obtain ⟨c, hc⟩ : ∃ c, rget bs nm.2 4 = c := ⟨_, rfl⟩
      rw [hc] at h8 h9 hrun ⊢
      simp
      refine awp_loop (fun y : Nat × List GField × RS => ⟨72, [(0, .ptr 0 0), (3, .osl 2 2 0 acc.length), (4, .ptr 3 0), (9, kI g.1), (10, kI i), (16, kI c.1), (17, kI y.1)],
          [some (rdSt y.2.2 1), some (rSt bs y.2.2.1), some (acc.map GKind.e).flatten, some [kS nm.1, .osl 4 3 0 y.2.1.length], some (y.2.1.map GField.e).flatten], 2⟩)
        (fun y => y.1 ≤ c.1 ∧ y.2.1.length = y.1 ∧ y.2.2.1 ≤ 8 * bs.length ∧ rfields bs (c.1 - y.1) y.2.1 y.2.2 = rfields bs c.1 [] c.2) (fun y => c.1 - y.1) (0, [], c.2) ?_ ?_ ?_
      · exact (ent_nilb (b := 3) (j := 1) (z := 3) rfl rfl).trans (entm [0, 1, 2, 3, 4] (hB := by simp [imms_ren hacc, imms_lt hacc]))
      · simp [h8]
      · rintro ⟨j, fs, s2⟩ ⟨hj, hfl, hs2, hrun2⟩
        simp only at hj hfl hs2 hrun2
        have hfs := flat_imm GField.e_imm fs
        by_cases hjl : j < c.1
        · refine awp_go ?_
          rw [show c.1 - j = (c.1 - (j + 1)) + 1 by omega, rfields] at hrun2
          have hw2 : IntKind.i64.wrap ((j : Int) + 1) = ((j + 1 : Nat) : Int) := wrap_id (by omega) (by omega)
          have hb1 : (fs.length + 1) * 32 ≤ 140737488355328 := by omega
          have hb2 : fs.length + 1 ≤ maxLen := by simp only [maxLen]; omega
          simp [hjl]
          refine calD [0, 1] (RName_fn bs s2 hl hb hs2) ?_
          have hF : rfield bs s2 = (⟨(rname bs s2).1, (rget bs (rname bs s2).2 5).1 + 1, (rint bs (rget bs (rname bs s2).2 5).2.1).1⟩,
            (rint bs (rget bs (rname bs s2).2 5).2.1).2.2, (rget bs (rname bs s2).2 5).2.2 || decide ((rint bs (rget bs (rname bs s2).2 5).2.1).2.1 ≠ 0)) := rfl
          rw [hF] at hrun2
          have k1 := rname_le hs2
          obtain ⟨fn, hfn⟩ : ∃ fn, rname bs s2 = fn := ⟨_, rfl⟩
          rw [hfn] at k1 hrun2 ⊢
          simp
          refine calD [0, 1] (RGet_fn bs fn.2 5 (by omega) hl hb k1) ?_
          have k2 := rget_le (n := 5) k1
          have k3 := rget_lt bs fn.2 5
          obtain ⟨fb, hfb⟩ : ∃ fb, rget bs fn.2 5 = fb := ⟨_, rfl⟩
          rw [hfb] at k2 k3 hrun2 ⊢
          have hw3 : IntKind.i64.wrap ((fb.1 : Int) + 1) = ((fb.1 + 1 : Nat) : Int) := wrap_id (by omega) (by omega)
          simp [hw3]
          refine calD [1] (RInt_fn bs fb.2.1 hl hb k2) ?_
          have k4 := rint_le k2
          obtain ⟨fv, hfv⟩ : ∃ fv, rint bs fb.2.1 = fv := ⟨_, rfl⟩
          rw [hfv] at k4 hrun2 ⊢
          obtain ⟨fb1, fp, bad⟩ := fb
          simp only at k2 k3 k4 hrun2 hw3 ⊢
          cases bad with
          | true =>
            simp [hb1, hb2, hw2, -Bool.exists_bool]
            exact ⟨j + 1, fs ++ [⟨fn.1, fb1 + 1, fv.1⟩], fv.2.2, true, ⟨by omega, by simp; omega, k4, by simpa using hrun2⟩, by omega, entm [0, 1, 2, 3, 7] (hT := by simp) (hB := by simp [GField.e, imms_ren hacc, imms_lt hacc, imms_ren hfs, imms_lt hfs])⟩
          | false =>
            by_cases h0 : fv.2.1 = 0
            · simp [hb1, hb2, hw2, h0, -Bool.exists_bool]
              exact ⟨j + 1, fs ++ [⟨fn.1, fb1 + 1, fv.1⟩], fv.2.2, false, ⟨by omega, by simp; omega, k4, by simpa [h0] using hrun2⟩, by omega, entm [0, 1, 2, 3, 7] (hT := by simp) (hB := by simp [GField.e, imms_ren hacc, imms_lt hacc, imms_ren hfs, imms_lt hfs])⟩
            · simp [hb1, hb2, hw2, h0, -Bool.exists_bool]
              exact ⟨j + 1, fs ++ [⟨fn.1, fb1 + 1, fv.1⟩], fv.2.2, true, ⟨by omega, by simp; omega, k4, by simpa [h0] using hrun2⟩, by omega, entm [0, 1, 2, 3, 7] (hT := by simp) (hB := by simp [GField.e, imms_ren hacc, imms_lt hacc, imms_ren hfs, imms_lt hfs])⟩
        · obtain rfl : j = c.1 := by omega
          rw [Nat.sub_self, rfields] at hrun2
          rw [← hrun2] at hrun
          refine awp_ent (ent_fz 4 _ (hi := hfs)) (awp_go ?_)
          have hb1 : (acc.length + 1) * 40 ≤ 140737488355328 := by omega
          have hb2 : acc.length + 1 ≤ maxLen := by simp only [maxLen]; omega
          simp [hb1, hb2, hw1, imms_fz hacc, flat_sum GField.e_len, chunks_map GField.e_len, -Bool.exists_bool]
          exact ⟨i + 1, acc ++ [⟨nm.1, fs⟩], s2.1, s2.2, ⟨by omega, by simp; omega, hs2, hrun⟩, by omega, entm [0, 1, 6] (hT := by simp) (hB := by simp [GKind.e, imms_ren hacc, imms_lt hacc])⟩
    · obtain rfl : i = g.1 := by omega
      rw [Nat.sub_self, rkindsGo] at hrun
      rw [← hrun] at hrl hrf ⊢
      refine awp_ent (ent_fz 2 _ (hi := hacc)) (awp_go ?_)
      obtain ⟨sp, bad⟩ := s1
      cases bad with
      | true =>
        simp [flat_sum GKind.e_len, chunks_map GKind.e_len]
        exact finGm [0, 1]
      | false =>
        simp [flat_sum GKind.e_len, chunks_map GKind.e_len]
        refine cal (Check_fn acc (fun k hk => by have := hrf k hk; omega) (by omega)) ?_
        by_cases h0 : checkE acc = 0
        · simp [h0]
          exact finGm [0, 1]
        · simp [h0]
          exact finGm [0, 1]
end Go.Proofs.Ytemlkbcfplkniaa.Am
