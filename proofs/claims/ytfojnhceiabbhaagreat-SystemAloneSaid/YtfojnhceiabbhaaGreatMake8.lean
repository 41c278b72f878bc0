/- Package tourmake: systems, walked. -/
import Derived.Test.YtfojnhceiabbhaaGreatMake7
set_option linter.unusedVariables false
set_option linter.unusedSimpArgs false
namespace Go.Proofs.YtfojnhceiabbhaaGreat.Am
open Go Go.RowKit

set_option maxRecDepth 20000 in
set_option maxHeartbeats 2000000 in
theorem system_fn (ks : List GKind) (l : List Int) (n : Nat) (hk : OkKs ks) (hk0 : 0 < ks.length) (hn : n < 6) : FnD Tryz.prog 40 [.sl 2 (ks.map GKind.e), .ptr 0 0, kI n] [[slI l]]
    (.agg (sysM ks l n).1.e) [some [slI (sysM ks l n).2]] := by
  have hkl := hk.1
  refine fnd_go Tryz.func40 rfl ?_
  have hn6 : (n : Int) < 6 := by omega
  have hnm : [kS ⟨#[111, 110, 101]⟩, kS ⟨#[116, 119, 111]⟩, kS ⟨#[116, 104, 114, 101, 101]⟩, kS ⟨#[102, 111, 117, 114]⟩, kS ⟨#[102, 105, 118, 101]⟩, kS ⟨#[115, 105, 120]⟩][n]? = some (kS (nm6 n)) := by
    have : n = 0 ∨ n = 1 ∨ n = 2 ∨ n = 3 ∨ n = 4 ∨ n = 5 := by omega
    rcases this with rfl | rfl | rfl | rfl | rfl | rfl <;> rfl
  simp [Tryz.ntmps40, hn6, hnm]
  obtain ⟨z7, hz7⟩ : ∃ z : List PV, z = [kS ⟨#[]⟩, kNil, kNil, kNil, kNil, kNil, kNil] := ⟨_, rfl⟩
  refine awp_loop (fun x : Nat × Sets => ⟨187, [(1, .ptr 0 0), (3, .eptr [.sl 2 (ks.map GKind.e)]), (4, .ptr 1 0), (6, .ptr 2 0), (7, .ptr 3 0), (18, .sl 2 (ks.map GKind.e)), (19, kI ks.length), (20, kI x.1)],
    [some [slI x.2.l], some [.ptr 0 0], some [kS ⟨#[]⟩, kNil, kNil, kNil, kNil, kNil, kNil], some [kS (nm6 n), .osl 4 1 0 x.2.w.length, .osl 5 1 0 x.2.wo.length, .osl 6 1 0 x.2.r.length, .osl 7 1 0 x.2.wr.length, kNil, kNil],
     some (x.2.w.map kI), some (x.2.wo.map kI), some (x.2.r.map kI), some (x.2.wr.map kI)], 1⟩)
    (fun x => x.1 ≤ ks.length ∧ SetsOk x.1 x.2 ∧ setsM (ks.length - x.1) x.1 x.2 = setsM ks.length 0 ⟨[], [], [], [], l⟩) (fun x => ks.length - x.1) (0, ⟨[], [], [], [], l⟩) ?_ ?_ ?_
  · refine (ent_fz 1 [.sl 2 (ks.map GKind.e)]).trans ?_
    simp
    refine (ent_nilb (b := 5) (j := 1) (z := 1) rfl rfl).trans ((ent_nilb (b := 5) (j := 2) (z := 1) rfl rfl).trans ((ent_nilb (b := 5) (j := 3) (z := 1) rfl rfl).trans ((ent_nilb (b := 5) (j := 4) (z := 1) rfl rfl).trans ?_)))
    exact entm [0, 2, 3, 5, 6, 7, 8, 9]
  · exact ⟨by simp, ⟨by simp, by simp, by simp, by simp, by simp, by simp⟩, by simp⟩
  · rintro ⟨i, s⟩ ⟨hi, hok, hrun⟩
    simp only at hi hok hrun
    have hlens := hok.len
    refine awp_go ?_
    by_cases hlt : i < ks.length
    · rw [show ks.length - i = (ks.length - (i + 1)) + 1 by omega, setsM] at hrun
      have hstep := setStep_ok hok
      have c1 : ∀ m : Nat, m ≤ i → (m + 1) * 8 ≤ 140737488355328 ∧ m + 1 ≤ maxLen := fun m hm => ⟨by omega, by simp only [maxLen]; omega⟩
      have cw := c1 _ hlens.1
      have cwo := c1 _ hlens.2.1
      have cr := c1 _ hlens.2.2.1
      have cwr := c1 _ hlens.2.2.2
      simp [hlt]
      refine calD [0] (Next_fn s.l 4 (by omega)) ?_
      by_cases e0 : nextV s.l 4 = 0
      · simp [e0]
        refine awp_drawS follows_mix [(0, 0), (0, 0), (0, 0), (4, 8), (4, 9), (0, 0), (0, 0), (0, 0), (4, 10), (4, 11), (0, 0), (1, 0), (0, 0), (1, 0)] 8 12 [(0, 3), (0, 8), (1, 3), (1, 8), (2, 8), (3, 5), (3, 6), (3, 7), (3, 8), (4, 5), (4, 6), (4, 7), (4, 8), (5, 8), (6, 8), (8, 10), (9, 10)] (by kernel_rfl) rfl rfl ?_
        simp [cw, cwo, cr, cwr]
        rw [wrap_id (by omega) (by omega)]
        refine ⟨i + 1, setStep i s, ⟨by omega, hstep, hrun⟩, by omega, entm [0, 1, 2, 3, 9, 5, 11, 7] (hB := by simp [setStep, e0])⟩
      · by_cases e1 : nextV s.l 4 = 1
        · simp [e0, e1]
          refine awp_drawS follows_mix [(0, 0), (0, 0), (0, 0), (4, 8), (4, 9), (0, 0), (0, 0), (0, 0), (4, 10), (4, 11), (0, 0), (1, 0), (0, 0), (1, 0)] 8 12 [(0, 3), (0, 8), (1, 3), (1, 8), (2, 8), (3, 5), (3, 6), (3, 7), (3, 8), (4, 5), (4, 6), (4, 7), (4, 8), (5, 8), (6, 8), (8, 10), (9, 10)] (by kernel_rfl) rfl rfl ?_
          simp [cw, cwo, cr, cwr]
          rw [wrap_id (by omega) (by omega)]
          exact ⟨i + 1, setStep i s, ⟨by omega, hstep, hrun⟩, by omega, entm [0, 1, 2, 3, 9, 5, 6, 11] (hB := by simp [setStep, e0, e1])⟩
        · by_cases e2 : nextV s.l 4 = 2
          · simp [e0, e1, e2, cwo]
            rw [wrap_id (by omega) (by omega)]
            exact ⟨i + 1, setStep i s, ⟨by omega, hstep, hrun⟩, by omega, entm [0, 1, 2, 3, 4, 9, 6, 7] (hB := by simp [setStep, e0, e1, e2])⟩
          · simp [e0, e1, e2]
            rw [wrap_id (by omega) (by omega)]
            exact ⟨i + 1, setStep i s, ⟨by omega, hstep, hrun⟩, by omega, entm [0, 1, 2, 3, 4, 5, 6, 7] (hB := by simp [setStep, e0, e1, e2])⟩
    · simp [hlt]
      have hil : i = ks.length := by omega
      subst hil
      rw [Nat.sub_self, setsM] at hrun
      have hall := allSets_ok (ks := ks) (l := l) hk0
      have hfix : allSets ks l = fixSets s := by simp [allSets, ← hrun]
      rw [hfix] at hall
      obtain ⟨a1, a2, a3, a4, a5, a6, a7, a8, a9, a10⟩ := hall
      by_cases hw : s.w = []
      case' pos =>
        simp [hw]
        have hwo1 := DeleteFuncI_fn s.wo 70 [] (fun x => decide (x = 0)) (by omega) (by simp) (by simp) (fun x _ => sysDel_fn x)
        refine calD [5] hwo1 ?_
        simp
        refine ops_fz 8 [kI 0] ?_
        simp
        refine ops_fz 9 [kI 0] ?_
        simp
        refine ops_fz 5 (List.map kI (List.filter (fun x => !decide (x = 0)) s.wo) ++ List.replicate (s.wo.length - (List.filter (fun x => !decide (x = 0)) s.wo).length) (kI 0)) ?_
        simp
        refine ops_fz 6 (s.r.map kI) ?_
        simp
        refine ops_fz 10 [slI s.r, .sl 1 [[kI 0]]] ?_
        simp
        skip
        refine ops_ent (s' := ⟨187, [(78, .sl 1 [[slI (fixSets s).r], [slI (fixSets s).wr]]), (1, .ptr 0 0), (3, .eptr [.sl 2 (ks.map GKind.e)]), (4, .ptr 1 0), (6, .ptr 2 0), (7, .ptr 3 0)],
          [some [slI (fixSets s).l], some [.ptr 0 0], some [kS ⟨#[]⟩, kNil, kNil, kNil, kNil, kNil, kNil], some [kS (nm6 n), slI (fixSets s).w, slI (fixSets s).wo, slI (fixSets s).r, slI (fixSets s).wr, kNil, kNil]], 1⟩)
          (entm [0, 1, 2, 3] (hT := by simp [fixSets, hw, slI_one_]) (hB := by simp [fixSets, hw, slI_one_])) (ops_goH ?_)
      case' neg =>
        have hw' : ¬ ((s.w.length : Int) = 0) := by
          have := List.length_pos_iff.2 hw; omega
        simp [hw]
        refine ops_fz 4 (s.w.map kI) ?_
        simp
        refine ops_fz 5 (s.wo.map kI) ?_
        simp
        refine ops_fz 6 (s.r.map kI) ?_
        simp
        refine ops_fz 7 (s.wr.map kI) ?_
        simp
        refine ops_fz 8 [slI s.r, slI s.wr] ?_
        simp
        refine ops_ent (s' := ⟨187, [(78, .sl 1 [[slI (fixSets s).r], [slI (fixSets s).wr]]), (1, .ptr 0 0), (3, .eptr [.sl 2 (ks.map GKind.e)]), (4, .ptr 1 0), (6, .ptr 2 0), (7, .ptr 3 0)],
          [some [slI (fixSets s).l], some [.ptr 0 0], some [kS ⟨#[]⟩, kNil, kNil, kNil, kNil, kNil, kNil], some [kS (nm6 n), slI (fixSets s).w, slI (fixSets s).wo, slI (fixSets s).r, slI (fixSets s).wr, kNil, kNil]], 1⟩)
          (entm [0, 1, 2, 3] (hT := by simp [fixSets, hw, slI_one_]) (hB := by simp [fixSets, hw, slI_one_])) (ops_goH ?_)
      all_goals
        have hs6 : sysM ks l n = (let o := opsM ks ((fixSets s).r ++ (fixSets s).wr) (fixSets s).wr (nextV (fixSets s).l 6).toNat ⟨[], [], nextL (fixSets s).l 6⟩; (⟨nm6 n, (fixSets s).w, (fixSets s).wo, (fixSets s).r, (fixSets s).wr, o.ops, o.spawn⟩, o.l)) := by
          simp only [sysM, hfix]
        clear hfix hw
        generalize fixSets s = F at *
        simp
        refine cal (ConcatI_fn [F.r, F.wr] (F.r ++ F.wr) (by simp) (by simp; omega) (by simp)) ?_
        obtain ⟨seen, hseen⟩ : ∃ seen, F.r ++ F.wr = seen := ⟨_, rfl⟩
        rw [hseen] at a5 a10 hs6 ⊢
        have hsl : seen.length ≤ 1000000 := by rw [← hseen]; simp; omega
        simp
        refine ops_fz 4 [slI seen] ?_
        simp
        refine calD [0] (Next_fn F.l 6 (by omega)) ?_
        have hv6 := nextV_lt (l := F.l) (n := 6) (by omega)
        obtain ⟨c6, hc6⟩ : ∃ c6 : Nat, nextV F.l 6 = c6 := ⟨(nextV F.l 6).toNat, by omega⟩
        rw [hc6] at hs6 ⊢
        simp
        refine awp_loop (fun x : Nat × OpsS => ⟨187, [(1, .ptr 0 0), (3, .eptr [.sl 2 (ks.map GKind.e)]), (4, .ptr 1 0), (6, .ptr 2 0), (7, .ptr 3 0), (10, .clo (.func 71) [.ptr 1 0, .eptr [slI seen], .eptr [.sl 2 (ks.map GKind.e)]]), (82, kI c6), (83, kI x.1)],
          [some [slI x.2.l], some [.ptr 0 0], some [kS ⟨#[]⟩, kNil, kNil, kNil, kNil, kNil, kNil], some [kS (nm6 n), slI F.w, slI F.wo, slI F.r, slI F.wr, .osl 4 11 0 x.2.ops.length, .sl 2 (x.2.spawn.map GComp.e)], some (x.2.ops.map GOp.e).flatten], 1⟩)
          (fun x => x.1 ≤ c6 ∧ x.2.ops.length ≤ x.1 ∧ opsM ks seen F.wr (c6 - x.1) x.2 = opsM ks seen F.wr c6 ⟨[], [], nextL F.l 6⟩) (fun x => c6 - x.1) (0, ⟨[], [], nextL F.l 6⟩) ?_ ?_ ?_
        · refine (ent_cell 3 6 (tell_nil 2)).trans ?_
          simp
          refine (ent_nilb (b := 3) (j := 5) (z := 11) rfl rfl).trans ?_
          exact entm [0, 1, 2, 3, 5]
        · simp
        · rintro ⟨i, s2⟩ ⟨hi2, hops, hrun2⟩
          simp only at hi2 hops hrun2
          refine awp_go ?_
          by_cases hlt2 : i < c6
          · rw [show c6 - i = (c6 - (i + 1)) + 1 by omega, opsM] at hrun2
            simp [hlt2]
            refine calD [0] (Next_fn s2.l 13 (by omega)) ?_
            have hvd := nextV_lt (l := s2.l) (n := 13) (by omega)
            simp
            refine calD [0, 1] (sysArg_fn ks seen (nextL s2.l 13) hk a5 hsl a10) ?_
            obtain ⟨a, ha⟩ : ∃ a, argM ks seen (nextL s2.l 13) = a := ⟨_, rfl⟩
            obtain ⟨d, hd⟩ : ∃ d, nextV s2.l 13 = d := ⟨_, rfl⟩
            rw [ha, hd]
            rw [hd] at hvd
            simp [GArg.e]
            have hcase : d = 0 ∨ (1 ≤ d ∧ d ≤ 6) ∨ d = 7 ∨ d = 8 ∨ d = 9 ∨ d = 10 ∨ d = 11 ∨ d = 12 := by omega
            have c3 : (s2.ops.length + 1) * 88 ≤ 140737488355328 := by omega
            have c4 : s2.ops.length + 1 ≤ maxLen := by simp only [maxLen]; omega
            rcases hcase with rfl | ⟨m1, m2⟩ | rfl | rfl | rfl | rfl | rfl | rfl
            · simp
              by_cases hwr : F.wr = []
              · have hc := sysArg_fn ks seen a.2 hk a5 hsl a10
                simp [hwr]
                refine awp_drawS follows_mix [(0, 0), (0, 0), (0, 0), (3, 0), (0, 0), (1, 0)] 6 6 [(0, 3), (1, 3)] (by kernel_rfl) rfl rfl ?_
                simp
                refine gE_callW (.agg (argM ks seen a.2).1.e) [0, 1] [(0, some [slI (argM ks seen a.2).2]), (1, some [.ptr 0 0])] rfl (fun y => ?_) ?_
                · simp
                  exact doD [0, 1] hc
                simp [GArg.e, c3, c4]
                have hst : opStep ks seen F.wr s2 = ⟨s2.ops ++ [⟨12, ⟨0, 0⟩, a.1, (argM ks seen a.2).1⟩], s2.spawn, (argM ks seen a.2).2⟩ := by simp [opStep, opB, ha, hd, hwr]
                rw [hst] at hrun2
                rw [wrap_id (by omega) (by omega)]
                exact ⟨i + 1, _, ⟨by omega, by simp; omega, hrun2⟩, by omega, entm [0, 1, 2, 3, 7] (hB := by simp [GOp.e, GArg.e, gArg0, hwr])⟩
              · obtain ⟨j, m, hj, hm, e1, e2, e3, e4⟩ := pick_in (l := a.2) a4 (List.length_pos_iff.2 hwr)
                have hkf := (hk.2 ks[m] (List.getElem_mem hm)).1
                have hN1 := Next_fn a.2 F.wr.length (by omega)
                have hN2 := Next_fn (nextL a.2 F.wr.length) (flds ks m) (by omega)
                rw [e1] at hN1 e3
                rw [e4] at hN2
                simp at e3
                simp [hwr]
                refine awp_drawS follows_mix [(0, 0), (0, 0), (0, 0), (0, 0), (0, 0), (0, 0), (3, 0), (0, 0), (0, 0), (0, 0)] 6 6 [(0, 6), (1, 6)] (by kernel_rfl) rfl rfl ?_
                simp
                refine gE_callW (kI j) [0] [(0, some [slI (nextL a.2 F.wr.length)])] rfl (fun y => ?_) ?_
                · simp
                  exact doD [0] hN1
                simp [hj, e2]
                refine awp_drawS follows_mix [(0, 0), (0, 0), (0, 0), (0, 0), (0, 0), (0, 0), (0, 0), (0, 0), (3, 0), (0, 0), (0, 0), (1, 0)] 6 6 [(0, 8)] (by kernel_rfl) rfl rfl ?_
                simp [hm]
                refine gE_callW (kI (nextV (nextL a.2 F.wr.length) ks[m].Fields.length)) [0] [(0, some [slI (nextL (nextL a.2 F.wr.length) ks[m].Fields.length)])] rfl (fun y => ?_) ?_
                · simp
                  exact doD [0] hN2
                simp [hm, c3, c4]
                have hst : opStep ks seen F.wr s2 = ⟨s2.ops ++ [⟨0, ⟨m, nextV (nextL a.2 F.wr.length) ks[m].Fields.length⟩, a.1, gArg0⟩], s2.spawn, nextL (nextL a.2 F.wr.length) ks[m].Fields.length⟩ := by simp [opStep, opB, ha, hd, hwr, e1, e3, e4]
                rw [hst] at hrun2
                rw [wrap_id (by omega) (by omega)]
                exact ⟨i + 1, _, ⟨by omega, by simp; omega, hrun2⟩, by omega, entm [0, 1, 2, 3, 7] (hB := by simp [GOp.e, GArg.e, gArg0, hwr, e1, e3, e4])⟩
            · have m3 : ¬ d = 7 := by omega
              have m4 : d ≤ 7 := by omega
              have m5 : ¬ d = 12 := by omega
              have m6 : ¬ d = 8 := by omega
              have m7 : ¬ d = 9 := by omega
              simp [m1, m2, m3, m4, m5, m6, m7]
              refine calD [0, 1] (sysArg_fn ks seen a.2 hk a5 hsl a10) ?_
              simp [GArg.e, m1, m2, m3, m4, m5, m6, m7]
              by_cases hwr : F.wr = []
              · have hc := sysArg_fn ks seen (argM ks seen a.2).2 hk a5 hsl a10
                simp [hwr, m1, m2, m3, m4, m5, m6, m7]
                refine awp_drawS follows_mix [(0, 0), (0, 0), (0, 0), (3, 0), (0, 0), (1, 0)] 6 6 [(0, 3), (1, 3)] (by kernel_rfl) rfl rfl ?_
                simp
                refine gE_callW (.agg (argM ks seen (argM ks seen a.2).2).1.e) [0, 1] [(0, some [slI (argM ks seen (argM ks seen a.2).2).2]), (1, some [.ptr 0 0])] rfl (fun y => ?_) ?_
                · simp
                  exact doD [0, 1] hc
                simp [GArg.e, c3, c4, m1, m2, m3, m4, m5, m6, m7]
                have hst : opStep ks seen F.wr s2 = ⟨s2.ops ++ [⟨12, ⟨0, 0⟩, a.1, (argM ks seen (argM ks seen a.2).2).1⟩], s2.spawn, (argM ks seen (argM ks seen a.2).2).2⟩ := by simp [opStep, opB, ha, hd, m1, m2, m3, m4, m5, m6, m7, hwr]
                rw [hst] at hrun2
                rw [wrap_id (by omega) (by omega)]
                exact ⟨i + 1, _, ⟨by omega, by simp; omega, hrun2⟩, by omega, entm [0, 1, 2, 3, 7] (hB := by simp [GOp.e, GArg.e, gArg0, m1, m2, m3, m4, m5, m6, m7, hwr])⟩
              · obtain ⟨j, m, hj, hm, e1, e2, e3, e4⟩ := pick_in (l := (argM ks seen a.2).2) a4 (List.length_pos_iff.2 hwr)
                have hkf := (hk.2 ks[m] (List.getElem_mem hm)).1
                have hN1 := Next_fn (argM ks seen a.2).2 F.wr.length (by omega)
                have hN2 := Next_fn (nextL (argM ks seen a.2).2 F.wr.length) (flds ks m) (by omega)
                rw [e1] at hN1 e3
                rw [e4] at hN2
                simp at e3
                simp [hwr, m1, m2, m3, m4, m5, m6, m7]
                refine awp_drawS follows_mix [(0, 0), (0, 0), (0, 0), (0, 0), (0, 0), (0, 0), (3, 0), (0, 0), (0, 0), (0, 0)] 6 6 [(0, 6), (1, 6)] (by kernel_rfl) rfl rfl ?_
                simp
                refine gE_callW (kI j) [0] [(0, some [slI (nextL (argM ks seen a.2).2 F.wr.length)])] rfl (fun y => ?_) ?_
                · simp
                  exact doD [0] hN1
                simp [hj, e2]
                refine awp_drawS follows_mix [(0, 0), (0, 0), (0, 0), (0, 0), (0, 0), (0, 0), (0, 0), (0, 0), (3, 0), (0, 0), (0, 0), (1, 0)] 6 6 [(0, 8)] (by kernel_rfl) rfl rfl ?_
                simp [hm]
                refine gE_callW (kI (nextV (nextL (argM ks seen a.2).2 F.wr.length) ks[m].Fields.length)) [0] [(0, some [slI (nextL (nextL (argM ks seen a.2).2 F.wr.length) ks[m].Fields.length)])] rfl (fun y => ?_) ?_
                · simp
                  exact doD [0] hN2
                simp [hm, c3, c4, m1, m2, m3, m4, m5, m6, m7]
                have hst : opStep ks seen F.wr s2 = ⟨s2.ops ++ [⟨d, ⟨m, nextV (nextL (argM ks seen a.2).2 F.wr.length) ks[m].Fields.length⟩, a.1, (argM ks seen a.2).1⟩], s2.spawn, nextL (nextL (argM ks seen a.2).2 F.wr.length) ks[m].Fields.length⟩ := by simp [opStep, opB, ha, hd, m1, m2, m3, m4, m5, m6, m7, hwr, e1, e3, e4]
                rw [hst] at hrun2
                rw [wrap_id (by omega) (by omega)]
                exact ⟨i + 1, _, ⟨by omega, by simp; omega, hrun2⟩, by omega, entm [0, 1, 2, 3, 7] (hB := by simp [GOp.e, GArg.e, gArg0, m1, m2, m3, m4, m5, m6, m7, hwr, e1, e3, e4])⟩
            · simp
              by_cases hwr : F.wr = []
              · have hc := sysArg_fn ks seen a.2 hk a5 hsl a10
                simp [hwr]
                refine awp_drawS follows_mix [(0, 0), (0, 0), (0, 0), (3, 0), (0, 0), (1, 0)] 6 6 [(0, 3), (1, 3)] (by kernel_rfl) rfl rfl ?_
                simp
                refine gE_callW (.agg (argM ks seen a.2).1.e) [0, 1] [(0, some [slI (argM ks seen a.2).2]), (1, some [.ptr 0 0])] rfl (fun y => ?_) ?_
                · simp
                  exact doD [0, 1] hc
                simp [GArg.e, c3, c4]
                have hst : opStep ks seen F.wr s2 = ⟨s2.ops ++ [⟨12, ⟨0, 0⟩, a.1, (argM ks seen a.2).1⟩], s2.spawn, (argM ks seen a.2).2⟩ := by simp [opStep, opB, ha, hd, hwr]
                rw [hst] at hrun2
                rw [wrap_id (by omega) (by omega)]
                exact ⟨i + 1, _, ⟨by omega, by simp; omega, hrun2⟩, by omega, entm [0, 1, 2, 3, 7] (hB := by simp [GOp.e, GArg.e, gArg0, hwr])⟩
              · obtain ⟨j, m, hj, hm, e1, e2, e3, e4⟩ := pick_in (l := a.2) a4 (List.length_pos_iff.2 hwr)
                have hkf := (hk.2 ks[m] (List.getElem_mem hm)).1
                have hN1 := Next_fn a.2 F.wr.length (by omega)
                have hN2 := Next_fn (nextL a.2 F.wr.length) (flds ks m) (by omega)
                rw [e1] at hN1 e3
                rw [e4] at hN2
                simp at e3
                simp [hwr]
                refine awp_drawS follows_mix [(0, 0), (0, 0), (0, 0), (0, 0), (0, 0), (0, 0), (3, 0), (0, 0), (0, 0), (0, 0)] 6 6 [(0, 6), (1, 6)] (by kernel_rfl) rfl rfl ?_
                simp
                refine gE_callW (kI j) [0] [(0, some [slI (nextL a.2 F.wr.length)])] rfl (fun y => ?_) ?_
                · simp
                  exact doD [0] hN1
                simp [hj, e2]
                refine awp_drawS follows_mix [(0, 0), (0, 0), (0, 0), (0, 0), (0, 0), (0, 0), (0, 0), (0, 0), (3, 0), (0, 0), (0, 0), (1, 0)] 6 6 [(0, 8)] (by kernel_rfl) rfl rfl ?_
                simp [hm]
                refine gE_callW (kI (nextV (nextL a.2 F.wr.length) ks[m].Fields.length)) [0] [(0, some [slI (nextL (nextL a.2 F.wr.length) ks[m].Fields.length)])] rfl (fun y => ?_) ?_
                · simp
                  exact doD [0] hN2
                simp [hm, c3, c4]
                have hst : opStep ks seen F.wr s2 = ⟨s2.ops ++ [⟨7, ⟨m, nextV (nextL a.2 F.wr.length) ks[m].Fields.length⟩, a.1, gArg0⟩], s2.spawn, nextL (nextL a.2 F.wr.length) ks[m].Fields.length⟩ := by simp [opStep, opB, ha, hd, hwr, e1, e3, e4]
                rw [hst] at hrun2
                rw [wrap_id (by omega) (by omega)]
                exact ⟨i + 1, _, ⟨by omega, by simp; omega, hrun2⟩, by omega, entm [0, 1, 2, 3, 7] (hB := by simp [GOp.e, GArg.e, gArg0, hwr, e1, e3, e4])⟩
            · simp
              refine calD [0] (Next_fn a.2 ks.length (by omega)) ?_
              simp [GArg.e, c3, c4]
              have hst : opStep ks seen F.wr s2 = ⟨s2.ops ++ [⟨8, ⟨nextV a.2 ks.length, 0⟩, a.1, gArg0⟩], s2.spawn, nextL a.2 ks.length⟩ := by simp [opStep, opB, ha, hd]
              rw [hst] at hrun2
              rw [wrap_id (by omega) (by omega)]
              exact ⟨i + 1, _, ⟨by omega, by simp; omega, hrun2⟩, by omega, entm [0, 1, 2, 3, 7] (hB := by simp [GOp.e, GArg.e, gArg0])⟩
            · simp
              refine calD [0] (Next_fn a.2 ks.length (by omega)) ?_
              simp [GArg.e, c3, c4]
              have hst : opStep ks seen F.wr s2 = ⟨s2.ops ++ [⟨9, ⟨nextV a.2 ks.length, 0⟩, a.1, gArg0⟩], s2.spawn, nextL a.2 ks.length⟩ := by simp [opStep, opB, ha, hd]
              rw [hst] at hrun2
              rw [wrap_id (by omega) (by omega)]
              exact ⟨i + 1, _, ⟨by omega, by simp; omega, hrun2⟩, by omega, entm [0, 1, 2, 3, 7] (hB := by simp [GOp.e, GArg.e, gArg0])⟩
            · simp
              simp [GArg.e, c3, c4]
              have hst : opStep ks seen F.wr s2 = ⟨s2.ops ++ [⟨10, ⟨0, 0⟩, a.1, gArg0⟩], s2.spawn, a.2⟩ := by simp [opStep, opB, ha, hd]
              rw [hst] at hrun2
              rw [wrap_id (by omega) (by omega)]
              exact ⟨i + 1, _, ⟨by omega, by simp; omega, hrun2⟩, by omega, entm [0, 1, 2, 3, 7] (hB := by simp [GOp.e, GArg.e, gArg0])⟩
            · simp
              by_cases hsp : s2.spawn = []
              · simp [hsp]
                refine calD [0] (comps_fn ks a.2 hk) ?_
                simp [GArg.e, c3, c4]
                have hst : opStep ks seen F.wr s2 = ⟨s2.ops ++ [⟨11, ⟨0, 0⟩, a.1, gArg0⟩], (compsM ks a.2).1, (compsM ks a.2).2⟩ := by simp [opStep, opB, ha, hd, hsp]
                rw [hst] at hrun2
                rw [wrap_id (by omega) (by omega)]
                exact ⟨i + 1, _, ⟨by omega, by simp; omega, hrun2⟩, by omega, entm [0, 1, 2, 3, 7] (hB := by simp [GOp.e, GArg.e, gArg0, hsp])⟩
              · simp [hsp, GArg.e, c3, c4]
                have hst : opStep ks seen F.wr s2 = ⟨s2.ops ++ [⟨11, ⟨0, 0⟩, a.1, gArg0⟩], s2.spawn, a.2⟩ := by simp [opStep, opB, ha, hd, hsp]
                rw [hst] at hrun2
                rw [wrap_id (by omega) (by omega)]
                exact ⟨i + 1, _, ⟨by omega, by simp; omega, hrun2⟩, by omega, entm [0, 1, 2, 3, 7] (hB := by simp [GOp.e, GArg.e, gArg0, hsp])⟩
            · simp
              refine calD [0, 1] (sysArg_fn ks seen a.2 hk a5 hsl a10) ?_
              simp [GArg.e]
              simp [GArg.e, c3, c4]
              have hst : opStep ks seen F.wr s2 = ⟨s2.ops ++ [⟨12, ⟨0, 0⟩, a.1, (argM ks seen a.2).1⟩], s2.spawn, (argM ks seen a.2).2⟩ := by simp [opStep, opB, ha, hd]
              rw [hst] at hrun2
              rw [wrap_id (by omega) (by omega)]
              exact ⟨i + 1, _, ⟨by omega, by simp; omega, hrun2⟩, by omega, entm [0, 1, 2, 3, 7] (hB := by simp [GOp.e, GArg.e, gArg0])⟩
          · simp [hlt2]
            have hic : i = c6 := by omega
            subst hic
            rw [Nat.sub_self, opsM] at hrun2
            refine finG_fz 4 (s2.ops.map GOp.e).flatten ?_
            simp
            exact finGm [0] (hres := by simp [hs6, ← hrun2, GSystem.e]) (hB := by simp [hs6, ← hrun2])
end Go.Proofs.YtfojnhceiabbhaaGreat.Am
