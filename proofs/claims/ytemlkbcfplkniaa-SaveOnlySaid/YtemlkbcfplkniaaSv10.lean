/- Package save: the writer's items. -/
import Derived.Test.YtemlkbcfplkniaaSv9
set_option linter.unusedVariables false
set_option linter.unusedSimpArgs false
namespace Go.Proofs.Ytemlkbcfplkniaa.Am
open Go Go.RowKit

def witems (ks : List GKind) : Nat → List Int → List GItem → WS → WS
  | _, [], _, w => w
  | n, g :: gs, [], w => witems ks (n + 1) gs [] (wput (wnat w g.toNat) 0 1)
  | n, g :: gs, it :: r, w => if it.Ent.N = n then witems ks (n + 1) gs r (wcomps 0 ks it.Comps (wput (wnat w g.toNat) 1 1)) else witems ks (n + 1) gs (it :: r) (wput (wnat w g.toNat) 0 1)

theorem wcomps_le : ∀ {ks : List GKind} {i : Nat} {l : List GComp} {w : WS}, (∀ k ∈ ks, ∀ f ∈ k.Fields, fieldB f = true) → w.1.length ≤ 524288 → (wcomps i ks l w).1.length ≤ 524288
  | [], _, _, _, _, h => by simpa [wcomps] using h
  | k :: r, i, [], w, hf, h => by
    rw [wcomps]
    exact wcomps_le (fun k hk => hf k (by simp [hk])) (wput_le h (by omega))
  | k :: r, i, c :: l, w, hf, h => by
    rw [wcomps]
    split
    · exact wcomps_le (fun k hk => hf k (by simp [hk])) (wvals_le (hf k (by simp)) (wput_le h (by omega)))
    · exact wcomps_le (fun k hk => hf k (by simp [hk])) (wput_le h (by omega))

set_option maxRecDepth 20000 in
set_option maxHeartbeats 2000000 in
theorem WItems_fn (w : WS) (W : GWorld) (hk : W.Kinds.length ≤ 16) (hf : ∀ k ∈ W.Kinds, k.Fields.length ≤ 8 ∧ ∀ f ∈ k.Fields, fieldB f = true) (hg : W.Gens.length ≤ 256) (hgv : ∀ g ∈ W.Gens, 0 ≤ g ∧ g ≤ 1073741824)
    (hh : ∀ it ∈ W.Items, heldGo W.Kinds (-1) it.Comps = true) (hil : W.Items.length ≤ 256) (hl : w.1.length ≤ 524288) :
    FnD Try.prog 84 [.ptr 0 0, .agg W.e] [wS w 1, wB w]
    (.tup []) [some (wS (witems W.Kinds 0 W.Gens W.Items (wput w W.Gens.length 9)) 2), none, some (wB (witems W.Kinds 0 W.Gens W.Items (wput w W.Gens.length 9)))] := by
  obtain ⟨ks, gs, its⟩ := W
  simp only at hk hf hg hgv hh hil ⊢
  refine fng_of Try.func84 rfl (awp_ent (s' := ⟨68, [(0, .ptr 0 0), (1, .agg (GWorld.mk ks gs its).e)], [some (wS w 2), none, some (wB w)], 2⟩) (ent_w w) (awp_go ?_))
  have hb : ∀ bs : List Int, (bs.map kU8).all PV.immB = true := fun bs => by simp
  have hu : ∀ n : Nat, n ≤ 1000 → IntKind.u64.wrap (n : Int) = n := fun n h => by rw [wrapU]; omega
  simp [Try.ntmps84, GWorld.e, hu gs.length (by omega)]
  refine calD [0, 2] (WPut_fn w gs.length 9 (by omega) (by omega) hl) ?_ (hbox := by simp [wSt, imms_ren (hb _), imms_lt (hb _)])
  have hl1 : (wput w gs.length 9).1.length ≤ 524288 := wput_le hl (by omega)
  obtain ⟨w1, hw1⟩ : ∃ w1, wput w gs.length 9 = w1 := ⟨_, rfl⟩
  rw [hw1] at hl1 ⊢
  simp [wSt, imms_ren (hb _), imms_lt (hb _)]
  refine awp_loop (fun x : Nat × Nat × WS => ⟨68, [(0, .ptr 0 0), (3, .ptr 3 0), (4, kI x.2.1), (14, slI gs), (15, kI gs.length), (16, kI x.1)], [some (wS x.2.2 2), none, some (wB x.2.2), some [.sl 2 (ks.map GKind.e), slI gs, .sl 3 (its.map GItem.e)]], 2⟩)
    (fun x => x.1 ≤ gs.length ∧ x.2.1 ≤ its.length ∧ x.2.2.1.length ≤ 524288 ∧ witems ks x.1 (gs.drop x.1) (its.drop x.2.1) x.2.2 = witems ks 0 gs its w1) (fun x => gs.length - x.1) (0, 0, w1) ?_ ?_ ?_
  · exact entm [0, 1, 4, 3] (hB := by simp [wSt, imms_ren (hb _), imms_lt (hb _)])
  · simp [hl1]
  · rintro ⟨i, at_, x⟩ ⟨hi, hat, hx, hrun⟩
    simp only at hi hat hx hrun
    refine awp_go ?_
    by_cases hlt : i < gs.length
    · obtain ⟨g, hge⟩ : ∃ g, gs[i] = g := ⟨_, rfl⟩
      obtain ⟨hg1, hg2⟩ := hgv g (hge ▸ List.getElem_mem hlt)
      obtain ⟨m, rfl⟩ : ∃ m : Nat, g = m := ⟨g.toNat, by omega⟩
      rw [List.drop_eq_getElem_cons hlt, hge] at hrun
      have hwi : IntKind.i64.wrap ((i : Int) + 1) = ((i + 1 : Nat) : Int) := wrap_id (by omega) (by omega)
      have hug : IntKind.u64.wrap (m : Int) = m := by rw [wrapU]; omega
      have hxn : (wnat x m).1.length ≤ 524288 := wnat_le hx
      by_cases h0 : x.2 = 0
      · have e : wnat x m = natM x.1 m := by simp [wnat, h0]
        have hQ := Nat_fn x.1 m 0 (by omega) hx
        rw [e] at hxn
        obtain ⟨z, hz⟩ : ∃ z, natM x.1 m = z := ⟨_, rfl⟩
        rw [hz] at hQ hxn e
        simp [hlt, hge, wSt, h0, hug]
        refine calD [0, 2] hQ ?_ (hbox := by simp [wSt, imms_ren (hb _), imms_lt (hb _)])
        by_cases hal : at_ < its.length
        · obtain ⟨it, hite⟩ : ∃ it, its[at_] = it := ⟨_, rfl⟩
          have hitm : it ∈ its := hite ▸ List.getElem_mem hal
          rw [List.drop_eq_getElem_cons hal, hite, witems] at hrun
          simp only [Int.toNat_natCast, e] at hrun
          have hw3 : IntKind.i64.wrap ((at_ : Int) + 1) = ((at_ + 1 : Nat) : Int) := wrap_id (by omega) (by omega)
          by_cases hN : it.Ent.N = i
          · rw [if_pos hN] at hrun
            simp [wSt, hal, hite, GItem.e, hN, imms_ren (hb _), imms_lt (hb _)]
            refine calD [0, 4] (WPut_fn z 1 1 (by omega) (by omega) hxn) ?_ (hbox := by simp [wSt, imms_ren (hb _), imms_lt (hb _)])
            have hz1 : (wput z 1 1).1.length ≤ 524288 := wput_le hxn (by omega)
            obtain ⟨z1, hz1e⟩ : ∃ z1, wput z 1 1 = z1 := ⟨_, rfl⟩
            rw [hz1e] at hz1 hrun ⊢
            simp [wSt, imms_ren (hb _), imms_lt (hb _)]
            have hC := WComps_fn z1 ks it.Comps hk hf (hh it hitm) hz1
            have hz2 : (wcomps 0 ks it.Comps z1).1.length ≤ 524288 := wcomps_le (fun k hkm f hfm => (hf k hkm).2 f hfm) hz1
            obtain ⟨z2, hz2e⟩ : ∃ z2, wcomps 0 ks it.Comps z1 = z2 := ⟨_, rfl⟩
            rw [hz2e] at hC hz2 hrun
            refine awp_draw follows_mix [9] [(0, [0]), (0, [0]), (0, [0]), (0, [0]), (0, [0]), (0, [0]), (0, [0]), (0, [0]), (0, [0]), (3, [0])] 1 (by kernel_rfl) rfl ?_
            simp [hal, hite, GItem.e]
            refine gD_callW (.tup []) [some (wSt z2.1 z2.2 6), none, none, some [.sl 2 (ks.map GKind.e), slI gs, .sl 3 (its.map GItem.e)], none, none, some ((packB z2.1).map kU8)] ?_
            simp [wSt, hwi, hw3, hal, hite, GItem.e]
            refine ⟨.inl ⟨rfl, doD [0, 5] hC (hbox := by simp [wSt, imms_ren (hb _), imms_lt (hb _)]) (h2 := by simp [wSt, imms_ren (hb _)])⟩, ?_⟩
            exact ⟨i + 1, at_ + 1, z2.1, z2.2, ⟨by omega, by omega, hz2, hrun⟩, by omega, entm [0, 1, 6, 3] (hB := by simp [wSt, imms_ren (hb _), imms_lt (hb _)])⟩
          · rw [if_neg hN] at hrun
            simp [wSt, hal, hite, GItem.e, hN, imms_ren (hb _), imms_lt (hb _)]
            refine calD [0, 4] (WPut_fn z 0 1 (by omega) (by omega) hxn) ?_ (hbox := by simp [wSt, imms_ren (hb _), imms_lt (hb _)])
            have hz1 : (wput z 0 1).1.length ≤ 524288 := wput_le hxn (by omega)
            obtain ⟨z1, hz1e⟩ : ∃ z1, wput z 0 1 = z1 := ⟨_, rfl⟩
            rw [hz1e] at hz1 hrun ⊢
            simp [wSt, hwi, imms_ren (hb _), imms_lt (hb _)]
            exact ⟨i + 1, at_, z1.1, z1.2, ⟨by omega, by omega, hz1, by rw [List.drop_eq_getElem_cons hal, hite]; exact hrun⟩, by omega, entm [0, 1, 5, 3] (hB := by simp [wSt, imms_ren (hb _), imms_lt (hb _)])⟩
        · obtain rfl : at_ = its.length := by omega
          rw [List.drop_length, witems] at hrun
          simp only [Int.toNat_natCast, e] at hrun
          simp [wSt, imms_ren (hb _), imms_lt (hb _)]
          refine calD [0, 4] (WPut_fn z 0 1 (by omega) (by omega) hxn) ?_ (hbox := by simp [wSt, imms_ren (hb _), imms_lt (hb _)])
          have hz1 : (wput z 0 1).1.length ≤ 524288 := wput_le hxn (by omega)
          obtain ⟨z1, hz1e⟩ : ∃ z1, wput z 0 1 = z1 := ⟨_, rfl⟩
          rw [hz1e] at hz1 hrun ⊢
          simp [wSt, hwi, imms_ren (hb _), imms_lt (hb _)]
          exact ⟨i + 1, its.length, z1.1, z1.2, ⟨by omega, by omega, hz1, by rw [List.drop_length]; exact hrun⟩, by omega, entm [0, 1, 5, 3] (hB := by simp [wSt, imms_ren (hb _), imms_lt (hb _)])⟩
      · have e : wnat x m = x := by simp [wnat, h0]
        by_cases hal : at_ < its.length
        · obtain ⟨it, hite⟩ : ∃ it, its[at_] = it := ⟨_, rfl⟩
          have hitm : it ∈ its := hite ▸ List.getElem_mem hal
          rw [List.drop_eq_getElem_cons hal, hite, witems] at hrun
          simp only [Int.toNat_natCast, e] at hrun
          have hw3 : IntKind.i64.wrap ((at_ : Int) + 1) = ((at_ + 1 : Nat) : Int) := wrap_id (by omega) (by omega)
          by_cases hN : it.Ent.N = i
          · rw [if_pos hN] at hrun
            simp [hlt, hge, wSt, h0, hug, hal, hite, GItem.e, hN, imms_ren (hb _), imms_lt (hb _)]
            refine calD [0, 2] (WPut_fn x 1 1 (by omega) (by omega) hx) ?_ (hbox := by simp [wSt, imms_ren (hb _), imms_lt (hb _)])
            have hz1 : (wput x 1 1).1.length ≤ 524288 := wput_le hx (by omega)
            obtain ⟨z1, hz1e⟩ : ∃ z1, wput x 1 1 = z1 := ⟨_, rfl⟩
            rw [hz1e] at hz1 hrun ⊢
            simp [wSt, imms_ren (hb _), imms_lt (hb _)]
            have hC := WComps_fn z1 ks it.Comps hk hf (hh it hitm) hz1
            have hz2 : (wcomps 0 ks it.Comps z1).1.length ≤ 524288 := wcomps_le (fun k hkm f hfm => (hf k hkm).2 f hfm) hz1
            obtain ⟨z2, hz2e⟩ : ∃ z2, wcomps 0 ks it.Comps z1 = z2 := ⟨_, rfl⟩
            rw [hz2e] at hC hz2 hrun
            refine awp_draw follows_mix [9] [(0, [0]), (0, [0]), (0, [0]), (0, [0]), (0, [0]), (0, [0]), (0, [0]), (0, [0]), (0, [0]), (3, [0])] 1 (by kernel_rfl) rfl ?_
            simp [hal, hite, GItem.e]
            refine gD_callW (.tup []) [some (wSt z2.1 z2.2 5), none, none, some [.sl 2 (ks.map GKind.e), slI gs, .sl 3 (its.map GItem.e)], none, some ((packB z2.1).map kU8)] ?_
            simp [wSt, hwi, hw3, hal, hite, GItem.e]
            refine ⟨.inl ⟨rfl, doD [0, 4] hC (hbox := by simp [wSt, imms_ren (hb _), imms_lt (hb _)]) (h2 := by simp [wSt, imms_ren (hb _)])⟩, ?_⟩
            exact ⟨i + 1, at_ + 1, z2.1, z2.2, ⟨by omega, by omega, hz2, hrun⟩, by omega, entm [0, 1, 5, 3] (hB := by simp [wSt, imms_ren (hb _), imms_lt (hb _)])⟩
          · rw [if_neg hN] at hrun
            simp [hlt, hge, wSt, h0, hug, hal, hite, GItem.e, hN, imms_ren (hb _), imms_lt (hb _)]
            refine calD [0, 2] (WPut_fn x 0 1 (by omega) (by omega) hx) ?_ (hbox := by simp [wSt, imms_ren (hb _), imms_lt (hb _)])
            have hz1 : (wput x 0 1).1.length ≤ 524288 := wput_le hx (by omega)
            obtain ⟨z1, hz1e⟩ : ∃ z1, wput x 0 1 = z1 := ⟨_, rfl⟩
            rw [hz1e] at hz1 hrun ⊢
            simp [wSt, hwi, imms_ren (hb _), imms_lt (hb _)]
            exact ⟨i + 1, at_, z1.1, z1.2, ⟨by omega, by omega, hz1, by rw [List.drop_eq_getElem_cons hal, hite]; exact hrun⟩, by omega, entm [0, 1, 4, 3] (hB := by simp [wSt, imms_ren (hb _), imms_lt (hb _)])⟩
        · obtain rfl : at_ = its.length := by omega
          rw [List.drop_length, witems] at hrun
          simp only [Int.toNat_natCast, e] at hrun
          simp [hlt, hge, wSt, h0, hug, imms_ren (hb _), imms_lt (hb _)]
          refine calD [0, 2] (WPut_fn x 0 1 (by omega) (by omega) hx) ?_ (hbox := by simp [wSt, imms_ren (hb _), imms_lt (hb _)])
          have hz1 : (wput x 0 1).1.length ≤ 524288 := wput_le hx (by omega)
          obtain ⟨z1, hz1e⟩ : ∃ z1, wput x 0 1 = z1 := ⟨_, rfl⟩
          rw [hz1e] at hz1 hrun ⊢
          simp [wSt, hwi, imms_ren (hb _), imms_lt (hb _)]
          exact ⟨i + 1, its.length, z1.1, z1.2, ⟨by omega, by omega, hz1, by rw [List.drop_length]; exact hrun⟩, by omega, entm [0, 1, 4, 3] (hB := by simp [wSt, imms_ren (hb _), imms_lt (hb _)])⟩
    · obtain rfl : i = gs.length := by omega
      rw [List.drop_length, witems] at hrun
      subst hrun
      simp [wSt]
      exact finGm [0, 1, 2] (hB := by simp [wSt, imms_ren (hb _), imms_lt (hb _)])
end Go.Proofs.Ytemlkbcfplkniaa.Am
