/- Package save: the writer's kinds. -/
import Derived.Test.YtemlkbcfplkniaaSv8
set_option linter.unusedVariables false
set_option linter.unusedSimpArgs false
namespace Go.Proofs.Ytemlkbcfplkniaa.Am
open Go Go.RowKit

def wfield (w : WS) (f : GField) : WS := wnat (wput (wname w f.Name) (f.Bits - 1) 5) (zig f.Low)
def wkind (w : WS) (k : GKind) : WS := k.Fields.foldl wfield (wput (wname w k.Name) k.Fields.length 4)
def wkinds (w : WS) (ks : List GKind) : WS := ks.foldl wkind (wput w ks.length 5)
theorem wchars_le : ∀ {l : List UInt8} {w : WS}, w.1.length ≤ 524288 → (l.foldl wchar w).1.length ≤ 524288
  | [], _, h => h
  | c :: l, w, h => wchars_le (l := l) (wput_le h (by omega))
theorem wname_le {w : WS} {s : Str} (h : w.1.length ≤ 524288) : (wname w s).1.length ≤ 524288 := wchars_le (wput_le h (by omega))
theorem wfield_le {w : WS} {f : GField} (h : w.1.length ≤ 524288) : (wfield w f).1.length ≤ 524288 := wnat_le (wput_le (wname_le h) (by omega))
theorem wfields_le : ∀ {l : List GField} {w : WS}, w.1.length ≤ 524288 → (l.foldl wfield w).1.length ≤ 524288
  | [], _, h => h
  | c :: l, w, h => wfields_le (l := l) (wfield_le h)
theorem wkind_le {w : WS} {k : GKind} (h : w.1.length ≤ 524288) : (wkind w k).1.length ≤ 524288 := wfields_le (wput_le (wname_le h) (by omega))

set_option maxRecDepth 20000 in
set_option maxHeartbeats 2000000 in
theorem WKinds_fn (w : WS) (ks : List GKind) (hk : ks.length ≤ 16) (hn : ∀ k ∈ ks, k.Name.size ≤ 1000000) (hf : ∀ k ∈ ks, k.Fields.length ≤ 8 ∧ ∀ f ∈ k.Fields, fieldB f = true ∧ f.Name.size ≤ 1000000) (hl : w.1.length ≤ 524288) :
    FnD Try.prog 83 [.ptr 0 0, .sl 2 (ks.map GKind.e)] [wS w 1, wB w]
    (.tup []) [some (wS (wkinds w ks) 2), none, some (wB (wkinds w ks))] := by
  refine fng_of Try.func83 rfl (awp_ent (s' := ⟨62, [(0, .ptr 0 0), (1, .sl 2 (ks.map GKind.e))], [some (wS w 2), none, some (wB w)], 2⟩) (ent_w w) (awp_go ?_))
  have hb : ∀ bs : List Int, (bs.map kU8).all PV.immB = true := fun bs => by simp
  have hu : ∀ n : Nat, n ≤ 1000 → IntKind.u64.wrap (n : Int) = n := fun n h => by rw [wrapU]; omega
  simp [Try.ntmps83, hu ks.length (by omega)]
  refine calD [0, 2] (WPut_fn w ks.length 5 (by omega) (by omega) hl) ?_ (hbox := by simp [wSt, imms_ren (hb _), imms_lt (hb _)])
  have hl1 : (wput w ks.length 5).1.length ≤ 524288 := wput_le hl (by omega)
  obtain ⟨w1, hw1⟩ : ∃ w1, wput w ks.length 5 = w1 := ⟨_, rfl⟩
  rw [hw1] at hl1 ⊢
  simp [wSt, imms_ren (hb _), imms_lt (hb _)]
  refine awp_loop (fun x : Nat × WS => ⟨62, [(0, .ptr 0 0), (13, .sl 2 (ks.map GKind.e)), (14, kI ks.length), (15, kI x.1)], [some (wS x.2 2), none, some (wB x.2)], 2⟩)
    (fun x => x.1 ≤ ks.length ∧ x.2.1.length ≤ 524288 ∧ (ks.drop x.1).foldl wkind x.2 = wkinds w ks) (fun x => ks.length - x.1) (0, w1) ?_ ?_ ?_
  · exact entm [0, 1, 3] (hB := by simp [wSt, imms_ren (hb _), imms_lt (hb _)])
  · simp [wkinds, hw1, hl1]
  · rintro ⟨i, x⟩ ⟨hi, hx, hrun⟩
    simp only at hi hx hrun
    refine awp_go ?_
    by_cases hlt : i < ks.length
    · obtain ⟨k, hkk⟩ : ∃ k, ks[i] = k := ⟨_, rfl⟩
      have hkm : k ∈ ks := hkk ▸ List.getElem_mem hlt
      obtain ⟨hfl, hff⟩ := hf k hkm
      rw [List.drop_eq_getElem_cons hlt, hkk, List.foldl_cons] at hrun
      have hw1' : IntKind.i64.wrap ((i : Int) + 1) = ((i + 1 : Nat) : Int) := wrap_id (by omega) (by omega)
      simp [hlt, hkk, wSt, GKind.e]
      refine calD [0, 2] (WName_fn x k.Name (hn k hkm) hx) ?_ (hbox := by simp [wSt, imms_ren (hb _), imms_lt (hb _)])
      have hx1 : (wname x k.Name).1.length ≤ 524288 := wname_le hx
      obtain ⟨x1, hx1e⟩ : ∃ x1, wname x k.Name = x1 := ⟨_, rfl⟩
      rw [hx1e] at hx1 ⊢
      simp [wSt, hu k.Fields.length (by omega), imms_ren (hb _), imms_lt (hb _)]
      refine calD [0, 4] (WPut_fn x1 k.Fields.length 4 (by omega) (by omega) hx1) ?_ (hbox := by simp [wSt, imms_ren (hb _), imms_lt (hb _)])
      have hx2 : (wput x1 k.Fields.length 4).1.length ≤ 524288 := wput_le hx1 (by omega)
      have hkw : wkind x k = k.Fields.foldl wfield (wput x1 k.Fields.length 4) := by rw [← hx1e]; rfl
      obtain ⟨x2, hx2e⟩ : ∃ x2, wput x1 k.Fields.length 4 = x2 := ⟨_, rfl⟩
      rw [hx2e] at hx2 hkw ⊢
      simp [wSt, imms_ren (hb _), imms_lt (hb _)]
      refine awp_loop (fun y : Nat × WS => ⟨62, [(0, .ptr 0 0), (13, .sl 2 (ks.map GKind.e)), (14, kI ks.length), (15, kI i), (30, .sl 3 (k.Fields.map GField.e)), (31, kI k.Fields.length), (32, kI y.1)], [some (wS y.2 2), none, some (wB y.2)], 2⟩)
        (fun y => y.1 ≤ k.Fields.length ∧ y.2.1.length ≤ 524288 ∧ (k.Fields.drop y.1).foldl wfield y.2 = wkind x k) (fun y => k.Fields.length - y.1) (0, x2) ?_ ?_ ?_
      · exact entm [0, 1, 5] (hB := by simp [wSt, imms_ren (hb _), imms_lt (hb _)])
      · simp [hkw, hx2]
      · rintro ⟨j, y⟩ ⟨hj, hy, hrun2⟩
        simp only at hj hy hrun2
        refine awp_go ?_
        by_cases hjl : j < k.Fields.length
        · obtain ⟨f, hfe⟩ : ∃ f, k.Fields[j] = f := ⟨_, rfl⟩
          obtain ⟨hffv, hfn⟩ := hff f (hfe ▸ List.getElem_mem hjl)
          rw [List.drop_eq_getElem_cons hjl, hfe, List.foldl_cons] at hrun2
          obtain ⟨hfb1, hfb2, hfb3, hfb4⟩ := field_in hffv
          have hw2 : IntKind.i64.wrap ((j : Int) + 1) = ((j + 1 : Nat) : Int) := wrap_id (by omega) (by omega)
          have hw3 : IntKind.i64.wrap (f.Bits - 1) = f.Bits - 1 := wrap_id (by omega) (by omega)
          have hw4 : IntKind.u64.wrap (f.Bits - 1) = f.Bits - 1 := by rw [wrapU]; omega
          simp [hjl, hfe, wSt, GField.e]
          refine calD [0, 2] (WName_fn y f.Name hfn hy) ?_ (hbox := by simp [wSt, imms_ren (hb _), imms_lt (hb _)])
          have hy1 : (wname y f.Name).1.length ≤ 524288 := wname_le hy
          have hyf : wfield y f = wnat (wput (wname y f.Name) (f.Bits - 1) 5) (zig f.Low) := rfl
          obtain ⟨y1, hy1e⟩ : ∃ y1, wname y f.Name = y1 := ⟨_, rfl⟩
          rw [hy1e] at hy1 hyf ⊢
          simp [wSt, hw3, hw4, imms_ren (hb _), imms_lt (hb _)]
          refine calD [0, 4] (WPut_fn y1 (f.Bits - 1) 5 (by omega) (by omega) hy1) ?_ (hbox := by simp [wSt, imms_ren (hb _), imms_lt (hb _)])
          have hy2 : (wput y1 (f.Bits - 1) 5).1.length ≤ 524288 := wput_le hy1 (by omega)
          obtain ⟨y2, hy2e⟩ : ∃ y2, wput y1 (f.Bits - 1) 5 = y2 := ⟨_, rfl⟩
          rw [hy2e] at hy2 hyf ⊢
          simp [wSt, imms_ren (hb _), imms_lt (hb _)]
          by_cases h0 : y2.2 = 0
          · have e : wnat y2 (zig f.Low) = natM y2.1 (zig f.Low) := by simp [wnat, h0]
            rw [e] at hyf
            have hQ := WInt_fn y2.1 f.Low 0 (by omega) (by omega) hy2
            have hzl : (natM y2.1 (zig f.Low)).1.length ≤ 524288 := natM_le hy2
            obtain ⟨z, hz⟩ : ∃ z, natM y2.1 (zig f.Low) = z := ⟨_, rfl⟩
            rw [hz] at hQ hyf hzl
            rw [hyf] at hrun2
            simp [h0]
            refine awp_draw follows_mix [6] [(0, [0, 1]), (0, [0]), (0, [0]), (0, [0]), (0, [0]), (0, [0]), (3, [0]), (0, [1]), (0, [1]), (1, [1])] 2 (by kernel_rfl) rfl ?_
            simp
            refine gD_callW (kI z.2) [some (wSt z.1 0 6), none, none, some [kS f.Name, kI f.Bits, kI f.Low], none, none, some ((packB z.1).map kU8)] ?_
            simp [wSt, hw2]
            refine ⟨.inl ⟨rfl, doD [0, 5] hQ (hbox := by simp [wSt, imms_ren (hb _), imms_lt (hb _)]) (h2 := by simp [wSt, imms_ren (hb _)])⟩, ?_⟩
            exact ⟨j + 1, z.1, z.2, ⟨by omega, hzl, hrun2⟩, by omega, entm [0, 1, 6] (hB := by simp [wSt, imms_ren (hb _), imms_lt (hb _)])⟩
          · have e : wnat y2 (zig f.Low) = y2 := by simp [wnat, h0]
            rw [e] at hyf
            rw [hyf] at hrun2
            simp [h0, hw2]
            exact ⟨j + 1, y2.1, y2.2, ⟨by omega, hy2, hrun2⟩, by omega, entm [0, 1, 5] (hB := by simp [wSt, imms_ren (hb _), imms_lt (hb _)])⟩
        · obtain rfl : j = k.Fields.length := by omega
          rw [List.drop_length] at hrun2
          simp at hrun2
          simp [wSt, hw1']
          exact ⟨i + 1, y.1, y.2, ⟨by omega, hy, by rw [hrun2]; exact hrun⟩, by omega, entm [0, 1, 2] (hB := by simp [wSt, imms_ren (hb _), imms_lt (hb _)])⟩
    · obtain rfl : i = ks.length := by omega
      rw [List.drop_length] at hrun
      simp at hrun
      subst hrun
      simp [wSt]
      exact finGm [0, 1, 2] (hB := by simp [wSt, imms_ren (hb _), imms_lt (hb _)])
end Go.Proofs.Ytemlkbcfplkniaa.Am
