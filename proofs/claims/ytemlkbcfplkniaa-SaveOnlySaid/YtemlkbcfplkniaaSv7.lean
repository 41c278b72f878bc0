/- Package save: the writer's put and name. -/
import Derived.Test.YtemlkbcfplkniaaSv5
import Derived.Test.YtemlkbcfplkniaaSv6
set_option linter.unusedVariables false
set_option linter.unusedSimpArgs false
namespace Go.Proofs.Ytemlkbcfplkniaa.Am
open Go Go.RowKit

abbrev WS := List Bool × Int
abbrev wS (w : WS) (b : Nat) : List PV := wSt w.1 w.2 b
abbrev wB (w : WS) : List PV := (packB w.1).map kU8
def wput (w : WS) (v n : Int) : WS := if w.2 = 0 then putM w.1 v n else w
def wnat (w : WS) (v : Nat) : WS := if w.2 = 0 then natM w.1 v else w
theorem putM_le {bl : List Bool} {v n : Int} (h : bl.length ≤ 524288) (hn : 0 ≤ n) : (putM bl v n).1.length ≤ 524288 := by
  unfold putM; split
  · simpa
  · split
    · simpa
    · simp; omega
theorem natM_le {bl : List Bool} {v : Nat} (h : bl.length ≤ 524288) : (natM bl v).1.length ≤ 524288 := by
  unfold natM; split
  · simpa
  · have : (natBits v).length = 5 * gF 16 v := flat5 _ _
    simp; omega
theorem wput_le {w : WS} {v n : Int} (h : w.1.length ≤ 524288) (hn : 0 ≤ n) : (wput w v n).1.length ≤ 524288 := by
  unfold wput; split
  · exact putM_le h hn
  · exact h
theorem wnat_le {w : WS} {v : Nat} (h : w.1.length ≤ 524288) : (wnat w v).1.length ≤ 524288 := by
  unfold wnat; split
  · exact natM_le h
  · exact h
theorem wB_imm (w : WS) : (wB w).all PV.immB = true := by simp

/-- The writer's box moved to the place at which a call leaves it. -/
theorem ent_w {N : Nat} {T : List (Nat × PV)} (w : WS) (hT : EntT (St.mb ⟨N, T, [some (wS w 1), some (wB w)], 2⟩ 1 (wB w)) (fun i => [0, 1, 2].getD i 0) 3 T := by simp) :
    Ent ⟨N, T, [some (wS w 1), some (wB w)], 2⟩ ⟨N, T, [some (wS w 2), none, some (wB w)], 2⟩ :=
  (ent_mb 1 (wB w)).trans (entm [0, 1, 2] (hT := hT) (hB := by simp [wSt, imms_ren (wB_imm w), imms_lt (wB_imm w)]))

set_option maxRecDepth 20000 in
theorem WPut_fn (w : WS) (v n : Int) (hv : 0 ≤ v) (hn : 0 ≤ n ∧ n ≤ 63) (hl : w.1.length ≤ 524288) : FnD Try.prog 82 [.ptr 0 0, kU v, kI n] [wS w 1, wB w]
    (.tup []) [some (wS (wput w v n) 2), none, some (wB (wput w v n))] := by
  refine fng_of Try.func82 rfl (awp_ent (s' := ⟨20, [(0, .ptr 0 0), (1, kU v), (2, kI n)], [some (wS w 2), none, some (wB w)], 2⟩) (ent_w w) (awp_go ?_))
  have hb : ∀ bs : List Int, (bs.map kU8).all PV.immB = true := fun bs => by simp
  simp [Try.ntmps82, wSt]
  by_cases h0 : w.2 = 0
  · simp [h0]
    refine calD [0, 2] (Put_fn w.1 v n 0 hv hn hl) ?_ (hbox := by simp [wSt, imms_ren (hb _), imms_lt (hb _)])
    have e : wput w v n = putM w.1 v n := by simp [wput, h0]
    rw [e]
    simp [wSt, imms_ren (hb _), imms_lt (hb _)]
    exact finGm [0, 1, 3] (hB := by simp [wSt, imms_ren (hb _), imms_lt (hb _)])
  · have e : wput w v n = w := by simp [wput, h0]
    rw [e]
    simp [h0]
    exact finGm [0, 1, 2] (hB := by simp [wSt, imms_ren (hb _), imms_lt (hb _)])

def lettersL : List Int := [97, 98, 99, 100, 101, 102, 103, 104, 105, 106, 107, 108, 109, 110, 111, 112, 113, 114, 115, 116, 117, 118, 119, 120, 121, 122, 48, 49, 50, 51, 52, 53, 54, 55, 56, 57]
def letIdx (c : UInt8) : Int := Lib.indexByte (Lib.bytesOf lettersL) c
def wchar (w : WS) (c : UInt8) : WS := wput w (IntKind.u64.wrap (letIdx c)) 6
def wname (w : WS) (s : Str) : WS := s.data.toList.foldl wchar (wput w s.size 5)

set_option maxRecDepth 20000 in
theorem IndexByte_fn (xs : List Int) (n : Int) (hl : 0 < xs.length) : Fn Try.prog 190 [slB xs, kU8 n] (kI (Lib.indexByte (Lib.bytesOf xs) n.toNat.toUInt8)) := by
  refine fn_go Try.func190 rfl ?_
  simp [Try.ntmps190]
  refine ops_idx Try.func231 ?_ hl
  simp
  exact finm

set_option maxRecDepth 20000 in
set_option maxHeartbeats 1000000 in
theorem WName_fn (w : WS) (s : Str) (hs : s.size ≤ 1000000) (hl : w.1.length ≤ 524288) : FnD Try.prog 134 [.ptr 0 0, kS s] [wS w 1, wB w]
    (.tup []) [some (wS (wname w s) 2), none, some (wB (wname w s))] := by
  refine fng_of Try.func134 rfl (awp_ent (s' := ⟨25, [(0, .ptr 0 0), (1, kS s)], [some (wS w 2), none, some (wB w)], 2⟩) (ent_w w) (awp_go ?_))
  have hb : ∀ bs : List Int, (bs.map kU8).all PV.immB = true := fun bs => by simp
  have hsz : s.data.toList.length = s.size := by rw [Array.length_toList]; rfl
  have hu : IntKind.u64.wrap (s.size : Int) = s.size := by rw [wrapU]; omega
  simp [Try.ntmps134, hu]
  refine calD [0, 2] (WPut_fn w s.size 5 (by omega) (by omega) hl) ?_ (hbox := by simp [wSt, imms_ren (hb _), imms_lt (hb _)])
  have hl1 : (wput w s.size 5).1.length ≤ 524288 := wput_le hl (by omega)
  obtain ⟨w1, hw1⟩ : ∃ w1, wput w s.size 5 = w1 := ⟨_, rfl⟩
  rw [hw1] at hl1 ⊢
  simp [wSt, imms_ren (hb _), imms_lt (hb _)]
  refine awp_loop (fun x : Nat × WS => ⟨25, [(0, .ptr 0 0), (1, kS s), (11, kI s.size), (12, kI x.1)], [some (wS x.2 2), none, some (wB x.2)], 2⟩)
    (fun x => x.1 ≤ s.size ∧ x.2.1.length ≤ 524288 ∧ (s.data.toList.drop x.1).foldl wchar x.2 = wname w s) (fun x => s.size - x.1) (0, w1) ?_ ?_ ?_
  · exact entm [0, 1, 3] (hB := by simp [wSt, imms_ren (hb _), imms_lt (hb _)])
  · simp [wname, hw1, hl1]
  · rintro ⟨i, x⟩ ⟨hi, hx, hrun⟩
    simp only at hi hx hrun
    refine awp_go ?_
    by_cases hlt : i < s.size
    · obtain ⟨ch, hch⟩ : ∃ ch, s[i] = ch := ⟨_, rfl⟩
      have hdrop : s.data.toList.drop i = ch :: s.data.toList.drop (i + 1) := by
        have hlt2 : i < s.data.toList.length := by rw [hsz]; exact hlt
        rw [List.drop_eq_getElem_cons hlt2]
        congr 1
      rw [hdrop, List.foldl_cons] at hrun
      simp [hlt, wSt]
      refine ops_conv (e := 5) (b := 3) (len := 36) (cs := lettersL.map kU8) ?_ (by omega) rfl (hb := rfl) (hx2 := by simp [show lettersL.length = 36 from rfl])
      have hch2 : s[i]? = some ch := by rw [getElem?_pos s i hlt, hch]
      simp [hlt, hch, hch2, imms_fz (hb _)]
      rw [show chunks 1 (lettersL.map kU8) 36 = lettersL.map fun n => [kU8 n] from rfl]
      have hI := IndexByte_fn lettersL ch.toNat (by decide)
      rw [show ((ch.toNat : Int).toNat).toUInt8 = ch by simp, show Lib.indexByte (Lib.bytesOf lettersL) ch = letIdx ch from rfl] at hI
      refine cal hI ?_
      simp
      have hv : 0 ≤ IntKind.u64.wrap (letIdx ch) := by rw [wrapU]; omega
      refine calD [0, 2] (WPut_fn x (IntKind.u64.wrap (letIdx ch)) 6 hv (by omega) hx) ?_ (hbox := by simp [wSt, imms_ren (hb _), imms_lt (hb _)])
      have hl2 : (wchar x ch).1.length ≤ 524288 := wput_le hx (by omega)
      simp [wSt, imms_ren (hb _), imms_lt (hb _)]
      rw [wrap_id (by omega) (by omega)]
      exact ⟨i + 1, (wchar x ch).1, (wchar x ch).2, ⟨by omega, hl2, hrun⟩, by omega, entm [0, 1, 4] (hB := by simp [wSt, wchar, imms_ren (hb _), imms_lt (hb _)])⟩
    · obtain rfl : i = s.size := by omega
      have : s.data.toList.drop s.size = [] := List.drop_eq_nil_of_le (by rw [hsz]; exact Nat.le_refl _)
      rw [this] at hrun
      simp at hrun
      simp [wSt, ← hrun]
      exact finGm [0, 1, 2] (hB := by simp [wSt, imms_ren (hb _), imms_lt (hb _)])
end Go.Proofs.Ytemlkbcfplkniaa.Am
