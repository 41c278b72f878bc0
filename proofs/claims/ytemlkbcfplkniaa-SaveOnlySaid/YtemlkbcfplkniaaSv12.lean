/- Package save: seal, Write. -/
import Derived.Test.YtemlkbcfplkniaaSv11
set_option linter.unusedVariables false
set_option linter.unusedSimpArgs false
namespace Go.Proofs.Ytemlkbcfplkniaa.Am
open Go Go.RowKit

theorem chunks_b (l : List Int) : chunks 1 (l.map kU8) l.length = l.map fun n => [kU8 n] := by
  have := chunks_map (f := fun n : Int => [kU8 n]) (z := 1) (fun _ => rfl) l
  rwa [flatB] at this

def tail8 (d : Int) (m : Nat) : List Int := (List.range m).map fun i => d / 256 ^ i % 256
def sealB (l : List Int) : List Int := l ++ tail8 (digB l) 8
theorem joinM_nn (a b : Int) : 0 ≤ joinM a b := by
  unfold joinM mixM mixA
  rw [wrapU]; omega
theorem digGo_nn : ∀ (k : Nat) (d : Int) (l : List Int), 0 ≤ d → 0 ≤ digGo k d l
  | 0, _, _, h => h
  | k + 1, d, l, h => by
    rw [digGo]
    split
    · exact h
    · exact digGo_nn k _ _ (joinM_nn _ _)
theorem digB_nn (l : List Int) : 0 ≤ digB l := digGo_nn _ _ _ (joinM_nn _ _)

set_option maxRecDepth 20000 in
set_option maxHeartbeats 1000000 in
theorem Seal_fn (l : List Int) (hl : l.length ≤ 100000) (hb : BytesOk l) : FnD Try.prog 78 [.osl 0 1 0 l.length] [l.map kU8] (.osl 1 1 0 (sealB l).length) [none, some ((sealB l).map kU8)] := by
  have him : ∀ bs : List Int, (bs.map kU8).all PV.immB = true := fun bs => by simp
  refine fng_of Try.func78 rfl (awp_ent (s' := ⟨20, [(0, .osl 1 1 0 l.length)], [none, some (l.map kU8)], 1⟩)
    ((ent_mb 0 (l.map kU8)).trans (entm [0, 1] (hB := by simp [imms_ren (him _), imms_lt (him _)]))) (awp_go ?_))
  simp [Try.ntmps78]
  refine calS (SumBytes_fn l (by omega) hb) ?_ (hren := by simp [chunks_b])
  have hd0 := digB_nn l
  have hse : sealB l = l ++ tail8 (digB l) 8 := rfl
  obtain ⟨d, hd⟩ : ∃ d, digB l = d := ⟨_, rfl⟩
  rw [hd] at hd0 hse ⊢
  simp
  refine awp_loop (fun i : Nat => ⟨20, [(0, .osl 1 1 0 (l.length + i)), (3, kU d), (7, kI i)], [none, some ((l ++ tail8 d i).map kU8)], 1⟩) (fun i => i ≤ 8) (fun i => 8 - i) 0 ?_ ?_ ?_
  · exact entm [0, 1] (hB := by simp [tail8, imms_ren (him _), imms_lt (him _)])
  · simp
  · intro i hi
    refine awp_go ?_
    by_cases hlt : i < 8
    · have hw1 : IntKind.i64.wrap (8 * (i : Int)) = ((8 * i : Nat) : Int) := by rw [wrap_id (by omega) (by omega)]; omega
      have hw2 : IntKind.i64.wrap ((i : Int) + 1) = ((i + 1 : Nat) : Int) := wrap_id (by omega) (by omega)
      have hw4 : ¬ 8 * (i : Int) < 0 := by omega
      have hlt' : (i : Int) < 8 := by omega
      have hb1 : l.length + i + 1 ≤ 140737488355328 := by omega
      have hb2 : l.length + i + 1 ≤ maxLen := by simp only [maxLen]; omega
      have htl : (tail8 d i).length = i := by simp [tail8]
      simp [hlt, hlt', hw1, hw2, hw4, hb1, hb2, htl]
      have hby : IntKind.u8.wrap (d.fdiv (2 ^ min (8 * (i : Int)).toNat IntKind.u64.bits)) = d / 256 ^ i % 256 := by
        have e1 : min (8 * (i : Int)).toNat IntKind.u64.bits = 8 * i := by
          have : IntKind.u64.bits = 64 := rfl
          omega
        rw [e1, Int.fdiv_eq_ediv_of_nonneg _ (by exact Int.pow_nonneg (by omega)), IntKind.wrap_u8, Int.pow_mul]; rfl
      rw [hby]
      have hsn : tail8 d (i + 1) = tail8 d i ++ [d / 256 ^ i % 256] := by simp [tail8, List.range_succ]
      exact ⟨i + 1, by omega, by omega, entm [0, 3] (hT := by simp; omega) (hB := by simp [hsn, imms_ren (him _), imms_lt (him _)])⟩
    · obtain rfl : i = 8 := by omega
      simp
      have h8 : l.length + 8 = (sealB l).length := by simp [sealB, tail8]
      rw [h8]
      exact finGm [0, 1] (hB := by simp [hse, imms_ren (him _), imms_lt (him _)])

def writeW (W : GWorld) : WS := witems W.Kinds 0 W.Gens W.Items (wput (wkinds (wput ([], 0) 1 8) W.Kinds) W.Gens.length 9)
def writeM (W : GWorld) : List Int × Int :=
  if checkW W ≠ 0 then ([], checkW W) else if (writeW W).2 ≠ 0 ∨ 65536 < (packB (writeW W).1).length + 8 then ([], 2) else (sealB (packB (writeW W).1), 0)

theorem pack_ok (bl : List Bool) : BytesOk (packB bl) := fun c hc => by
  unfold packB bytesTo at hc
  obtain ⟨i, _, rfl⟩ := List.mem_map.1 hc
  have := byteAt_lt bl i
  omega
theorem wkinds_le {l : List GKind} : ∀ {w : WS}, w.1.length ≤ 524288 → (l.foldl wkind w).1.length ≤ 524288 := by
  induction l with
  | nil => exact fun h => h
  | cons k l ih => exact fun h => ih (wkind_le h)
theorem witems_le {ks : List GKind} (hf : ∀ k ∈ ks, ∀ f ∈ k.Fields, fieldB f = true) : ∀ {gs : List Int} {n : Nat} {its : List GItem} {w : WS}, w.1.length ≤ 524288 → (witems ks n gs its w).1.length ≤ 524288
  | [], n, its, w, h => by simpa [witems] using h
  | g :: gs, n, [], w, h => by
    rw [witems]; exact witems_le hf (wput_le (wnat_le h) (by omega))
  | g :: gs, n, it :: r, w, h => by
    rw [witems]
    split
    · exact witems_le hf (wcomps_le hf (wput_le (wnat_le h) (by omega)))
    · exact witems_le hf (wput_le (wnat_le h) (by omega))

set_option maxRecDepth 20000 in
set_option maxHeartbeats 1000000 in
theorem Write_fn (W : GWorld) (hfi : Fine W) (hvl : ∀ it ∈ W.Items, ∀ c ∈ it.Comps, c.Vals.length ≤ 1000) : Fn Try.prog 32 [.agg W.e] (.tup [slB (writeM W).1, kI (writeM W).2]) := by
  have him : ∀ bs : List Int, (bs.map kU8).all PV.immB = true := fun bs => by simp
  refine fn_go Try.func32 rfl ?_
  simp [Try.ntmps32]
  refine cal (WCheck_fn W hfi hvl) ?_
  by_cases hc : checkW W = 0
  · obtain ⟨hfi2, hcc⟩ := checkW_fine hc
    obtain ⟨ce, cg, ci, cn, cit⟩ := checkW_iff.1 hc
    obtain ⟨ce1, ce2⟩ := checkE_le ce
    have hone := checkE_one ce
    have hgv : ∀ g ∈ W.Gens, 0 ≤ g ∧ g ≤ 1073741824 := fun g hg => by
      have := List.any_eq_false.1 cn g hg
      simp at this; omega
    have hff : ∀ k ∈ W.Kinds, ∀ f ∈ k.Fields, fieldB f = true := fun k hk => oneE_fields (hone k hk)
    have hh := items_held cit
    have hfn : ∀ f : GField, fieldB f = true → f.Name.size ≤ 1000000 := fun f h => by
      simp only [fieldB, nameB, Bool.and_eq_true, decide_eq_true_eq] at h; omega
    simp [hc]
    refine ops_ent (ent_nilb (b := 1) (j := 0) (z := 1) rfl rfl) (ops_goH ?_)
    refine calD [1, 2] (WPut_fn ([], 0) 1 8 (by omega) (by omega) (by simp)) ?_ (hbox := by simp [wSt, show wB ([], 0) = [] from rfl])
    have h1 : (wput ([], 0) 1 8).1.length ≤ 524288 := wput_le (by simp) (by omega)
    have hW : writeW W = witems W.Kinds 0 W.Gens W.Items (wput (wkinds (wput ([], 0) 1 8) W.Kinds) W.Gens.length 9) := rfl
    obtain ⟨w1, hw1⟩ : ∃ w1, wput ([], 0) 1 8 = w1 := ⟨_, rfl⟩
    rw [hw1] at h1 hW ⊢
    simp [wSt, imms_ren (him _), imms_lt (him _)]
    refine calD [1, 3] (WKinds_fn w1 W.Kinds ce1 (fun k hk => ?_) (fun k hk => ⟨ce2 k hk, fun f hf => ⟨hff k hk f hf, hfn f (hff k hk f hf)⟩⟩) h1) ?_ (hbox := by simp [wSt, imms_ren (him _), imms_lt (him _)])
    · have := hone k hk
      unfold oneE at this
      split at this
      · rename_i hnm; simp only [nameB, Bool.and_eq_true, decide_eq_true_eq] at hnm; omega
      · simp at this
    have h2 : (wkinds w1 W.Kinds).1.length ≤ 524288 := wkinds_le (wput_le h1 (by omega))
    obtain ⟨w2, hw2⟩ : ∃ w2, wkinds w1 W.Kinds = w2 := ⟨_, rfl⟩
    rw [hw2] at h2 hW ⊢
    simp [wSt, imms_ren (him _), imms_lt (him _)]
    refine calD [1, 4] (WItems_fn w2 W ce1 (fun k hk => ⟨ce2 k hk, hff k hk⟩) cg hgv hh (by omega) h2) ?_ (hbox := by simp [wSt, imms_ren (him _), imms_lt (him _)])
    have h3 : (writeW W).1.length ≤ 524288 := hW ▸ witems_le hff (wput_le h2 (by omega))
    rw [← hW]
    have hM : writeM W = if (writeW W).2 ≠ 0 ∨ 65536 < (packB (writeW W).1).length + 8 then ([], 2) else (sealB (packB (writeW W).1), 0) := by simp [writeM, hc]
    obtain ⟨w3, hw3⟩ : ∃ w3, writeW W = w3 := ⟨_, rfl⟩
    rw [hw3] at h3 hM ⊢
    simp [wSt, imms_ren (him _), imms_lt (him _)]
    refine calD [1, 5] (WBytes_fn w3.1 w3.2 [] h3) ?_ (hbox := by simp [wSt, imms_ren (him _), imms_lt (him _)])
    simp [wSt, imms_ren (him _), imms_lt (him _)]
    by_cases h0 : w3.2 = 0
    · have hpl : (packB w3.1).length = (w3.1.length + 7) / 8 := packB_len _
      have hw4 : IntKind.i64.wrap ((((w3.1.length + 7) / 8 : Nat) : Int) + 8) = (((w3.1.length + 7) / 8 + 8 : Nat) : Int) := by rw [wrap_id (by omega) (by omega)]; omega
      obtain ⟨m, hm⟩ : ∃ m, (w3.1.length + 7) / 8 = m := ⟨_, rfl⟩
      rw [hm] at hpl hw4
      by_cases h5 : 65536 < m + 8
      · have h5' : (65536 : Int) < ((m + 8 : Nat) : Int) := by omega
        have h5'' : (65536 : Int) < (m : Int) + 8 := by omega
        rw [hpl, if_pos (.inr h5)] at hM
        rw [hM, hm]
        simp [h0, hw4, h5'']
        refine fin_ent (ent_nilsl (t := 2) (z := 1) rfl) ?_
        exact finm (by simp)
      · have h5'' : ¬ (65536 : Int) < (m : Int) + 8 := by omega
        rw [hpl, if_neg (by omega)] at hM
        rw [hM, hm]
        have hS := Seal_fn (packB w3.1) (by omega) (pack_ok _)
        rw [hpl] at hS
        simp [h0, hw4, h5'']
        refine calD [6] hS ?_ (hbox := by simp [imms_ren (him _), imms_lt (him _)])
        simp [imms_ren (him _), imms_lt (him _)]
        refine fin_fz 7 ((sealB (packB w3.1)).map kU8) ?_
        simp [chunks_b]
        exact finm (by simp)
    · simp [h0]
      rw [if_pos (.inl h0)] at hM
      rw [hM]
      refine fin_ent (ent_nilsl (t := 2) (z := 1) rfl) ?_
      exact finm (by simp)
  · simp [hc]
    have e : writeM W = ([], checkW W) := by simp [writeM, hc]
    rw [e]
    refine fin_ent (ent_nilsl (t := 2) (z := 1) rfl) ?_
    exact finm (by simp)
end Go.Proofs.Ytemlkbcfplkniaa.Am
