/- Package save: the small world written and read back. -/
import Derived.Test.YtemlkbcfplkniaaSv20
import Derived.Test.YtemlkbcfplkniaaBaseW
import Derived.Test.YtemlkbcfplkniaaSameW
set_option linter.unusedVariables false
set_option linter.unusedSimpArgs false
namespace Go.Proofs.Ytemlkbcfplkniaa.Am
open Go Go.RowKit

theorem base_write : (writeM baseW).2 = 0 := by kernel_rfl
theorem base_wlen : decide (9 ≤ (writeM baseW).1.length ∧ (writeM baseW).1.length ≤ 100) = true := by kernel_rfl
theorem base_read : readM (writeM baseW).1 = (baseW, 0) := by kernel_rfl

theorem baseW_fine2 : Fine baseW := ⟨by decide, by decide, by decide, by decide, by decide, by decide⟩
set_option maxRecDepth 20000 in
theorem saved_fn : Fn Try.prog 29 [] (kB true) := by
  refine fn_go Try.func29 rfl ?_
  simp [Try.ntmps29]
  refine cal base_fn ?_
  simp
  refine cal (Write_fn baseW baseW_fine2 (by decide)) ?_
  have h1 := base_write
  have h2 := of_decide_eq_true base_wlen
  have h3 := base_read
  have h4 := writeM_ok baseW
  generalize writeM baseW = w at h1 h2 h3 h4 ⊢
  have h5 : ¬ (w.1.length : Int) < 9 := by omega
  simp [h1, h5]
  have hR := Read_fn w.1 h4
  rw [h3] at hR
  refine cal hR ?_
  simp
  refine awp_draw follows_mix [] [(0, [0]), (0, [0]), (0, [0]), (0, [0]), (2, [0]), (2, [0]), (0, [0]), (0, [0])] 0 (by kernel_rfl) rfl ?_
  simp
  refine gD_call (.agg baseW.e) ?_
  simp
  refine gD_call (kB true) ?_
  simp
  have hS := same_fn baseW baseW baseW_fine2
  rw [decide_eq_true rfl] at hS
  refine ⟨⟨calO base_fn, calO hS⟩, ?_⟩
  exact finm

def bytesM (l : List Int) : List Int := l.map fun n => n % 256
theorem bytesM_ok (l : List Int) : BytesOk (bytesM l) := fun c hc => by
  obtain ⟨n, _, rfl⟩ := List.mem_map.1 hc; omega
set_option maxRecDepth 20000 in
theorem Bytes_fn (l : List Int) (hl : l.length ≤ 140737488355328) : Fn Try.prog 30 [slI l] (slB (bytesM l)) := by
  have him : ∀ bs : List Int, (bs.map kU8).all PV.immB = true := fun bs => by simp
  refine fn_go Try.func30 rfl ?_
  simp [Try.ntmps30]
  refine awp_loop (fun i : Nat => ⟨19, [(3, .osl 0 1 0 i), (6, slI l), (7, kI l.length), (8, kI i)], [some ((bytesM (l.take i)).map kU8)], 0⟩) (fun i => i ≤ l.length) (fun i => l.length - i) 0 ?_ ?_ ?_
  · exact (ent_nil (t := 3) (z := 1) rfl).trans (entm [0] (hB := by simp [bytesM]))
  · simp
  · intro i hi
    refine awp_go ?_
    by_cases hlt : i < l.length
    · have hw1 : IntKind.i64.wrap ((i : Int) + 1) = ((i + 1 : Nat) : Int) := wrap_id (by omega) (by omega)
      have hb1 : i + 1 ≤ 140737488355328 := by omega
      have hb2 : i + 1 ≤ maxLen := by simp only [maxLen]; omega
      have hbl : (bytesM (l.take i)).length = i := by simp [bytesM]; omega
      have hsn : bytesM (l.take (i + 1)) = bytesM (l.take i) ++ [l[i] % 256] := by
        unfold bytesM; rw [List.take_add_one, List.getElem?_eq_getElem hlt]; exact List.map_append
      generalize bytesM (l.take i) = B at hbl hsn ⊢
      simp [hlt, hw1, hb1, hb2, hbl]
      rw [IntKind.wrap_u8]
      exact ⟨i + 1, by omega, by omega, entm [2] (hB := by simp [hsn, imms_ren (him _), imms_lt (him _)])⟩
    · obtain rfl : i = l.length := by omega
      rw [List.take_length]
      simp
      refine fin_fz 0 ((bytesM l).map kU8) ?_
      have hbl : (bytesM l).length = l.length := by simp [bytesM]
      have hch := chunks_b (bytesM l)
      rw [hbl] at hch
      simp [hbl, hch]
      exact finm
end Go.Proofs.Ytemlkbcfplkniaa.Am
