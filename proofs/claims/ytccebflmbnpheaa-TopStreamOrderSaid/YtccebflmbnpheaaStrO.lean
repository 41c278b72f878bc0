/- The law TopStreamOrder. -/
import Derived.Test.YtccebflmbnpheaaQSort3
import Derived.Test.YtccebflmbnpheaaOrd1
import Derived.Test.YtccebflmbnpheaaOfB
import Derived.Test.YtccebflmbnpheaaH6b
import Derived.Test.YtccebflmbnpheaaWLaw1
set_option linter.unusedVariables false
set_option linter.unusedSimpArgs false
namespace Go.Proofs.Ytccebflmbnpheaa.Am
open Go Go.RowKit

noncomputable def drawM (seed tick : Int) (it : GItem) : Int :=
  let o := [seed, tick, it.Ent.N]
  let a := belowM (ofS o) (ofG o) 1000
  IntKind.i64.wrap (IntKind.i64.wrap (1000 * a.1) + (belowM a.2 (ofG o) 1000).1)
set_option maxRecDepth 20000 in
theorem draw_fn (seed tick : Int) (it : GItem) : Fn Try.prog 6 [.agg it.e, .eptr [kI seed], .eptr [kI tick]] (kI (drawM seed tick it)) := by
  refine fn_go Try.func6 rfl ?_
  obtain ⟨o, ho⟩ : ∃ o, [seed, tick, it.Ent.N] = o := ⟨_, rfl⟩
  have hl : o.length = 3 := by rw [← ho]; rfl
  have hm : o.map kI = [kI seed, kI tick, kI it.Ent.N] := by rw [← ho]; rfl
  have hO := Of_box o (by omega)
  rw [hl, hm] at hO
  have hB1 := RBelow_fn (ofS o) (ofG o) 1000 (ofS_in o) (ofG_in o) (ofG_odd o) (by omega) (by omega)
  have hB2 := RBelow_fn (belowM (ofS o) (ofG o) 1000).2 (ofG o) 1000 (belowM_in (ofS_in o)) (ofG_in o) (ofG_odd o) (by omega) (by omega)
  have hdr : drawM seed tick it = IntKind.i64.wrap (IntKind.i64.wrap (1000 * (belowM (ofS o) (ofG o) 1000).1) + (belowM (belowM (ofS o) (ofG o) 1000).2 (ofG o) 1000).1) := by rw [← ho]; rfl
  rw [hdr]
  simp [Try.ntmps6]
  refine calD [1] hO ?_
  simp
  refine cal hB1 ?_
  simp
  refine cal hB2 ?_
  simp
  exact finm

set_option maxRecDepth 20000 in
set_option maxHeartbeats 2000000 in
theorem TopStreamOrder_law (seed tick : Int) (l : List Int) (n : Int) (hw1 : (Lit.int .i64 seed).wf = true) (hw2 : (Lit.int .i64 tick).wf = true) (hw3 : ∀ x ∈ l, (Lit.int .i64 x).wf = true) (hw4 : (Lit.int .i64 n).wf = true) :
    Fn Try.prog 3 [kI seed, kI tick, slI l, kI n] (kB true) := by
  clear hw1 hw2 hw3 hw4
  have hv := worldM_valid l
  obtain ⟨hfi, hfc⟩ := checkW_fine hv
  have hWF := World_fn l
  generalize worldM l = w at *
  have hil := (checkW_iff.1 hv).2
  have hg : (11400714819323198485 : Int) % 2 = 1 := by decide
  obtain ⟨s0, hs0⟩ : ∃ s0, mixM (IntKind.u64.wrap n) = s0 := ⟨_, rfl⟩
  have hs0i : In64 s0 := hs0 ▸ mixM_in _
  have hNew := New_r n
  rw [hs0] at hNew
  have hO := Order_fn s0 11400714819323198485 w.Items.length hs0i ⟨by decide, by decide⟩ hg (by omega)
  have hperm := orderM_perm s0 11400714819323198485 w.Items.length
  obtain ⟨r0, hr0⟩ : ∃ r0, (orderM s0 11400714819323198485 w.Items.length).2 = r0 := ⟨_, rfl⟩
  rw [hr0] at hO
  generalize (orderM s0 11400714819323198485 w.Items.length).1 = ord at *
  have hol : ord.length = w.Items.length := by rw [hperm.length_eq]; simp [rangeI]
  have hQ := QSort_fn ord (by omega)
  obtain ⟨hql, hqs⟩ := qsort_perm (l := ord) (by rw [hol]; exact hperm)
  generalize qsortM ord = back at *
  have hom : ∀ i (h : i < ord.length), ∃ k : Nat, ord[i] = (k : Int) ∧ k < w.Items.length := fun i h => by
    have := hperm.mem_iff.1 (List.getElem_mem h)
    obtain ⟨k, hk, he⟩ := List.mem_map.1 this
    exact ⟨k, he.symm, by simpa using hk⟩
  have hnd : ord.Nodup := hperm.nodup_iff.2 (by
    unfold rangeI
    exact List.Pairwise.map _ (fun a b h e => h (by omega)) List.nodup_range)
  refine fn_go Try.func3 rfl ?_
  simp [Try.ntmps3]
  refine cal h6begun_fn ?_
  simp
  refine cal hWF ?_
  simp
  refine awp_ent (s' := ⟨127, [(3, kI n), (9, .ptr 2 0), (10, .clo (.func 6) [.eptr [kI seed], .eptr [kI tick]])], [none, none, some w.e], 0⟩) ((ent_fz 0 [kI seed]).trans ((ent_fz 1 [kI tick]).trans (entm [0, 1, 2]))) ?_
  refine awp_draw follows_mix [] [(0, [0, 1]), (2, [0, 1]), (0, [0, 1]), (0, [0, 1]), (0, [0, 1]), (2, [0, 1]), (0, [0, 1]), (0, [0, 1]), (0, [0, 1]), (0, [0, 1, 2]), (1, [0]), (0, [1]), (1, [1]), (0, [2])] 2 (by kernel_rfl) rfl ?_
  simp
  refine gD_call (rE s0 11400714819323198485) ?_
  simp
  refine gD_call (.tup [slI ord, rE r0 11400714819323198485, kI 0]) ?_
  simp
  refine ⟨⟨calO hNew, calO hO⟩, ?_⟩
  refine cal hQ ?_
  simp [hol, hql]
  obtain ⟨dm, hdm⟩ : ∃ dm : Int → Int, (fun x : Int => drawM seed tick (w.Items.getD x.toNat ⟨⟨0, 0⟩, []⟩)) = dm := ⟨_, rfl⟩
  have hdk : ∀ (k : Nat) (h : k < w.Items.length), dm k = drawM seed tick w.Items[k] := fun k h => by rw [← hdm]; simp [List.getD, h]
  obtain ⟨dl, hdl⟩ : ∃ dl, ord.map dm = dl := ⟨_, rfl⟩
  have hdll : dl.length = ord.length := by rw [← hdl]; simp
  have hidx : ∀ i (h : i < ord.length), ord.findIdx? (fun x => decide (ord[i] = x)) = some i := fun i h => by
    rw [List.findIdx?_eq_some_iff_getElem]
    refine ⟨h, by simp, fun j hj e => ?_⟩
    have := List.pairwise_iff_getElem.1 hnd j i (by omega) h hj
    simp at e
    exact this e.symm
  refine awp_loop (fun i : Nat => ⟨127, [(9, .ptr 0 0), (10, .clo (.func 6) [.eptr [kI seed], .eptr [kI tick]]), (11, slI ord), (14, slI back), (16, .mref 1), (64, slI ord), (65, kI w.Items.length), (66, kI i)],
    [some w.e, some [.tup ((ord.map kI).take i), .tup ((dl.map kI).take i)]], 0⟩) (fun i => i ≤ ord.length) (fun i => ord.length - i) 0 ?_ ?_ ?_
  · exact entm [2, 4]
  · simp
  · intro i hi
    refine awp_go ?_
    by_cases hlt : i < ord.length
    · obtain ⟨k, hk, hkl⟩ := hom i hlt
      have hltw : i < w.Items.length := by omega
      have n1 : ¬ (k : Int) < 0 := by omega
      have n2 : ¬ w.Items.length ≤ k := by omega
      have hkey : keyAt .i64 (k : Int) ((ord.map kI).take i) = some none := by
        rw [← List.map_take, keyAt_ints]
        congr 1
        rw [List.findIdx?_eq_none_iff]
        intro x hx
        obtain ⟨j, hj, rfl⟩ := List.getElem_of_mem hx
        have hj' : j < i := by simp at hj; omega
        rw [List.getElem_take]
        have := List.pairwise_iff_getElem.1 hnd j i (by omega) hlt hj'
        rw [← hk]
        simp only [decide_eq_false_iff_not]
        exact fun e => this e.symm
      have htk : (ord.map kI).take (i + 1) = (ord.map kI).take i ++ [kI k] := by rw [List.take_add_one, List.getElem?_map, List.getElem?_eq_getElem hlt, hk]; rfl
      have htk2 : (dl.map kI).take (i + 1) = (dl.map kI).take i ++ [kI (dm k)] := by rw [List.take_add_one, ← hdl, List.getElem?_map, List.getElem?_map, List.getElem?_eq_getElem hlt, hk]; rfl
      have hw : IntKind.i64.wrap ((i : Int) + 1) = (i : Int) + 1 := wrap_id (by omega) (by omega)
      have hdr := draw_fn seed tick w.Items[k]
      rw [← hdk k hkl] at hdr
      simp [hltw, hlt, hk, n1, n2, hkl]
      refine cal hdr ?_
      simp [hkey, hw]
      exact ⟨i + 1, by omega, by omega, entm [0, 1] (hB := by simp [htk, htk2])⟩
    · obtain rfl : i = ord.length := by omega
      have ht1 : (ord.map kI).take ord.length = ord.map kI := List.take_of_length_le (by simp)
      have ht2 : (dl.map kI).take ord.length = dl.map kI := List.take_of_length_le (by simp; omega)
      rw [ht1, ht2]
      simp [hol]
      refine awp_loop (fun i : Nat => ⟨127, [(10, .clo (.func 6) [.eptr [kI seed], .eptr [kI tick]]), (11, slI ord), (14, slI back), (16, .mref 1), (90, .sl 3 (w.Items.map GItem.e)), (91, kI w.Items.length), (92, kI i)],
        [some w.e, some [.tup (ord.map kI), .tup (dl.map kI)]], 0⟩) (fun i => i ≤ w.Items.length) (fun i => w.Items.length - i) 0 ?_ ?_ ?_
      · exact entm [0, 1]
      · simp
      · intro i hi
        refine awp_go ?_
        by_cases hlt : i < w.Items.length
        · obtain ⟨k, hk1, hk2⟩ := hqs i (by omega)
          obtain ⟨hkb, hkb2⟩ := List.getElem?_eq_some_iff.1 hk1
          obtain ⟨hkl, hkl2⟩ := List.getElem?_eq_some_iff.1 hk2
          have n1 : ¬ (k : Int) < 0 := by omega
          have n2 : ¬ ord.length ≤ k := by omega
          have hkey : keyAt .i64 (i : Int) (ord.map kI) = some (some k) := by
            rw [keyAt_ints]
            have := hidx k hkl
            rw [hkl2] at this
            rw [this]
          have hdr := draw_fn seed tick w.Items[i]
          rw [← hdk i hlt] at hdr
          have hib : i < back.length := by omega
          have hw : IntKind.i64.wrap ((i : Int) + 1) = (i : Int) + 1 := wrap_id (by omega) (by omega)
          simp [hlt, hib, hkb2]
          refine awp_draw follows_mix [] [(0, [0]), (0, [0]), (0, [0]), (0, [0]), (0, [0]), (0, [0]), (0, [0]), (0, [0]), (0, [0]), (0, [0]), (0, [0]), (0, [0]), (0, [0]), (0, [0]), (0, [0]), (0, [0]), (0, [0]), (0, [0]), (0, [0]), (0, [0]), (0, [0]), (0, [0]), (2, [0]), (0, [0]), (0, [0])] 0 (by kernel_rfl) rfl ?_
          have hvk : (dl.map kI)[k]? = some (kI (dm i)) := by rw [← hdl, List.getElem?_map, List.getElem?_map, hk2]; rfl
          have hkd : k < dl.length := by omega
          have hvk2 : dl[k] = dm i := by rw [List.getElem?_map, List.getElem?_eq_getElem hkd] at hvk; simpa using hvk
          simp [n1, n2, hkl, hkl2, hkey, hkd, hvk2]
          refine gD_call (kI (dm i)) ?_
          simp [n1, n2, hkl, hkl2, hkey, hkd, hvk2]
          refine ⟨calO hdr, ?_⟩
          rw [hw]
          exact ⟨i + 1, by omega, by omega, entm [0, 1]⟩
        · obtain rfl : i = w.Items.length := by omega
          simp
          exact finm
end Go.Proofs.Ytccebflmbnpheaa.Am
