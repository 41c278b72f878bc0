/- Package column: stores of entities. -/
import Derived.Test.YtidhdlhblhbahaaGreatCmp
import Derived.Test.YtidhdlhblhbahaaGreatKind6
set_option linter.unusedVariables false
set_option linter.unusedSimpArgs false
namespace Go.Proofs.YtidhdlhblhbahaaGreat.Am
open Go Go.RowKit

set_option maxRecDepth 20000 in
theorem ColNewE_fn : FnD Tryz.prog 136 [] [] (.ptr 0 0) [some [.osl 2 2 0 0, .osl 3 1 0 0, .mref 1], some [.tup [], .tup []], some [], some []] := by
  refine fnd_go Tryz.func136 rfl ?_
  simp [Tryz.ntmps136]
  refine finG_ent ((ent_nilb (b := 1) (j := 0) (z := 2) rfl rfl).trans (ent_nilb (b := 1) (j := 1) (z := 1) rfl rfl)) ?_
  simp
  exact finGm [1, 0, 2, 3]

set_option maxRecDepth 20000 in
set_option maxHeartbeats 1000000 in
theorem ColPutE_new (es : List GEnt) (rows ks is : List Int) (n : Int) (e : GEnt) (hn : 0 ≤ n ∧ n < 256) (hk : n ∉ ks) (hl : es.length = rows.length) (hl2 : rows.length ≤ 1000000) :
    FnD Tryz.prog 139 [.ptr 0 0, kI n, .agg e.e] [[.osl 1 2 0 es.length, .osl 2 1 0 rows.length, .mref 3], (es.map GEnt.e).flatten, rows.map kI, [.tup (ks.map kI), .tup (is.map kI)]] (kI 0)
      [some [.osl 4 2 0 (es.length + 1), .osl 5 1 0 (rows.length + 1), .mref 3], none, none, some [.tup ((ks ++ [n]).map kI), .tup ((is ++ [(rows.length : Int)]).map kI)], some ((es ++ [e]).map GEnt.e).flatten, some ((rows ++ [n]).map kI)] := by
  have h1 : ¬ n < 0 := by omega
  have h2 : ¬ 256 ≤ n := by omega
  have hkey : keyAt .i64 n (ks.map kI) = some none := by
    rw [keyAt_ints]
    congr 1
    rw [List.findIdx?_eq_none_iff]
    intro x hx
    rw [decide_eq_false_iff_not]
    exact fun he => hk (by rw [he]; exact hx)
  have hb1 : (rows.length + 1) * 8 ≤ 140737488355328 := by omega
  have hb2 : rows.length + 1 ≤ maxLen := by simp only [maxLen]; omega
  have hb3 : (es.length + 1) * 16 ≤ 140737488355328 := by omega
  have hb4 : es.length + 1 ≤ maxLen := by simp only [maxLen]; omega
  have hel : (es.map GEnt.e).flatten.length = es.length * 2 := flat_lenE GEnt.e_len es
  refine fnd_go Tryz.func139 rfl ?_
  simp [Tryz.ntmps139, h1, h2, hkey]
  refine awp_draw follows_mix [10] [(0, [0]), (0, [0]), (0, [0]), (0, [0]), (0, [0]), (0, [0]), (0, [0]), (0, [0]), (0, [0]), (0, [0]), (3, [0])] 1 (by kernel_rfl) rfl ?_
  simp
  refine gD_callW (.tup []) [some [.osl 1 2 0 es.length, .osl 2 1 0 rows.length, .mref 3], some (es.map GEnt.e).flatten, some (rows.map kI), some [.tup ((ks ++ [n]).map kI), .tup ((is ++ [(rows.length : Int)]).map kI)], some e.e] ?_
  simp
  refine ⟨.inl ⟨rfl, ?_⟩, ?_⟩
  · exact does_one (x := (_, _)) (by simp [hkey])
  refine awp_drawS follows_mix [(0, 0), (0, 0), (0, 0), (0, 0), (0, 0), (0, 0), (0, 0), (4, 5), (4, 6), (0, 0), (0, 0), (0, 0), (0, 0), (0, 0), (4, 7), (4, 8), (0, 0), (0, 0), (1, 0), (0, 0), (0, 0), (1, 0)] 5 9 [(0, 7), (0, 8), (0, 14), (0, 15), (1, 7), (1, 8), (1, 14), (1, 15), (1, 18), (2, 7), (2, 14), (3, 7), (3, 14), (4, 7), (4, 14), (5, 7), (5, 14), (6, 14), (7, 9), (7, 10), (7, 11), (7, 12), (7, 13), (7, 14), (8, 9), (8, 10), (8, 11), (8, 12), (8, 13), (8, 14), (9, 14), (10, 14), (11, 14), (12, 14)] (by kernel_rfl) rfl rfl ?_
  simp [hb1, hb2, hb3, hb4, hel]
  exact finGm [0, 1, 2, 3, 8, 6]

/-- Slices of numbers as cells. -/
def slsI (vs : List (List Int)) : List PV := vs.map slI
@[simp] theorem slsI_len (vs : List (List Int)) : (slsI vs).length = vs.length := by simp [slsI]
theorem slsI_imm (vs : List (List Int)) : (slsI vs).all PV.immB = true := by simp [slsI, List.all_eq_true, slI_def]
@[simp] theorem slsI_ren (vs : List (List Int)) (θ : Nat → Nat) : renL θ (slsI vs) = slsI vs := imms_ren (slsI_imm vs) θ
@[simp] theorem slsI_lt (vs : List (List Int)) (n : Nat) : ltL n (slsI vs) = true := imms_lt (slsI_imm vs) n
@[simp] theorem slsI_im (vs : List (List Int)) : (slsI vs).all PV.immB = true := slsI_imm vs
theorem slsI_snoc (vs : List (List Int)) (v : List Int) : slsI (vs ++ [v]) = slsI vs ++ [slI v] := by simp [slsI]

set_option maxRecDepth 20000 in
theorem ColNewI_fn : FnD Tryz.prog 137 [] [] (.ptr 0 0) [some [.osl 2 1 0 0, .osl 3 1 0 0, .mref 1], some [.tup [], .tup []], some [], some []] := by
  refine fnd_go Tryz.func137 rfl ?_
  simp [Tryz.ntmps137]
  refine finG_ent ((ent_nilb (b := 1) (j := 0) (z := 1) rfl rfl).trans (ent_nilb (b := 1) (j := 1) (z := 1) rfl rfl)) ?_
  simp
  exact finGm [1, 0, 2, 3]

set_option maxRecDepth 20000 in
set_option maxHeartbeats 1000000 in
theorem ColPutI_new (vs : List (List Int)) (rows ks is : List Int) (n : Int) (v : List Int) (hn : 0 ≤ n ∧ n < 256) (hk : n ∉ ks) (hl : vs.length = rows.length) (hl2 : rows.length ≤ 1000000) :
    FnD Tryz.prog 140 [.ptr 0 0, kI n, slI v] [[.osl 1 1 0 vs.length, .osl 2 1 0 rows.length, .mref 3], slsI vs, rows.map kI, [.tup (ks.map kI), .tup (is.map kI)]] (kI 0)
      [some [.osl 4 1 0 (vs.length + 1), .osl 5 1 0 (rows.length + 1), .mref 3], none, none, some [.tup ((ks ++ [n]).map kI), .tup ((is ++ [(rows.length : Int)]).map kI)], some (slsI (vs ++ [v])), some ((rows ++ [n]).map kI)] := by
  have h1 : ¬ n < 0 := by omega
  have h2 : ¬ 256 ≤ n := by omega
  have hkey : keyAt .i64 n (ks.map kI) = some none := by
    rw [keyAt_ints]
    congr 1
    rw [List.findIdx?_eq_none_iff]
    intro x hx
    rw [decide_eq_false_iff_not]
    exact fun he => hk (by rw [he]; exact hx)
  have hb1 : (rows.length + 1) * 8 ≤ 140737488355328 := by omega
  have hb2 : rows.length + 1 ≤ maxLen := by simp only [maxLen]; omega
  have hb3 : (vs.length + 1) * 24 ≤ 140737488355328 := by omega
  have hb4 : vs.length + 1 ≤ maxLen := by simp only [maxLen]; omega
  refine fnd_go Tryz.func140 rfl ?_
  simp [Tryz.ntmps140, h1, h2, hkey]
  refine awp_draw follows_mix [10] [(0, [0]), (0, [0]), (0, [0]), (0, [0]), (0, [0]), (0, [0]), (0, [0]), (0, [0]), (0, [0]), (0, [0]), (3, [0])] 1 (by kernel_rfl) rfl ?_
  simp
  refine gD_callW (.tup []) [some [.osl 1 1 0 vs.length, .osl 2 1 0 rows.length, .mref 3], some (slsI vs), some (rows.map kI), some [.tup ((ks ++ [n]).map kI), .tup ((is ++ [(rows.length : Int)]).map kI)]] ?_
  simp
  refine ⟨.inl ⟨rfl, ?_⟩, ?_⟩
  · exact does_one (x := (_, _)) (by simp [hkey])
  refine awp_drawS follows_mix [(0, 0), (0, 0), (0, 0), (0, 0), (0, 0), (0, 0), (0, 0), (4, 4), (4, 5), (0, 0), (0, 0), (0, 0), (0, 0), (0, 0), (4, 6), (4, 7), (0, 0), (0, 0), (1, 0), (0, 0), (0, 0), (1, 0)] 4 8 [(0, 7), (0, 8), (0, 14), (0, 15), (1, 7), (1, 8), (1, 14), (1, 15), (1, 18), (2, 7), (2, 14), (3, 7), (3, 14), (4, 7), (4, 14), (5, 7), (5, 14), (6, 14), (7, 9), (7, 10), (7, 11), (7, 12), (7, 13), (7, 14), (8, 9), (8, 10), (8, 11), (8, 12), (8, 13), (8, 14), (9, 14), (10, 14), (11, 14), (12, 14)] (by kernel_rfl) rfl rfl ?_
  simp [hb1, hb2, hb3, hb4]
  exact finGm [0, 1, 2, 3, 7, 5] (hB := by simp [slsI_snoc])

/-- The value of a slot that has one. -/
theorem ColGetI_fn (vs : List (List Int)) (rows ks is : List Int) (n : Int) (j i : Nat) (hk : ks.findIdx? (fun x => decide (n = x)) = some j) (hi : is[j]? = some (i : Int)) (hv : i < vs.length) :
    FnD Tryz.prog 143 [.ptr 0 0, kI n] [[.osl 1 1 0 vs.length, .osl 2 1 0 rows.length, .mref 3], slsI vs, rows.map kI, [.tup (ks.map kI), .tup (is.map kI)]] (.tup [slI vs[i], kB true])
      [some [.osl 1 1 0 vs.length, .osl 2 1 0 rows.length, .mref 3], some (slsI vs), some (rows.map kI), some [.tup (ks.map kI), .tup (is.map kI)]] := by
  have hkey : keyAt .i64 n (ks.map kI) = some (some j) := by rw [keyAt_ints, hk]
  have hij : (is.map kI)[j]? = some (kI i) := by rw [List.getElem?_map, hi]; rfl
  have hvi : (slsI vs)[i]? = some (slI vs[i]) := by simp [slsI, hv]
  obtain ⟨hjl, hje⟩ := List.getElem?_eq_some_iff.1 hi
  obtain ⟨hvl, hve⟩ := List.getElem?_eq_some_iff.1 hvi
  refine fnd_go Tryz.func143 rfl ?_
  simp [Tryz.ntmps143, hkey, hi, hv, hve, hjl, hje]
  exact finGm [0, 1, 2, 3]
end Go.Proofs.YtidhdlhblhbahaaGreat.Am
