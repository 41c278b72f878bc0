/- Package plan: layers. -/
import Derived.Test.YtmkgechjbbekmaaPlan2
set_option linter.unusedVariables false
set_option linter.unusedSimpArgs false
namespace Go.Proofs.Ytmkgechjbbekmaa.Am
open Go Go.RowKit

/-- Slices into the boxes from i on. -/
def lp : Nat → List (List Int) → List PV
  | _, [] => []
  | i, L :: r => .osl i 1 0 L.length :: lp (i + 1) r
def lrows (rows : List (List Int)) : Boxes := rows.map fun L => some (L.map kI)
@[simp] theorem lp_len (rows : List (List Int)) : ∀ i, (lp i rows).length = rows.length := by
  induction rows with
  | nil => intro i; rfl
  | cons L r ih => intro i; simp [lp, ih]
theorem lp_get (rows : List (List Int)) : ∀ (i k : Nat) (h : k < rows.length), (lp i rows)[k]? = some (.osl (i + k) 1 0 rows[k].length) := by
  induction rows with
  | nil => intro i k h; simp at h
  | cons L r ih =>
    intro i k h
    cases k with
    | zero => simp [lp]
    | succ k => simp only [lp, List.getElem?_cons_succ, List.getElem_cons_succ]; rw [ih (i + 1) k (by simpa using h)]; congr 2; omega
@[simp] theorem lp_getE (rows : List (List Int)) (i k : Nat) (h : k < (lp i rows).length) : (lp i rows)[k]'h = .osl (i + k) 1 0 (rows[k]'(by simpa using h)).length := by
  have := lp_get rows i k (by simpa using h)
  rw [List.getElem?_eq_getElem h] at this
  simpa using this
theorem lp_app (rows : List (List Int)) : ∀ (i : Nat) (s : List (List Int)), lp i (rows ++ s) = lp i rows ++ lp (i + rows.length) s := by
  induction rows with
  | nil => intro i s; simp [lp]
  | cons L r ih => intro i s; simp only [List.cons_append, lp, ih, List.length_cons]; congr 3; omega
theorem lp_ren (θ : Nat → Nat) (rows : List (List Int)) : ∀ (i j : Nat), (∀ k, k < rows.length → θ (i + k) = j + k) → renL θ (lp i rows) = lp j rows := by
  induction rows with
  | nil => intro i j h; rfl
  | cons L r ih =>
    intro i j h
    simp only [lp, renL, PV.ren]
    rw [ih (i + 1) (j + 1) (fun k hk => by have := h (k + 1) (by simpa using hk); rw [show i + 1 + k = i + (k + 1) by omega, this]; omega)]
    have := h 0 (by simp)
    simp at this
    rw [this]
theorem lp_lt (n : Nat) (rows : List (List Int)) : ∀ (i : Nat), i + rows.length ≤ n → ltL n (lp i rows) = true := by
  induction rows with
  | nil => intro i h; rfl
  | cons L r ih =>
    intro i h
    simp at h
    simp only [lp, ltL, PV.lt]
    rw [ih (i + 1) (by omega)]
    simp; omega
@[simp] theorem lrows_len (rows : List (List Int)) : (lrows rows).length = rows.length := by simp [lrows]
theorem lrows_get (rows : List (List Int)) (k : Nat) (h : k < rows.length) : (lrows rows)[k]? = some (some (rows[k].map kI)) := by simp [lrows, h]

def layExt (d : Nat) (rows : List (List Int)) : List (List Int) := rows ++ List.replicate (d - rows.length) []
def layAdd (rows : List (List Int)) (k : Nat) (i : Int) : List (List Int) := rows.set k (rows.getD k [] ++ [i])
def layGo : List Int → Nat → List (List Int) → List (List Int)
  | [], _, rows => rows
  | d :: r, i, rows => layGo r (i + 1) (layAdd (layExt d.toNat rows) (d.toNat - 1) i)
def layersL (l : List GSystem) : List (List Int) := layGo (depsL l l.length) 0 []

theorem lrows_box (rows : List (List Int)) (k : Nat) (h : k < rows.length) : box (lrows rows) k = some (rows[k].map kI) := by simp [box, lrows_get rows k h]

/-- A new row. -/
theorem ent_lay1 {N : Nat} {T T' : List (Nat × PV)} {rows : List (List Int)} {x : Option (List PV)}
    (hT : EntT ⟨N, T, [], 0⟩ (fun i => if i = 0 then rows.length + 2 else if i ≤ rows.length then i else rows.length + 3) (rows.length + 2) T') :
    Ent ⟨N, T, none :: (lrows rows ++ [x, some (lp 1 rows ++ [kNil])]), 0⟩ ⟨N, T', some (lp 1 (rows ++ [[]])) :: lrows (rows ++ [[]]), 0⟩ := by
  have hlen : (lrows rows).length = rows.length := lrows_len rows
  have hbx : ∀ (τ : Boxes) (i : Nat), box (none :: (lrows rows ++ τ) : Boxes) (rows.length + i + 1) = box τ i := fun τ i => by
    rw [box_cons1, ← hlen, box_app2]
  have hb : box (none :: (lrows rows ++ [x, some (lp 1 rows ++ [kNil])]) : Boxes) (rows.length + 2) = some (lp 1 rows ++ [kNil]) := hbx _ 1
  refine (ent_nilb (s := ⟨N, T, none :: (lrows rows ++ [x, some (lp 1 rows ++ [kNil])]), 0⟩) (b := rows.length + 2) (j := rows.length) (z := 1) hb (by simp)).trans ?_
  have hset : ((none :: (lrows rows ++ [x, some (lp 1 rows ++ [kNil])]) : Boxes).set (rows.length + 2) (some ((lp 1 rows ++ [kNil]).set rows.length (.osl (none :: (lrows rows ++ [x, some (lp 1 rows ++ [kNil])]) : Boxes).length 1 0 0))) ++ [some []]) =
      none :: (lrows rows ++ [x, some (lp 1 rows ++ [.osl (rows.length + 3) 1 0 0]), some []]) := by
    rw [List.set_cons_succ, List.set_append_right _ _ (by simp), List.set_append_right _ _ (by simp)]
    simp
  simp only [hset]
  refine ent_ren (fun i => if i = 0 then rows.length + 2 else if i ≤ rows.length then i else rows.length + 3) (by refine entT_T (s := ⟨N, T, [], 0⟩) ?_ ?_ hT <;> simp) (fun i cs hi => ?_) (fun i j hi hj e => ?_)
  · cases i with
    | zero =>
      rw [box_cons0] at hi
      simp only [Option.some.injEq] at hi
      subst hi
      refine ⟨?_, lp_lt _ _ _ (by simp; omega)⟩
      rw [if_pos rfl, hbx _ 1, lp_app]
      simp only [renL_append]
      rw [lp_ren _ rows 1 1 (fun k hk => by rw [if_neg (by omega), if_pos (by omega)])]
      simp [box, lp]
      omega
    | succ k =>
      rw [box_cons1] at hi
      have hk := box_lt hi
      simp at hk
      by_cases h1 : k < rows.length
      · rw [lrows_box _ _ (by simp; omega)] at hi
        simp [List.getElem_append_left h1] at hi
        subst hi
        rw [if_neg (by omega), if_pos (by omega), box_cons1, box_app1 _ _ _ (by simpa using h1), lrows_box _ _ h1]
        simp
      · have hk2 : k = rows.length := by omega
        subst hk2
        rw [lrows_box _ _ (by simp)] at hi
        simp at hi
        subst hi
        rw [if_neg (by omega), if_neg (by omega), hbx _ 2]
        simp [box]
  · simp at hi hj
    split at e <;> split at e <;> (try split at e) <;> (try split at e) <;> omega

/-- A row that is longer now. -/
theorem ent_lay2 {N : Nat} {T T' : List (Nat × PV)} {rows : List (List Int)} {x : Option (List PV)} {d : Nat} (hd : d < rows.length) {i : Int}
    (hT : EntT ⟨N, T, [], 0⟩ (fun b => if b = d + 1 then rows.length + 2 else b) (rows.length + 1) T') :
    Ent ⟨N, T, some ((lp 1 rows).set d (.osl (rows.length + 2) 1 0 (rows[d].length + 1))) :: ((lrows rows).set d none ++ [x, some (rows[d].map kI ++ [kI i])]), 0⟩
      ⟨N, T', some (lp 1 (rows.set d (rows[d] ++ [i]))) :: lrows (rows.set d (rows[d] ++ [i])), 0⟩ := by
  have hlen : ((lrows rows).set d none).length = rows.length := by simp
  have hbx : ∀ (y : Option (List PV)) (τ : Boxes) (i : Nat), box (y :: ((lrows rows).set d none ++ τ) : Boxes) (rows.length + i + 1) = box τ i := fun y τ i => by
    rw [box_cons1, ← hlen, box_app2]
  refine ent_ren (fun b => if b = d + 1 then rows.length + 2 else b) (by refine entT_T (s := ⟨N, T, [], 0⟩) ?_ ?_ hT <;> simp) (fun j cs hj => ?_) (fun i j hi hj e => ?_)
  · cases j with
    | zero =>
      rw [box_cons0] at hj
      simp only [Option.some.injEq] at hj
      subst hj
      refine ⟨?_, lp_lt _ _ _ (by simp; omega)⟩
      rw [if_neg (by omega), box_cons0]
      congr 1
      refine List.ext_getElem? fun k => ?_
      rw [renL_map, List.getElem?_map]
      rcases Nat.lt_or_ge k rows.length with hk | hk
      · rw [lp_get _ _ _ (by simpa using hk)]
        by_cases hkd : k = d
        · subst hkd
          rw [List.getElem?_set_self (by simpa using hk)]
          simp [PV.ren, Nat.add_comm]
        · rw [List.getElem?_set_ne (fun e => hkd e.symm), lp_get _ _ _ hk]
          simp only [Option.map_some, PV.ren]
          rw [if_neg (by omega), List.getElem_set_ne (fun e => hkd e.symm)]
      · rw [List.getElem?_eq_none (by simpa using hk), List.getElem?_eq_none (by simpa using hk)]; rfl
    | succ k =>
      rw [box_cons1] at hj
      have hk := box_lt hj
      simp at hk
      rw [lrows_box _ _ (by simpa using hk)] at hj
      simp only [Option.some.injEq] at hj
      subst hj
      by_cases hkd : k = d
      · subst hkd
        rw [if_pos rfl, hbx _ _ 1]
        simp [box]
      · rw [if_neg (by omega), box_cons1, box_app1 _ _ _ (by simpa using hk)]
        have : box ((lrows rows).set d none) k = box (lrows rows) k := by
          unfold box; rw [List.getElem?_set_ne (fun e => hkd e.symm)]
        rw [this, lrows_box _ _ hk, List.getElem_set_ne (fun e => hkd e.symm)]
        simp
  · simp at hi hj
    split at e <;> split at e <;> omega

/-- All rows are plain values now. -/
theorem ent_lay3 {N : Nat} {T : List (Nat × PV)} {rows : List (List Int)} (hT : ∀ b cs, 1 ≤ b → T.map (fun e => (e.1, e.2.fz b cs)) = T) : ∀ j, j ≤ rows.length →
    Ent ⟨N, T, some (lp 1 rows) :: lrows rows, 0⟩ ⟨N, T, some ((rows.take j).map slI ++ lp (1 + j) (rows.drop j)) :: (List.replicate j none ++ lrows (rows.drop j)), 0⟩
  | 0, _ => by simpa using Ent.refl _
  | j + 1, hj => by
    refine (ent_lay3 hT j (by omega)).trans ?_
    have hj' : j < rows.length := by omega
    rw [List.drop_eq_getElem_cons hj']
    have hb : box (some ((rows.take j).map slI ++ lp (1 + j) (rows[j] :: rows.drop (j + 1))) :: (List.replicate j none ++ lrows (rows[j] :: rows.drop (j + 1))) : Boxes) (j + 1) = some (rows[j].map kI) := by
      rw [box_cons1]
      have := box_app2 (List.replicate j none) (lrows (rows[j] :: rows.drop (j + 1))) 0
      simp only [List.length_replicate, Nat.add_zero] at this
      rw [this]; exact box_cons0 _ _
    have h := ent_fz (s := ⟨N, T, some ((rows.take j).map slI ++ lp (1 + j) (rows[j] :: rows.drop (j + 1))) :: (List.replicate j none ++ lrows (rows[j] :: rows.drop (j + 1))), 0⟩) (j + 1) (rows[j].map kI) hb (by simp) (by simp)
    have hfl : ∀ (L : List (List Int)) (a b : Nat) (cs : List PV), b < a → fzL b cs (lp a L) = lp a L := fun L => by
      induction L with
      | nil => intro a b cs h; rfl
      | cons M L ih => intro a b cs h; simp only [lp, fzL, PV.fz]; rw [if_neg (by omega), ih _ _ _ (by omega)]
    have hrl : ∀ (L : List (List Int)) (b : Nat) (cs : List PV), (lrows L).map (fun x => x.map (fzL b cs)) = lrows L := fun L b cs => by
      simp only [lrows, List.map_map]
      exact List.map_congr_left fun M _ => by simp
    have e : St.fz ⟨N, T, some ((rows.take j).map slI ++ lp (1 + j) (rows[j] :: rows.drop (j + 1))) :: (List.replicate j none ++ lrows (rows[j] :: rows.drop (j + 1))), 0⟩ (j + 1) (rows[j].map kI) =
        ⟨N, T, some ((rows.take (j + 1)).map slI ++ lp (1 + (j + 1)) (rows.drop (j + 1))) :: (List.replicate (j + 1) none ++ lrows (rows.drop (j + 1))), 0⟩ := by
      simp only [St.fz]
      rw [hT _ _ (by omega)]
      congr 1
      rw [List.map_cons, List.map_append, hrl, List.set_cons_succ, List.set_append_right _ _ (by simp)]
      have e1 : fzL (j + 1) (rows[j].map kI) ((rows.take j).map slI ++ lp (1 + j) (rows[j] :: rows.drop (j + 1))) = (rows.take (j + 1)).map slI ++ lp (1 + (j + 1)) (rows.drop (j + 1)) := by
        rw [fzL_append, imms_fz (ps := (rows.take j).map slI) (List.all_eq_true.2 fun p hp => by simp only [List.mem_map] at hp; obtain ⟨x, _, rfl⟩ := hp; rfl)]
        simp only [lp, fzL, PV.fz]
        rw [if_pos (by simp; omega), hfl _ _ _ _ (by omega), ← List.take_append_getElem hj']
        have e2 : chunks 1 (List.drop 0 (rows[j].map kI)) rows[j].length = rows[j].map fun x => [kI x] := by simp [chunks_ints']
        rw [e2, sl_slI, List.map_append, List.append_assoc, show 1 + (j + 1) = 1 + j + 1 by omega]
        rfl
      rw [Option.map_some, e1]
      simp only [lrows, List.map_cons, List.map_replicate, Option.map_none, List.length_replicate, Nat.sub_self, List.set_cons_zero, List.replicate_succ', List.append_assoc]
      rfl
    rw [e] at h
    exact h

set_option maxRecDepth 20000 in
theorem Layers_fn (l : List GSystem) (hl : l.length ≤ 24) (hs : ∀ s ∈ l, SysLen s) : Fn Try.prog 37 [.sl 7 (l.map GSystem.e)] (.tup [.sl 1 ((layersL l).map fun L => [slI L]), kI 0]) := by
  refine fn_go Try.func37 rfl ?_
  have h0 : ¬ (24 : Int) < l.length := by omega
  simp [Try.ntmps37, h0]
  refine cal (depths_fn l (by omega) hs) ?_
  obtain ⟨ds, hds⟩ : ∃ ds, depsL l l.length = ds := ⟨_, rfl⟩
  have hdl : ds.length = l.length := by rw [← hds, depsL_len]
  have hdb := depsL_le l l.length
  rw [hds] at hdb ⊢
  simp
  refine awp_loop (fun x : Nat × List (List Int) => ⟨39, [(4, .osl 0 1 0 x.2.length), (11, slI ds), (12, kI ds.length), (13, kI x.1)], some (lp 1 x.2) :: lrows x.2, 0⟩)
    (fun x => x.1 ≤ ds.length ∧ x.2.length ≤ 24 ∧ (∀ L ∈ x.2, L.length ≤ x.1) ∧ layGo (ds.drop x.1) x.1 x.2 = layersL l) (fun x => ds.length - x.1) (0, []) ?_ ?_ ?_
  · exact (ent_nil (t := 4) (z := 1) rfl).trans (entm [0] (hB := by simp [lp, lrows]))
  · simp [layersL, hds]
  · rintro ⟨i, rows⟩ ⟨hi, hr24, hrl, hrun⟩
    simp only at hi hr24 hrl hrun
    refine awp_go ?_
    by_cases hlt : i < ds.length
    · obtain ⟨d, hd⟩ : ∃ d : Nat, ds[i] = (d : Int) := ⟨(ds[i]).toNat, by have := hdb ds[i] (List.getElem_mem hlt); omega⟩
      have hd1 := hdb ds[i] (List.getElem_mem hlt)
      rw [hd] at hd1
      rw [List.drop_eq_getElem_cons hlt, layGo, hd] at hrun
      simp [hlt, hd]
      refine awp_loop (fun x : List (List Int) => ⟨39, [(4, .osl 0 1 0 x.length), (5, kI i), (6, kI d), (11, slI ds), (12, kI ds.length), (13, kI i)], some (lp 1 x) :: lrows x, 0⟩)
        (fun x => x.length ≤ 24 ∧ (∀ L ∈ x, L.length ≤ i) ∧ layExt d x = layExt d rows) (fun x => d - x.length) rows ?_ ?_ ?_
      · exact ent_T _
      · exact ⟨hr24, hrl, rfl⟩
      · intro x ⟨hx24, hxl, hxe⟩
        refine awp_go ?_
        have c1 : (x.length + 1) * 24 ≤ 140737488355328 := by omega
        have c2 : x.length + 1 ≤ maxLen := by simp only [maxLen]; omega
        by_cases hlt2 : x.length < d
        · simp [hlt2, c1, c2]
          refine ⟨x ++ [[]], ⟨by simp; omega, fun L hL => ?_, ?_⟩, by simp; omega, ent_lay1 (by simp)⟩
          · rcases List.mem_append.1 hL with hL | hL
            · exact hxl L hL
            · simp at hL; subst hL; simp
          · rw [← hxe]
            unfold layExt
            obtain ⟨q, hq⟩ : ∃ q, d - x.length = q + 1 := ⟨d - x.length - 1, by omega⟩
            rw [hq, show d - (x ++ [([] : List Int)]).length = q by simp; omega, List.append_assoc]
            rfl
        · simp [hlt2]
          obtain ⟨k, rfl⟩ : ∃ k, d = k + 1 := ⟨d - 1, by omega⟩
          have hk : k < x.length := by omega
          have hkw : IntKind.i64.wrap (k : Int) = k := wrap_id (by omega) (by omega)
          have hlk := hxl x[k] (List.getElem_mem hk)
          have c3 : (x[k].length + 1) * 8 ≤ 140737488355328 := by omega
          have c4 : x[k].length + 1 ≤ maxLen := by simp only [maxLen]; omega
          have hlp := lp_get x 1 k hk
          have hbk : ((lrows x ++ [some [kI i]])[k]?).join = some (x[k].map kI) := by rw [List.getElem?_append_left (by simpa using hk), lrows_get x k hk]; rfl
          have hk1 : k + 1 ≤ x.length := by omega
          have hset : ∀ p, (lp 1 x).take k ++ p :: (lp 1 x).drop (k + 1) = (lp 1 x).set k p := fun p => by rw [List.set_eq_take_append_cons_drop, if_pos (by simpa using hk)]
          simp [hkw, hk, hlp, Nat.add_comm 1 k, hbk, c3, c4, hk1, hset]
          rw [wrap_id (by omega) (by omega)]
          have hxx : layExt (k + 1) x = x := by simp [layExt, show k + 1 - x.length = 0 by omega]
          have hadd : layAdd (layExt (k + 1) rows) k (i : Int) = x.set k (x[k] ++ [(i : Int)]) := by
            rw [← hxe, hxx]; simp [layAdd, hk]
          have hrun2 : layGo (ds.drop (i + 1)) (i + 1) (x.set k (x[k] ++ [(i : Int)])) = layersL l := by rw [← hadd]; simpa using hrun
          refine ⟨i + 1, x.set k (x[k] ++ [(i : Int)]), ⟨by omega, by simpa using hx24, fun L hL => ?_, hrun2⟩, by omega, ent_lay2 hk (by simp)⟩
          rcases List.mem_or_eq_of_mem_set hL with hL | rfl
          · have := hxl L hL; omega
          · simp; omega
    · have hin : i = ds.length := by omega
      subst hin
      rw [List.drop_length, layGo] at hrun
      simp
      refine fin_ent ((ent_T [(2, .osl 0 1 0 rows.length), (3, kI 0)]).trans (ent_lay3 (fun b cs hb => by simp [show ¬ (0 = b) by omega]) rows.length (Nat.le_refl _))) ?_
      simp
      refine fin_fz 0 (rows.map slI) ?_ (hb := by simp [lp]) (hi := List.all_eq_true.2 fun p hp => by simp only [List.mem_map] at hp; obtain ⟨x, _, rfl⟩ := hp; rfl)
      have hch : chunks 1 (rows.map slI) rows.length = rows.map fun L => [slI L] := by
        have := chunks_map (f := fun L : List Int => [slI L]) (z := 1) (fun _ => rfl) rows
        rw [← this]; congr 1
        clear this hrun hrl hr24
        induction rows with
        | nil => rfl
        | cons L r ih => simp [ih]
      simp [hch]
      exact finm (by simp [hrun])
end Go.Proofs.Ytmkgechjbbekmaa.Am
