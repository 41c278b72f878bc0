/- The machine of values: each operation that only computes does what the machine says. -/
import Derived.Test.YtmkgechjbbekmaaAm3
set_option linter.unusedVariables false
set_option linter.unusedSimpArgs false
namespace Go.Proofs.Ytmkgechjbbekmaa.Am
open Go Go.RowKit

theorem add_at (b o n : Nat) : (⟨b, o, none⟩ : Addr).add n = ⟨b, o + n, none⟩ := by unfold Addr.add; split <;> simp_all

/-! ### Rows laid end to end -/
theorem flatten_len {sz : Nat} : ∀ (rows : List (List PV)), (∀ r ∈ rows, r.length = sz) → rows.flatten.length = rows.length * sz
  | [], _ => by simp
  | r :: rows, h => by
    have h1 := flatten_len rows (fun x hx => h x (by simp [hx]))
    have h2 := h r (by simp)
    simp only [List.flatten_cons, List.length_append, List.length_cons, h1, h2, Nat.add_mul, Nat.one_mul]; omega

theorem flatten_drop {sz : Nat} (l : Nat) (rows : List (List PV)) (h : ∀ r ∈ rows, r.length = sz) (hl : l ≤ rows.length) (j : Nat) : (rows.drop l).flatten[j]? = rows.flatten[l * sz + j]? := by
  have e : rows.flatten = (rows.take l).flatten ++ (rows.drop l).flatten := by rw [← List.flatten_append, List.take_append_drop]
  have h1 : (rows.take l).flatten.length = l * sz := by
    rw [flatten_len (sz := sz) _ (fun r hr => h r (List.mem_of_mem_take hr)), List.length_take, Nat.min_eq_left hl]
  rw [e, List.getElem?_append_right (by omega), h1]
  congr 1; omega

theorem flatten_take {sz : Nat} (m : Nat) (rows : List (List PV)) (h : ∀ r ∈ rows, r.length = sz) (hm : m ≤ rows.length) (j : Nat) (hj : j < m * sz) : (rows.take m).flatten[j]? = rows.flatten[j]? := by
  have e : rows.flatten = (rows.take m).flatten ++ (rows.drop m).flatten := by rw [← List.flatten_append, List.take_append_drop]
  have h1 : (rows.take m).flatten.length = m * sz := by
    rw [flatten_len (sz := sz) _ (fun r hr => h r (List.mem_of_mem_take hr)), List.length_take, Nat.min_eq_left hm]
  rw [e, List.getElem?_append_left (by omega)]

theorem flatten_at {sz : Nat} (i : Nat) (rows : List (List PV)) (h : ∀ r ∈ rows, r.length = sz) (r : List PV) (hr : rows[i]? = some r) (j : Nat) (hj : j < sz) : rows.flatten[i * sz + j]? = r[j]? := by
  have hi := (List.getElem?_eq_some_iff.1 hr).1
  rw [← flatten_drop i rows h (by omega) j]
  rw [List.drop_eq_getElem_cons hi, List.flatten_cons, List.getElem?_append_left]
  · rw [(List.getElem?_eq_some_iff.1 hr).2]
  · have := h rows[i] (List.getElem_mem hi); omega

/-! ### Loads -/
def loadPV (P : Program) (σ : Boxes) (t : TypeId) (p : PV) : Option PV :=
  match aggOf P t, szOf P t with
  | some ag, some z =>
    match p with
    | .ptr b off =>
      match box σ b with
      | some cs => if ag then (if off + z ≤ cs.length then some (.agg ((cs.drop off).take z)) else none) else cs[off]?
      | none => none
    | .eptr cs => if ag then (if z ≤ cs.length then some (.agg (cs.take z)) else none) else cs[0]?
    | _ => none
  | _, _ => none

section
variable {P : Program} {c : Ctx} {ι : Nat → Option Nat} {S : Nat → Prop} {s : St} {a : Act} {w : World}

theorem loadVar_one {t : TypeId} {ad : Addr} {v : Value} (ha : aggOf P t = some false) (hc : w.cell? ad = some v) : (loadVar t ad).run P w = .ok v w := by
  simp [loadVar, run_aggOf w ha, hc]

theorem loadVar_agg {t : TypeId} {ad : Addr} {z : Nat} {g : Nat → Value} (ha : aggOf P t = some true) (hz : szOf P t = some z) (hc : ∀ j, j < z → w.cell? (ad.add j) = some (g j)) :
    (loadVar t ad).run P w = .ok (.agg ((List.range z).map g).toArray) w := by
  simp only [loadVar, Sem.run_bind, run_aggOf w ha, Result.andThen_ok, if_true, run_szOf w hz, run_loadCells w ad z g hc, Sem.run_map, Sem.run_pure]

theorem range_get (z : Nat) (g : Nat → Value) (j : Nat) (hj : j < z) : (((List.range z).map g).toArray).getD j undef = g j := by
  simp [Array.getD, hj]

theorem load_rel (hr : Rel c ι S s a w) {t : TypeId} {x : Value} {q p : PV} (hx : VRel s.σ.length ι S w x q) (h : loadPV P s.σ t q = some p) : ∃ v, (Instr.loadAt t x).run P w = .ok v w ∧ VRel s.σ.length ι S w v p := by
  unfold loadPV at h
  split at h
  · rename_i ag z hag hz
    split at h
    · rename_i b off
      cases hx with
      | imm hx => cases hx
      | ptr hb hblk =>
        rename_i blk
        split at h
        · rename_i cs hcs
          obtain ⟨blk', c', e, hb', g1, g0, g2⟩ := (hr.st.boxes b cs hcs).resolve_left (fun hh => by rw [hh.1] at hblk; simp at hblk)
          rw [hb'] at hblk; simp at hblk; subst hblk
          have hcell : ∀ j v, c'[j]? = some v → w.cell? ⟨blk', j, none⟩ = some v := fun j v hv => by simp [World.cell?, g1, hv]
          cases ag with
          | false =>
            simp at h
            obtain ⟨v, hv1, hv2⟩ := g2 off p h
            exact ⟨v, by simp [Instr.loadAt, Instr.sureAddr, loadVar_one hag (hcell _ _ hv1)], hv2⟩
          | true =>
            simp at h
            obtain ⟨hle, rfl⟩ := h
            have hcl : ∀ j, j < z → ∃ v, c'[off + j]? = some v ∧ ∀ p, cs[off + j]? = some p → VRel s.σ.length ι S w v p := fun j hj => by
              obtain ⟨v, hv1, hv2⟩ := g2 (off + j) _ (List.getElem?_eq_getElem (by omega))
              exact ⟨v, hv1, fun p hp => by rw [List.getElem?_eq_getElem (by omega)] at hp; simp at hp; subst hp; exact hv2⟩
            have hl : (loadVar t ⟨blk', off, none⟩).run P w = _ := loadVar_agg (g := fun j => c'.getD (off + j) undef) hag hz (fun j hj => by
              obtain ⟨v, hv1, _⟩ := hcl j hj
              rw [add_at, hcell _ _ hv1]
              simp [Array.getD_eq_getD_getElem?, hv1])
            refine ⟨_, by simp only [Instr.loadAt, Instr.sureAddr, Sem.run_bind, Sem.run_pure, Result.andThen_ok]; exact hl, ?_⟩
            · refine .agg (by simp; omega) (fun p hp => g0 p (List.mem_of_mem_drop (List.mem_of_mem_take hp))) (fun j p hj => ?_)
              have hjz : j < z := by
                have := (List.getElem?_eq_some_iff.1 hj).1; simp at this; omega
              rw [List.getElem?_take_of_lt hjz, List.getElem?_drop] at hj
              obtain ⟨v, hv1, hv2⟩ := hcl j hjz
              rw [range_get _ _ _ hjz]
              simp only [Array.getD_eq_getD_getElem?, hv1, Option.getD_some]
              exact hv2 p hj
        · simp at h
    · rename_i cs
      cases hx with
      | imm hx =>
        cases hx with
        | eptr g hS h1 hc h2 =>
          rename_i b o
          cases ag with
          | false =>
            simp at h
            have h0 : 0 < cs.length := (List.getElem?_eq_some_iff.1 h).1
            have hc0 := hc 0 h0
            rw [Nat.add_zero] at hc0
            exact ⟨g 0, by simp [Instr.loadAt, Instr.sureAddr, loadVar_one hag hc0], .imm (h2 0 p h)⟩
          | true =>
            simp at h
            obtain ⟨hle, rfl⟩ := h
            have hl : (loadVar t ⟨b, o, none⟩).run P w = _ := loadVar_agg (g := g) hag hz (fun j hj => by rw [add_at]; exact hc j (by omega))
            refine ⟨_, by simp only [Instr.loadAt, Instr.sureAddr, Sem.run_bind, Sem.run_pure, Result.andThen_ok]; exact hl, ?_⟩
            refine .imm (.agg (by simp; omega) (fun p hp => h1 p (List.mem_of_mem_take hp)) (fun j p hj => ?_))
            have hjz : j < z := by
              have := (List.getElem?_eq_some_iff.1 hj).1; simp at this; omega
            rw [List.getElem?_take_of_lt hjz] at hj
            rw [range_get _ _ _ hjz]
            exact h2 j p hj
    · simp at h
  · simp at h

/-! ### Fields, parts, indices -/
def partPV (P : Program) (t : TypeId) (cs : List PV) (off : Nat) : Option PV :=
  match aggOf P t, szOf P t with
  | some ag, some z => if ag then (if off + z ≤ cs.length then some (.agg ((cs.drop off).take z)) else none) else cs[off]?
  | _, _ => none

theorem agg_inv {n : Nat} {v : Value} {cs : List PV} (h : VRel n ι S w v (.agg cs)) : ∃ vs : Array Value, v = .agg vs ∧ vs.size = cs.length ∧ (∀ p ∈ cs, PV.one p = true) ∧ ∀ (j : Nat) (p : PV), cs[j]? = some p → VRel n ι S w (vs.getD j undef) p := by
  cases h with
  | imm h => cases h with
    | agg h1 h2 h3 => exact ⟨_, rfl, h1, h2, fun j p hj => .imm (h3 j p hj)⟩
  | agg h1 h2 h3 => exact ⟨_, rfl, h1, h2, h3⟩

theorem part_rel {n : Nat} {t : TypeId} {vs : Array Value} {cs : List PV} {off : Nat} {p : PV} (h0 : vs.size = cs.length) (h1 : ∀ p ∈ cs, PV.one p = true) (h2 : ∀ (j : Nat) (p : PV), cs[j]? = some p → VRel n ι S w (vs.getD j undef) p)
    (h : partPV P t cs off = some p) : ∃ v, (part t vs off).run P w = .ok v w ∧ VRel n ι S w v p := by
  unfold partPV at h
  split at h
  · rename_i ag z hag hz
    cases ag with
    | false =>
      simp at h
      have hlt := (List.getElem?_eq_some_iff.1 h).1
      have hv : vs[off]? = some (vs.getD off undef) := by simp [Array.getD, h0, hlt]
      exact ⟨_, by simp only [part, Sem.run_bind, run_aggOf w hag, Result.andThen_ok, Bool.false_eq_true, if_false, hv, Sem.run_pure], h2 off p h⟩
    | true =>
      simp at h
      obtain ⟨hle, rfl⟩ := h
      refine ⟨.agg (vs.extract off (off + z)), by simp only [part, Sem.run_bind, run_aggOf w hag, Result.andThen_ok, if_true, run_szOf w hz, Sem.run_pure], ?_⟩
      refine .agg (by simp; omega) (fun p hp => h1 p (List.mem_of_mem_drop (List.mem_of_mem_take hp))) (fun j p hj => ?_)
      have hjz : j < z := by
        have := (List.getElem?_eq_some_iff.1 hj).1; simp at this; omega
      rw [List.getElem?_take_of_lt hjz, List.getElem?_drop] at hj
      have e : (vs.extract off (off + z)).getD j undef = vs.getD (off + j) undef := by
        simp [Array.getD, Nat.min_eq_left (show off + z ≤ vs.size by omega)]
        rw [dif_pos (by omega), dif_pos (by omega)]
      rw [e]
      exact h2 _ _ hj
  · simp at h

def fieldAtPV (P : Program) (t : TypeId) (f : Nat) (p : PV) : Option PV :=
  match fieldOf P t f with
  | some (ft, o) =>
    match szOf P ft with
    | some z => if z = 0 then none else
      match p with
      | .ptr b off => some (.ptr b (off + o))
      | .eptr cs => some (.eptr (cs.drop o))
      | _ => none
    | none => none
  | none => none

theorem fieldAt_rel {n : Nat} {t : TypeId} {f : Nat} {x : Value} {q p : PV} (hx : VRel n ι S w x q) (h : fieldAtPV P t f q = some p) : ∃ v, (Instr.fieldAt t x f).run P w = .ok v w ∧ VRel n ι S w v p := by
  unfold fieldAtPV at h
  split at h
  · rename_i ft o hf
    split at h
    · rename_i z hz
      split at h
      · simp at h
      · rename_i hz0
        obtain ⟨fs, fl, hu, hfs, ht, ho⟩ := und_fieldOf hf
        simp only at ht ho
        subst ht ho
        have hfp : ∀ ad, (fieldPlace ad fl).run P w = .ok (ad.add fl.offset) w := fun ad => by
          simp [fieldPlace, run_szOf w hz, hz0]
        have hrun : ∀ ad, (Instr.fieldAt t (.pointer (some ad)) f).run P w = .ok (.pointer (some (ad.add fl.offset))) w := fun ad => by
          simp only [Instr.fieldAt, Sem.run_bind, run_underlying hu, Result.andThen_ok, hfs, Instr.sureAddr, Sem.run_pure, hfp]
        split at h
        · rename_i b off
          simp at h; subst h
          cases hx with
          | imm hx => cases hx
          | ptr hb hblk => exact ⟨_, hrun _, by rw [add_at]; exact .ptr hb hblk⟩
        · rename_i cs
          simp at h; subst h
          cases hx with
          | imm hx => cases hx with
            | eptr g hS h1 hc h2 =>
              rename_i b o
              refine ⟨_, hrun _, ?_⟩
              rw [add_at]
              refine .imm (.eptr (fun j => g (fl.offset + j)) hS (fun p hp => h1 p (List.mem_of_mem_drop hp)) (fun j hj => ?_) (fun j p hj => ?_))
              · rw [Nat.add_assoc]; exact hc _ (by simp at hj; omega)
              · rw [List.getElem?_drop] at hj; exact h2 _ _ hj
        · simp at h
    · simp at h
  · simp at h

def indexAtPV (P : Program) (t : TypeId) (p : PV) (i : Int) : Option PV :=
  match elemOf P t with
  | some e =>
    match szOf P e with
    | some z =>
      match p with
      | .sl k rows => if 0 ≤ i ∧ k = z then (rows[i.toNat]?).map .eptr else none
      | .osl b k off len => if 0 ≤ i ∧ i < len ∧ k = z then some (.ptr b (off + i.toNat * k)) else none
      | _ => none
    | none => none
  | none => none

theorem indexAt_rel {n : Nat} {t : TypeId} {x : Value} {kk : IntKind} {i : Int} {q p : PV} (hx : VRel n ι S w x q) (h : indexAtPV P t q i = some p) : ∃ v, (Instr.indexAt t x (.int kk i)).run P w = .ok v w ∧ VRel n ι S w v p := by
  unfold indexAtPV at h
  split at h
  · rename_i e he
    have hu := und_elemOf he
    split at h
    · rename_i z hz
      have hrun : ∀ (ad : Addr) (len cap : Nat), 0 ≤ i → i < (len : Int) → (Instr.indexAt t (.slice (some ad) len cap) (.int kk i)).run P w = .ok (.pointer (some (ad.add (i.toNat * z)))) w := fun ad len cap h0 h1 => by
        simp [Instr.indexAt, asIntOf, run_underlying hu, h0, h1, run_szOf w hz]
      split at h
      · rename_i sz rows
        split at h
        · rename_i hc
          · simp only [Option.map_eq_some_iff] at h
            obtain ⟨r, hrow, rfl⟩ := h
            cases hx with
            | imm hx => cases hx with
              | sl g h1 h2 h3 h4 h5 h6 h7 h8 =>
                rename_i a n cap
                have hi := (List.getElem?_eq_some_iff.1 hrow).1
                obtain ⟨b, o, rfl, hS, hg⟩ := h7 (by omega)
                have hsz : sz = z := hc.2
                subst hsz
                refine ⟨_, hrun _ _ _ hc.1 (by omega), ?_⟩
                rw [add_at]
                refine .imm (.eptr (fun j => g (i.toNat * sz + j)) hS (h5 r (List.mem_of_getElem? hrow)) (fun j hj => ?_) (fun j p hj => ?_))
                · rw [Nat.add_assoc]
                  refine hg _ ?_
                  have hrl : r.length = sz := h4 r (List.mem_of_getElem? hrow)
                  have : i.toNat * sz + j < (i.toNat + 1) * sz := by rw [Nat.add_mul]; omega
                  exact Nat.lt_of_lt_of_le this (Nat.mul_le_mul_right _ (by omega))
                · have hjl := (List.getElem?_eq_some_iff.1 hj).1
                  have hrl : r.length = sz := h4 r (List.mem_of_getElem? hrow)
                  exact h8 _ _ (by rw [flatten_at i.toNat rows h4 r hrow j (by omega)]; exact hj)
        · simp at h
      · rename_i b k off len
        split at h
        · rename_i hc
          simp at h; subst h
          cases hx with
          | imm hx => cases hx
          | osl h1 h2 h3 h4 h5 h6 =>
            obtain ⟨c1, c2, rfl⟩ := hc
            refine ⟨_, hrun _ _ _ c1 c2, ?_⟩
            rw [add_at]; exact .ptr h1 h4
          | osl0 h1 => omega
        · simp at h
      · simp at h
    · simp at h
  · simp at h
end

end Go.Proofs.Ytmkgechjbbekmaa.Am
