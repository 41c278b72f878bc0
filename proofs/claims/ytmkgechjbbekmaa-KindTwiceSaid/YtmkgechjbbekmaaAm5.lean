/- The machine of values: cutting slices, and all operations that only compute, together. -/
import Derived.Test.YtmkgechjbbekmaaAm4
set_option linter.unusedVariables false
set_option linter.unusedSimpArgs false
namespace Go.Proofs.Ytmkgechjbbekmaa.Am
open Go Go.RowKit

def slicePV (P : Program) (t : TypeId) (p : PV) (lo hi mx : Option Int) : Option PV :=
  match p with
  | .k (.string s) =>
    if isStr P t = true ∧ mx = none ∧ 0 ≤ lo.getD 0 ∧ lo.getD 0 ≤ hi.getD s.size ∧ hi.getD s.size ≤ s.size then some (.k (.string (s.extract (lo.getD 0).toNat (hi.getD s.size).toNat))) else none
  | .sl z rows =>
    match elemOf P t with
    | some e =>
      if szOf P e = some z ∧ 0 ≤ lo.getD 0 ∧ lo.getD 0 ≤ hi.getD rows.length ∧ hi.getD rows.length ≤ mx.getD rows.length ∧ mx.getD rows.length ≤ rows.length ∧ (mx = none ∨ hi ≠ none) then
        some (.sl z ((rows.take (hi.getD rows.length).toNat).drop (lo.getD 0).toNat)) else none
    | none => none
  | .osl b z off len =>
    match elemOf P t with
    | some e =>
      if szOf P e = some z ∧ 0 ≤ lo.getD 0 ∧ lo.getD 0 ≤ hi.getD len ∧ hi.getD len ≤ mx.getD len ∧ mx.getD len ≤ len ∧ (mx = none ∨ hi ≠ none) then
        some (.osl b z (off + (lo.getD 0).toNat * z) ((hi.getD len).toNat - (lo.getD 0).toNat)) else none
    | none => none
  | .k (.slice none 0 0) =>
    match elemOf P t with
    | some e =>
      if (szOf P e).isSome = true ∧ 0 = lo.getD 0 ∧ 0 = hi.getD 0 ∧ 0 = mx.getD 0 ∧ (mx = none ∨ hi ≠ none) then some (.k (.slice none 0 0)) else none
    | none => none
  | _ => none

def IntO : Option Value → Option Int → Prop
  | none, none => True
  | some v, some i => ∃ k, v = .int k i
  | _, _ => False

section
variable {P : Program} {c : Ctx} {ι : Nat → Option Nat} {S : Nat → Prop} {s : St} {a : Act} {w : World}

theorem run_bounds (isS : Bool) (len cap : Nat) {lo hi mx : Option Int} {lo' hi' mx' : Option Value} (h1 : IntO lo' lo) (h2 : IntO hi' hi) (h3 : IntO mx' mx)
    (l1 : 0 ≤ lo.getD 0) (l2 : lo.getD 0 ≤ hi.getD len) (l3 : hi.getD len ≤ mx.getD cap) (l4 : mx.getD cap ≤ cap) (l5 : mx = none ∨ hi ≠ none) :
    (Instr.sliceBounds isS len cap lo' hi' mx').run P w = .ok ((lo.getD 0).toNat, (hi.getD len).toNat, (mx.getD cap).toNat) w := by
  unfold Instr.sliceBounds
  cases mx with
  | none =>
    cases mx' with
    | some v => exact h3.elim
    | none =>
      cases hi with
      | none =>
        cases hi' with
        | some v => exact h2.elim
        | none =>
          cases lo with
          | none =>
            cases lo' with
            | some v => exact h1.elim
            | none => simp
          | some l =>
            cases lo' with
            | none => exact h1.elim
            | some v =>
              obtain ⟨k, rfl⟩ := h1
              simp at l1 l2 ⊢
              simp [Instr.sliceBound, asIntOf, l1, l2]
      | some hh =>
        cases hi' with
        | none => exact h2.elim
        | some v =>
          obtain ⟨k, rfl⟩ := h2
          cases lo with
          | none =>
            cases lo' with
            | some v => exact h1.elim
            | none => simp at l2 l3 ⊢; simp [Instr.sliceBound, asIntOf, l2, l3]
          | some l =>
            cases lo' with
            | none => exact h1.elim
            | some v =>
              obtain ⟨k, rfl⟩ := h1
              simp at l1 l2 l3 ⊢
              have e : l ≤ ((hh.toNat : Nat) : Int) := by omega
              have e' : 0 ≤ hh := by omega
              have e0 : max hh 0 = hh := by omega
              simp [Instr.sliceBound, asIntOf, l1, l2, l3, e', e0]
  | some m =>
    cases mx' with
    | none => exact h3.elim
    | some v =>
      obtain ⟨k, rfl⟩ := h3
      cases hi with
      | none => simp at l5
      | some hh =>
        cases hi' with
        | none => exact h2.elim
        | some v =>
          obtain ⟨k, rfl⟩ := h2
          cases lo with
          | none =>
            cases lo' with
            | some v => exact h1.elim
            | none =>
              simp at l2 l3 l4 ⊢
              have e : 0 ≤ m := by omega
              have e0 : max m 0 = m := by omega
              simp [Instr.sliceBound, asIntOf, l2, l3, l4, e, e0]
          | some l =>
            cases lo' with
            | none => exact h1.elim
            | some v =>
              obtain ⟨k, rfl⟩ := h1
              simp at l1 l2 l3 l4 ⊢
              have e : 0 ≤ m := by omega
              have e1 : hh ≤ ((m.toNat : Nat) : Int) := by omega
              have e2 : l ≤ ((hh.toNat : Nat) : Int) := by omega
              have e3 : 0 ≤ hh := by omega
              have e0 : max m 0 = m := by omega
              have e5 : max hh 0 = hh := by omega
              simp [Instr.sliceBound, asIntOf, l1, l2, l3, l4, e, e3, e0, e5]

theorem sliceAt_slice {t e : TypeId} (he : elemOf P t = some e) {z : Nat} (hz : szOf P e = some z) {lo' hi' mx' : Option Value} {ad : Option Addr} {len cap l h m : Nat}
    (hb : (Instr.sliceBounds true len cap lo' hi' mx').run P w = .ok (l, h, m) w) :
    (Instr.sliceAt t (.slice ad len cap) lo' hi' mx').run P w = .ok (.slice (if m = l then ad else ad.map (·.add (l * z))) (h - l) (m - l)) w := by
  have hu := und_elemOf he
  simp only [Instr.sliceAt, Sem.run_bind, run_underlying hu, Result.andThen_ok, Instr.slice, hb, run_szOf w hz, Sem.run_pure]

theorem slice_rel {n : Nat} {t : TypeId} {x : Value} {q p : PV} {lo hi mx : Option Int} {lo' hi' mx' : Option Value} (h1 : IntO lo' lo) (h2 : IntO hi' hi) (h3 : IntO mx' mx)
    (hx : VRel n ι S w x q) (h : slicePV P t q lo hi mx = some p) : ∃ v, (Instr.sliceAt t x lo' hi' mx').run P w = .ok v w ∧ VRel n ι S w v p := by
  unfold slicePV at h
  split at h
  · rename_i s
    split at h
    · rename_i hc
      obtain ⟨c1, rfl, c3, c4, c5⟩ := hc
      simp at h; subst h
      obtain ⟨rfl, _⟩ := hx.k_inv
      have hu : P.underlying t = some .string := by
        unfold isStr at c1; split at c1
        · assumption
        · simp at c1
      have hb := run_bounds (P := P) (w := w) false s.size s.size h1 h2 h3 c3 c4 (by simpa using c5) (by simp) (.inl rfl)
      cases mx' with
      | some v => exact h3.elim
      | none =>
        refine ⟨_, ?_, .imm (.k (by simp [scal]))⟩
        simp only [Instr.sliceAt, Sem.run_bind, run_underlying hu, Result.andThen_ok, Instr.slice]
        simp only [Option.isSome_none, Bool.false_eq_true, if_false, Sem.run_bind, hb, Result.andThen_ok, Sem.run_pure]
    · simp at h
  · rename_i z rows
    split at h
    · rename_i e he
      split at h
      · rename_i hc
        obtain ⟨c1, c2, c3, c4, c5, c6⟩ := hc
        simp at h; subst h
        cases hx with
        | imm hx => cases hx with
          | sl g g1 g2 g3 g4 g5 g6 g7 g8 =>
            rename_i ad nn cap
            subst g1
            have hmx : mx.getD cap ≤ (cap : Int) := by cases mx with | none => simp | some m => simp at c5 ⊢; omega
            have hhm : hi.getD (rows.length : Int) ≤ mx.getD (cap : Int) := by cases mx with | none => simp at c4 ⊢; omega | some m => simpa using c4
            have hb := run_bounds (P := P) (w := w) true rows.length cap h1 h2 h3 c2 c3 hhm hmx c6
            refine ⟨_, sliceAt_slice he c1 hb, ?_⟩
            generalize hl : (lo.getD 0).toNat = l at *
            generalize hh : (hi.getD (rows.length : Int)).toNat = h at *
            generalize hm : (mx.getD (cap : Int)).toNat = m at *
            have k1 : l ≤ h := by omega
            have k2 : h ≤ rows.length := by
              have : hi.getD (rows.length : Int) ≤ rows.length := by omega
              omega
            have k3 : h ≤ m := by omega
            have k4 : m ≤ cap := by omega
            have hlen : ((rows.take h).drop l).length = h - l := by simp; omega
            have hmem : ∀ r, r ∈ (rows.take h).drop l → r ∈ rows := fun r hr => List.mem_of_mem_take (List.mem_of_mem_drop hr)
            refine .imm (.sl (fun j => g (l * z + j)) hlen (by omega) (by omega) (fun r hr => g4 r (hmem r hr)) (fun r hr => g5 r (hmem r hr)) (fun e => ?_) (fun hn => ?_) (fun j p hj => ?_))
            · split at e
              · omega
              · have := g6 (by simpa using e); omega
            · obtain ⟨b, o, rfl, hS, hg⟩ := g7 (by omega)
              rw [if_neg (by omega)]
              refine ⟨b, o + l * z, by simp [add_at], hS, fun j hj => ?_⟩
              rw [Nat.add_assoc]
              refine hg _ ?_
              have e1 : (h - l) * z = h * z - l * z := Nat.sub_mul _ _ _
              have e2 : h * z ≤ rows.length * z := Nat.mul_le_mul_right _ k2
              omega
            · have hj' := (List.getElem?_eq_some_iff.1 hj).1
              have hfl : ((rows.take h).drop l).flatten.length = (h - l) * z := by rw [flatten_len (sz := z) _ (fun r hr => g4 r (hmem r hr)), hlen]
              refine g8 _ _ ?_
              rw [flatten_drop (sz := z) l (rows.take h) (fun r hr => g4 r (List.mem_of_mem_take hr)) (by simp; omega)] at hj
              rw [flatten_take (sz := z) h rows g4 k2] at hj
              · exact hj
              · have e1 : (h - l) * z = h * z - l * z := Nat.sub_mul _ _ _
                omega
      · simp at h
    · simp at h
  · rename_i b z off len
    split at h
    · rename_i e he
      split at h
      · rename_i hc
        obtain ⟨c1, c2, c3, c4, c5, c6⟩ := hc
        simp at h; subst h
        cases hx with
        | imm hx => cases hx
        | osl g1 g2 g3 g4 g5 g6 =>
          rename_i cap blk e' mm
          have hmx : mx.getD cap ≤ (cap : Int) := by cases mx with | none => simp | some m => simp at c5 ⊢; omega
          have hhm : hi.getD (len : Int) ≤ mx.getD (cap : Int) := by cases mx with | none => simp at c4 ⊢; omega | some m => simpa using c4
          have hb := run_bounds (P := P) (w := w) true len cap h1 h2 h3 c2 c3 hhm hmx c6
          have hrun := sliceAt_slice (w := w) he c1 (ad := some ⟨blk, off, none⟩) hb
          generalize hl : (lo.getD 0).toNat = l at *
          generalize hh : (hi.getD (len : Int)).toNat = h at *
          generalize hm : (mx.getD (cap : Int)).toNat = m at *
          have k1 : l ≤ h := by omega
          have k2 : h ≤ len := by
            have : hi.getD (len : Int) ≤ len := by omega
            omega
          have k3 : h ≤ m := by omega
          have k4 : m ≤ cap := by omega
          have hmul : off + l * z + (m - l) * z ≤ mm := by
            have e1 : (m - l) * z = m * z - l * z := Nat.sub_mul _ _ _
            have e2 : m * z ≤ cap * z := Nat.mul_le_mul_right _ k4
            have e3 : l * z ≤ m * z := Nat.mul_le_mul_right _ (by omega)
            omega
          by_cases hml : m = l
          · rw [if_pos hml] at hrun
            have q1 : h - l = 0 := by omega
            have q2 : m - l = 0 := by omega
            rw [q1, q2] at hrun
            rw [q1]
            exact ⟨_, hrun, .osl0 g1⟩
          · rw [if_neg hml] at hrun
            refine ⟨_, hrun, ?_⟩
            simp only [Option.map_some, add_at]
            exact .osl g1 (by omega) (by omega) g4 g5 hmul
        | osl0 g1 =>
          rename_i ad
          have q0 : lo.getD 0 = 0 := by simp at c3 c4 c5; omega
          have q1 : hi.getD ((0 : Nat) : Int) = 0 := by simp at c3 c4 c5 ⊢; omega
          have q2 : mx.getD ((0 : Nat) : Int) = 0 := by simp at c3 c4 c5 ⊢; omega
          have hb := run_bounds (P := P) (w := w) true 0 0 h1 h2 h3 c2 c3 c4 c5 c6
          rw [q0, q1, q2] at hb
          have hrun := sliceAt_slice (w := w) he c1 (ad := ad) hb
          rw [q0, q1]
          simp only [Int.toNat_zero, Nat.zero_mul, if_true, Nat.sub_self] at hrun ⊢
          exact ⟨_, hrun, .osl0 g1⟩
      · simp at h
    · simp at h
  · split at h
    · rename_i e he
      split at h
      · rename_i hc
        obtain ⟨c1, c2, c3, c4, c5⟩ := hc
        simp at h; subst h
        obtain ⟨rfl, _⟩ := hx.k_inv
        obtain ⟨z, hz⟩ := Option.isSome_iff_exists.1 c1
        have hb := run_bounds (P := P) (w := w) true 0 0 h1 h2 h3 (by omega) (by simp; omega) (by simp; omega) (by simp; omega) c5
        have q1 : (lo.getD 0).toNat = 0 := by omega
        have q2 : (hi.getD ((0 : Nat) : Int)).toNat = 0 := by simp; omega
        have q3 : (mx.getD ((0 : Nat) : Int)).toNat = 0 := by simp; omega
        rw [q1, q2, q3] at hb
        refine ⟨_, sliceAt_slice he hz hb, ?_⟩
        exact .imm (.k (v := .slice none 0 0) rfl)
      · simp at h
    · simp at h
  · simp at h
end

end Go.Proofs.Ytmkgechjbbekmaa.Am
