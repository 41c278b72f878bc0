/- The machine of values: running code in it. -/
import Derived.Test.YtidhdlhblhbahaaGreatAmA
import Derived.Orders
/- The machine of values: forgetting, freezing, and calls that only look. -/
set_option linter.unusedVariables false
set_option linter.unusedSimpArgs false
namespace Go.Proofs.YtidhdlhblhbahaaGreat.Am
open Go Go.RowKit

theorem ops_ent {P : Program} {ops : Array Oper} {l : List Oper} {s s' : St} {Q : St → Prop} (he : Ent s s') (h : OpsOk P ops l s' Q) : OpsOk P ops l s Q := fun c ι S a w hr QQ hQ => by
  obtain ⟨ι', S', hr'⟩ := he c ι S a w hr
  exact h c ι' S' a w hr' QQ hQ

theorem Ent.trans {s s' s'' : St} (h : Ent s s') (k : Ent s' s'') : Ent s s'' := fun c ι S a w hr => by
  obtain ⟨ι', S', hr'⟩ := h c ι S a w hr
  exact k c ι' S' a w hr'

/-! ### Forgetting and renaming -/
def EntT (s : St) (θ : Nat → Nat) (n : Nat) : List (Nat × PV) → Prop
  | [] => True
  | (t, p) :: r => (look s.T t = some (p.ren θ) ∧ p.lt n = true) ∧ EntT s θ n r

def EntB (s : St) (θ : Nat → Nat) (n : Nat) : Nat → Boxes → Prop
  | _, [] => True
  | i, none :: r => EntB s θ n (i + 1) r
  | i, some cs :: r => (box s.σ (θ i) = some (renL θ cs) ∧ ltL n cs = true) ∧ EntB s θ n (i + 1) r

theorem entT_look {s : St} {θ : Nat → Nat} {n : Nat} : ∀ (l : List (Nat × PV)), EntT s θ n l → ∀ t p, look l t = some p → look s.T t = some (p.ren θ) ∧ p.lt n = true
  | [], _, t, p, h => by simp [look] at h
  | (t', p') :: r, hl, t, p, h => by
    simp only [look] at h
    split at h
    · rename_i e; subst e; simp at h; subst h; exact hl.1
    · exact entT_look r hl.2 t p h

theorem entB_box {s : St} {θ : Nat → Nat} {n : Nat} : ∀ (l : Boxes) (i0 : Nat), EntB s θ n i0 l → ∀ i cs, box l i = some cs → box s.σ (θ (i0 + i)) = some (renL θ cs) ∧ ltL n cs = true
  | [], _, _, i, cs, h => by simp [box] at h
  | x :: r, i0, hl, i, cs, h => by
    cases i with
    | zero =>
      simp [box] at h
      subst h
      exact hl.1
    | succ i =>
      have h' : box r i = some cs := by simpa [box] using h
      have hl' : EntB s θ n (i0 + 1) r := by
        cases x with
        | none => exact hl
        | some _ => exact hl.2
      have := entB_box r (i0 + 1) hl' i cs h'
      rwa [show i0 + 1 + i = i0 + (i + 1) by omega] at this

/-- A state in which less is known, its boxes counted anew: box i was box th[i]. -/
theorem ent_mk {s s' : St} (th : List Nat) (hN : s'.N = s.N) (hk : s'.k = s.k) (hl : th.length = s'.σ.length) (hkl : s.k ≤ s'.σ.length) (hid : th.take s.k = List.range s.k) (hnd : th.Nodup)
    (hT : EntT s (fun i => th.getD i 0) s'.σ.length s'.T) (hB : EntB s (fun i => th.getD i 0) s'.σ.length 0 s'.σ) : Ent s s' := fun c ι S a w hr => by
  have hσ := hr.st
  have hid' : ∀ i, i < s.k → th.getD i 0 = i := fun i hi => by
    have := congrArg (fun l => l[i]?) hid
    simp [List.getElem?_take_of_lt hi, hi] at this
    simp [this]
  have hb := fun i cs h => entB_box s'.σ 0 hB i cs h
  simp only [Nat.zero_add] at hb
  have hu : ∀ p v, p.lt s'.σ.length = true → VRel s.σ.length ι S w v (p.ren fun i => th.getD i 0) → VRel s'.σ.length (fun i => ι (th.getD i 0)) S w v p := fun p v hp h => VRel.unren (fun b _ => rfl) p v hp h
  refine ⟨fun i => ι (th.getD i 0), S, ⟨hσ.os, hσ.tape, hσ.output, hσ.size, hσ.old, hσ.shape, fun i cs hi => ?_, fun i cs blk hi hbl => ?_, fun i cs blk hi hbl => ?_, fun i j ci cj blk hi hj hbi hbj => ?_, hσ.Slt, hσ.S0, hσ.Snew, by rw [hr.ck]; exact hkl, fun i hi => ?_⟩, by rw [hr.ck, hk], by rw [hr.tsz, hN], hr.defers, fun t p ht => ?_⟩
  · obtain ⟨h1, h2⟩ := hb i cs hi
    rcases hσ.boxes _ _ h1 with ⟨h', h''⟩ | ⟨blk, c', e', hb', g1, g0, g2⟩
    · exact .inl ⟨h', by rw [renL_map] at h''; simpa using h''⟩
    · refine .inr ⟨blk, c', e', hb', g1, g0.unren, fun j p hj => ?_⟩
      obtain ⟨v, hv1, hv2⟩ := g2 j (p.ren fun i => th.getD i 0) (by rw [renL_map, List.getElem?_map, hj]; rfl)
      exact ⟨v, hv1, hu p v (by rw [ltL_all] at h2; exact List.all_eq_true.1 h2 p (List.mem_of_getElem? hj)) hv2⟩
  · exact hσ.notS _ _ blk (hb i cs hi).1 hbl
  · exact hσ.live _ _ blk (hb i cs hi).1 hbl
  · have e := hσ.inj _ _ _ _ blk (hb i ci hi).1 (hb j cj hj).1 hbi hbj
    have hi' := box_lt hi
    have hj' := box_lt hj
    rw [← hl] at hi' hj'
    simp [List.getElem?_eq_getElem hi', List.getElem?_eq_getElem hj'] at e
    exact nodup_inj th hnd i j th[i] (List.getElem?_eq_getElem hi') (by rw [e]; exact List.getElem?_eq_getElem hj')
  · rw [hr.ck] at hi
    simp only [hid' i hi]
    exact hσ.kι i (by rw [hr.ck]; exact hi)
  · obtain ⟨h1, h2⟩ := entT_look s'.T hT t p ht
    exact hu p _ h2 (hr.temps t _ h1)

/-! ### A nil slice is an empty slice of one's own -/
theorem ent_nil {s : St} {t z : Nat} (h : look s.T t = some (.k (.slice none 0 0))) : Ent s { s with T := (t, .osl s.σ.length z 0 0) :: s.T, σ := s.σ ++ [some []] } := fun c ι S a w hr => by
  obtain ⟨h1, h2⟩ := hr.st.adopt (ob := none) (cs := []) (.inl ⟨rfl, rfl⟩)
  have wide : ∀ v p, VRel s.σ.length ι S w v p → VRel (s.σ ++ [some []]).length (upd ι s.σ.length none) S w v p := fun v p hh =>
    (h2 _ v p (Nat.le_refl _) hh).mono (by simp) (fun _ _ => rfl) (fun _ h => h) (fun _ _ _ => rfl) (fun _ _ h => h)
  refine ⟨_, S, h1, hr.ck, hr.tsz, hr.defers, fun t' p ht => ?_⟩
  simp only [look] at ht
  split at ht
  · rename_i e; subst e; simp at ht; subst ht
    have := (hr.temps t' _ h).k_inv.1
    rw [this]
    exact .osl0 (by simp)
  · exact wide _ _ (hr.temps t' p ht)

/-- The same for a nil slice in a box. -/
theorem ent_nilb {s : St} {b j z : Nat} {cs : List PV} (hb : box s.σ b = some cs) (h : cs[j]? = some (.k (.slice none 0 0))) : Ent s { s with σ := s.σ.set b (some (cs.set j (.osl s.σ.length z 0 0))) ++ [some []] } := fun c ι S a w hr => by
  have hσ := hr.st
  have hbl := box_lt hb
  obtain ⟨h1, h2⟩ := hσ.adopt (ob := none) (cs := []) (.inl ⟨rfl, rfl⟩)
  have wide : ∀ v p, VRel s.σ.length ι S w v p → VRel (s.σ ++ [some []]).length (upd ι s.σ.length none) S w v p := fun v p hh =>
    (h2 _ v p (Nat.le_refl _) hh).mono (by simp) (fun _ _ => rfl) (fun _ h => h) (fun _ _ _ => rfl) (fun _ _ h => h)
  have hlen : (s.σ.set b (some (cs.set j (.osl s.σ.length z 0 0))) ++ [some []]).length = (s.σ ++ [some []]).length := by simp
  have hbx : ∀ i ci, box (s.σ.set b (some (cs.set j (.osl s.σ.length z 0 0))) ++ [some []]) i = some ci → (i = b ∧ ci = cs.set j (.osl s.σ.length z 0 0)) ∨ box (s.σ ++ [some []]) i = some ci := fun i ci hi => by
    rw [box_push, List.length_set] at hi
    rw [box_push]
    split at hi
    · rename_i e; rw [if_pos e]; exact .inr hi
    · rename_i e
      rw [if_neg e]
      rw [box_set hbl] at hi
      split at hi
      · rename_i e2; simp at hi; exact .inl ⟨e2, hi.symm⟩
      · exact .inr hi
  have hsome : ∀ i ci, box (s.σ.set b (some (cs.set j (.osl s.σ.length z 0 0))) ++ [some []]) i = some ci → ∃ ci', box (s.σ ++ [some []]) i = some ci' := fun i ci hi => by
    rcases hbx i ci hi with ⟨rfl, _⟩ | h
    · exact ⟨cs, by rw [box_push, if_neg (by omega)]; exact hb⟩
    · exact ⟨ci, h⟩
  refine ⟨upd ι s.σ.length none, S, ⟨h1.os, h1.tape, h1.output, h1.size, h1.old, h1.shape, fun i ci hi => ?_, fun i ci blk hi => ?_, fun i ci blk hi => ?_, fun i i' ci ci' blk hi hi' => ?_, h1.Slt, h1.S0, h1.Snew, by rw [hlen]; exact h1.klen, h1.kι⟩, hr.ck, hr.tsz, hr.defers, fun t' p ht => by rw [hlen]; exact wide _ _ (hr.temps t' p ht)⟩
  · rw [hlen]
    rcases hbx i ci hi with ⟨rfl, rfl⟩ | hh
    · rcases h1.boxes i cs (by rw [box_push, if_neg (by omega)]; exact hb) with ⟨h', h''⟩ | ⟨blk, c', e', hb', g1, g0, g2⟩
      · rw [h''] at h; simp at h
      · refine .inr ⟨blk, c', e', hb', g1, ?_, fun q p hq => ?_⟩
        · rcases g0 with ⟨e, rfl, g0⟩ | ⟨es, clk, ks, vs, rfl, _, rfl⟩
          · refine .inl ⟨e, rfl, fun p hp => ?_⟩
            rcases List.mem_or_eq_of_mem_set hp with hp | rfl
            · exact g0 p hp
            · rfl
          · match j, h with
            | 0, h => simp at h
            | 1, h => simp at h
            | j + 2, h => simp at h
        · by_cases e : q = j
          · subst e
            have hjl := (List.getElem?_eq_some_iff.1 h).1
            simp [List.getElem?_set_self hjl] at hq
            subst hq
            obtain ⟨v, hv1, hv2⟩ := g2 q _ h
            refine ⟨v, hv1, ?_⟩
            rw [hv2.k_inv.1]
            exact .osl0 (by simp)
          · rw [List.getElem?_set_ne (fun e2 => e e2.symm)] at hq
            exact g2 q p hq
    · exact h1.boxes i ci hh
  · obtain ⟨ci', h'⟩ := hsome i ci hi
    exact h1.notS i ci' blk h'
  · obtain ⟨ci', h'⟩ := hsome i ci hi
    exact h1.live i ci' blk h'
  · obtain ⟨c1, k1⟩ := hsome i ci hi
    obtain ⟨c2, k2⟩ := hsome i' ci' hi'
    exact h1.inj i i' c1 c2 blk k1 k2

theorem IRel.nil_sl {S : Nat → Prop} {w : World} {z : Nat} : IRel S w (.slice none 0 0) (.sl z []) :=
  .sl (fun _ => .nilFunc) rfl (Nat.le_refl _) (by simp [maxLen]) (by simp) (by simp) (fun _ => rfl) (fun h => by omega) (by simp)

theorem ent_nilsl {s : St} {t z : Nat} (h : look s.T t = some (.k (.slice none 0 0))) : Ent s { s with T := (t, .sl z []) :: s.T } := fun c ι S a w hr => by
  refine ⟨ι, S, hr.st, hr.ck, hr.tsz, hr.defers, fun t' p ht => ?_⟩
  simp only [look] at ht
  split at ht
  · rename_i e; subst e; simp at ht; subst ht
    have := (hr.temps t' _ h).k_inv.1
    rw [this]
    exact .imm .nil_sl
  · exact hr.temps t' p ht

/-! ### Freezing -/
def PV.imm0 : PV → Bool
  | .k _ | .sl _ _ | .eptr _ => true
  | _ => false

def PV.immB : PV → Bool
  | .k _ | .sl _ _ | .eptr _ => true
  | .clo _ caps => caps.all PV.imm0
  | _ => false

theorem immB_one {p : PV} (h : p.immB = true) : p.one = true := by cases p <;> simp_all [PV.immB, PV.one]

theorem VRel.immI {n : Nat} {ι : Nat → Option Nat} {S : Nat → Prop} {w : World} {v : Value} {p : PV} (h : VRel n ι S w v p) (hp : p.immB = true) : IRel S w v p := by
  cases h with
  | imm h => exact h
  | clo h1 h2 h3 =>
    refine .clo h1 h2 fun j p hj => ?_
    have h4 : PV.imm0 p = true := List.all_eq_true.1 (by simpa [PV.immB] using hp) p (List.mem_of_getElem? hj)
    have h5 := h3 j p hj
    revert h5
    generalize Array.getD _ _ _ = y
    intro h5
    cases h5 with
    | imm h => exact h
    | _ => simp [PV.imm0] at h4
  | _ => simp [PV.immB] at hp

def chunks (z : Nat) (cs : List PV) (len : Nat) : List (List PV) := (List.range len).map fun i => (cs.drop (i * z)).take z

theorem chunks_flatten {z : Nat} : ∀ (rows : List (List PV)), (∀ r ∈ rows, r.length = z) → ∀ rest, chunks z (rows.flatten ++ rest) rows.length = rows := fun rows h rest => by
  refine List.ext_getElem (by simp [chunks]) fun i h1 h2 => ?_
  simp only [chunks, List.getElem_map, List.getElem_range]
  refine List.ext_getElem? fun j => ?_
  have hr : rows[i].length = z := h _ (List.getElem_mem h2)
  have hfl := flatten_len rows h
  rcases Nat.lt_or_ge j z with hj | hj
  · rw [List.getElem?_take_of_lt hj, List.getElem?_drop]
    have hlt : i * z + j < rows.flatten.length := by
      rw [hfl]
      have : i * z + j < (i + 1) * z := by rw [Nat.add_mul]; omega
      exact Nat.lt_of_lt_of_le this (Nat.mul_le_mul_right _ (by omega))
    rw [List.getElem?_append_left hlt, flatten_at i rows h rows[i] (List.getElem?_eq_getElem h2) j hj]
  · rw [List.getElem?_eq_none (by simp; omega), List.getElem?_eq_none (by omega)]

theorem chunks_map {α : Type} {z : Nat} {f : α → List PV} (h : ∀ x, (f x).length = z) (l : List α) : chunks z (l.map f).flatten l.length = l.map f := by
  have := chunks_flatten (l.map f) (fun r hr => by obtain ⟨x, _, rfl⟩ := List.mem_map.1 hr; exact h x) []
  simpa using this

theorem chunks_len {z len : Nat} {cs : List PV} (h : len * z ≤ cs.length) : (∀ r ∈ chunks z cs len, r.length = z) ∧ (chunks z cs len).length = len ∧ (chunks z cs len).flatten = cs.take (len * z) := by
  have h1 : ∀ r ∈ chunks z cs len, r.length = z := fun r hr => by
    simp only [chunks, List.mem_map, List.mem_range] at hr
    obtain ⟨i, hi, rfl⟩ := hr
    have : (i + 1) * z ≤ len * z := Nat.mul_le_mul_right _ (by omega)
    rw [Nat.add_mul] at this
    simp; omega
  have h2 : (chunks z cs len).length = len := by simp [chunks]
  refine ⟨h1, h2, List.ext_getElem? fun j => ?_⟩
  have hfl := flatten_len _ h1
  rw [h2] at hfl
  rcases Nat.lt_or_ge j (len * z) with hj | hj
  · have hz : 0 < z := Nat.pos_of_ne_zero (fun e => by simp [e] at hj)
    have hq : j / z < len := Nat.div_lt_of_lt_mul (by rw [Nat.mul_comm]; exact hj)
    have hm := Nat.mod_lt j hz
    have e : j = (j / z) * z + j % z := by rw [Nat.mul_comm]; exact (Nat.div_add_mod j z).symm
    rw [List.getElem?_take_of_lt hj]
    conv => lhs; rw [e]
    rw [flatten_at (j / z) _ h1 ((cs.drop (j / z * z)).take z) (by simp [chunks, hq]) _ hm, List.getElem?_take_of_lt hm, List.getElem?_drop, ← e]
  · rw [List.getElem?_eq_none (by omega), List.getElem?_eq_none (by simp; omega)]

mutual
/-- The slice (box b, rows of z cells, from its begin on, len rows) is told as a slice that nobody writes any more. -/
def PV.frz (b z len : Nat) (cs : List PV) : PV → PV
  | .osl b' z' off' len' => if b' = b ∧ z' = z ∧ off' = 0 ∧ len' = len then .sl z (chunks z cs len) else .osl b' z' off' len'
  | .osc b' z' off' len' cap' => .osc b' z' off' len' cap'
  | .k v => .k v
  | .sl z rows => .sl z rows
  | .eptr cs => .eptr cs
  | .ptr b off => .ptr b off
  | .mref b => .mref b
  | .clo fn caps => .clo fn (frzL b z len cs caps)
  | .agg ps => .agg (frzL b z len cs ps)
  | .tup ps => .tup (frzL b z len cs ps)
def frzL (b z len : Nat) (cs : List PV) : List PV → List PV
  | [] => []
  | p :: ps => p.frz b z len cs :: frzL b z len cs ps
end

theorem frzL_map (b z len : Nat) (cs : List PV) : ∀ ps, frzL b z len cs ps = ps.map (PV.frz b z len cs)
  | [] => rfl
  | p :: ps => by simp [frzL, frzL_map b z len cs ps]

theorem one_frz (b z len : Nat) (cs : List PV) (p : PV) : (p.frz b z len cs).one = p.one := by
  cases p with
  | osl b' z' off' len' => simp only [PV.frz]; split <;> rfl
  | _ => simp [PV.frz, PV.one]

theorem View.frz {o : Obj} {c' : Array Value} {cs0 : List PV} (b z len : Nat) (cs : List PV) (h : View o c' cs0) : View o c' (frzL b z len cs cs0) := by
  rw [frzL_map]; exact h.mapP (one_frz b z len cs) fun l => ⟨frzL b z len cs l, rfl⟩

theorem VRel.frz {n : Nat} {ι : Nat → Option Nat} {S S' : Nat → Prop} {w : World} {b z len : Nat} {cs : List PV} (hSS : ∀ b, S b → S' b)
    (hI : ∀ v, VRel n ι S w v (.osl b z 0 len) → IRel S' w v (.sl z (chunks z cs len))) {v : Value} {p : PV} (h : VRel n ι S w v p) : VRel n ι S' w v (p.frz b z len cs) := by
  have hm : ∀ v p, VRel n ι S w v p → VRel n ι S' w v p := fun v p hh => hh.mono (Nat.le_refl _) (fun _ _ => rfl) hSS (fun _ _ _ => rfl) (fun _ _ h => h)
  have hi : ∀ v p, IRel S w v p → VRel n ι S' w v (p.frz b z len cs) := by
    intro v p hh
    induction hh with
    | k h => exact .imm (.k h)
    | sl g h1 h2 h3 h4 h5 h6 h7 h8 _ => exact hm _ _ (.imm (.sl g h1 h2 h3 h4 h5 h6 h7 h8))
    | eptr g h1 h2 h3 h4 _ => exact hm _ _ (.imm (.eptr g h1 h2 h3 h4))
    | clo h1 h2 _ ih =>
      simp only [PV.frz, frzL_map]
      refine .clo (by simpa using h1) (fun p hp => ?_) (fun j p hj => ?_)
      · simp at hp; obtain ⟨q, hq, rfl⟩ := hp; rw [one_frz]; exact h2 q hq
      · simp at hj; obtain ⟨q, hq, rfl⟩ := hj; exact ih j q hq
    | agg h1 h2 _ ih =>
      simp only [PV.frz, frzL_map]
      refine .agg (by simpa using h1) (fun p hp => ?_) (fun j p hj => ?_)
      · simp at hp; obtain ⟨q, hq, rfl⟩ := hp; rw [one_frz]; exact h2 q hq
      · simp at hj; obtain ⟨q, hq, rfl⟩ := hj; exact ih j q hq
    | tup h1 _ ih =>
      simp only [PV.frz, frzL_map]
      refine .tup (by simpa using h1) (fun j p hj => ?_)
      simp at hj; obtain ⟨q, hq, rfl⟩ := hj; exact ih j q hq
  induction h with
  | imm h => exact hi _ _ h
  | osl h1 h2 h3 h4 h5 h6 =>
    simp only [PV.frz]
    split
    · rename_i hc; obtain ⟨rfl, rfl, rfl, rfl⟩ := hc
      exact .imm (hI _ (.osl h1 h2 h3 h4 h5 h6))
    · exact hm _ _ (.osl h1 h2 h3 h4 h5 h6)
  | osl0 h1 =>
    simp only [PV.frz]
    split
    · rename_i hc; obtain ⟨rfl, rfl, rfl, rfl⟩ := hc
      exact .imm (hI _ (.osl0 h1))
    · exact hm _ _ (.osl0 h1)
  | ptr h1 h2 h3 => exact .ptr h1 h2 h3
  | mref h1 h2 => exact .mref h1 h2
  | osc h1 h2 h3 h4 h5 h6 => exact hm _ _ (.osc h1 h2 h3 h4 h5 h6)
  | osc0 h1 => exact hm _ _ (.osc0 h1)
  | clo h1 h2 _ ih =>
    simp only [PV.frz, frzL_map]
    refine .clo (by simpa using h1) (fun p hp => ?_) (fun j p hj => ?_)
    · simp at hp; obtain ⟨q, hq, rfl⟩ := hp; rw [one_frz]; exact h2 q hq
    · simp at hj; obtain ⟨q, hq, rfl⟩ := hj; exact ih j q hq
  | agg h1 h2 _ ih =>
    simp only [PV.frz, frzL_map]
    refine .agg (by simpa using h1) (fun p hp => ?_) (fun j p hj => ?_)
    · simp at hp; obtain ⟨q, hq, rfl⟩ := hp; rw [one_frz]; exact h2 q hq
    · simp at hj; obtain ⟨q, hq, rfl⟩ := hj; exact ih j q hq
  | tup h1 _ ih =>
    simp only [PV.frz, frzL_map]
    refine .tup (by simpa using h1) (fun j p hj => ?_)
    simp at hj; obtain ⟨q, hq, rfl⟩ := hj; exact ih j q hq

def St.frz (s : St) (b z len : Nat) (cs : List PV) : St :=
  { s with T := s.T.map (fun e => (e.1, e.2.frz b z len cs)), σ := (s.σ.map fun x => x.map (frzL b z len cs)).set b none }

theorem look_map (f : PV → PV) : ∀ (l : List (Nat × PV)) (t : Nat), look (l.map fun e => (e.1, f e.2)) t = (look l t).map f
  | [], t => rfl
  | (t', p) :: r, t => by
    simp only [List.map_cons, look]
    split
    · rfl
    · exact look_map f r t

/-- A slice into box b whose cells are all told as memory that nobody writes. -/
theorem frz_rel {c : Ctx} {ι : Nat → Option Nat} {S : Nat → Prop} {σ : Boxes} {w : World} (hσ : Store c ι S σ w) {b z len : Nat} {cs : List PV} (hb : box σ b = some cs) (hlen : len * z ≤ cs.length) (hi : cs.all PV.immB = true) :
    ∀ v, VRel σ.length ι S w v (.osl b z 0 len) → IRel (fun q => S q ∨ ι b = some q) w v (.sl z (chunks z cs len)) := by
  obtain ⟨k1, k2, k3⟩ := chunks_len hlen
  intro v hv
  have honec : (∀ p ∈ cs, PV.one p = true) := fun p hp => immB_one (List.all_eq_true.1 hi p hp)
  have hones : ∀ r ∈ chunks z cs len, ∀ p ∈ r, PV.one p = true := fun r hr p hp => by
    simp only [chunks, List.mem_map] at hr
    obtain ⟨i, _, rfl⟩ := hr
    exact honec p (List.mem_of_mem_drop (List.mem_of_mem_take hp))
  cases hv with
  | imm h => cases h
  | osl0 h1 =>
    rename_i a
    have hch : chunks z cs 0 = [] := by simp [chunks]
    rw [hch]
    exact .sl (fun _ => .nilFunc) rfl (Nat.le_refl _) (by simp [maxLen]) (by simp) (by simp) (fun _ => rfl) (fun h => by omega) (by simp)
  | osl h1 h2 h3 h4 h5 h6 =>
    rename_i cap blk e m
    obtain ⟨blk', c', e', hb', g1, g0, g2⟩ := hσ.cellsE hb h4 h5
    rw [hb'] at h4; simp at h4; subst h4
    have hcell : ∀ j p, cs[j]? = some p → w.cell? ⟨blk', j, none⟩ = some (c'.getD j undef) ∧ VRel σ.length ι S w (c'.getD j undef) p := fun j p hj => by
      obtain ⟨v, hv1, hv2⟩ := g2 j p hj
      have : c'.getD j undef = v := by rw [Array.getD_eq_getD_getElem?, hv1]; rfl
      rw [this]
      exact ⟨by simp [World.cell?, g1, hv1], hv2⟩
    refine .sl (fun j => c'.getD j undef) k2 h2 h3 k1 hones (fun h => by simp at h) (fun hn => ⟨blk', 0, rfl, .inr hb', fun j hj => ?_⟩) (fun j p hj => ?_)
    · rw [Nat.zero_add]
      exact (hcell j _ (List.getElem?_eq_getElem (by omega))).1
    · rw [k3] at hj
      have hj' := (List.getElem?_eq_some_iff.1 hj).1
      simp at hj'
      rw [List.getElem?_take_of_lt (by omega)] at hj
      obtain ⟨_, hr⟩ := hcell j p hj
      exact (hr.immI (List.all_eq_true.1 hi p (List.mem_of_getElem? hj))).mono (fun _ h => .inl h) (fun _ _ _ => rfl)

theorem ent_frz {s : St} (b z len : Nat) (cs : List PV) (hk : s.k ≤ b) (hb : box s.σ b = some cs) (hlen : len * z ≤ cs.length) (hi : cs.all PV.immB = true) : Ent s (s.frz b z len cs) := fun c ι S a w hr => by
  have hσ := hr.st
  have hbl := box_lt hb
  have hI := frz_rel hσ hb hlen hi
  have hS' : ∀ q, S q → (fun q => S q ∨ ι b = some q) q := fun q h => .inl h
  have hv : ∀ v p, VRel s.σ.length ι S w v p → VRel s.σ.length ι (fun q => S q ∨ ι b = some q) w v (p.frz b z len cs) := fun v p hh => VRel.frz hS' hI hh
  have hlen2 : ((s.σ.map fun x => x.map (frzL b z len cs)).set b none).length = s.σ.length := by simp
  have hbox : ∀ i ci, box ((s.σ.map fun x => x.map (frzL b z len cs)).set b none) i = some ci → i ≠ b ∧ ∃ ci', box s.σ i = some ci' ∧ ci = frzL b z len cs ci' := fun i ci h => by
    rw [box_set (by simpa using hbl)] at h
    split at h
    · simp at h
    · rename_i hne
      rw [box_map] at h
      simp only [Option.map_eq_some_iff] at h
      obtain ⟨ci', h1, rfl⟩ := h
      exact ⟨hne, ci', h1, rfl⟩
  have hblt : ∀ blk, ι b = some blk → blk < w.heap.size := fun blk h => by
    rcases hσ.boxes b cs hb with ⟨h', _⟩ | ⟨blk', c', e', hb', g1, _⟩
    · rw [h'] at h; simp at h
    · rw [hb'] at h; simp at h; subst h; exact (Array.getElem?_eq_some_iff.1 g1).1
  refine ⟨ι, fun q => S q ∨ ι b = some q, ⟨hσ.os, hσ.tape, hσ.output, hσ.size, hσ.old, hσ.shape, fun i ci hi => ?_, fun i ci blk hi hbi hSq => ?_, fun i ci blk hi hbi => ?_, fun i j ci cj blk hi hj hbi hbj => ?_, fun q hq => ?_, fun q hq => .inl (hσ.S0 q hq), fun q hq => ?_, ?_, hσ.kι⟩, hr.ck, hr.tsz, hr.defers, fun t p ht => ?_⟩
  · obtain ⟨hne, ci', h1, rfl⟩ := hbox i ci hi
    rcases hσ.boxes i ci' h1 with ⟨h', h''⟩ | ⟨blk, c', e', hb', g1, g0, g2⟩
    · exact .inl ⟨h', by rw [h'']; rfl⟩
    · refine .inr ⟨blk, c', e', hb', g1, g0.frz b z len cs, fun j p hj => ?_⟩
      · rw [frzL_map] at hj; simp at hj; obtain ⟨q, hq, rfl⟩ := hj
        obtain ⟨v, hv1, hv2⟩ := g2 j q hq
        refine ⟨v, hv1, ?_⟩
        have := hv v q hv2
        simp only [St.frz]
        rw [hlen2]; exact this
  · obtain ⟨hne, ci', h1, rfl⟩ := hbox i ci hi
    rcases hSq with hSq | hSq
    · exact hσ.notS i ci' blk h1 hbi hSq
    · exact hne (hσ.inj i b ci' cs blk h1 hb hbi hSq)
  · obtain ⟨hne, ci', h1, rfl⟩ := hbox i ci hi
    exact hσ.live i ci' blk h1 hbi
  · obtain ⟨_, ci', h1, rfl⟩ := hbox i ci hi
    obtain ⟨_, cj', h2, rfl⟩ := hbox j cj hj
    exact hσ.inj i j ci' cj' blk h1 h2 hbi hbj
  · rcases hq with hq | hq
    · exact hσ.Slt q hq
    · exact hblt q hq
  · rcases hq with hq | hq
    · exact hσ.Snew q hq
    · rcases hσ.live b cs q hb hq with h | h
      · exact .inr (.inl h)
      · exact .inr (.inr h)
  · simp only [St.frz]; rw [hlen2]; exact hσ.klen
  · simp only [St.frz] at ht ⊢
    rw [look_map (PV.frz b z len cs)] at ht
    simp only [Option.map_eq_some_iff] at ht
    obtain ⟨q, hq, rfl⟩ := ht
    rw [hlen2]
    exact hv _ q (hr.temps t q hq)

end Go.Proofs.YtidhdlhblhbahaaGreat.Am

/- The machine of values: going on as far as it goes. -/
set_option linter.unusedVariables false
set_option linter.unusedSimpArgs false
namespace Go.Proofs.YtidhdlhblhbahaaGreat.Am
open Go Go.RowKit

/-- One operation: what it makes, if it is none that calls. -/
def oneOp (P : Program) (s : St) (op : Op) : Option (Boxes × PV) :=
  match pureVal P s op with
  | some p => some (s.σ, p)
  | none => match memVal P s op with
    | some x => some x
    | none => match storeVal P s op with
      | some σ' => some (σ', .tup [])
      | none => mapVal P s op

/-! What is held back from simp until it is its turn stands in instance arguments. -/
class Hold where
  p : Prop
class HoldS where
  p : St → Prop
class HoldX where
  p : Boxes × PV → Prop
class HoldO where
  P : Program
  ops : Array Oper
  l : List Oper
  Q : St → Prop
class HoldC where
  P : Program
  c : Code
  Q : Exit → St → Prop

def brk (o : Option (Boxes × PV)) [F : HoldX] [D : Hold] : Prop := match o with | some x => F.p x | none => D.p
def brkB (o : Option Bool) [A : Hold] [B : Hold] [D : Hold] : Prop := match o with | some true => A.p | some false => B.p | none => D.p
def at_ (s : St) [F : HoldS] : Prop := F.p s
theorem brk_some (x : Boxes × PV) (F : HoldX) (D : Hold) : @brk (some x) F D = F.p x := (rfl)
theorem brk_none (F : HoldX) (D : Hold) : @brk none F D = D.p := (rfl)
theorem brkB_true (A B D : Hold) : @brkB (some true) A B D = A.p := (rfl)
theorem brkB_false (A B D : Hold) : @brkB (some false) A B D = B.p := (rfl)
theorem brkB_none (A B D : Hold) : @brkB none A B D = D.p := (rfl)
theorem brkB_split {b : Bool} {A B D : Hold} (h1 : b = true → A.p) (h2 : b = false → B.p) : @brkB (some b) A B D := by
  cases b with
  | true => exact h1 rfl
  | false => exact h2 rfl

theorem brkB_splitN {b : Bool} {A B D : Hold} (h1 : b = false → A.p) (h2 : b = true → B.p) : @brkB (some (!b)) A B D := by
  cases b with
  | true => exact h2 rfl
  | false => exact h1 rfl

def wantedD (s : St) (ops : Array Oper) (o : Oper) : Option Bool := if dstOk o.dst s.N = true then wantedA s ops o else none

def goOps (P : Program) (ops : Array Oper) : List Oper → St → (St → Prop) → Prop
  | [], s, Q => Q s
  | o :: rest, s, Q =>
    @brkB (wantedD s ops o) ⟨@brk (oneOp P s o.op) ⟨fun x => goOps P ops rest (St.put { s with σ := x.1 } o.dst x.2) Q⟩ ⟨OpsOk P ops (o :: rest) s Q⟩⟩
      ⟨goOps P ops rest (s.put o.dst (.tup [])) Q⟩ ⟨OpsOk P ops (o :: rest) s Q⟩

theorem ops_map {P : Program} {ops : Array Oper} {rest : List Oper} {Q : St → Prop} {s : St} {o : Oper} {x : Boxes × PV} (hw : wantedA s ops o = some true) (hv : mapVal P s o.op = some x) (hd : dstOk o.dst s.N = true)
    (h : OpsOk P ops rest (St.put { s with σ := x.1 } o.dst x.2) Q) : OpsOk P ops (o :: rest) s Q :=
  ops_step hw fun c ι S a w hr K QQ hK => by
    obtain ⟨v, w', ι', hrun, h1, h2, h3, _⟩ := map_rel (σ' := x.1) (p := x.2) hr hv
    rcases hrun with hrun | ⟨hrun, rfl⟩
    · exact wpIn_val hrun (hK ι' S _ _ w' (Rel.next hr h1 h2 hd h3) h)
    · exact wpIn_skp hrun (hK ι' S _ _ w' (Rel.next hr h1 h2 hd h3) h)

theorem ops_go {P : Program} {ops : Array Oper} {Q : St → Prop} : ∀ {l : List Oper} {s : St}, goOps P ops l s Q → OpsOk P ops l s Q
  | [], s, h => ops_nil h
  | o :: rest, s, h => by
    unfold goOps at h
    unfold brkB wantedD at h
    split at h
    · rename_i hw
      split at hw
      · rename_i hd
        simp only at h
        unfold brk at h
        split at h
        · rename_i x hp
          unfold oneOp at hp
          split at hp
          · rename_i q hq
            simp at hp; subst hp
            exact ops_val hw hq hd (ops_go h)
          · split at hp
            · rename_i x hx
              simp at hp; subst hp
              exact ops_mem hw hx hd (ops_go h)
            · split at hp
              · rename_i σ'' hs
                simp at hp; subst hp
                exact ops_store hw hs hd (ops_go h)
              · exact ops_map hw hp hd (ops_go h)
        · exact h
      · simp at hw
    · rename_i hw
      split at hw
      · rename_i hd; exact ops_skip hw hd (ops_go h)
      · simp at hw
    · exact h

/-- The operations from here on. -/
def gOps (s : St) [H : HoldO] : Prop := goOps H.P H.ops H.l s H.Q
theorem gOps_nil {P : Program} {ops : Array Oper} {s : St} {Q : St → Prop} : @gOps s ⟨P, ops, [], Q⟩ = Q s := (rfl)
theorem gOps_cons {P : Program} {ops : Array Oper} {o : Oper} {rest : List Oper} {s : St} {Q : St → Prop} : @gOps s ⟨P, ops, o :: rest, Q⟩ =
    @brkB (wantedD s ops o) ⟨@brk (oneOp P s o.op) ⟨fun x => @gOps (St.put { s with σ := x.1 } o.dst x.2) ⟨P, ops, rest, Q⟩⟩ ⟨@at_ s ⟨fun s => OpsOk P ops (o :: rest) s Q⟩⟩⟩
      ⟨@gOps (s.put o.dst (.tup [])) ⟨P, ops, rest, Q⟩⟩ ⟨@at_ s ⟨fun s => OpsOk P ops (o :: rest) s Q⟩⟩ := (rfl)

def condB : Option PV → Option Bool
  | some (.k (.bool b)) => some b
  | _ => none

def goC (P : Program) : Code → St → (Exit → St → Prop) → Prop
  | .skip, s, Q => Q .normal s
  | .seq x y, s, Q => goC P x s (thenA (fun s' => goC P y s' Q) Q)
  | .region id ops draw, s, Q => if draw = true then AWp P (.region id ops draw) s Q else goOps P ops ops.toList s (Q .normal)
  | .cond c x y, s, Q => @brkB (condB (opd s c)) ⟨goC P x s Q⟩ ⟨goC P y s Q⟩ ⟨AWp P (.cond c x y) s Q⟩
  | .block id c, s, Q => goC P c s (inBlockA id Q)
  | .exit id, s, Q => Q (.exit id) s
  | .ret, s, Q => Q .ret s
  | c, s, Q => AWp P c s Q

/-- The code from here on. -/
def gC (s : St) [H : HoldC] : Prop := goC H.P H.c s H.Q

section
variable {P : Program} {s : St} {Q : Exit → St → Prop}
theorem gC_skip : @gC s ⟨P, .skip, Q⟩ = Q .normal s := (rfl)
theorem gC_seq {x y : Code} : @gC s ⟨P, .seq x y, Q⟩ = @gC s ⟨P, x, thenA (fun s' => @gC s' ⟨P, y, Q⟩) Q⟩ := (rfl)
theorem gC_region {id : Nat} {l : List Oper} : @gC s ⟨P, .region id l.toArray false, Q⟩ = @gOps s ⟨P, l.toArray, l, Q .normal⟩ := (rfl)
theorem gC_draw {id : Nat} {ops : Array Oper} : @gC s ⟨P, .region id ops true, Q⟩ = @at_ s ⟨fun s => AWp P (.region id ops true) s Q⟩ := (rfl)
theorem gC_cond {c : Operand} {x y : Code} : @gC s ⟨P, .cond c x y, Q⟩ = @brkB (condB (opd s c)) ⟨@gC s ⟨P, x, Q⟩⟩ ⟨@gC s ⟨P, y, Q⟩⟩ ⟨@at_ s ⟨fun s => AWp P (.cond c x y) s Q⟩⟩ := (rfl)
theorem gC_block {id : Nat} {c : Code} : @gC s ⟨P, .block id c, Q⟩ = @gC s ⟨P, c, inBlockA id Q⟩ := (rfl)
theorem gC_exit {id : Nat} : @gC s ⟨P, .exit id, Q⟩ = Q (.exit id) s := (rfl)
theorem gC_ret : @gC s ⟨P, .ret, Q⟩ = Q .ret s := (rfl)
theorem gC_loop {c : Code} : @gC s ⟨P, .loop c, Q⟩ = @at_ s ⟨fun s => AWp P (.loop c) s Q⟩ := (rfl)
theorem gC_rangeFunc {f : Operand} {ps : Array Tmp} {x y : Code} : @gC s ⟨P, .rangeFunc f ps x y, Q⟩ = @at_ s ⟨fun s => AWp P (.rangeFunc f ps x y) s Q⟩ := (rfl)
theorem thenA_normal {next : St → Prop} : thenA next Q .normal s = next s := (rfl)
theorem thenA_ret {next : St → Prop} : thenA next Q .ret s = Q .ret s := (rfl)
theorem thenA_exit {next : St → Prop} {i : Nat} : thenA next Q (.exit i) s = Q (.exit i) s := (rfl)
theorem inBlockA_normal {id : Nat} : inBlockA id Q .normal s = Q .normal s := (rfl)
theorem inBlockA_ret {id : Nat} : inBlockA id Q .ret s = Q .ret s := (rfl)
theorem inBlockA_exit {id i : Nat} : inBlockA id Q (.exit i) s = if i = id then Q .normal s else Q (.exit i) s := (rfl)
end

theorem awp_goC {P : Program} : ∀ {c : Code} {s : St} {Q : Exit → St → Prop}, goC P c s Q → AWp P c s Q
  | .skip, s, Q, h => awp_skip h
  | .seq x y, s, Q, h => awp_seq (awp_mono (awp_goC h) fun e s' hq => by
      cases e with
      | normal => exact awp_goC hq
      | _ => exact hq)
  | .region id ops draw, s, Q, h => by
    unfold goC at h
    split at h
    · exact h
    · rename_i hd
      have : draw = false := by simpa using hd
      subst this
      have h2 := ops_go h
      have e : ops = ops.toList.toArray := by simp
      rw [e]
      refine awp_region ?_
      rw [← e]; exact h2
  | .cond c x y, s, Q, h => by
    unfold goC at h
    unfold condB brkB at h
    split at h
    · rename_i hc
      split at hc
      · rename_i b hb
        simp at hc; subst hc
        exact awp_cond hb (awp_goC h)
      · simp at hc
    · rename_i hc
      split at hc
      · rename_i b hb
        simp at hc; subst hc
        exact awp_cond hb (awp_goC h)
      · simp at hc
    · exact h
  | .block id c, s, Q, h => awp_block (awp_goC h)
  | .exit id, s, Q, h => awp_exit h
  | .ret, s, Q, h => awp_ret h
  | .loop _, s, Q, h => h
  | .rangeFunc .., s, Q, h => h
  | .scope _, s, Q, h => h
  | .label _, s, Q, h => h
  | .goto _, s, Q, h => h
  | .refuse _, s, Q, h => h

theorem awp_go {P : Program} {c : Code} {s : St} {Q : Exit → St → Prop} (h : @gC s ⟨P, c, Q⟩) : AWp P c s Q := awp_goC h
theorem ops_goH {P : Program} {ops : Array Oper} {l : List Oper} {s : St} {Q : St → Prop} (h : @gOps s ⟨P, ops, l, Q⟩) : OpsOk P ops l s Q := ops_go h

/-! ### Numbers -/
theorem wrap_id {x : Int} (h1 : -9223372036854775808 ≤ x) (h2 : x ≤ 9223372036854775807) : IntKind.i64.wrap x = x := by rw [IntKind.wrap_i64]; omega

end Go.Proofs.YtidhdlhblhbahaaGreat.Am

/- The machine of values: functions of values alone, and how a call to one goes. -/
set_option linter.unusedVariables false
set_option linter.unusedSimpArgs false
namespace Go.Proofs.YtidhdlhblhbahaaGreat.Am
open Go Go.RowKit

/-- Called with values that nobody writes, it returns r and leaves everything as it was. -/
def Fn (P : Program) (f : FuncId) (args : List PV) (r : PV) : Prop := FnG P f args [] fun p σ' => p = r ∧ σ' = []

mutual
theorem ren_lt0 (θ : Nat → Nat) : (p : PV) → p.lt 0 = true → p.ren θ = p
  | .k _, _ | .sl _ _, _ | .eptr _, _ => rfl
  | .osl b _ _ _, h => by simp [PV.lt] at h
  | .osc b _ _ _ _, h => by simp [PV.lt] at h
  | .ptr b _, h => by simp [PV.lt] at h
  | .mref b, h => by simp [PV.lt] at h
  | .clo fn caps, h => by simp only [PV.ren]; rw [renL_lt0 θ caps (by simpa [PV.lt] using h)]
  | .agg cs, h => by simp only [PV.ren]; rw [renL_lt0 θ cs (by simpa [PV.lt] using h)]
  | .tup ps, h => by simp only [PV.ren]; rw [renL_lt0 θ ps (by simpa [PV.lt] using h)]
theorem renL_lt0 (θ : Nat → Nat) : (ps : List PV) → ltL 0 ps = true → renL θ ps = ps
  | [], _ => rfl
  | p :: ps, h => by
    have h2 : p.lt 0 = true ∧ ltL 0 ps = true := by simpa [ltL] using h
    simp only [renL]
    rw [ren_lt0 θ p h2.1, renL_lt0 θ ps h2.2]
end

theorem lt_mono0 {n : Nat} : ∀ (p : PV), p.lt 0 = true → ∀ θ, (p.ren θ) = p := fun p h θ => ren_lt0 θ p h

def RetOk : Exit → Prop
  | .normal | .ret => True
  | _ => False

/-- The function is at its end: its results, and the boxes that are left. -/
def FinG (P : Program) (rs : List ResultVar) (R : PV → Boxes → Prop) (s : St) : Prop :=
  ∃ (s2 : St) (p p2 : PV) (th : List Nat) (σ2 : Boxes), Ent s s2 ∧ resPV P s2 rs = some p ∧ p = p2.ren (fun i => th.getD i 0) ∧ p2.lt σ2.length = true ∧ th.length = σ2.length ∧ s2.k ≤ σ2.length ∧ th.take s2.k = List.range s2.k ∧ th.Nodup ∧
    EntB s2 (fun i => th.getD i 0) σ2.length 0 σ2 ∧ R p2 σ2

def FinF (P : Program) (rs : List ResultVar) (r : PV) (s : St) : Prop := ∃ s2, Ent s s2 ∧ resPV P s2 rs = some r ∧ r.lt 0 = true ∧ s2.k = 0

theorem fin_ent {P : Program} {rs : List ResultVar} {r : PV} {s s' : St} (h : Ent s s') (k : FinF P rs r s') : FinF P rs r s := by
  obtain ⟨s2, h1, h2⟩ := k
  exact ⟨s2, h.trans h1, h2⟩
theorem fin_now {P : Program} {rs : List ResultVar} {r : PV} {s : St} (h : resPV P s rs = some r) (hl : r.lt 0 = true) (hk : s.k = 0) : FinF P rs r s := ⟨s, Ent.refl s, h, hl, hk⟩

theorem finG_ent {P : Program} {rs : List ResultVar} {R : PV → Boxes → Prop} {s s' : St} (h : Ent s s') (k : FinG P rs R s') : FinG P rs R s := by
  obtain ⟨s2, p, p2, th, σ2, h1, h2⟩ := k
  exact ⟨s2, p, p2, th, σ2, h.trans h1, h2⟩

section
variable {P : Program}

theorem store_ren {c : Ctx} {ι : Nat → Option Nat} {S : Nat → Prop} {s : St} {a : Act} {w : World} (hr : Rel c ι S s a w) (th : List Nat) {σ2 : Boxes} (hl : th.length = σ2.length) (hkl : s.k ≤ σ2.length) (hid : th.take s.k = List.range s.k) (hnd : th.Nodup)
    (hB : EntB s (fun i => th.getD i 0) σ2.length 0 σ2) {v : Value} {p2 : PV} (hv : VRel s.σ.length ι S w v (p2.ren fun i => th.getD i 0)) (hlt : p2.lt σ2.length = true) :
    ∃ ι', Store c ι' S σ2 w ∧ VRel σ2.length ι' S w v p2 := by
  have hσ := hr.st
  have hid' : ∀ i, i < s.k → th.getD i 0 = i := fun i hi => by
    have := congrArg (fun l => l[i]?) hid
    simp [List.getElem?_take_of_lt hi, hi] at this
    simp [this]
  have hb := fun i cs h => entB_box σ2 0 hB i cs h
  simp only [Nat.zero_add] at hb
  have hu : ∀ p v, p.lt σ2.length = true → VRel s.σ.length ι S w v (p.ren fun i => th.getD i 0) → VRel σ2.length (fun i => ι (th.getD i 0)) S w v p := fun p v hp h => VRel.unren (fun b _ => rfl) p v hp h
  refine ⟨fun i => ι (th.getD i 0), ⟨hσ.os, hσ.tape, hσ.output, hσ.size, hσ.old, hσ.shape, fun i cs hi => ?_, fun i cs blk hi hbl => ?_, fun i cs blk hi hbl => ?_, fun i j ci cj blk hi hj hbi hbj => ?_, hσ.Slt, hσ.S0, hσ.Snew, by rw [hr.ck]; exact hkl, fun i hi => ?_⟩, hu p2 v hlt hv⟩
  · obtain ⟨h1, h2⟩ := hb i cs hi
    rcases hσ.boxes _ _ h1 with ⟨h', h''⟩ | ⟨blk, c', e', hb', g1, g0, g2⟩
    · exact .inl ⟨h', by rw [renL_map] at h''; simpa using h''⟩
    · refine .inr ⟨blk, c', e', hb', g1, g0.unren, fun j p hj => ?_⟩
      obtain ⟨v, hv1, hv2⟩ := g2 j (p.ren fun i => th.getD i 0) (by rw [renL_map, List.getElem?_map, hj]; rfl)
      exact ⟨v, hv1, hu p v (by rw [ltL_all] at h2; exact List.all_eq_true.1 h2 p (List.mem_of_getElem? hj)) hv2⟩
  · exact hσ.notS _ _ blk (hb i cs hi).1 hbl
  · exact hσ.live _ _ blk (hb i cs hi).1 hbl
  · have e := hσ.inj _ _ _ _ blk (hb i ci hi).1 (hb j cj hj).1 hbi hbj
    have hi' := box_lt hi
    have hj' := box_lt hj
    rw [← hl] at hi' hj'
    simp [List.getElem?_eq_getElem hi', List.getElem?_eq_getElem hj'] at e
    exact nodup_inj th hnd i j th[i] (List.getElem?_eq_getElem hi') (by rw [e]; exact List.getElem?_eq_getElem hj')
  · rw [hr.ck] at hi
    simp only [hid' i hi]
    exact hσ.kι i (by rw [hr.ck]; exact hi)

theorem run_results {c : Ctx} {ι : Nat → Option Nat} {S : Nat → Prop} {s : St} {a : Act} {w : World} (hr : Rel c ι S s a w) {fn : Func} {p : PV} (hres : resPV P s fn.results.toList = some p) :
    ∃ v, (results fn a.tmps).run P w = .ok v w ∧ VRel s.σ.length ι S w v p := by
  unfold resPV at hres
  split at hres
  · rename_i q hq
    simp at hres; subst hres
    obtain ⟨vs, hvs, hlv, hrv⟩ := results_rel hr _ _ hq
    match vs, hlv, hvs, hrv with
    | [v], _, hvs, hrv =>
      refine ⟨v, ?_, ?_⟩
      · simp only [results_eq, Array.mapM_eq_mapM_toList, Sem.run_bind, Sem.run_map, hvs, Result.andThen_ok, Sem.run_pure]
        simp
      · obtain ⟨u, hu, hr⟩ := hrv 0 q rfl
        simp at hu; subst hu; exact hr
  · rename_i ps hps hq
    simp at hres; subst hres
    obtain ⟨vs, hvs, hlv, hrv⟩ := results_rel hr _ _ hq
    have hne : vs.length ≠ 1 := fun e => by
      rw [hlv] at e
      match ps, e, hps with
      | [p], _, hps => exact hps p rfl
    refine ⟨.tuple vs.toArray, ?_, .tup (by simpa using hlv) (fun j p hj => ?_)⟩
    · simp only [results_eq, Array.mapM_eq_mapM_toList, Sem.run_bind, Sem.run_map, hvs, Result.andThen_ok, Sem.run_pure]
      simp [hne]
    · obtain ⟨u, hu, hr⟩ := hrv j p hj
      rw [Array.getD_eq_getD_getElem?]
      simp [hu, hr]
  · simp at hres

theorem fng_of {f : FuncId} {fn : Func} {code : Code} {args : List PV} {σ : List (List PV)} {R : PV → Boxes → Prop} (hf : P.funcs[f]? = some fn) (hb : fn.body = some code)
    (h : AWp P code (entry fn args σ) fun e s' => RetOk e ∧ FinG P fn.results.toList R s') : FnG P f args σ R := by
  intro ι S w vals hs hl hv
  refine calls_of_wp hf hb ?_
  refine wpIn_wide (n := 0).1 ?_
  have hrel : Rel (cx w ι S σ.length) ι S (entry fn args σ) { tmps := vals.toArray ++ Array.replicate (fn.ntmps - vals.toArray.size) undef, defers := [] } w := by
    refine ⟨hs, rfl, by simp [entry, hl], rfl, fun t p ht => ?_⟩
    obtain ⟨_, hp⟩ := look_entryT args 0 t p ht
    simp only [Nat.sub_zero] at hp
    obtain ⟨v, hv1, hv2⟩ := hv t p hp
    have hlt := (List.getElem?_eq_some_iff.1 hv1).1
    have e : (vals.toArray ++ Array.replicate (fn.ntmps - vals.toArray.size) undef).getD t undef = v := by
      rw [Array.getD_eq_getD_getElem?, Array.getElem?_append_left (by simpa using hlt)]
      simp [hv1]
    rw [e]
    simpa [entry] using hv2
  refine h _ _ _ _ _ hrel _ fun e ι' S' s' a' w' hr' hq => ?_
  obtain ⟨he, s2, p, p2, th, σ2, hent, hres, rfl, h1, h2, h3, h4, h5, h6, hR⟩ := hq
  obtain ⟨ι2, S2, hr2⟩ := hent _ _ _ _ _ hr'
  obtain ⟨v, hrun, hvp⟩ := run_results hr2 hres
  obtain ⟨ι3, hst, hvp2⟩ := store_ren hr2 th h2 h3 h4 h5 h6 hvp h1
  have hpost : ∃ v, (results fn a'.tmps).run P w' = .ok v w' ∧ ∃ v' p σ' ι' S', Ending.returned v = .returned v' ∧ R p σ' ∧ Store (cx w ι S σ.length) ι' S' σ' w' ∧ VRel σ'.length ι' S' w' v' p :=
    ⟨v, hrun, v, p2, σ2, ι3, S2, rfl, hR, hst, hvp2⟩
  cases e with
  | normal => exact ⟨hr2.defers, hpost⟩
  | ret => exact ⟨hr2.defers, hpost⟩
  | _ => exact he.elim

theorem fn_of {f : FuncId} {fn : Func} {code : Code} {args : List PV} {r : PV} (hf : P.funcs[f]? = some fn) (hb : fn.body = some code)
    (h : AWp P code (entry fn args []) fun e s' => RetOk e ∧ FinF P fn.results.toList r s') : Fn P f args r :=
  fng_of hf hb (awp_mono h fun e s' ⟨he, s2, h1, h2, h3, h4⟩ => ⟨he, s2, r, r, [], [], h1, h2, (ren_lt0 _ _ h3).symm, h3, rfl, by simp [h4], by simp [h4], List.nodup_nil, trivial, rfl, rfl⟩)

theorem fn_go {f : FuncId} {fn : Func} {code : Code} {args : List PV} {r : PV} (hf : P.funcs[f]? = some fn) (hb : fn.body = some code)
    (h : @gC (entry fn args []) ⟨P, code, fun e s' => RetOk e ∧ FinF P fn.results.toList r s'⟩) : Fn P f args r := fn_of hf hb (awp_go h)

/-- A call of a function of values. -/
theorem ops_fn {ops : Array Oper} {rest : List Oper} {o : Oper} {s : St} {Q : St → Prop} {f : Operand} {args : Array Operand} {ts : Array TypeId} {g : FuncId} {caps ps : List PV} {r : PV} {args' : List PV}
    (hc : Fn P g args' r) (ho : o.op = .call { callee := .value f, args := args, argTypes := ts }) (hcal : calleePV s f = some (g, caps)) (hargs : opds s args.toList = some ps) (hw : wantedA s ops o = some true)
    (he : enterable P g = true) (hd : dstOk o.dst s.N = true) (hren : ps ++ caps = args') (hlt : ltL 0 args' = true) (hlr : r.lt 0 = true)
    (h : @gOps (s.put o.dst r) ⟨P, ops, rest, Q⟩) : OpsOk P ops (o :: rest) s Q :=
  ops_call (th := []) (σc := []) hw ho hcal hargs he hc rfl List.nodup_nil (by rw [renL_lt0 _ _ hlt]; exact hren) hlt (by simp) hd fun p σ' hR => by
    obtain ⟨rfl, rfl⟩ := hR
    rw [ren_lt0 _ _ hlr]
    have : merge s.σ [] [] = s.σ := by simp [merge, setAll]
    rw [this]
    exact ops_go h
end

end Go.Proofs.YtidhdlhblhbahaaGreat.Am

/- The machine of values: from a contract to a law's call. -/
set_option linter.unusedVariables false
set_option linter.unusedSimpArgs false
namespace Go.Proofs.YtidhdlhblhbahaaGreat.Am
open Go Go.RowKit

theorem fn_law {P : Program} {f : FuncId} {args : List PV} (h : Fn P f args (.k (.bool true))) {w : World} {vals : List Value} (hl : vals.length = args.length)
    (hv : ∀ (j : Nat) (p : PV), args[j]? = some p → ∃ v, vals[j]? = some v ∧ IRel (fun b => b < w.heap.size) w v p) :
    Calls P f vals.toArray w fun e w' => e = .returned (.bool true) ∧ Below w.heap.size w w' := by
  have hst : Store (cx w (fun _ => none) (fun b => b < w.heap.size) ([] : List (List PV)).length) (fun _ => none) (fun b => b < w.heap.size) (([] : List (List PV)).map some) w :=
    ⟨rfl, rfl, rfl, Nat.le_refl _, fun _ _ _ => rfl, fun _ _ h => h, fun i cs hi => by simp [box] at hi, fun i cs b hi => by simp [box] at hi, fun i cs b hi => by simp [box] at hi, fun i j ci cj b hi => by simp [box] at hi, fun _ h => h, fun _ h => h, fun _ h => .inl h, by simp [cx], fun _ _ => rfl⟩
  refine (h _ _ w vals hst hl (fun j p hj => by obtain ⟨v, h1, h2⟩ := hv j p hj; exact ⟨v, h1, .imm h2⟩)).mono ?_
  rintro e w' ⟨v, p, σ', ι', S', rfl, ⟨rfl, rfl⟩, hst', hvp⟩
  refine ⟨by rw [hvp.k_inv.1], hst'.os, hst'.tape, hst'.output, hst'.size, fun k hk => hst'.old k hk (fun ⟨i, hi, _⟩ => by simp at hi)⟩

/-- A slice of whole numbers that came in. -/
theorem ints_rel {w : World} {k : IntKind} {a : Option Addr} {len cap : Nat} {z : List Int}
    (h : (a = none ∧ len = 0 ∧ cap = 0 ∧ z = []) ∨ ∃ x : Addr, a = some x ∧ len ≤ cap ∧ cap ≤ maxLen ∧ z.length = cap ∧ (∀ i, i < z.length → w.cell? (x.add i) = some (.int k (z.getD i 0))) ∧ ∀ n ∈ z, (Lit.int k n).wf = true) :
    IRel (fun b => b < w.heap.size) w (.slice a len cap) (.sl 1 ((z.take len).map fun x => [.k (.int k x)])) ∧ (z.take len).length = len ∧ ∀ n ∈ z.take len, (Lit.int k n).wf = true := by
  rcases h with ⟨rfl, rfl, rfl, rfl⟩ | ⟨x, rfl, h1, h2, h3, h4, h5⟩
  · exact ⟨.nil_sl, rfl, by simp⟩
  · have hlen : (z.take len).length = len := by simp; omega
    refine ⟨.sl (fun j => .int k (z.getD j 0)) (by simp; omega) h1 h2 (fun r hr => ?_) (fun r hr p hp => ?_) (fun h => by simp at h) (fun hn => ?_) (fun j p hj => ?_), hlen, fun n hn => h5 n (List.mem_of_mem_take hn)⟩
    · simp only [List.mem_map] at hr; obtain ⟨y, _, rfl⟩ := hr; rfl
    · simp only [List.mem_map] at hr; obtain ⟨y, _, rfl⟩ := hr; simp at hp; subst hp; rfl
    · have h0 := h4 0 (by omega)
      have hx0 : x.add 0 = x := by simp [Addr.add]
      rw [hx0] at h0
      have hsp : x.spot = none := by
        cases hs : x.spot with
        | none => rfl
        | some q => simp [World.cell?, hs] at h0; split at h0 <;> simp at h0
      obtain ⟨b, o, sp⟩ := x
      simp at hsp; subst hsp
      refine ⟨b, o, rfl, World.block_lt_of_cell? w _ h0, fun j hj => ?_⟩
      have := h4 j (by omega)
      rwa [add_at] at this
    · have e : ((z.take len).map fun x => [PV.k (.int k x)]).flatten = (z.take len).map fun x => PV.k (.int k x) := by
        generalize z.take len = l
        induction l with
        | nil => rfl
        | cons y l ih => simp [ih]
      rw [e] at hj
      simp only [List.getElem?_map, Option.map_eq_some_iff] at hj
      obtain ⟨y, hy, rfl⟩ := hj
      have hjl := (List.getElem?_eq_some_iff.1 hy).1
      rw [hlen] at hjl
      rw [List.getElem?_take_of_lt hjl] at hy
      have : z.getD j 0 = y := by simp [List.getD, hy]
      rw [this]
      exact .k rfl

end Go.Proofs.YtidhdlhblhbahaaGreat.Am

/- The machine of values: what simp unfolds when it runs code. -/
namespace Go.Proofs.YtidhdlhblhbahaaGreat.Am
open Go Go.RowKit
/-- A fact that simp doesn't look into. -/
structure Asd (p : Prop) : Prop where
  out : p
abbrev kI (x : Int) : PV := .k (.int .i64 x)
abbrev kB (b : Bool) : PV := .k (.bool b)
abbrev kS (s : ByteArray) : PV := .k (.string s)
abbrev kNil : PV := .k (.slice none 0 0)
/-- A slice of ints. -/
def slI (l : List Int) : PV := .sl 1 (l.map fun x => [kI x])
attribute [simp] brk_some brk_none brkB_true brkB_false brkB_none wantedD gOps_nil gOps_cons condB gC_skip gC_seq gC_region gC_draw gC_cond gC_block gC_exit gC_ret gC_loop gC_rangeFunc entry entryT wantedA oneOp pureVal memVal storeVal opd opds opdI opdIO look constPV scal St.put dstOk binK builtinPV fieldAtPV loadPV partPV box splice RetOk resPV resOne PV.lt ltL PV.ren renL EntT EntB appendPV appendCore partsPV buildPV fillPV PV.frz frzL St.frz calleePV thF merge setAll binAgg binPtr eqGo scalEq dstPV copyPV clearPV appendAny appendC putPV mapVal mapBox lookPV putMap delMap okPV keyAt
@[simp] theorem one_k (v : Value) : PV.one (PV.k v) = true := (rfl)
@[simp] theorem isTup_k (v : Value) : PV.isTup (PV.k v) = false := (rfl)
@[simp] theorem immB_k (v : Value) : PV.immB (PV.k v) = true := (rfl)
@[simp] theorem pcells_k (v : Value) : pcells (PV.k v) = [(PV.k v)] := (rfl)
@[simp] theorem one_sl (z : Nat) (rows : List (List PV)) : PV.one (PV.sl z rows) = true := (rfl)
@[simp] theorem isTup_sl (z : Nat) (rows : List (List PV)) : PV.isTup (PV.sl z rows) = false := (rfl)
@[simp] theorem immB_sl (z : Nat) (rows : List (List PV)) : PV.immB (PV.sl z rows) = true := (rfl)
@[simp] theorem pcells_sl (z : Nat) (rows : List (List PV)) : pcells (PV.sl z rows) = [(PV.sl z rows)] := (rfl)
@[simp] theorem one_osl (b z off n : Nat) : PV.one (PV.osl b z off n) = true := (rfl)
@[simp] theorem isTup_osl (b z off n : Nat) : PV.isTup (PV.osl b z off n) = false := (rfl)
@[simp] theorem immB_osl (b z off n : Nat) : PV.immB (PV.osl b z off n) = false := (rfl)
@[simp] theorem pcells_osl (b z off n : Nat) : pcells (PV.osl b z off n) = [(PV.osl b z off n)] := (rfl)
@[simp] theorem one_osc (b z off n m : Nat) : PV.one (PV.osc b z off n m) = true := (rfl)
@[simp] theorem isTup_osc (b z off n m : Nat) : PV.isTup (PV.osc b z off n m) = false := (rfl)
@[simp] theorem immB_osc (b z off n m : Nat) : PV.immB (PV.osc b z off n m) = false := (rfl)
@[simp] theorem pcells_osc (b z off n m : Nat) : pcells (PV.osc b z off n m) = [(PV.osc b z off n m)] := (rfl)
@[simp] theorem one_ptr (b off : Nat) : PV.one (PV.ptr b off) = true := (rfl)
@[simp] theorem isTup_ptr (b off : Nat) : PV.isTup (PV.ptr b off) = false := (rfl)
@[simp] theorem immB_ptr (b off : Nat) : PV.immB (PV.ptr b off) = false := (rfl)
@[simp] theorem pcells_ptr (b off : Nat) : pcells (PV.ptr b off) = [(PV.ptr b off)] := (rfl)
@[simp] theorem one_eptr (cs : List PV) : PV.one (PV.eptr cs) = true := (rfl)
@[simp] theorem isTup_eptr (cs : List PV) : PV.isTup (PV.eptr cs) = false := (rfl)
@[simp] theorem immB_eptr (cs : List PV) : PV.immB (PV.eptr cs) = true := (rfl)
@[simp] theorem pcells_eptr (cs : List PV) : pcells (PV.eptr cs) = [(PV.eptr cs)] := (rfl)
@[simp] theorem one_clo (fn : Go.Fn) (caps : List PV) : PV.one (PV.clo fn caps) = true := (rfl)
@[simp] theorem isTup_clo (fn : Go.Fn) (caps : List PV) : PV.isTup (PV.clo fn caps) = false := (rfl)
@[simp] theorem immB_clo (fn : Go.Fn) (caps : List PV) : PV.immB (PV.clo fn caps) = caps.all PV.imm0 := (rfl)
@[simp] theorem imm0_k (v : Value) : PV.imm0 (PV.k v) = true := (rfl)
@[simp] theorem imm0_sl (z : Nat) (rows : List (List PV)) : PV.imm0 (PV.sl z rows) = true := (rfl)
@[simp] theorem imm0_eptr (cs : List PV) : PV.imm0 (PV.eptr cs) = true := (rfl)
@[simp] theorem imm0_ptr (b off : Nat) : PV.imm0 (PV.ptr b off) = false := (rfl)
@[simp] theorem imm0_osl (b z off n : Nat) : PV.imm0 (PV.osl b z off n) = false := (rfl)
@[simp] theorem imm0_clo (fn : Go.Fn) (caps : List PV) : PV.imm0 (PV.clo fn caps) = false := (rfl)
@[simp] theorem one_mref (b : Nat) : PV.one (PV.mref b) = true := (rfl)
@[simp] theorem isTup_mref (b : Nat) : PV.isTup (PV.mref b) = false := (rfl)
@[simp] theorem immB_mref (b : Nat) : PV.immB (PV.mref b) = false := (rfl)
@[simp] theorem pcells_mref (b : Nat) : pcells (PV.mref b) = [(PV.mref b)] := (rfl)
@[simp] theorem pcells_clo (fn : Go.Fn) (caps : List PV) : pcells (PV.clo fn caps) = [(PV.clo fn caps)] := (rfl)
@[simp] theorem one_agg (cs : List PV) : PV.one (PV.agg cs) = false := (rfl)
@[simp] theorem isTup_agg (cs : List PV) : PV.isTup (PV.agg cs) = false := (rfl)
@[simp] theorem immB_agg (cs : List PV) : PV.immB (PV.agg cs) = false := (rfl)
@[simp] theorem pcells_agg (cs : List PV) : pcells (PV.agg cs) = cs := (rfl)
@[simp] theorem one_tup (cs : List PV) : PV.one (PV.tup cs) = false := (rfl)
@[simp] theorem isTup_tup (cs : List PV) : PV.isTup (PV.tup cs) = true := (rfl)
@[simp] theorem immB_tup (cs : List PV) : PV.immB (PV.tup cs) = false := (rfl)
@[simp] theorem pcells_tup (cs : List PV) : pcells (PV.tup cs) = [(PV.tup cs)] := (rfl)
@[simp] theorem pcells_slI (l : List Int) : pcells (slI l) = [slI l] := (rfl)
section
variable (P : Program) (σ : Boxes) (t : TypeId)
@[simp] theorem lenPV_sl (z : Nat) (rows : List (List PV)) : lenPV P t (.sl z rows) = if (elemOf P t).isSome then some (.k (.int .i64 rows.length)) else none := (rfl)
@[simp] theorem lenPV_osl (b z off n : Nat) : lenPV P t (.osl b z off n) = if (elemOf P t).isSome then some (.k (.int .i64 n)) else none := (rfl)
@[simp] theorem lenPV_osc (b z off n m : Nat) : lenPV P t (.osc b z off n m) = if (elemOf P t).isSome then some (.k (.int .i64 n)) else none := (rfl)
@[simp] theorem lenPV_str (s : ByteArray) : lenPV P t (.k (.string s)) = if isStr P t then some (.k (.int .i64 s.size)) else none := (rfl)
@[simp] theorem lenPV_nil : lenPV P t (.k (.slice none 0 0)) = if (elemOf P t).isSome then some (.k (.int .i64 0)) else none := (rfl)
@[simp] theorem capPV_osc (b z off n m : Nat) : capPV P t (.osc b z off n m) = if (elemOf P t).isSome then some (.k (.int .i64 m)) else none := (rfl)
@[simp] theorem capPV_nil : capPV P t (.k (.slice none 0 0)) = if (elemOf P t).isSome then some (.k (.int .i64 0)) else none := (rfl)
@[simp] theorem indexAtPV_sl (k : Nat) (rows : List (List PV)) (i : Int) : indexAtPV P t (.sl k rows) i = match elemOf P t with | some e => (match szOf P e with | some z => if 0 ≤ i ∧ k = z then (rows[i.toNat]?).map .eptr else none | none => none) | none => none := (rfl)
@[simp] theorem indexAtPV_osl (b k off len : Nat) (i : Int) : indexAtPV P t (.osl b k off len) i = match elemOf P t with | some e => (match szOf P e with | some z => if 0 ≤ i ∧ i < len ∧ k = z then some (.ptr b (off + i.toNat * k)) else none | none => none) | none => none := (rfl)
@[simp] theorem indexAtPV_osc (b k off len cap : Nat) (i : Int) : indexAtPV P t (.osc b k off len cap) i = match elemOf P t with | some e => (match szOf P e with | some z => if 0 ≤ i ∧ i < len ∧ k = z then some (.ptr b (off + i.toNat * k)) else none | none => none) | none => none := (rfl)
@[simp] theorem slicePV_str (s : ByteArray) (lo hi mx : Option Int) : slicePV P t (.k (.string s)) lo hi mx =
    if isStr P t = true ∧ mx = none ∧ 0 ≤ lo.getD 0 ∧ lo.getD 0 ≤ hi.getD s.size ∧ hi.getD s.size ≤ s.size then some (.k (.string (s.extract (lo.getD 0).toNat (hi.getD s.size).toNat))) else none := (rfl)
@[simp] theorem slicePV_sl (z : Nat) (rows : List (List PV)) (lo hi mx : Option Int) : slicePV P t (.sl z rows) lo hi mx =
    match elemOf P t with
    | some e =>
      if szOf P e = some z ∧ 0 ≤ lo.getD 0 ∧ lo.getD 0 ≤ hi.getD rows.length ∧ hi.getD rows.length ≤ mx.getD rows.length ∧ mx.getD rows.length ≤ rows.length ∧ (mx = none ∨ hi ≠ none) then
        some (.sl z ((rows.take (hi.getD rows.length).toNat).drop (lo.getD 0).toNat)) else none
    | none => none := (rfl)
@[simp] theorem slicePV_osl (b z off len : Nat) (lo hi mx : Option Int) : slicePV P t (.osl b z off len) lo hi mx =
    match elemOf P t with
    | some e =>
      if szOf P e = some z ∧ 0 ≤ lo.getD 0 ∧ lo.getD 0 ≤ hi.getD len ∧ hi.getD len ≤ mx.getD len ∧ mx.getD len ≤ len ∧ (mx = none ∨ hi ≠ none) then
        some (.osl b z (off + (lo.getD 0).toNat * z) ((hi.getD len).toNat - (lo.getD 0).toNat)) else none
    | none => none := (rfl)
@[simp] theorem slicePV_osc (b z off len cap : Nat) (lo hi mx : Option Int) : slicePV P t (.osc b z off len cap) lo hi mx =
    match elemOf P t with
    | some e =>
      if szOf P e = some z ∧ 0 ≤ lo.getD 0 ∧ lo.getD 0 ≤ hi.getD len ∧ hi.getD len ≤ mx.getD cap ∧ mx.getD cap ≤ cap ∧ (mx = none ∨ hi ≠ none) then
        some (.osc b z (off + (lo.getD 0).toNat * z) ((hi.getD len).toNat - (lo.getD 0).toNat) ((mx.getD cap).toNat - (lo.getD 0).toNat)) else none
    | none => none := (rfl)
@[simp] theorem slicePV_nil (lo hi mx : Option Int) : slicePV P t (.k (.slice none 0 0)) lo hi mx =
    match elemOf P t with
    | some e =>
      if (szOf P e).isSome = true ∧ 0 = lo.getD 0 ∧ 0 = hi.getD 0 ∧ 0 = mx.getD 0 ∧ (mx = none ∨ hi ≠ none) then some (.k (.slice none 0 0)) else none
    | none => none := (rfl)
@[simp] theorem srcPV_sl (z k : Nat) (rows : List (List PV)) : srcPV P σ z t (.sl k rows) = if k = z ∧ (elemOf P t).isSome = true then some (rows.length, rows.flatten) else none := (rfl)
@[simp] theorem srcPV_osl (z b k off m : Nat) : srcPV P σ z t (.osl b k off m) = match box σ b with
    | some cs => if k = z ∧ (elemOf P t).isSome = true ∧ off + m * z ≤ cs.length then some (m, (cs.drop off).take (m * z)) else none
    | none => none := (rfl)
@[simp] theorem srcPV_osc (z b k off m cap : Nat) : srcPV P σ z t (.osc b k off m cap) = match box σ b with
    | some cs => if k = z ∧ (elemOf P t).isSome = true ∧ off + m * z ≤ cs.length then some (m, (cs.drop off).take (m * z)) else none
    | none => none := (rfl)
@[simp] theorem cutPV_sl (l z : Nat) (rows : List (List PV)) : cutPV l (.sl z rows) = .sl z rows := (rfl)
@[simp] theorem cutPV_osl (l b k off m : Nat) : cutPV l (.osl b k off m) = .osl b k off m := (rfl)
@[simp] theorem cutPV_osc (l b k off m cap : Nat) : cutPV l (.osc b k off m cap) = .osc b k off (min m l) cap := (rfl)
@[simp] theorem cutPV_k (l : Nat) (v : Value) : cutPV l (.k v) = .k v := (rfl)
@[simp] theorem srcPV_nil (z : Nat) : srcPV P σ z t (.k (.slice none 0 0)) = if (elemOf P t).isSome = true then some (0, []) else none := (rfl)
@[simp] theorem srcPV_str (z : Nat) (s : ByteArray) : srcPV P σ z t (.k (.string s)) = if isStr P t = true ∧ z = 1 then some (s.size, s.data.toList.map fun c => .k (.int .u8 c.toNat)) else none := (rfl)
@[simp] theorem srcPV_int (z : Nat) (k : IntKind) (n : Int) : srcPV P σ z t (.k (.int k n)) = none := (rfl)
end
@[simp low] theorem eqPV_k (P : Program) (d : Nat) (t : TypeId) (u v : Value) : eqPV P (d + 1) t (.k u) (.k v) = scalEq P t u v := (rfl)
@[simp low] theorem eqPV_agg (P : Program) (d : Nat) (t : TypeId) (xs ys : List PV) : eqPV P (d + 1) t (.agg xs) (.agg ys) = match eqfOf P t with | some fs => eqGo P (eqPV P d) fs xs ys | none => none := (rfl)
attribute [simp] thenA_normal thenA_ret thenA_exit inBlockA_normal inBlockA_ret inBlockA_exit
theorem keyAt_ints (n : Int) : ∀ l : List Int, keyAt .i64 n (l.map kI) = some (l.findIdx? fun x => decide (n = x))
  | [] => rfl
  | x :: l => by
    simp only [List.map_cons, keyAt, if_true, keyAt_ints n l, List.findIdx?_cons]
    by_cases h : n = x
    · simp [h]
    · simp [h]
end Go.Proofs.YtidhdlhblhbahaaGreat.Am

/- The machine of values: regions whose operations go in any order. -/
set_option linter.unusedVariables false
set_option linter.unusedSimpArgs false
namespace Go.Proofs.YtidhdlhblhbahaaGreat.Am
open Go Go.RowKit

/-- The operation makes p, and the boxes σ'. -/
def Does (P : Program) (o : Oper) (s : St) (σ' : Boxes) (p : PV) : Prop :=
  ∀ c ι S a w, Rel c ι S s a w → ∀ (K : Act → World → Prop) QQ, (∀ ι' S' v w', Store c ι' S' σ' w' → (∀ v p, VRel s.σ.length ι S w v p → VRel σ'.length ι' S' w' v p) →
    VRel σ'.length ι' S' w' v p → (∀ b, b < s.σ.length → ι' b = ι b) → K (a.put o.dst v) w') → o.wpIn (wideR c.ro) 0 P a w K QQ

def StepD (P : Program) (ops : Array Oper) (o : Oper) (s : St) (σ' : Boxes) (p : PV) : Prop :=
  (wantedA s ops o = some true ∧ Does P o s σ' p) ∨ (wantedA s ops o = some false ∧ σ' = s.σ ∧ p = .tup [])

theorem does_one {P : Program} {o : Oper} {s : St} {x : Boxes × PV} (h : oneOp P s o.op = some x) : Does P o s x.1 x.2 := by
  intro c ι S a w hr K QQ hK
  unfold oneOp at h
  split at h
  · rename_i q hq
    simp only [Option.some.injEq] at h; subst h
    obtain ⟨v, hv, hp'⟩ := pure_rel hr hq
    refine wpIn_val hv ?_
    exact hK ι S _ w hr.st (fun _ _ h => h) hp' (fun _ _ => rfl)
  · split at h
    · rename_i x hx
      simp only [Option.some.injEq] at h; subst h
      obtain ⟨v, w', ι', hv, h1, h2, h3, h4⟩ := mem_rel (σ' := x.1) (p := x.2) hr hx
      refine wpIn_val hv ?_
      exact hK ι' S _ w' h1 h2 h3 h4
    · split at h
      · rename_i σ'' hp
        simp only [Option.some.injEq] at h; subst h
        unfold storeVal at hp
        split at hp
        · rename_i t ad x hop
          split at hp
          · rename_i z b off p hz had hx
            split at hp
            · rename_i cs hb
              split at hp
              · rename_i hc
                simp only [Option.some.injEq] at hp; subst hp
                obtain ⟨w', hrun, h1, h2⟩ := storeVar_rel (P := P) (s := s) hr.st hz hb (opd_rel hr had) (opd_rel hr hx) hc.1 hc.2.1 hc.2.2
                have : (execOp a.eval o).run P w = .ok .skip w' := by
                  unfold execOp
                  simp only [hop, Sem.run_bind, hrun, Result.andThen_ok, Sem.run_pure]
                refine wpIn_skp this ?_
                exact hK ι S _ w' h1 (fun v p hv => by rw [List.length_set]; exact h2 _ v p hv) (.imm (IRel.und _ _)) (fun _ _ => rfl)
              · simp at hp
            · simp at hp
          · simp at hp
        · simp at hp
      · obtain ⟨v, w', ι', hrun, h1, h2, h3, h4⟩ := map_rel (σ' := x.1) (p := x.2) hr h
        rcases hrun with hrun | ⟨hrun, rfl⟩
        · exact wpIn_val hrun (hK ι' S _ w' h1 h2 h3 h4)
        · exact wpIn_skp hrun (hK ι' S _ w' h1 h2 h3 h4)

theorem does_fn {P : Program} {o : Oper} {s : St} {f : Operand} {args : Array Operand} {ts : Array TypeId} {g : FuncId} {caps ps : List PV} {r : PV} {args' : List PV}
    (hc : Fn P g args' r) (ho : o.op = .call { callee := .value f, args := args, argTypes := ts }) (hcal : calleePV s f = some (g, caps)) (hargs : opds s args.toList = some ps)
    (he : enterable P g = true) (hren : ps ++ caps = args') (hlt : ltL 0 args' = true) (hlr : r.lt 0 = true) : Does P o s s.σ r := by
  intro c ι S a w hr K QQ hK
  obtain ⟨vs, hf, hvs, hcaps⟩ := callee_rel hr hcal
  obtain ⟨hal, harel⟩ := opds_rel hr hargs
  refine wpIn_ent (exec_call ho hf he) ?_
  have hσ := hr.st
  have hall : ∀ (j : Nat) (p : PV), args'[j]? = some p → ∃ v, ((args.toList.map a.eval) ++ vs.toList)[j]? = some v ∧ VRel 0 ι S w v p := fun j p hj => by
    have hj2 : (ps ++ caps)[j]? = some p := by rw [hren]; exact hj
    have hpl : p.lt 0 = true := by rw [ltL_all] at hlt; exact List.all_eq_true.1 hlt p (List.mem_of_getElem? hj)
    have hv : ∃ v, ((args.toList.map a.eval) ++ vs.toList)[j]? = some v ∧ VRel s.σ.length ι S w v p := by
      rcases Nat.lt_or_ge j ps.length with h1 | h1
      · rw [List.getElem?_append_left h1] at hj2
        rw [List.getElem?_append_left (by rw [hal]; exact h1)]
        exact harel j _ hj2
      · rw [List.getElem?_append_right h1] at hj2
        rw [List.getElem?_append_right (by rw [hal]; exact h1), hal]
        obtain ⟨v, hv1, hv2⟩ := hcaps _ _ hj2
        exact ⟨v, by simpa using hv1, hv2⟩
    obtain ⟨v, hv1, hv2⟩ := hv
    exact ⟨v, hv1, VRel.unren (m := s.σ.length) (ι' := ι) (θ := fun b => b) (fun b _ => rfl) p v hpl (by rw [ren_lt0 _ _ hpl]; exact hv2)⟩
  have hpre : Store (cx w ι S ([] : List (List PV)).length) ι S (([] : List (List PV)).map some) w :=
    ⟨rfl, rfl, rfl, Nat.le_refl _, fun _ _ _ => rfl, fun _ _ h => h, fun i ci hi => by simp [box] at hi, fun i ci blk hi hb => by simp [box] at hi, fun i ci blk hi hb => by simp [box] at hi,
      fun i j ci cj blk hi hj hbi hbj => by simp [box] at hi, hσ.Slt, fun _ h => h, fun _ h => .inl h, by simp [cx], fun _ _ => rfl⟩
  have hlen : ((args.toList.map a.eval) ++ vs.toList).length = args'.length := by
    have := congrArg List.length hren
    simp at this hal ⊢
    omega
  have hcall := hc _ S w ((args.toList.map a.eval) ++ vs.toList) hpre hlen hall
  have hargs2 : ((args.toList.map a.eval) ++ vs.toList).toArray = args.map a.eval ++ vs := by apply Array.ext'; simp
  rw [hargs2] at hcall
  refine hcall.mono ?_
  rintro e w' ⟨v, p, σ', ι', S', rfl, ⟨rfl, rfl⟩, hst, hvp⟩
  have hst' : Store (cx w (fun i => ι (thF [] s.σ.length i)) S ([] : List Nat).length) ι' S' [] w' := by
    refine ⟨hst.os, hst.tape, hst.output, hst.size, fun b hb hm => hst.old b hb (fun ⟨i, hi, _⟩ => by simp at hi), hst.shape, hst.boxes, hst.notS, fun i ci blk hi hb => by simp [box] at hi, hst.inj, hst.Slt, hst.S0, fun b hb => ?_, hst.klen, fun i hi => by simp [cx] at hi⟩
    rcases hst.Snew b hb with h | ⟨i, hi, _⟩ | h
    · exact .inl h
    · simp at hi
    · exact .inr (.inr h)
  obtain ⟨ιn, k1, k2, k3, k4⟩ := call_back (th := []) (σc := []) hr rfl List.nodup_nil (fun i t cs h1 h2 => by simp at h1) hst'
  have hm : merge s.σ [] [] = s.σ := by simp [merge, setAll]
  rw [hm] at k1 k2 k3
  have := k3 v p hvp
  rw [ren_lt0 _ _ hlr] at this
  exact hK ιn S' _ w' k1 k2 this k4

/-! ### The state when some of the operations are done -/
def TA (A : Nat → Bool) : Nat → List Oper → List PV → List (Nat × PV) → List (Nat × PV)
  | i, o :: l, p :: ps, T => TA A (i + 1) l ps (match o.dst with | some d => if A i then (d, p) :: T else T | none => T)
  | _, _, _, T => T

theorem look_TA_congr {A A' : Nat → Bool} {t : Nat} : ∀ (l : List Oper) (ps : List PV) (i : Nat) (T T' : List (Nat × PV)), look T t = look T' t →
    (∀ (j : Nat) (o : Oper), l[j]? = some o → o.dst = some t → A (i + j) = A' (i + j)) → look (TA A i l ps T) t = look (TA A' i l ps T') t
  | [], ps, i, T, T', h, _ => by simpa [TA] using h
  | o :: l, [], i, T, T', h, _ => by simpa [TA] using h
  | o :: l, p :: ps, i, T, T', h, hA => by
    unfold TA
    refine look_TA_congr l ps (i + 1) _ _ ?_ fun j o' hj hd => by
      have := hA (j + 1) o' (by simpa using hj) hd
      rwa [show i + (j + 1) = i + 1 + j by omega] at this
    split
    · rename_i d hd
      by_cases e : t = d
      · subst e
        have := hA 0 o (by simp) hd
        simp at this
        rw [this]
        split <;> simp [look, h]
      · split <;> split <;> simp [look, e, h]
    · exact h

theorem look_TA_none {A : Nat → Bool} {t : Nat} : ∀ (l : List Oper) (ps : List PV) (i : Nat) (T : List (Nat × PV)),
    (∀ (j : Nat) (o : Oper), l[j]? = some o → o.dst ≠ some t) → look (TA A i l ps T) t = look T t
  | [], ps, i, T, _ => by simp [TA]
  | o :: l, [], i, T, _ => by simp [TA]
  | o :: l, p :: ps, i, T, hA => by
    unfold TA
    rw [look_TA_none l ps (i + 1) _ fun j o' hj => hA (j + 1) o' (by simpa using hj)]
    split
    · rename_i d hd
      have : t ≠ d := fun e => hA 0 o (by simp) (by rw [hd, e])
      split <;> simp [look, this]
    · rfl

theorem look_TA_at {A : Nat → Bool} {t : Nat} {p : PV} {o : Oper} : ∀ (l : List Oper) (ps : List PV) (i : Nat) (T : List (Nat × PV)) (j : Nat), l[j]? = some o → ps[j]? = some p → o.dst = some t → A (i + j) = true →
    (∀ (j' : Nat) (o' : Oper), l[j']? = some o' → j' ≠ j → o'.dst ≠ some t) → look (TA A i l ps T) t = some p
  | [], ps, i, T, j, h, _, _, _, _ => by simp at h
  | o' :: l, [], i, T, j, _, h, _, _, _ => by simp at h
  | o' :: l, p' :: ps, i, T, j, ho, hp, hd, hA, hno => by
    unfold TA
    cases j with
    | zero =>
      simp at ho hp
      subst ho hp
      rw [look_TA_none l ps (i + 1) _ fun j o' hj => hno (j + 1) o' (by simpa using hj) (by omega)]
      rw [hd]
      simp at hA
      simp [hA, look]
    | succ j =>
      exact look_TA_at l ps (i + 1) _ j (by simpa using ho) (by simpa using hp) hd (by rw [show i + 1 + j = i + (j + 1) by omega]; exact hA) fun j' o' hj hne => hno (j' + 1) o' (by simpa using hj) (by omega)

theorem TA_none {A : Nat → Bool} : ∀ (l : List Oper) (ps : List PV) (i : Nat) (T : List (Nat × PV)), (∀ j, A j = false) → TA A i l ps T = T
  | [], ps, i, T, _ => by simp [TA]
  | o :: l, [], i, T, _ => by simp [TA]
  | o :: l, p :: ps, i, T, h => by
    unfold TA
    rw [TA_none l ps (i + 1) _ h]
    split <;> simp [h]

/-! ### What binds the order -/
def edgesOf (o : Oper) : List Nat := (o.after.toList.filter (Region.binds .any)).map (·.on)

def clos : List Oper → List (List Nat) → List (List Nat)
  | [], acc => acc
  | o :: l, acc => clos l (acc ++ [(edgesOf o ++ (edgesOf o).flatMap fun j => acc.getD j []).eraseDups])

def clsOf : Op → Nat
  | .alloc .. | .box .. | .buildSlice .. | .makeSlice .. | .store .. => 1
  | .call c => match c.callee with | .builtin b => if b = .append ∨ b = .copy ∨ b = .clear then 1 else 0 | _ => 2
  | _ => 0

def drawOk (l : List Oper) (R : List (List Nat)) : Bool :=
  (List.range l.length).all fun i => match l[i]? with
    | none => true
    | some o => (edgesOf o).all (· < i) && (R.getD i []).all (fun j => (edgesOf o).contains j || (edgesOf o).any fun e => (R.getD e []).contains j) &&
      (o.looksAt l.toArray).all (fun t => (List.range l.length).all fun j => match l[j]? with | some o' => decide (o'.dst ≠ some t) || (R.getD i []).contains j || (R.getD j []).contains i | none => true) &&
      ((List.range l.length).all fun j => decide (j = i) || match l[j]? with | some o' => o.dst.isNone || decide (o'.dst ≠ o.dst) | none => true)

/-- .. and every reader behind the writer. -/
def readOk (l : List Oper) (R : List (List Nat)) : Bool :=
  (List.range l.length).all fun i => match l[i]? with
    | none => true
    | some o => (o.looksAt l.toArray).all (fun t => (List.range l.length).all fun j => match l[j]? with | some o' => decide (o'.dst ≠ some t) || (R.getD i []).contains j | none => true)
theorem readOk_spec {l : List Oper} {R : List (List Nat)} (h : readOk l R = true) {i : Nat} {o : Oper} (ho : l[i]? = some o) :
    ∀ t ∈ o.looksAt l.toArray, ∀ j o', l[j]? = some o' → o'.dst = some t → j ∈ R.getD i [] := by
  have hi := (List.getElem?_eq_some_iff.1 ho).1
  have h2 := List.all_eq_true.1 h i (by simpa using hi)
  rw [ho] at h2
  simp only [List.all_eq_true, List.mem_range] at h2
  intro t ht j o' hj hd
  have := h2 t ht j (List.getElem?_eq_some_iff.1 hj).1
  rw [hj] at this
  simp only [Bool.or_eq_true, decide_eq_true_eq, List.contains_iff_mem] at this
  exact this.resolve_left (fun g => g hd)

def wrAt (wc : List Nat) (l : List Oper) (j : Nat) : Bool := match l[j]? with | some o => decide (clsOf o.op = 1) || wc.contains j | none => false
def loOf (wc : List Nat) (l : List Oper) (R : List (List Nat)) (i : Nat) : Nat := (List.range l.length).countP fun j => wrAt wc l j && (R.getD i []).contains j
def hiOf (wc : List Nat) (l : List Oper) (R : List (List Nat)) (i : Nat) : Nat := (List.range l.length).countP fun j => wrAt wc l j && (decide (j ≠ i) && !(R.getD j []).contains i)
def clsAt (wc : List Nat) (l : List Oper) (i : Nat) : Nat := if wc.contains i then 3 else match l[i]? with | some o => clsOf o.op | none => 0

/-- For each operation what it is (3: a call that writes, as the list wc tells), and how many writes may lie before it. -/
def plan (wc : List Nat) (l : List Oper) : Option (List (Nat × List Nat)) :=
  if drawOk l (clos l []) = true ∧ readOk l (clos l []) = true then
    some ((List.range l.length).map fun i => (clsAt wc l i, (List.range (hiOf wc l (clos l []) i + 1)).filter (loOf wc l (clos l []) i ≤ ·)))
  else none

theorem drawOk_spec {l : List Oper} {R : List (List Nat)} (h : drawOk l R = true) {i : Nat} {o : Oper} (ho : l[i]? = some o) :
    (∀ e ∈ edgesOf o, e < i) ∧ (∀ j ∈ R.getD i [], j ∈ edgesOf o ∨ ∃ e ∈ edgesOf o, j ∈ R.getD e []) ∧
    (∀ t ∈ o.looksAt l.toArray, ∀ j o', l[j]? = some o' → o'.dst = some t → j ∈ R.getD i [] ∨ i ∈ R.getD j []) ∧
    (∀ t, o.dst = some t → ∀ j o', l[j]? = some o' → j ≠ i → o'.dst ≠ some t) := by
  have hi := (List.getElem?_eq_some_iff.1 ho).1
  have h2 := List.all_eq_true.1 h i (by simpa using hi)
  rw [ho] at h2
  simp only [Bool.and_eq_true, List.all_eq_true, decide_eq_true_eq, Bool.or_eq_true, List.contains_iff_mem, List.any_eq_true, List.mem_range] at h2
  obtain ⟨⟨⟨h3, h4⟩, h5⟩, h6⟩ := h2
  refine ⟨h3, fun j hj => h4 j hj, fun t ht j o' hj hd => ?_, fun t ht j o' hj hne hd => ?_⟩
  · have := h5 t ht j (List.getElem?_eq_some_iff.1 hj).1
    rw [hj] at this
    simp only [Bool.or_eq_true, decide_eq_true_eq, List.contains_iff_mem] at this
    rcases this with (g | g) | g
    · exact absurd hd g
    · exact .inl g
    · exact .inr g
  · have := (h6 j (List.getElem?_eq_some_iff.1 hj).1).resolve_left hne
    rw [hj] at this
    simp only [Bool.or_eq_true, decide_eq_true_eq, ht] at this
    rcases this with g | g
    · simp at g
    · exact g hd

theorem clos_in {l : List Oper} {R : List (List Nat)} (h : drawOk l R = true) {A : Nat → Bool} (hA : ∀ i o, l[i]? = some o → A i = true → ∀ e ∈ edgesOf o, A e = true) :
    ∀ (i : Nat) (o : Oper), l[i]? = some o → (∀ e ∈ edgesOf o, A e = true) → ∀ j ∈ R.getD i [], A j = true := by
  intro i
  induction i using Nat.strongRecOn with
  | _ i ih =>
    intro o ho he j hj
    obtain ⟨h1, h2, _, _⟩ := drawOk_spec h ho
    rcases h2 j hj with g | ⟨e, he', g⟩
    · exact he j g
    · have hlt := h1 e he'
      have hil := (List.getElem?_eq_some_iff.1 ho).1
      have hoe : l[e]? = some l[e] := List.getElem?_eq_getElem (by omega)
      exact ih e hlt _ hoe (hA e _ hoe (he e he')) j g

theorem countP_one {f : Nat → Bool} {A : Nat → Bool} {i : Nat} (hA : A i = false) : ∀ (r : List Nat), r.Nodup → i ∈ r →
    r.countP (fun j => f j && (A j || decide (j = i))) = r.countP (fun j => f j && A j) + (if f i = true then 1 else 0)
  | [], _, h => by simp at h
  | x :: r, hn, h => by
    have hn2 := List.nodup_cons.1 hn
    rw [List.countP_cons, List.countP_cons]
    by_cases e : x = i
    · subst e
      have : r.countP (fun j => f j && (A j || decide (j = x))) = r.countP (fun j => f j && A j) := List.countP_congr fun j hj => by
        have : j ≠ x := fun e => hn2.1 (e ▸ hj)
        simp [this]
      rw [this]
      simp [hA]
    · have hm : i ∈ r := by
        rcases List.mem_cons.1 h with h' | h'
        · exact absurd h'.symm e
        · exact h'
      rw [countP_one hA r hn2.2 hm]
      simp [e]
      omega
end Go.Proofs.YtidhdlhblhbahaaGreat.Am

/- The machine of values: the rule for regions whose operations go in any order. -/
set_option linter.unusedVariables false
set_option linter.unusedSimpArgs false
namespace Go.Proofs.YtidhdlhblhbahaaGreat.Am
open Go Go.RowKit

theorem Rel.temps_of {c : Ctx} {ι : Nat → Option Nat} {S : Nat → Prop} {s s' : St} {a : Act} {w : World} (hr : Rel c ι S s a w) (hN : s'.N = s.N) (hσ : s'.σ = s.σ) (hk : s'.k = s.k)
    (h : ∀ t p, look s'.T t = some p → look s.T t = some p) : Rel c ι S s' a w :=
  ⟨by rw [hσ]; exact hr.st, by rw [hk]; exact hr.ck, by rw [hN]; exact hr.tsz, hr.defers, fun t p ht => by rw [hσ]; exact hr.temps t p (h t p ht)⟩

theorem edges_mem {o : Oper} {e : Nat} : e ∈ edgesOf o ↔ ∃ x ∈ o.after, Region.binds .any x = true ∧ x.on = e := by
  unfold edgesOf
  simp only [List.mem_map, List.mem_filter, Array.mem_toList_iff]
  constructor
  · rintro ⟨x, ⟨h1, h2⟩, rfl⟩; exact ⟨x, h1, h2, rfl⟩
  · rintro ⟨x, h1, h2, rfl⟩; exact ⟨x, ⟨h1, h2⟩, rfl⟩

theorem listed_set {listed : Array Bool} {i : Nat} (hi : i < listed.size) : (fun j => (listed.setIfInBounds i true).getD j false) = fun j => listed.getD j false || decide (j = i) := by
  funext j
  by_cases e : j = i
  · subst e
    simp [Array.getD_eq_getD_getElem?, Array.getElem?_setIfInBounds_self_of_lt hi]
  · simp [Array.getD_eq_getD_getElem?, Array.getElem?_setIfInBounds_ne (fun h => e h.symm), e]

theorem awp_drawT {P : Program} (hm : P.follows .mixedOrders = true) {id : Nat} {wc : List Nat} {l : List Oper} {R : List (List Nat)} {s : St} {Q : Exit → St → Prop} {ps : List PV} {σs : Nat → Boxes}
    (hok : drawOk l R = true) (hrd : readOk l R = true) (hσ0 : σs 0 = s.σ) (hlen : ps.length = l.length) (hdst : ∀ o ∈ l, dstOk o.dst s.N = true)
    (H : ∀ i o p, l[i]? = some o → ps[i]? = some p → ∀ m, loOf wc l R i ≤ m → m ≤ hiOf wc l R i →
      ∃ T', (∀ t q, look T' t = some q → t ∈ o.looksAt l.toArray ∧ look (TA (fun _ => true) 0 l ps s.T) t = some q) ∧
        StepD P l.toArray o ⟨s.N, T', σs m, s.k⟩ (σs (m + if wrAt wc l i = true then 1 else 0)) p)
    (hQ : Q .normal ⟨s.N, TA (fun _ => true) 0 l ps s.T, σs ((List.range l.length).countP (wrAt wc l)), s.k⟩) : AWp P (.region id l.toArray true) s Q := by
  intro c ι S a w hr QQ hQQ
  refine wpIn_region_any hm ?_
  have key : ∀ (fuel : Nat) (listed : Array Bool) (a : Act) (w : World) (ι : Nat → Option Nat) (S : Nat → Prop), listed.size = l.length → (List.range l.length).countP (fun j => !listed.getD j false) = fuel →
      (∀ (i : Nat) (o : Oper), l[i]? = some o → listed.getD i false = true → ∀ e ∈ edgesOf o, listed.getD e false = true) →
      Rel c ι S ⟨s.N, TA (fun j => listed.getD j false) 0 l ps s.T, σs ((List.range l.length).countP fun j => wrAt wc l j && listed.getD j false), s.k⟩ a w →
      wpAnyIn (wideR c.ro) 0 P .any l.toArray QQ fuel listed a w := by
    intro fuel
    induction fuel with
    | zero =>
      intro listed a w ι S hsz hcnt hcl hr
      have hall : ∀ i, i < l.length → listed.getD i false = true := fun i hi => by
        have := List.countP_eq_zero.1 hcnt i (by simpa using hi)
        simpa using this
      refine ⟨?_, hQQ .normal ι S ⟨s.N, TA (fun _ => true) 0 l ps s.T, σs ((List.range l.length).countP (wrAt wc l)), s.k⟩ a w (hr.temps_of rfl ?_ rfl ?_) hQ⟩
      · rw [List.eq_nil_iff_forall_not_mem]
        intro j hj
        obtain ⟨h1, o, ho, _⟩ := mem_ready.1 hj
        have hjl : j < l.length := by simpa using (Array.getElem?_eq_some_iff.1 ho).1
        have := hall j hjl
        rw [Array.getD_eq_getD_getElem?, Array.getElem?_eq_getElem (by omega)] at h1 this
        simp at h1 this
        rw [this] at h1; cases h1
      · refine congrArg σs (List.countP_congr fun j hj => ?_)
        simp only [hall j (by simpa using hj), Bool.and_true]
      · intro t p ht
        rw [← ht]
        exact look_TA_congr l ps 0 _ _ rfl fun j o ho _ => by simpa using hall j (List.getElem?_eq_some_iff.1 ho).1
    | succ fuel ih =>
      intro listed a w ι S hsz hcnt hcl hr
      refine ⟨fun hnil => ?_, fun i hi => ?_⟩
      · exfalso
        have hall : ∀ i, i < l.length → listed.getD i false = true := by
          intro i
          induction i using Nat.strongRecOn with
          | _ i ihi =>
            intro hi
            cases hli : listed.getD i false with
            | true => rfl
            | false =>
              exfalso
              have hoi : l[i]? = some l[i] := List.getElem?_eq_getElem hi
              have hmem : i ∈ Region.ready .any l.toArray listed := mem_ready.2 ⟨by
                rw [Array.getD_eq_getD_getElem?, Array.getElem?_eq_getElem (by omega)] at hli ⊢
                simpa using hli, l[i], by simp [hi], fun e he hb => by
                have hedge := edges_mem.2 ⟨e, he, hb, rfl⟩
                have := (drawOk_spec hok hoi).1 _ hedge
                exact ihi _ this (by omega)⟩
              rw [hnil] at hmem
              simp at hmem
        have : (List.range l.length).countP (fun j => !listed.getD j false) = 0 := List.countP_eq_zero.2 fun j hj => by simp [hall j (by simpa using hj)]
        omega
      · obtain ⟨h1, o, ho', hed⟩ := mem_ready.1 hi
        have hil : i < l.length := by simpa using (Array.getElem?_eq_some_iff.1 ho').1
        have ho : l[i]? = some o := by simpa using ho'
        have hAi : listed.getD i false = false := by
          rw [Array.getD_eq_getD_getElem?, Array.getElem?_eq_getElem (by omega)] at h1 ⊢
          simpa using h1
        have hedges : ∀ e ∈ edgesOf o, listed.getD e false = true := fun e he => by
          obtain ⟨x, hx, hb, rfl⟩ := edges_mem.1 he
          exact hed x hx hb
        have hin := clos_in hok hcl i o ho hedges
        obtain ⟨p, hp⟩ : ∃ p, ps[i]? = some p := ⟨_, List.getElem?_eq_getElem (by omega)⟩
        obtain ⟨T', hT', hstep⟩ := H i o p ho hp ((List.range l.length).countP fun j => wrAt wc l j && listed.getD j false)
          (List.countP_mono_left fun j _ h => by
            simp only [Bool.and_eq_true, List.contains_iff_mem] at h ⊢
            exact ⟨h.1, hin j h.2⟩)
          (List.countP_mono_left fun j hj h => by
            simp only [Bool.and_eq_true, decide_eq_true_eq, Bool.not_eq_true'] at h ⊢
            refine ⟨h.1, fun e => ?_, ?_⟩
            · subst e; rw [hAi] at h; simp at h
            · cases hc : (R.getD j []).contains i with
              | false => rfl
              | true =>
                exfalso
                have hjl : j < l.length := by simpa using hj
                have hoj : l[j]? = some l[j] := List.getElem?_eq_getElem hjl
                have := clos_in hok hcl j _ hoj (hcl j _ hoj h.2) i (by simpa using hc)
                rw [hAi] at this; cases this)
        have hrT : Rel c ι S ⟨s.N, T', σs ((List.range l.length).countP fun j => wrAt wc l j && listed.getD j false), s.k⟩ a w := hr.temps_of rfl rfl rfl fun t q ht => by
          obtain ⟨g1, g2⟩ := hT' t q ht
          rw [← g2]
          exact look_TA_congr l ps 0 _ _ rfl fun j o' hj hd => by
            simpa using hin j (readOk_spec hrd ho t g1 j o' hj hd)
        have hnext : ∀ ι' S' v w', Store c ι' S' (σs ((List.range l.length).countP (fun j => wrAt wc l j && listed.getD j false) + if wrAt wc l i = true then 1 else 0)) w' →
            (∀ v p, VRel (σs ((List.range l.length).countP fun j => wrAt wc l j && listed.getD j false)).length ι S w v p → VRel (σs ((List.range l.length).countP (fun j => wrAt wc l j && listed.getD j false) + if wrAt wc l i = true then 1 else 0)).length ι' S' w' v p) →
            VRel (σs ((List.range l.length).countP (fun j => wrAt wc l j && listed.getD j false) + if wrAt wc l i = true then 1 else 0)).length ι' S' w' v p →
            wpAnyIn (wideR c.ro) 0 P .any l.toArray QQ fuel (listed.setIfInBounds i true) (a.put o.dst v) w' := fun ι' S' v w' hst hmono hv => by
          have hset := listed_set (listed := listed) (i := i) (by omega)
          have hset' : ∀ j, (listed.setIfInBounds i true).getD j false = (listed.getD j false || decide (j = i)) := fun j => congrFun hset j
          have hrn := Rel.next hr hst hmono (hdst o (List.mem_of_getElem? ho)) hv
          refine ih _ _ _ ι' S' (by simpa using hsz) ?_ ?_ ?_
          · have h3 := countP_one (f := fun _ => true) (A := fun j => listed.getD j false) hAi (List.range l.length) List.nodup_range (by simpa using hil)
            simp only [Bool.true_and, if_true] at h3
            have h4 := List.length_eq_countP_add_countP (fun j => listed.getD j false) (l := List.range l.length)
            have h5 := List.length_eq_countP_add_countP (fun j => listed.getD j false || decide (j = i)) (l := List.range l.length)
            have e1 : (List.range l.length).countP (fun j => !(listed.setIfInBounds i true).getD j false) = (List.range l.length).countP (fun a => decide ¬(fun j => listed.getD j false || decide (j = i)) a = true) := by
              refine List.countP_congr fun j _ => ?_
              rw [hset' j]; simp
            have e2 : (List.range l.length).countP (fun j => !listed.getD j false) = (List.range l.length).countP (fun a => decide ¬(fun j => listed.getD j false) a = true) := by
              refine List.countP_congr fun j _ => ?_
              simp
            rw [e1]
            rw [e2] at hcnt
            try simp only [] at h4 h5 hcnt ⊢
            generalize (List.range l.length).countP (fun a => decide ¬(fun j => listed.getD j false || decide (j = i)) a = true) = x1 at *
            try simp only [] at h4 h5 hcnt h3 ⊢
            omega
          · intro j oj hj hlj e he
            rw [hset' j] at hlj
            rw [hset' e]
            simp only [Bool.or_eq_true, decide_eq_true_eq] at hlj ⊢
            rcases hlj with g | rfl
            · exact .inl (hcl j oj hj g e he)
            · rw [ho] at hj; simp at hj; subst hj; exact .inl (hedges e he)
          · rw [hset]
            have hc1 := countP_one (f := wrAt wc l) (A := fun j => listed.getD j false) hAi (List.range l.length) List.nodup_range (by simpa using hil)
            simp only [hset', hc1]
            refine hrn.temps_of (by cases o.dst <;> rfl) (by cases o.dst <;> rfl) (by cases o.dst <;> rfl) fun t q ht => ?_
            rw [← ht]
            have hcongr : o.dst ≠ some t → look (TA (fun j => listed.getD j false) 0 l ps s.T) t = look (TA (fun j => listed.getD j false || decide (j = i)) 0 l ps s.T) t := fun hne =>
              look_TA_congr l ps 0 _ _ rfl fun j o' hj hd => by
                have : j ≠ i := fun e => by subst e; rw [ho] at hj; simp at hj; subst hj; exact hne hd
                simp [this]
            cases hd : o.dst with
            | none => exact hcongr (by rw [hd]; simp)
            | some d =>
              by_cases e : t = d
              · subst e
                rw [look_TA_at l ps 0 s.T i ho hp hd (by simp) fun j' o' hj hne => (drawOk_spec hok ho).2.2.2 t hd j' o' hj hne]
                simp [St.put, look]
              · simp only [St.put, look, if_neg e]
                exact hcongr (by rw [hd]; simpa using fun h => e h.symm)
        unfold wpOpIn
        rw [ho']
        simp only
        rcases hstep with ⟨hw, hdoes⟩ | ⟨hw, hs', rfl⟩
        · rw [if_pos (wanted_rel hrT hw)]
          exact (hdoes c ι S a w hrT _ QQ fun ι' S' v w' h1 h2 h3 _ => hnext ι' S' v w' h1 h2 h3)
        · rw [wanted_rel hrT hw]
          simp only [Bool.false_eq_true, if_false]
          refine ⟨fun _ _ => trivial, ?_⟩
          refine hnext ι S undef w (by rw [hs']; exact hr.st) (fun v p h => by rw [hs']; exact h) (.imm (IRel.und _ _))
  have hA0 : ∀ j, (Array.replicate l.length false).getD j false = false := fun j => by
    rw [Array.getD_eq_getD_getElem?]
    by_cases h : j < l.length <;> simp [h]
  have hsize : l.toArray.size = l.length := by simp
  rw [hsize]
  refine key l.length (Array.replicate l.length false) a _ ι S (by simp) ?_ (fun i o _ h => by rw [hA0] at h; cases h) ?_
  · simp [hA0]
  · have e1 : TA (fun j => (Array.replicate l.length false).getD j false) 0 l ps s.T = s.T := TA_none l ps 0 s.T hA0
    have e2 : (List.range l.length).countP (fun j => wrAt wc l j && (Array.replicate l.length false).getD j false) = 0 := List.countP_eq_zero.2 fun j _ => by rw [hA0]; simp
    rw [e1, e2, hσ0]
    exact ⟨hr.st.drew, hr.ck, hr.tsz, hr.defers, fun t p ht => (hr.temps t p ht).drew⟩
end Go.Proofs.YtidhdlhblhbahaaGreat.Am

/- The machine of values: running a region whose operations go in any order. -/
set_option linter.unusedVariables false
set_option linter.unusedSimpArgs false
namespace Go.Proofs.YtidhdlhblhbahaaGreat.Am
open Go Go.RowKit

class HoldD where
  P : Program
  ops : Array Oper
  l : List Oper
  rg : List (Nat × List Nat)
  K : St → List PV → List Boxes → Prop
class HoldW where
  p : PV → Prop

def goD (P : Program) (ops : Array Oper) : List Oper → List (Nat × List Nat) → St → List PV → List Boxes → (St → List PV → List Boxes → Prop) → Prop
  | [], _, s, ps, σs, K => K s ps σs
  | _ :: _, [], _, _, _, _ => False
  | o :: l, (cls, _) :: rg, s, ps, σs, K =>
    @brkB (wantedA s ops o)
      ⟨if cls = 2 then @at_ s ⟨fun s => ∃ r, goD P ops l rg (s.put o.dst r) (ps ++ [r]) σs K⟩
       else if cls = 3 then @at_ s ⟨fun s => ∃ r σ', goD P ops l rg (St.put { s with σ := σ' } o.dst r) (ps ++ [r]) (σs ++ [σ']) K⟩
       else @brk (oneOp P s o.op) ⟨fun x => if cls = 1 then goD P ops l rg (St.put { s with σ := x.1 } o.dst x.2) (ps ++ [x.2]) (σs ++ [x.1]) K else goD P ops l rg (s.put o.dst x.2) (ps ++ [x.2]) σs K⟩ ⟨False⟩⟩
      ⟨if cls = 1 then goD P ops l rg (s.put o.dst (.tup [])) (ps ++ [.tup []]) (σs ++ [s.σ]) K else goD P ops l rg (s.put o.dst (.tup [])) (ps ++ [.tup []]) σs K⟩ ⟨False⟩

def gD (s : St) (ps : List PV) (σs : List Boxes) [H : HoldD] : Prop := goD H.P H.ops H.l H.rg s ps σs H.K
theorem gD_nil {P : Program} {ops : Array Oper} {rg : List (Nat × List Nat)} {K : St → List PV → List Boxes → Prop} {s : St} {ps : List PV} {σs : List Boxes} : @gD s ps σs ⟨P, ops, [], rg, K⟩ = K s ps σs := (rfl)
theorem gD_cons0 {P : Program} {ops : Array Oper} {o : Oper} {l : List Oper} {ms : List Nat} {rg : List (Nat × List Nat)} {K : St → List PV → List Boxes → Prop} {s : St} {ps : List PV} {σs : List Boxes} :
    @gD s ps σs ⟨P, ops, o :: l, (0, ms) :: rg, K⟩ = @brkB (wantedA s ops o) ⟨@brk (oneOp P s o.op) ⟨fun x => @gD (s.put o.dst x.2) (ps ++ [x.2]) σs ⟨P, ops, l, rg, K⟩⟩ ⟨False⟩⟩
      ⟨@gD (s.put o.dst (.tup [])) (ps ++ [.tup []]) σs ⟨P, ops, l, rg, K⟩⟩ ⟨False⟩ := (rfl)
theorem gD_cons1 {P : Program} {ops : Array Oper} {o : Oper} {l : List Oper} {ms : List Nat} {rg : List (Nat × List Nat)} {K : St → List PV → List Boxes → Prop} {s : St} {ps : List PV} {σs : List Boxes} :
    @gD s ps σs ⟨P, ops, o :: l, (1, ms) :: rg, K⟩ = @brkB (wantedA s ops o) ⟨@brk (oneOp P s o.op) ⟨fun x => @gD (St.put { s with σ := x.1 } o.dst x.2) (ps ++ [x.2]) (σs ++ [x.1]) ⟨P, ops, l, rg, K⟩⟩ ⟨False⟩⟩
      ⟨@gD (s.put o.dst (.tup [])) (ps ++ [.tup []]) (σs ++ [s.σ]) ⟨P, ops, l, rg, K⟩⟩ ⟨False⟩ := (rfl)
theorem gD_cons2 {P : Program} {ops : Array Oper} {o : Oper} {l : List Oper} {ms : List Nat} {rg : List (Nat × List Nat)} {K : St → List PV → List Boxes → Prop} {s : St} {ps : List PV} {σs : List Boxes} :
    @gD s ps σs ⟨P, ops, o :: l, (2, ms) :: rg, K⟩ = @brkB (wantedA s ops o) ⟨@at_ s ⟨fun s => ∃ r, @gD (s.put o.dst r) (ps ++ [r]) σs ⟨P, ops, l, rg, K⟩⟩⟩
      ⟨@gD (s.put o.dst (.tup [])) (ps ++ [.tup []]) σs ⟨P, ops, l, rg, K⟩⟩ ⟨False⟩ := (rfl)
theorem gD_cons3 {P : Program} {ops : Array Oper} {o : Oper} {l : List Oper} {ms : List Nat} {rg : List (Nat × List Nat)} {K : St → List PV → List Boxes → Prop} {s : St} {ps : List PV} {σs : List Boxes} :
    @gD s ps σs ⟨P, ops, o :: l, (3, ms) :: rg, K⟩ = @brkB (wantedA s ops o) ⟨@at_ s ⟨fun s => ∃ r σ', @gD (St.put { s with σ := σ' } o.dst r) (ps ++ [r]) (σs ++ [σ']) ⟨P, ops, l, rg, K⟩⟩⟩
      ⟨@gD (s.put o.dst (.tup [])) (ps ++ [.tup []]) σs ⟨P, ops, l, rg, K⟩⟩ ⟨False⟩ := (rfl)
theorem gD_callW {P : Program} {ops : Array Oper} {o : Oper} {l : List Oper} {rg : List (Nat × List Nat)} {K : St → List PV → List Boxes → Prop} {s : St} {ps : List PV} {σs : List Boxes} (r : PV) (σ' : Boxes)
    (h : @gD (St.put { s with σ := σ' } o.dst r) (ps ++ [r]) (σs ++ [σ']) ⟨P, ops, l, rg, K⟩) : @at_ s ⟨fun s => ∃ r σ', @gD (St.put { s with σ := σ' } o.dst r) (ps ++ [r]) (σs ++ [σ']) ⟨P, ops, l, rg, K⟩⟩ := ⟨r, σ', h⟩
/-- A call in such a region: its result (that it is the result is asked later). -/
theorem gD_call {P : Program} {ops : Array Oper} {o : Oper} {l : List Oper} {rg : List (Nat × List Nat)} {K : St → List PV → List Boxes → Prop} {s : St} {ps : List PV} {σs : List Boxes} (r : PV)
    (h : @gD (s.put o.dst r) (ps ++ [r]) σs ⟨P, ops, l, rg, K⟩) : @at_ s ⟨fun s => ∃ r, @gD (s.put o.dst r) (ps ++ [r]) σs ⟨P, ops, l, rg, K⟩⟩ := ⟨r, h⟩

theorem goD_spec {P : Program} {ops : Array Oper} {N k : Nat} : ∀ {l : List Oper} {rg : List (Nat × List Nat)} {s : St} {ps0 : List PV} {σs0 : List Boxes} {K : St → List PV → List Boxes → Prop} (i : Nat), s.N = N → s.k = k →
    goD P ops l rg s ps0 σs0 K → ∃ ps σs s', K s' (ps0 ++ ps) σs ∧ s'.N = N ∧ s'.k = k ∧ s'.T = TA (fun _ => true) i l ps s.T
  | [], rg, s, ps0, σs0, K, i, hN, hk, h => ⟨[], σs0, s, by simpa [goD] using h, hN, hk, by simp [TA]⟩
  | o :: l, [], s, ps0, σs0, K, i, hN, hk, h => by simp [goD] at h
  | o :: l, (cls, ms) :: rg, s, ps0, σs0, K, i, hN, hk, h => by
    have step : ∀ (p : PV) (s2 : St) (σs1 : List Boxes), s2.N = N → s2.k = k → s2.T = (match o.dst with | some d => (d, p) :: s.T | none => s.T) → goD P ops l rg s2 (ps0 ++ [p]) σs1 K →
        ∃ ps σs s', K s' (ps0 ++ ps) σs ∧ s'.N = N ∧ s'.k = k ∧ s'.T = TA (fun _ => true) i (o :: l) ps s.T := fun p s2 σs1 h1 h2 h3 h4 => by
      obtain ⟨ps, σs, s', g1, g2, g3, g4⟩ := goD_spec (i + 1) h1 h2 h4
      refine ⟨p :: ps, σs, s', by simpa using g1, g2, g3, ?_⟩
      rw [g4, h3]
      cases hd : o.dst <;> simp [TA, hd]
    have hput : ∀ (p : PV), (s.put o.dst p).N = N ∧ (s.put o.dst p).k = k ∧ (s.put o.dst p).T = (match o.dst with | some d => (d, p) :: s.T | none => s.T) := fun p => by
      cases o.dst <;> simp [St.put, hN, hk]
    have hputσ : ∀ (p : PV) (σ : Boxes), (St.put { s with σ := σ } o.dst p).N = N ∧ (St.put { s with σ := σ } o.dst p).k = k ∧ (St.put { s with σ := σ } o.dst p).T = (match o.dst with | some d => (d, p) :: s.T | none => s.T) := fun p σ => by
      cases o.dst <;> simp [St.put, hN, hk]
    unfold goD brkB at h
    split at h
    · simp only at h
      split at h
      · obtain ⟨r, h⟩ := h
        exact step r _ _ (hput r).1 (hput r).2.1 (hput r).2.2 h
      · split at h
        · obtain ⟨r, σ', h⟩ := h
          exact step r _ _ (hputσ r σ').1 (hputσ r σ').2.1 (hputσ r σ').2.2 h
        · unfold brk at h
          split at h
          · rename_i x hx
            simp only at h
            split at h
            · exact step x.2 _ _ (hputσ x.2 x.1).1 (hputσ x.2 x.1).2.1 (hputσ x.2 x.1).2.2 h
            · exact step x.2 _ _ (hput x.2).1 (hput x.2).2.1 (hput x.2).2.2 h
          · exact h.elim
    · simp only at h
      split at h
      · exact step _ _ _ (hput _).1 (hput _).2.1 (hput _).2.2 h
      · exact step _ _ _ (hput _).1 (hput _).2.1 (hput _).2.2 h
    · exact h.elim

/-- Once more, each operation by itself: at each number of writes that may lie before it, it makes the same. -/
def seen (ops : Array Oper) (o : Oper) (T : List (Nat × PV)) : List (Nat × PV) := T.filter fun x => (o.looksAt ops).contains x.1

def wrN (cls : Nat) : Nat := if cls = 1 ∨ cls = 3 then 1 else 0

def chkM (P : Program) (ops : Array Oper) (o : Oper) (N k : Nat) (T : List (Nat × PV)) (σs : List Boxes) (cls : Nat) (p : PV) : List Nat → Prop
  | [] => True
  | m :: ms => ((wantedA ⟨N, T, σs.getD m [], k⟩ ops o = some true ∧ oneOp P ⟨N, T, σs.getD m [], k⟩ o.op = some (σs.getD (m + wrN cls) [], p)) ∨
      (wantedA ⟨N, T, σs.getD m [], k⟩ ops o = some false ∧ σs.getD (m + wrN cls) [] = σs.getD m [] ∧ p = .tup [])) ∧ chkM P ops o N k T σs cls p ms

/-- A call: it is what it is, whatever the boxes are. -/
def CallOk (P : Program) (ops : Array Oper) (o : Oper) (N k : Nat) (T : List (Nat × PV)) (p : PV) : Prop := ∀ σ, StepD P ops o ⟨N, T, σ, k⟩ σ p

/-- A call that writes: so it does, whenever its turn may come. -/
def CallW (P : Program) (ops : Array Oper) (o : Oper) (N k : Nat) (T : List (Nat × PV)) (σs : List Boxes) (p : PV) : List Nat → Prop
  | [] => True
  | m :: ms => StepD P ops o ⟨N, T, σs.getD m [], k⟩ (σs.getD (m + 1) []) p ∧ CallW P ops o N k T σs p ms

theorem callW_spec {P : Program} {ops : Array Oper} {o : Oper} {N k : Nat} {T : List (Nat × PV)} {σs : List Boxes} {p : PV} : ∀ {ms : List Nat}, CallW P ops o N k T σs p ms → ∀ m ∈ ms, StepD P ops o ⟨N, T, σs.getD m [], k⟩ (σs.getD (m + 1) []) p
  | [], _, m, hm => by simp at hm
  | m' :: ms, h, m, hm => by
    rcases List.mem_cons.1 hm with rfl | hm
    · exact h.1
    · exact callW_spec h.2 m hm

def chkD (P : Program) (ops : Array Oper) (N k : Nat) (T : List (Nat × PV)) (σs : List Boxes) : List Oper → List (Nat × List Nat) → List PV → Prop
  | o :: l, (cls, ms) :: rg, p :: ps => (if cls = 2 then CallOk P ops o N k (seen ops o T) p else if cls = 3 then CallW P ops o N k (seen ops o T) σs p ms else chkM P ops o N k (seen ops o T) σs cls p ms) ∧ chkD P ops N k T σs l rg ps
  | [], _, [] => True
  | _, _, _ => False

theorem look_seen {ops : Array Oper} {o : Oper} {t : Nat} {q : PV} : ∀ {T : List (Nat × PV)}, look (seen ops o T) t = some q → t ∈ o.looksAt ops ∧ look T t = some q
  | [], h => by simp [seen, look] at h
  | (d, p) :: T, h => by
    have ih := look_seen (ops := ops) (o := o) (t := t) (q := q) (T := T)
    unfold seen at h ih
    rw [List.filter_cons] at h
    split at h
    · rename_i hc
      simp only [look] at h ⊢
      split at h
      · rename_i e; subst e
        rw [if_pos rfl]
        exact ⟨by simpa using hc, h⟩
      · rename_i e; rw [if_neg e]; exact ih h
    · rename_i hc
      obtain ⟨h1, h2⟩ := ih h
      refine ⟨h1, ?_⟩
      have : t ≠ d := fun e => hc (by subst e; simpa using h1)
      simp [look, this, h2]

theorem chkM_spec {P : Program} {ops : Array Oper} {o : Oper} {N k : Nat} {T : List (Nat × PV)} {σs : List Boxes} {cls : Nat} {p : PV} : ∀ {ms : List Nat}, chkM P ops o N k T σs cls p ms → ∀ m ∈ ms,
    StepD P ops o ⟨N, T, σs.getD m [], k⟩ (σs.getD (m + wrN cls) []) p
  | [], _, m, hm => by simp at hm
  | m' :: ms, h, m, hm => by
    rcases List.mem_cons.1 hm with rfl | hm
    · rcases h.1 with ⟨h1, h2⟩ | h2
      · exact .inl ⟨h1, does_one h2⟩
      · exact .inr h2
    · exact chkM_spec h.2 m hm

theorem chkD_spec {P : Program} {ops : Array Oper} {N k : Nat} {T : List (Nat × PV)} {σs : List Boxes} : ∀ {l : List Oper} {rg : List (Nat × List Nat)} {ps : List PV}, chkD P ops N k T σs l rg ps →
    ps.length = l.length ∧ ∀ (i : Nat) (o : Oper) (p : PV) (cls : Nat) (ms : List Nat), l[i]? = some o → ps[i]? = some p → rg[i]? = some (cls, ms) → ∀ m ∈ ms,
      StepD P ops o ⟨N, seen ops o T, σs.getD m [], k⟩ (σs.getD (m + wrN cls) []) p
  | [], rg, [], _ => ⟨rfl, fun i o p cls ms h => by simp at h⟩
  | [], rg, _ :: _, h => by unfold chkD at h; exact h.elim
  | _ :: _, [], _, h => by unfold chkD at h; exact h.elim
  | _ :: _, _ :: _, [], h => by unfold chkD at h; exact h.elim
  | o :: l, (cls, ms) :: rg, p :: ps, h => by
    unfold chkD at h
    obtain ⟨h1, h2⟩ := h
    obtain ⟨h3, h4⟩ := chkD_spec h2
    refine ⟨by simp [h3], fun i o' p' cls' ms' ho hp hr m hm => ?_⟩
    cases i with
    | zero =>
      simp only [List.getElem?_cons_zero, Option.some.injEq, Prod.mk.injEq] at ho hp hr
      subst ho hp
      obtain ⟨rfl, rfl⟩ := hr
      split at h1
      · rename_i e; subst e
        exact h1 _
      · split at h1
        · rename_i e; subst e
          exact callW_spec h1 m hm
        · exact chkM_spec h1 m hm
    | succ i => exact h4 i o' p' cls' ms' (by simpa using ho) (by simpa using hp) (by simpa using hr) m hm

/-- The plan: what each operation is, and how many writes there are. -/
def planW (wc : List Nat) (l : List Oper) : Option (List (Nat × List Nat) × Nat) := (plan wc l).map fun rg => (rg, (List.range l.length).countP (wrAt wc l))

theorem clsOf_ne (op : Op) : clsOf op ≠ 3 := by
  unfold clsOf
  split
  all_goals first
    | decide
    | (split <;> first | decide | (split <;> decide))

theorem awp_draw {P : Program} (hm : P.follows .mixedOrders = true) {id : Nat} {l : List Oper} {s : St} {Q : Exit → St → Prop} (wc : List Nat) (rg : List (Nat × List Nat)) (W : Nat) (hp : planW wc l = some (rg, W))
    (hdst : l.all (fun o => dstOk o.dst s.N) = true)
    (h : @gD s [] [s.σ] ⟨P, l.toArray, l, rg, fun s' ps σs => (chkD P l.toArray s.N s.k s'.T σs l rg ps ∧ σs.getD 0 [] = s.σ ∧ s'.σ = σs.getD W []) ∧ Q .normal s'⟩) : AWp P (.region id l.toArray true) s Q := by
  simp only [planW, Option.map_eq_some_iff, Prod.mk.injEq] at hp
  obtain ⟨rg', hplan, rfl, rfl⟩ := hp
  unfold plan at hplan
  split at hplan
  · rename_i hok2
    obtain ⟨hok, hrd⟩ := hok2
    obtain ⟨ps, σs, s', ⟨⟨hchk, hσ0, hσ⟩, hQ⟩, hN, hk, hT⟩ := goD_spec 0 rfl rfl h
    rw [List.nil_append] at hchk
    replace hT : s'.T = TA (fun _ => true) 0 l ps s.T := hT
    obtain ⟨hlen, hall⟩ := chkD_spec hchk
    refine awp_drawT hm (wc := wc) (ps := ps) (σs := fun m => σs.getD m []) hok hrd hσ0 hlen (fun o ho => List.all_eq_true.1 hdst o ho) (fun i o p ho hp m hlo hhi => ?_) ?_
    · refine ⟨seen l.toArray o s'.T, fun t q hq => ?_, ?_⟩
      · obtain ⟨h1, h2⟩ := look_seen hq
        exact ⟨h1, by rw [← hT]; exact h2⟩
      · have hil := (List.getElem?_eq_some_iff.1 ho).1
        simp only [Option.some.injEq] at hplan
        have hrg : rg'[i]? = some (clsAt wc l i, (List.range (hiOf wc l (clos l []) i + 1)).filter (loOf wc l (clos l []) i ≤ ·)) := by
          rw [← hplan]
          simp [hil]
        have := hall i o p _ _ ho hp hrg m (by simp; omega)
        have hw : wrN (clsAt wc l i) = if wrAt wc l i = true then 1 else 0 := by
          simp only [wrN, clsAt, wrAt, ho]
          by_cases hc : wc.contains i = true
          · simp only [hc, if_true]; simp
          · simp only [hc]
            have : clsOf o.op ≠ 3 := clsOf_ne o.op
            simp [this]
        rw [← hw]; exact this
    · have : (⟨s.N, TA (fun _ => true) 0 l ps s.T, σs.getD ((List.range l.length).countP (wrAt wc l)) [], s.k⟩ : St) = s' := by
        rw [← hT, ← hσ, ← hN, ← hk]
      rw [this]; exact hQ
  · simp at hplan

theorem callOk_fn {P : Program} {ops : Array Oper} {o : Oper} {N k : Nat} {T : List (Nat × PV)} {f : Operand} {args : Array Operand} {ts : Array TypeId} {g : FuncId} {caps ps : List PV} {r : PV} {args' : List PV}
    (hc : Fn P g args' r) (ho : o.op = .call { callee := .value f, args := args, argTypes := ts }) (he : enterable P g = true) (hw : ∀ σ, wantedA ⟨N, T, σ, k⟩ ops o = some true)
    (hcal : ∀ σ, calleePV ⟨N, T, σ, k⟩ f = some (g, caps)) (hargs : ∀ σ, opds ⟨N, T, σ, k⟩ args.toList = some ps)
    (hren : ps ++ caps = args') (hlt : ltL 0 args' = true) (hlr : r.lt 0 = true) : CallOk P ops o N k T r := fun σ => .inl ⟨hw σ, does_fn hc ho (hcal σ) (hargs σ) he hren hlt hlr⟩

attribute [simp] gD_nil gD_cons0 gD_cons1 gD_cons2 gD_cons3 chkD chkM wrN CallW seen Oper.looksAt Op.operands Call.operands
end Go.Proofs.YtidhdlhblhbahaaGreat.Am

/- The machine of values: a new box is moved to a place that waits for it. -/
set_option linter.unusedVariables false
set_option linter.unusedSimpArgs false
namespace Go.Proofs.YtidhdlhblhbahaaGreat.Am
open Go Go.RowKit

theorem VRel.mono' {n n' : Nat} {ι ι' : Nat → Option Nat} {S S' : Nat → Prop} {w w' : World} (hn : n ≤ n') (hι : ∀ b x, b < n → ι b = some x → ι' b = some x) (hS : ∀ b, S b → S' b)
    (hc : ∀ b o, S b → w'.cell? ⟨b, o, none⟩ = w.cell? ⟨b, o, none⟩) (hsh : ∀ b x, w.shape? b = some x → w'.shape? b = some x) {v : Value} {p : PV} (h : VRel n ι S w v p) : VRel n' ι' S' w' v p := by
  induction h with
  | imm h => exact .imm (h.mono hS hc)
  | osl h1 h2 h3 h4 h5 h6 => exact .osl (by omega) h2 h3 (hι _ _ h1 h4) (hsh _ _ h5) h6
  | osl0 h => exact .osl0 (by omega)
  | osc h1 h2 h3 h4 h5 h6 => exact .osc (by omega) h2 h3 (hι _ _ h1 h4) (hsh _ _ h5) h6
  | osc0 h => exact .osc0 (by omega)
  | ptr h h2 h3 => exact .ptr (by omega) (hι _ _ h h2) (hsh _ _ h3)
  | mref h h2 => exact .mref (by omega) (hι _ _ h h2)
  | clo h1 h2 _ ih => exact .clo h1 h2 ih
  | agg h1 h2 _ ih => exact .agg h1 h2 ih
  | tup h1 _ ih => exact .tup h1 ih

theorem ltL_of {n : Nat} {ps : List PV} (h : ∀ (j : Nat) (p : PV), ps[j]? = some p → p.lt n = true) : ltL n ps = true := by
  rw [ltL_all, List.all_eq_true]
  intro p hp
  obtain ⟨j, hj, rfl⟩ := List.getElem_of_mem hp
  exact h j _ (List.getElem?_eq_getElem hj)

theorem IRel.lt {S : Nat → Prop} {w : World} {n : Nat} {v : Value} {p : PV} (h : IRel S w v p) : p.lt n = true := by
  induction h with
  | k h => rfl
  | sl g h1 h2 h3 h4 h5 h6 h7 h8 _ => rfl
  | eptr g h1 h2 h3 h4 _ => rfl
  | clo h1 h2 _ ih => simp only [PV.lt]; exact ltL_of ih
  | agg h1 h2 _ ih => simp only [PV.lt]; exact ltL_of ih
  | tup h1 _ ih => simp only [PV.lt]; exact ltL_of ih

theorem VRel.lt {n : Nat} {ι : Nat → Option Nat} {S : Nat → Prop} {w : World} {v : Value} {p : PV} (h : VRel n ι S w v p) : p.lt n = true := by
  induction h with
  | imm h => exact h.lt
  | osl h1 _ _ _ _ _ => simpa [PV.lt] using h1
  | osl0 h => simpa [PV.lt] using h
  | osc h1 _ _ _ _ _ => simpa [PV.lt] using h1
  | osc0 h => simpa [PV.lt] using h
  | ptr h _ _ => simpa [PV.lt] using h
  | mref h _ => simpa [PV.lt] using h
  | clo h1 h2 _ ih => simp only [PV.lt]; exact ltL_of ih
  | agg h1 h2 _ ih => simp only [PV.lt]; exact ltL_of ih
  | tup h1 _ ih => simp only [PV.lt]; exact ltL_of ih

mutual
theorem ren_id : (p : PV) → p.ren (fun b => b) = p
  | .k _ | .sl _ _ | .eptr _ | .osl _ _ _ _ | .osc _ _ _ _ _ | .ptr _ _ | .mref _ => rfl
  | .clo fn caps => by simp only [PV.ren]; rw [renL_id caps]
  | .agg cs => by simp only [PV.ren]; rw [renL_id cs]
  | .tup ps => by simp only [PV.ren]; rw [renL_id ps]
theorem renL_id : (ps : List PV) → renL (fun b => b) ps = ps
  | [] => rfl
  | p :: ps => by simp only [renL]; rw [ren_id p, renL_id ps]
end

/-- Of less boxes, what names none of the others. -/
theorem VRel.less {n m : Nat} {ι : Nat → Option Nat} {S : Nat → Prop} {w : World} {v : Value} {p : PV} (h : VRel m ι S w v p) (hl : p.lt n = true) : VRel n ι S w v p :=
  VRel.unren (θ := fun b => b) (fun _ _ => rfl) p v hl (by rw [ren_id]; exact h)

/-- The place j, now the box M. -/
def mvθ (j M : Nat) : Nat → Nat := fun b => if b = j then M else b

theorem Store.move {c : Ctx} {ι : Nat → Option Nat} {S : Nat → Prop} {σk : Boxes} {d : Nat} {cs : List PV} {w : World} (h : Store c ι S (σk ++ List.replicate d none ++ [some cs]) w) {j : Nat} (hj : j < σk.length) (hck : c.k ≤ j)
    (hιj : ι j = none) (hlt : ∀ i ci, box σk i = some ci → ltL σk.length ci = true) (hcs : ltL σk.length cs = true) :
    ∃ ι', Store c ι' S (σk.set j (some cs)) w ∧ (∀ v p, p.lt σk.length = true → VRel (σk.length + d + 1) ι S w v p → VRel σk.length ι' S w v p) ∧
      (∀ v p, p.lt σk.length = true → VRel (σk.length + d + 1) ι S w v (p.ren (mvθ j (σk.length + d))) → VRel σk.length ι' S w v p) ∧ (∀ b, b < σk.length → b ≠ j → ι' b = ι b) := by
  have hlen : (σk ++ List.replicate d none ++ [some cs]).length = σk.length + d + 1 := by simp; omega
  let ι' : Nat → Option Nat := fun b => if b = j then ι (σk.length + d) else if b < σk.length then ι b else none
  have hb1 : ∀ i ci, box σk i = some ci → box (σk ++ List.replicate d none ++ [some cs]) i = some ci := fun i ci hi => by
    have := box_lt hi
    unfold box at hi ⊢
    rw [List.append_assoc, List.getElem?_append_left this]; exact hi
  have hb2 : box (σk ++ List.replicate d none ++ [some cs]) (σk.length + d) = some cs := by
    unfold box
    rw [List.getElem?_append_right (by simp)]
    simp
  have hv1 : ∀ v p, p.lt σk.length = true → VRel (σk.length + d + 1) ι S w v p → VRel σk.length ι' S w v p := fun v p hp hv =>
    (hv.less hp).mono' (Nat.le_refl _) (fun b x hb hx => by
      simp only [ι']
      have : b ≠ j := fun e => by rw [e, hιj] at hx; cases hx
      rw [if_neg this, if_pos hb]; exact hx) (fun _ h => h) (fun _ _ _ => rfl) (fun _ _ h => h)
  have hv2 : ∀ v p, p.lt σk.length = true → VRel (σk.length + d + 1) ι S w v (p.ren (mvθ j (σk.length + d))) → VRel σk.length ι' S w v p := fun v p hp hv =>
    VRel.unren (θ := mvθ j (σk.length + d)) (fun b hb => by
      simp only [mvθ, ι']
      by_cases e : b = j
      · rw [if_pos e, if_pos e]
      · rw [if_neg e, if_neg e, if_pos hb]) p v hp hv
  have hcase : ∀ i ci, box (σk.set j (some cs)) i = some ci → (i = j ∧ ci = cs) ∨ (i ≠ j ∧ i < σk.length ∧ box σk i = some ci) := fun i ci hi => by
    rw [box_set hj] at hi
    by_cases e : i = j
    · rw [if_pos e] at hi; simp at hi; exact .inl ⟨e, hi.symm⟩
    · rw [if_neg e] at hi; exact .inr ⟨e, box_lt hi, hi⟩
  have hι1 : ι' j = ι (σk.length + d) := by simp [ι']
  have hι2 : ∀ i, i ≠ j → i < σk.length → ι' i = ι i := fun i h1 h2 => by simp [ι', h1, h2]
  refine ⟨ι', ⟨h.os, h.tape, h.output, h.size, h.old, h.shape, fun i ci hi => ?_, fun i ci blk hi hb => ?_, fun i ci blk hi hb => ?_, fun i i' ci ci' blk hi hi' hb hb' => ?_, h.Slt, h.S0, h.Snew, by rw [List.length_set]; omega, fun i hi => ?_⟩, hv1, hv2, fun b hb hne => hι2 b hne hb⟩
  · rw [List.length_set]
    rcases hcase i ci hi with ⟨rfl, rfl⟩ | ⟨h1, h2, h3⟩
    · rcases h.boxes _ _ hb2 with ⟨g1, g2⟩ | ⟨blk, c', e, g1, g2, g3, g4⟩
      · exact .inl ⟨by rw [hι1]; exact g1, g2⟩
      · refine .inr ⟨blk, c', e, by rw [hι1]; exact g1, g2, g3, fun jj p hp => ?_⟩
        obtain ⟨v, hv, hr⟩ := g4 jj p hp
        rw [hlen] at hr
        exact ⟨v, hv, hv1 _ _ (by rw [ltL_all] at hcs; exact List.all_eq_true.1 hcs p (List.mem_of_getElem? hp)) hr⟩
    · rcases h.boxes _ _ (hb1 i ci h3) with ⟨g1, g2⟩ | ⟨blk, c', e, g1, g2, g3, g4⟩
      · exact .inl ⟨by rw [hι2 i h1 h2]; exact g1, g2⟩
      · refine .inr ⟨blk, c', e, by rw [hι2 i h1 h2]; exact g1, g2, g3, fun jj p hp => ?_⟩
        obtain ⟨v, hv, hr⟩ := g4 jj p hp
        rw [hlen] at hr
        have := hlt i ci h3
        exact ⟨v, hv, hv1 _ _ (by rw [ltL_all] at this; exact List.all_eq_true.1 this p (List.mem_of_getElem? hp)) hr⟩
  · rcases hcase i ci hi with ⟨rfl, rfl⟩ | ⟨h1, h2, h3⟩
    · exact h.notS _ _ blk hb2 (by rw [← hι1]; exact hb)
    · exact h.notS _ _ blk (hb1 i ci h3) (by rw [← hι2 i h1 h2]; exact hb)
  · rcases hcase i ci hi with ⟨rfl, rfl⟩ | ⟨h1, h2, h3⟩
    · exact h.live _ _ blk hb2 (by rw [← hι1]; exact hb)
    · exact h.live _ _ blk (hb1 i ci h3) (by rw [← hι2 i h1 h2]; exact hb)
  · rcases hcase i ci hi with ⟨rfl, rfl⟩ | ⟨h1, h2, h3⟩ <;> rcases hcase i' ci' hi' with ⟨rfl, rfl⟩ | ⟨k1, k2, k3⟩
    · rfl
    · have := h.inj _ _ _ _ blk hb2 (hb1 i' ci' k3) (by rw [← hι1]; exact hb) (by rw [← hι2 i' k1 k2]; exact hb')
      omega
    · have := h.inj _ _ _ _ blk (hb1 i ci h3) hb2 (by rw [← hι2 i h1 h2]; exact hb) (by rw [← hι1]; exact hb')
      omega
    · exact h.inj _ _ _ _ blk (hb1 i ci h3) (hb1 i' ci' k3) (by rw [← hι2 i h1 h2]; exact hb) (by rw [← hι2 i' k1 k2]; exact hb')
  · rw [hι2 i (by omega) (by omega)]; exact h.kι i hi

/-- Places are laid out. -/
theorem Store.pad {c : Ctx} {ι : Nat → Option Nat} {S : Nat → Prop} {σ : Boxes} {w : World} (h : Store c ι S σ w) (m : Nat) :
    ∃ ι', Store c ι' S (σ ++ List.replicate m none) w ∧ (∀ v p, VRel σ.length ι S w v p → VRel (σ ++ List.replicate m none).length ι' S w v p) ∧ (∀ b, σ.length ≤ b → ι' b = none) := by
  let ι' : Nat → Option Nat := fun b => if b < σ.length then ι b else none
  have hι : ∀ b, b < σ.length → ι' b = ι b := fun b hb => by simp [ι', hb]
  have hb : ∀ i ci, box (σ ++ List.replicate m none) i = some ci → i < σ.length ∧ box σ i = some ci := fun i ci hi => by
    unfold box at hi ⊢
    rcases Nat.lt_or_ge i σ.length with g | g
    · rw [List.getElem?_append_left g] at hi; exact ⟨g, hi⟩
    · rw [List.getElem?_append_right g, List.getElem?_replicate] at hi
      split at hi <;> simp at hi
  have hv : ∀ v p, VRel σ.length ι S w v p → VRel (σ ++ List.replicate m none).length ι' S w v p := fun v p hv =>
    hv.mono (by simp) (fun b hb => hι b hb) (fun _ h => h) (fun _ _ _ => rfl) (fun _ _ h => h)
  refine ⟨ι', ⟨h.os, h.tape, h.output, h.size, h.old, h.shape, fun i ci hi => ?_, fun i ci blk hi hx => ?_, fun i ci blk hi hx => ?_, fun i i' ci ci' blk hi hi' hx hx' => ?_, h.Slt, h.S0, h.Snew, by have := h.klen; simp; omega, fun i hi => ?_⟩, hv, fun b hb => by simp [ι']; omega⟩
  · obtain ⟨h1, h2⟩ := hb i ci hi
    rw [hι i h1]
    rcases h.boxes i ci h2 with g | ⟨blk, c', e, g1, g2, g3, g4⟩
    · exact .inl g
    · exact .inr ⟨blk, c', e, g1, g2, g3, fun j p hj => by obtain ⟨v, hv1, hv2⟩ := g4 j p hj; exact ⟨v, hv1, hv _ _ hv2⟩⟩
  · obtain ⟨h1, h2⟩ := hb i ci hi; exact h.notS i ci blk h2 (by rw [← hι i h1]; exact hx)
  · obtain ⟨h1, h2⟩ := hb i ci hi; exact h.live i ci blk h2 (by rw [← hι i h1]; exact hx)
  · obtain ⟨h1, h2⟩ := hb i ci hi
    obtain ⟨k1, k2⟩ := hb i' ci' hi'
    exact h.inj i i' ci ci' blk h2 k2 (by rw [← hι i h1]; exact hx) (by rw [← hι i' k1]; exact hx')
  · have := h.klen; rw [hι i (by omega)]; exact h.kι i hi
end Go.Proofs.YtidhdlhblhbahaaGreat.Am

/- The machine of values: regions in any order, with boxes that are made and written: what one operation does. -/
set_option linter.unusedVariables false
set_option linter.unusedSimpArgs false
namespace Go.Proofs.YtidhdlhblhbahaaGreat.Am
open Go Go.RowKit

abbrev Eff := List (Nat × Option (List PV))
def applyE : Eff → Boxes → Boxes
  | [], σ => σ
  | x :: e, σ => applyE e (σ.set x.1 x.2)

/-- What one operation does: its value, the boxes that it looks at, those that it sets, and the place of a new one. -/
structure Rcd where
  p : PV
  need : List Nat
  eff : Eff
  fresh : Option Nat

theorem applyE_len : ∀ (e : Eff) (σ : Boxes), (applyE e σ).length = σ.length
  | [], _ => rfl
  | x :: e, σ => by rw [applyE, applyE_len e]; simp

theorem box_set_ne {σ : Boxes} {b i : Nat} {x : Option (List PV)} (h : i ≠ b) : box (σ.set b x) i = box σ i := by
  unfold box; rw [List.getElem?_set_ne (fun e => h e.symm)]

theorem box_applyE_ne {b : Nat} : ∀ (e : Eff) (σ : Boxes), b ∉ e.map (·.1) → box (applyE e σ) b = box σ b
  | [], _, _ => rfl
  | x :: e, σ, h => by
    simp at h
    rw [applyE, box_applyE_ne e _ (by simpa using h.2), box_set_ne h.1]

theorem box_applyE_congr {b : Nat} : ∀ (e : Eff) (σ σ' : Boxes), σ.length = σ'.length → box σ b = box σ' b → box (applyE e σ) b = box (applyE e σ') b
  | [], _, _, _, h => h
  | x :: e, σ, σ', hl, h => by
    rw [applyE, applyE]
    refine box_applyE_congr e _ _ (by simpa using hl) ?_
    by_cases hx : x.1 < σ.length
    · rw [box_set hx, box_set (by omega), h]
    · rw [List.set_eq_of_length_le (by omega), List.set_eq_of_length_le (by omega)]; exact h

/-- Where an operation writes, what was there does not matter. -/
theorem box_applyE_in {b : Nat} : ∀ (e : Eff) (σ σ' : Boxes), σ.length = σ'.length → b ∈ e.map (·.1) → box (applyE e σ) b = box (applyE e σ') b
  | [], _, _, _, h => by simp at h
  | x :: e, σ, σ', hl, h => by
    rw [applyE, applyE]
    by_cases hx : b = x.1
    · refine box_applyE_congr e _ _ (by simpa using hl) ?_
      subst hx
      by_cases hx : x.1 < σ.length
      · rw [box_set hx, box_set (by omega), if_pos rfl, if_pos rfl]
      · unfold box
        rw [List.getElem?_eq_none (by simp; omega), List.getElem?_eq_none (by simp; omega)]
    · simp [hx] at h
      exact box_applyE_in e _ _ (by simpa using hl) (by simpa using h)

theorem boxes_ext {σ σ' : Boxes} (hl : σ.length = σ'.length) (h : ∀ b, box σ b = box σ' b) : σ = σ' := by
  refine List.ext_getElem hl fun i h1 h2 => ?_
  have := h i
  unfold box at this
  rw [List.getElem?_eq_getElem h1, List.getElem?_eq_getElem h2] at this
  simpa using this

def SA (A : Nat → Bool) : Nat → List Rcd → Boxes → Boxes
  | _, [], σ => σ
  | i, r :: rs, σ => SA A (i + 1) rs (if A i = true then applyE r.eff σ else σ)

theorem SA_len (A : Nat → Bool) : ∀ (rs : List Rcd) (i : Nat) (σ : Boxes), (SA A i rs σ).length = σ.length
  | [], _, _ => rfl
  | r :: rs, i, σ => by
    rw [SA, SA_len A rs]
    split
    · exact applyE_len _ _
    · rfl

theorem box_SA_congr {A A' : Nat → Bool} {b : Nat} : ∀ (rs : List Rcd) (i : Nat) (σ σ' : Boxes), σ.length = σ'.length → box σ b = box σ' b →
    (∀ (j : Nat) (r : Rcd), rs[j]? = some r → b ∈ r.eff.map (·.1) → A (i + j) = A' (i + j)) → box (SA A i rs σ) b = box (SA A' i rs σ') b
  | [], _, _, _, _, h, _ => h
  | r :: rs, i, σ, σ', hl, h, hA => by
    rw [SA, SA]
    have hl' : (if A i = true then applyE r.eff σ else σ).length = (if A' i = true then applyE r.eff σ' else σ').length := by
      split <;> split <;> simp [applyE_len, hl]
    refine box_SA_congr rs (i + 1) _ _ hl' ?_ fun j r' hj hb => by
      have := hA (j + 1) r' (by simpa using hj) hb
      rwa [show i + (j + 1) = i + 1 + j by omega] at this
    by_cases hb : b ∈ r.eff.map (·.1)
    · have := hA 0 r (by simp) hb
      simp at this
      rw [this]
      split
      · exact box_applyE_congr _ _ _ hl h
      · exact h
    · split <;> split <;> (try simp only [box_applyE_ne _ _ hb]) <;> exact h

theorem SA_none {A : Nat → Bool} : ∀ (rs : List Rcd) (i : Nat) (σ : Boxes), (∀ j, i ≤ j → A j = false) → SA A i rs σ = σ
  | [], _, _, _ => rfl
  | r :: rs, i, σ, h => by
    rw [SA, h i (Nat.le_refl _)]
    simp only [Bool.false_eq_true, if_false]
    exact SA_none rs (i + 1) σ fun j hj => h j (by omega)

/-- One more operation. -/
theorem box_SA_ins {A : Nat → Bool} {b : Nat} {r : Rcd} : ∀ (rs : List Rcd) (i jj : Nat) (σ : Boxes), rs[jj]? = some r → A (i + jj) = false →
    (b ∈ r.eff.map (·.1) → ∀ (j : Nat) (r' : Rcd), rs[j]? = some r' → jj < j → A (i + j) = true → b ∉ r'.eff.map (·.1)) →
    box (SA (fun m => A m || decide (m = i + jj)) i rs σ) b = box (applyE r.eff (SA A i rs σ)) b
  | [], _, _, _, h, _, _ => by simp at h
  | r0 :: rs, i, 0, σ, h, hA, hno => by
    simp at h; subst h
    simp at hA
    rw [SA, SA]
    simp only [hA, Nat.add_zero, decide_true, Bool.or_true, if_true, Bool.false_eq_true, if_false]
    have hc : ∀ σ2, box (SA (fun m => A m || decide (m = i)) (i + 1) rs σ2) b = box (SA A (i + 1) rs σ2) b := fun σ2 =>
      box_SA_congr rs (i + 1) _ _ rfl rfl fun j r' _ _ => by
        have : i + 1 + j ≠ i := by omega
        simp [this]
    rw [hc]
    by_cases hb : b ∈ r0.eff.map (·.1)
    · have hun : ∀ σ2 : Boxes, box (SA A (i + 1) rs σ2) b = box σ2 b := fun σ2 => by
        rw [box_SA_congr (A' := fun _ => false) rs (i + 1) σ2 σ2 rfl rfl fun j r' hj hbr => by
          cases hAj : A (i + 1 + j) with
          | false => rfl
          | true => exact absurd hbr (hno hb (j + 1) r' (by simpa using hj) (by omega) (by rw [show i + (j + 1) = i + 1 + j by omega]; exact hAj)),
          SA_none rs (i + 1) σ2 (fun _ _ => rfl)]
      rw [hun]
      exact box_applyE_in _ _ _ (by rw [SA_len]) hb
    · rw [box_applyE_ne _ _ hb]
      exact box_SA_congr rs (i + 1) _ _ (applyE_len _ _) (box_applyE_ne _ _ hb) fun _ _ _ _ => rfl
  | r0 :: rs, i, jj + 1, σ, h, hA, hno => by
    rw [SA, SA]
    have h0 : (decide (i = i + (jj + 1))) = false := by simp
    simp only [h0, Bool.or_false]
    have ih := box_SA_ins (A := A) (b := b) (r := r) rs (i + 1) jj (if A i = true then applyE r0.eff σ else σ) (by simpa using h) (by rw [show i + 1 + jj = i + (jj + 1) by omega]; exact hA)
      (fun hb j r' hj hlt hAj => hno hb (j + 1) r' (by simpa using hj) (by omega) (by rw [show i + (j + 1) = i + 1 + j by omega]; exact hAj))
    rw [show i + 1 + jj = i + (jj + 1) by omega] at ih
    exact ih

theorem SA_ins {A : Nat → Bool} {r : Rcd} {rs : List Rcd} {i : Nat} {σ : Boxes} (h : rs[i]? = some r) (hA : A i = false)
    (hno : ∀ b, b ∈ r.eff.map (·.1) → ∀ (j : Nat) (r' : Rcd), rs[j]? = some r' → i < j → A j = true → b ∉ r'.eff.map (·.1)) :
    SA (fun m => A m || decide (m = i)) 0 rs σ = applyE r.eff (SA A 0 rs σ) := by
  refine boxes_ext (by rw [applyE_len, SA_len, SA_len]) fun b => ?_
  have := box_SA_ins (A := A) (b := b) (r := r) rs 0 i σ h (by simpa using hA) (fun hb j r' hj hlt hAj => hno b hb j r' hj hlt (by simpa using hAj))
  simpa using this

/-! ### One operation -/
def DoesR (P : Program) (o : Oper) (s : St) (r : Rcd) : Prop :=
  ∀ c ι S a w, Rel c ι S s a w → (∀ j, r.fresh = some j → ι j = none) → ∀ (K : Act → World → Prop) QQ, (∀ ι' S' v w', Store c ι' S' (applyE r.eff s.σ) w' → (∀ v p, VRel s.σ.length ι S w v p → VRel s.σ.length ι' S' w' v p) →
    VRel s.σ.length ι' S' w' v r.p → (∀ b, b < s.σ.length → r.fresh ≠ some b → ι' b = ι b) → K (a.put o.dst v) w') → o.wpIn (wideR c.ro) 0 P a w K QQ

theorem doesR_of {P : Program} {o : Oper} {s : St} {r : Rcd} (h : Does P o s (applyE r.eff s.σ) r.p) : DoesR P o s r := fun c ι S a w hr _ K QQ hK =>
  h c ι S a w hr K QQ fun ι' S' v w' h1 h2 h3 h4 => hK ι' S' v w' h1 (fun v p hv => by have := h2 v p hv; rwa [applyE_len] at this) (by rwa [applyE_len] at h3) fun b hb _ => h4 b hb

theorem box_kill {ks : List Nat} : ∀ {σ : Boxes} {i : Nat} {ci : List PV}, box (applyE (ks.map fun k => (k, none)) σ) i = some ci → box σ i = some ci := by
  induction ks with
  | nil => intro σ i ci h; exact h
  | cons k ks ih =>
    intro σ i ci h
    have h := ih (σ := σ.set k none) h
    by_cases e : i = k
    · subst e
      unfold box at h
      by_cases hl : i < σ.length
      · simp [hl] at h
      · rw [List.getElem?_eq_none (by simp; omega)] at h; simp at h
    · rwa [box_set_ne e] at h

theorem applyE_append : ∀ (e e' : Eff) (σ : Boxes), applyE (e ++ e') σ = applyE e' (applyE e σ)
  | [], _, _ => rfl
  | x :: e, e', σ => by rw [List.cons_append, applyE, applyE, applyE_append e e']

theorem doesR_fresh {P : Program} {o : Oper} {s : St} {p q : PV} {need ks : List Nat} {j d : Nat} {cs : List PV} (h : Does P o s (applyE (ks.map fun k => (k, none)) s.σ ++ List.replicate d none ++ [some cs]) q)
    (hj : j < s.σ.length) (hk : s.k ≤ j) (hcs : ltL s.σ.length cs = true) (hp : p.lt s.σ.length = true) (hq : q = p.ren (mvθ j (s.σ.length + d))) :
    DoesR P o s ⟨p, need, (ks.map fun k => (k, none)) ++ [(j, some cs)], some j⟩ := fun c ι S a w hr hι K QQ hK => by
  refine h c ι S a w hr K QQ fun ι' S' v w' h1 h2 h3 h4 => ?_
  have hl : (applyE (ks.map fun k => (k, none)) s.σ).length = s.σ.length := applyE_len _ _
  have hM : (applyE (ks.map fun k => (k, none)) s.σ ++ List.replicate d none ++ [some cs]).length = s.σ.length + d + 1 := by simp [hl]; omega
  obtain ⟨ι'', m1, m2, m3, m4⟩ := Store.move (j := j) h1 (by omega) (by have := hr.ck; omega) (by rw [h4 j hj]; exact hι j rfl) (fun i ci hi => by
    rw [hl]
    refine ltL_of fun jj p hp => ?_
    rcases hr.st.boxes i ci (box_kill hi) with ⟨_, g⟩ | ⟨blk, c', e, g1, g2, g3, g4⟩
    · subst g; simp at hp
    · obtain ⟨v, _, hv⟩ := g4 jj p hp; exact hv.lt) (by rw [hl]; exact hcs)
  rw [hl] at m2 m3 m4
  refine hK ι'' S' v w' ?_ (fun v p hv => m2 v p hv.lt (by have := h2 v p hv; simp only [hM] at this; exact this)) (m3 v p hp (by simp only [hM] at h3; rw [← hq]; exact h3)) fun b hb hne => ?_
  · rw [applyE_append]; exact m1
  · rw [m4 b hb (fun e => hne (by simp [e])), h4 b hb]

end Go.Proofs.YtidhdlhblhbahaaGreat.Am

/- The machine of values: regions in any order, with boxes that are made and written: the rule. -/
set_option linter.unusedVariables false
set_option linter.unusedSimpArgs false
namespace Go.Proofs.YtidhdlhblhbahaaGreat.Am
open Go Go.RowKit

/-- The operations of l in whatever order that their edges let. -/
def DrawW (P : Program) (l : List Oper) (s : St) (Q : St → Prop) : Prop :=
  ∀ c ι S a w, Rel c ι S s a w → ∀ QQ : Exit → Act → World → Prop, (∀ ι' S' s' a' w', Rel c ι' S' s' a' w' → Q s' → QQ .normal a' w') →
    wpAnyIn (wideR c.ro) 0 P .any l.toArray QQ l.toArray.size (Array.replicate l.toArray.size false) a { w with drawn := w.drawn + 1 }

theorem awp_of_draw {P : Program} (hm : P.follows .mixedOrders = true) {id : Nat} {l : List Oper} {s : St} {Q : Exit → St → Prop} (h : DrawW P l s (Q .normal)) : AWp P (.region id l.toArray true) s Q :=
  fun c ι S a w hr QQ hQ => wpIn_region_any hm (h c ι S a w hr QQ fun ι' S' s' a' w' hr' hq => hQ _ _ _ _ _ _ hr' hq)

theorem draw_R {P : Program} {l : List Oper} {R : List (List Nat)} {s : St} {Q : St → Prop} {rs : List Rcd} {L : Nat}
    (hok : drawOk l R = true) (hRlt : ∀ i, ∀ j ∈ R.getD i [], j < i) (hL : s.σ.length ≤ L) (hlen : rs.length = l.length) (hdst : ∀ o ∈ l, dstOk o.dst s.N = true)
    (hfr : ∀ (i : Nat) (r : Rcd) (b : Nat), rs[i]? = some r → r.fresh = some b → s.σ.length ≤ b ∧ b < L)
    (hfd : ∀ (i i' : Nat) (r r' : Rcd) (b : Nat), rs[i]? = some r → rs[i']? = some r' → r.fresh = some b → r'.fresh = some b → i = i')
    (hpair : ∀ (i j : Nat) (r r' : Rcd), rs[i]? = some r → rs[j]? = some r' → i ≠ j → j ∉ R.getD i [] → i ∉ R.getD j [] → ∀ b ∈ r'.eff.map (·.1), b ∉ r.need ∧ b ∉ r.eff.map (·.1))
    (H : ∀ (i : Nat) (o : Oper) (r : Rcd), l[i]? = some o → rs[i]? = some r → ∀ σ : Boxes, σ.length = L →
      (∀ b ∈ r.need, box σ b = box (SA (fun m => decide (m < i)) 0 rs (s.σ ++ List.replicate (L - s.σ.length) none)) b) →
      ∃ T', (∀ t q, look T' t = some q → t ∈ o.looksAt l.toArray ∧ look (TA (fun m => decide (m < i)) 0 l (rs.map (·.p)) s.T) t = some q) ∧
        ((wantedA ⟨s.N, T', σ, s.k⟩ l.toArray o = some true ∧ DoesR P o ⟨s.N, T', σ, s.k⟩ r) ∨ (wantedA ⟨s.N, T', σ, s.k⟩ l.toArray o = some false ∧ r.eff = [] ∧ r.fresh = none ∧ r.p = .tup [])))
    (hQ : Q ⟨s.N, TA (fun _ => true) 0 l (rs.map (·.p)) s.T, SA (fun _ => true) 0 rs (s.σ ++ List.replicate (L - s.σ.length) none), s.k⟩) : DrawW P l s Q := by
  intro c ι0 S0 a0 w0 hr0 QQ hQQ
  generalize hσp : s.σ ++ List.replicate (L - s.σ.length) none = σp at *
  have hσpl : σp.length = L := by rw [← hσp]; simp; omega
  have key : ∀ (fuel : Nat) (listed : Array Bool) (a : Act) (w : World) (ι : Nat → Option Nat) (S : Nat → Prop), listed.size = l.length → (List.range l.length).countP (fun j => !listed.getD j false) = fuel →
      (∀ (i : Nat) (o : Oper), l[i]? = some o → listed.getD i false = true → ∀ e ∈ edgesOf o, listed.getD e false = true) →
      Rel c ι S ⟨s.N, TA (fun j => listed.getD j false) 0 l (rs.map (·.p)) s.T, SA (fun j => listed.getD j false) 0 rs σp, s.k⟩ a w →
      (∀ (i : Nat) (r : Rcd) (b : Nat), rs[i]? = some r → listed.getD i false = false → r.fresh = some b → ι b = none) →
      wpAnyIn (wideR c.ro) 0 P .any l.toArray QQ fuel listed a w := by
    intro fuel
    induction fuel with
    | zero =>
      intro listed a w ι S hsz hcnt hcl hr _
      have hall : ∀ i, i < l.length → listed.getD i false = true := fun i hi => by
        have := List.countP_eq_zero.1 hcnt i (by simpa using hi)
        simpa using this
      refine ⟨?_, hQQ ι S ⟨s.N, TA (fun _ => true) 0 l (rs.map (·.p)) s.T, SA (fun _ => true) 0 rs σp, s.k⟩ a w (hr.temps_of rfl ?_ rfl ?_) hQ⟩
      · rw [List.eq_nil_iff_forall_not_mem]
        intro j hj
        obtain ⟨h1, o, ho, _⟩ := mem_ready.1 hj
        have hjl : j < l.length := by simpa using (Array.getElem?_eq_some_iff.1 ho).1
        have := hall j hjl
        rw [Array.getD_eq_getD_getElem?, Array.getElem?_eq_getElem (by omega)] at h1 this
        simp at h1 this
        rw [this] at h1; cases h1
      · refine boxes_ext (by simp only [SA_len]) fun b => box_SA_congr rs 0 _ _ rfl rfl fun j r hj _ => ?_
        have hjl := (List.getElem?_eq_some_iff.1 hj).1
        have := hall j (by omega)
        simpa using this.symm
      · intro t p ht
        rw [← ht]
        exact look_TA_congr l _ 0 _ _ rfl fun j o ho _ => by simpa using hall j (List.getElem?_eq_some_iff.1 ho).1
    | succ fuel ih =>
      intro listed a w ι S hsz hcnt hcl hr hι
      refine ⟨fun hnil => ?_, fun i hi => ?_⟩
      · exfalso
        have hall : ∀ i, i < l.length → listed.getD i false = true := by
          intro i
          induction i using Nat.strongRecOn with
          | _ i ihi =>
            intro hi
            cases hli : listed.getD i false with
            | true => rfl
            | false =>
              exfalso
              have hoi : l[i]? = some l[i] := List.getElem?_eq_getElem hi
              have hmem : i ∈ Region.ready .any l.toArray listed := mem_ready.2 ⟨by
                rw [Array.getD_eq_getD_getElem?, Array.getElem?_eq_getElem (by omega)] at hli ⊢
                simpa using hli, l[i], by simp [hi], fun e he hb => by
                have hedge := edges_mem.2 ⟨e, he, hb, rfl⟩
                have := (drawOk_spec hok hoi).1 _ hedge
                exact ihi _ this (by omega)⟩
              rw [hnil] at hmem
              simp at hmem
        have : (List.range l.length).countP (fun j => !listed.getD j false) = 0 := List.countP_eq_zero.2 fun j hj => by simp [hall j (by simpa using hj)]
        omega
      · obtain ⟨h1, o, ho', hed⟩ := mem_ready.1 hi
        have hil : i < l.length := by simpa using (Array.getElem?_eq_some_iff.1 ho').1
        have ho : l[i]? = some o := by simpa using ho'
        have hAi : listed.getD i false = false := by
          rw [Array.getD_eq_getD_getElem?, Array.getElem?_eq_getElem (by omega)] at h1 ⊢
          simpa using h1
        have hedges : ∀ e ∈ edgesOf o, listed.getD e false = true := fun e he => by
          obtain ⟨x, hx, hb, rfl⟩ := edges_mem.1 he
          exact hed x hx hb
        have hin := clos_in hok hcl i o ho hedges
        have hout : ∀ j, listed.getD j false = true → j < l.length → i ∉ R.getD j [] := fun j hj hjl hc => by
          have hoj : l[j]? = some l[j] := List.getElem?_eq_getElem hjl
          have := clos_in hok hcl j _ hoj (hcl j _ hoj hj) i hc
          rw [hAi] at this; cases this
        obtain ⟨r, hrr⟩ : ∃ r, rs[i]? = some r := ⟨_, List.getElem?_eq_getElem (by omega)⟩
        have hp : (rs.map (·.p))[i]? = some r.p := by simp [hrr]
        obtain ⟨T', hT', hstep⟩ := H i o r ho hrr (SA (fun j => listed.getD j false) 0 rs σp) (by rw [SA_len, hσpl]) (fun b hb => by
          refine box_SA_congr rs 0 _ _ rfl rfl fun j r' hj hbr => ?_
          have hjl : j < l.length := by have := (List.getElem?_eq_some_iff.1 hj).1; omega
          simp only [Nat.zero_add]
          by_cases hji : j = i
          · subst hji; rw [hAi]; simp
          · by_cases h1 : j ∈ R.getD i []
            · rw [hin j h1]; simp [hRlt i j h1]
            · by_cases h2 : i ∈ R.getD j []
              · have hjA : listed.getD j false = false := by
                  cases hx : listed.getD j false with
                  | false => rfl
                  | true => exact absurd h2 (hout j hx hjl)
                rw [hjA]; have := hRlt j i h2; simp; omega
              · exact absurd hb (hpair i j r r' hrr hj (fun e => hji e.symm) h1 h2 b hbr).1)
        have hrT : Rel c ι S ⟨s.N, T', SA (fun j => listed.getD j false) 0 rs σp, s.k⟩ a w := hr.temps_of rfl rfl rfl fun t q ht => by
          obtain ⟨g1, g2⟩ := hT' t q ht
          rw [← g2]
          exact look_TA_congr l _ 0 _ _ rfl fun j o' hj hd => by
            rcases (drawOk_spec hok ho).2.2.1 t g1 j o' hj hd with hjR | hjR
            · simp [hin j hjR, hRlt i j hjR]
            · have hjA : listed.getD j false = false := by
                cases hx : listed.getD j false with
                | false => rfl
                | true => exact absurd hjR (hout j hx (List.getElem?_eq_some_iff.1 hj).1)
              have h3 := hRlt j i hjR
              simp [hjA, show ¬ j < i by omega]
        have hsa : SA (fun m => listed.getD m false || decide (m = i)) 0 rs σp = applyE r.eff (SA (fun j => listed.getD j false) 0 rs σp) :=
          SA_ins hrr hAi fun b hb j r' hj hlt hAj hbr => by
            have hjl : j < l.length := by have := (List.getElem?_eq_some_iff.1 hj).1; omega
            exact (hpair i j r r' hrr hj (by omega) (fun h => by have := hRlt i j h; omega) (hout j hAj hjl) b hbr).2 hb
        have hnext : ∀ ι' S' v w', Store c ι' S' (applyE r.eff (SA (fun j => listed.getD j false) 0 rs σp)) w' →
            (∀ v p, VRel (SA (fun j => listed.getD j false) 0 rs σp).length ι S w v p → VRel (SA (fun j => listed.getD j false) 0 rs σp).length ι' S' w' v p) →
            VRel (SA (fun j => listed.getD j false) 0 rs σp).length ι' S' w' v r.p → (∀ b, b < (SA (fun j => listed.getD j false) 0 rs σp).length → r.fresh ≠ some b → ι' b = ι b) →
            wpAnyIn (wideR c.ro) 0 P .any l.toArray QQ fuel (listed.setIfInBounds i true) (a.put o.dst v) w' := fun ι' S' v w' hst hmono hv hιι => by
          have hset := listed_set (listed := listed) (i := i) (by omega)
          have hset' : ∀ j, (listed.setIfInBounds i true).getD j false = (listed.getD j false || decide (j = i)) := fun j => congrFun hset j
          have hrn := Rel.next hr hst (fun v p h => by rw [applyE_len]; exact hmono v p h) (hdst o (List.mem_of_getElem? ho)) (by rw [applyE_len]; exact hv)
          refine ih _ _ _ ι' S' (by simpa using hsz) ?_ ?_ ?_ ?_
          · have h3 := countP_one (f := fun _ => true) (A := fun j => listed.getD j false) hAi (List.range l.length) List.nodup_range (by simpa using hil)
            simp only [Bool.true_and, if_true] at h3
            have h4 := List.length_eq_countP_add_countP (fun j => listed.getD j false) (l := List.range l.length)
            have h5 := List.length_eq_countP_add_countP (fun j => listed.getD j false || decide (j = i)) (l := List.range l.length)
            have e1 : (List.range l.length).countP (fun j => !(listed.setIfInBounds i true).getD j false) = (List.range l.length).countP (fun a => decide ¬(fun j => listed.getD j false || decide (j = i)) a = true) := by
              refine List.countP_congr fun j _ => ?_
              rw [hset' j]; simp
            have e2 : (List.range l.length).countP (fun j => !listed.getD j false) = (List.range l.length).countP (fun a => decide ¬(fun j => listed.getD j false) a = true) := by
              refine List.countP_congr fun j _ => ?_
              simp
            rw [e1]
            rw [e2] at hcnt
            simp only [] at h4 h5 hcnt ⊢
            generalize (List.range l.length).countP (fun a => decide ¬(fun j => listed.getD j false || decide (j = i)) a = true) = x1 at *
            try simp only [] at h4 h5 hcnt h3 ⊢
            omega
          · intro j oj hj hlj e he
            rw [hset' j] at hlj
            rw [hset' e]
            simp only [Bool.or_eq_true, decide_eq_true_eq] at hlj ⊢
            rcases hlj with g | rfl
            · exact .inl (hcl j oj hj g e he)
            · rw [ho] at hj; simp at hj; subst hj; exact .inl (hedges e he)
          · rw [hset, hsa]
            refine hrn.temps_of (by cases o.dst <;> rfl) (by cases o.dst <;> rfl) (by cases o.dst <;> rfl) fun t q ht => ?_
            rw [← ht]
            have hcongr : o.dst ≠ some t → look (TA (fun j => listed.getD j false) 0 l (rs.map (·.p)) s.T) t = look (TA (fun j => listed.getD j false || decide (j = i)) 0 l (rs.map (·.p)) s.T) t := fun hne =>
              look_TA_congr l _ 0 _ _ rfl fun j o' hj hd => by
                have : j ≠ i := fun e => by subst e; rw [ho] at hj; simp at hj; subst hj; exact hne hd
                simp [this]
            cases hd : o.dst with
            | none => exact hcongr (by rw [hd]; simp)
            | some d =>
              by_cases e : t = d
              · subst e
                rw [look_TA_at l _ 0 s.T i ho hp hd (by simp) fun j' o' hj hne => (drawOk_spec hok ho).2.2.2 t hd j' o' hj hne]
                simp [St.put, look]
              · simp only [St.put, look, if_neg e]
                exact hcongr (by rw [hd]; simpa using fun h => e h.symm)
          · intro j r' b hj hlj hf
            rw [hset' j] at hlj
            simp only [Bool.or_eq_false_iff, decide_eq_false_iff_not] at hlj
            rw [hιι b (by rw [SA_len, hσpl]; exact (hfr j r' b hj hf).2) (fun e => hlj.2 (hfd j i r' r b hj hrr hf e))]
            exact hι j r' b hj hlj.1 hf
        unfold wpOpIn
        rw [ho']
        simp only
        rcases hstep with ⟨hw, hdoes⟩ | ⟨hw, he, hf, hp0⟩
        · rw [if_pos (wanted_rel hrT hw)]
          exact (hdoes c ι S a w hrT (fun j hj => hι i r j hrr hAi hj) _ QQ hnext)
        · rw [wanted_rel hrT hw]
          simp only [Bool.false_eq_true, if_false]
          refine ⟨fun _ _ => trivial, ?_⟩
          exact hnext ι S undef w (by rw [he]; exact hr.st) (fun v p h => h) (by rw [hp0]; exact .imm (IRel.und _ _)) (fun _ _ _ => rfl)
  have hA0 : ∀ j, (Array.replicate l.length false).getD j false = false := fun j => by
    rw [Array.getD_eq_getD_getElem?]
    by_cases h : j < l.length <;> simp [h]
  have hsize : l.toArray.size = l.length := by simp
  rw [hsize]
  obtain ⟨ι1, p1, p2, p3⟩ := hr0.st.pad (L - s.σ.length)
  rw [hσp] at p1 p2
  refine key l.length (Array.replicate l.length false) a0 _ ι1 S0 (by simp) ?_ (fun i o _ h => by rw [hA0] at h; cases h) ?_ ?_
  · simp [hA0]
  · have e1 : TA (fun j => (Array.replicate l.length false).getD j false) 0 l (rs.map (·.p)) s.T = s.T := TA_none l _ 0 s.T hA0
    have e2 : SA (fun j => (Array.replicate l.length false).getD j false) 0 rs σp = σp := SA_none rs 0 σp fun j _ => hA0 j
    rw [e1, e2]
    exact ⟨p1.drew, hr0.ck, hr0.tsz, hr0.defers, fun t p ht => (p2 _ _ (hr0.temps t p ht)).drew⟩
  · intro i r b hi _ hf
    exact p3 b (hfr i r b hi hf).1
end Go.Proofs.YtidhdlhblhbahaaGreat.Am

/- The machine of values: running a region whose operations go in any order, with boxes. -/
set_option linter.unusedVariables false
set_option linter.unusedSimpArgs false
namespace Go.Proofs.YtidhdlhblhbahaaGreat.Am
open Go Go.RowKit

def ptrN : Option PV → List Nat
  | some (.ptr b _) => [b]
  | _ => []
def oslN : Option PV → List Nat
  | some (.osl b _ _ _) => [b]
  | some (.osc b _ _ _ _) => [b]
  | _ => []
def oslK : Option PV → List Nat
  | some (.osl b _ _ _) => [b]
  | _ => []
def mrefN : Option PV → List Nat
  | some (.mref b) => [b]
  | _ => []
def needOf (s : St) : Op → List Nat
  | .lookup _ x _ _ => mrefN (opd s x)
  | .mapUpdate _ x _ _ => mrefN (opd s x)
  | .call { callee := .builtin .delete, args, argTypes } => match args.toList with
    | [x, _] => mrefN (opd s x)
    | _ => []
  | .call { callee := .builtin .len, args, argTypes } => match args.toList with
    | [x] => mrefN (opd s x)
    | _ => []
  | .load _ x => ptrN (opd s x)
  | .store _ x _ => ptrN (opd s x)
  | .call { callee := .builtin .append, args, argTypes } => match args.toList with
    | [x, y] => oslN (opd s x) ++ oslN (opd s y)
    | _ => []
  | .call { callee := .builtin .copy, args, argTypes } => match args.toList with
    | [x, y] => oslN (opd s x) ++ oslN (opd s y)
    | _ => []
  | .call { callee := .builtin .clear, args, argTypes } => match args.toList with
    | [x] => oslN (opd s x)
    | _ => []
  | _ => []
def killOf (s : St) : Op → List Nat
  | .call { callee := .builtin .append, args, argTypes } => match args.toList with
    | [x, _] => oslK (opd s x)
    | _ => []
  | _ => []
def PV.mv (j : Nat) : PV → PV
  | .ptr _ off => .ptr j off
  | .mref _ => .mref j
  | .osl _ z off len => .osl j z off len
  | .osc _ z off len cap => .osc j z off len cap
  | p => p

/-- Only some boxes are known. -/
def blur (L : Nat) (need : List Nat) (σ : Boxes) (y : Nat → Option (List PV)) : Boxes := (List.range L).map fun b => if need.contains b then box σ b else y b

theorem blur_eq {L : Nat} {need : List Nat} {σ σ' : Boxes} (hl : σ'.length = L) (h : ∀ b ∈ need, box σ' b = box σ b) : blur L need σ (box σ') = σ' := by
  refine List.ext_getElem (by simp [blur, hl]) fun i h1 h2 => ?_
  simp only [blur, List.getElem_map, List.getElem_range]
  have hb : box σ' i = σ'[i] := by unfold box; rw [List.getElem?_eq_getElem h2]; cases σ'[i] <;> rfl
  split
  · rename_i hc
    rw [← h i (by simpa using hc), hb]
  · exact hb

/-- The operation by itself, with what it looks at. -/
def OneAt (P : Program) (ops : Array Oper) (o : Oper) (N k : Nat) (T : List (Nat × PV)) (L : Nat) (need : List Nat) (σ : Boxes) (f : Boxes → Boxes) (q : PV) : Prop :=
  wantedA ⟨N, T, [], k⟩ ops o = some true ∧ ∀ y, oneOp P ⟨N, T, blur L need σ y, k⟩ o.op = some (f (blur L need σ y), q)

def effS (need : List Nat) (σ : Boxes) : Eff := need.map fun b => (b, box σ b)
def lastBox (σ : Boxes) : List PV := match box σ (σ.length - 1) with | some c => c | none => []
def effF (ks : List Nat) (j : Nat) (c : List PV) : Eff := (ks.map fun k => (k, none)) ++ [(j, some c)]

def isFr (c : Nat) : Bool := decide (c = 4) || decide (c = 5)

def goE (P : Program) (ops : Array Oper) (L : Nat) : List Oper → List (Nat × Nat) → St → List Rcd → (St → List Rcd → Prop) → Prop
  | [], _, s, rs, K => K s rs
  | _ :: _, [], _, _, _ => False
  | o :: l, (cls, j) :: rg, s, rs, K =>
    @brkB (wantedA s ops o)
      ⟨if cls = 2 then @at_ s ⟨fun s => ∃ r, CallOk P ops o s.N s.k (seen ops o s.T) r ∧ goE P ops L l rg (s.put o.dst r) (rs ++ [⟨r, [], [], none⟩]) K⟩
       else if cls = 3 then @at_ s ⟨fun s => ∃ r need eff, (wantedA ⟨s.N, seen ops o s.T, [], s.k⟩ ops o = some true ∧ ∀ y, Does P o ⟨s.N, seen ops o s.T, blur L need s.σ y, s.k⟩ (applyE eff (blur L need s.σ y)) r) ∧
         goE P ops L l rg (St.put { s with σ := applyE eff s.σ } o.dst r) (rs ++ [⟨r, need, eff, none⟩]) K⟩
       else if cls = 5 then @at_ s ⟨fun s => ∃ r need ks c, ((wantedA ⟨s.N, seen ops o s.T, [], s.k⟩ ops o = some true ∧ ∀ y, Does P o ⟨s.N, seen ops o s.T, blur L (j :: need) s.σ y, s.k⟩ (applyE (ks.map fun k => (k, none)) (blur L (j :: need) s.σ y) ++ [some c]) (r.ren (mvθ j L))) ∧
           (j < L ∧ s.k ≤ j ∧ ltL L c = true ∧ r.lt L = true)) ∧
         goE P ops L l rg (St.put { s with σ := applyE (effF ks j c) s.σ } o.dst r) (rs ++ [⟨r, j :: need, effF ks j c, some j⟩]) K⟩
       else @brk (oneOp P s o.op) ⟨fun x =>
         if cls = 0 then OneAt P ops o s.N s.k (seen ops o s.T) L (needOf s o.op) s.σ (applyE []) x.2 ∧ goE P ops L l rg (s.put o.dst x.2) (rs ++ [⟨x.2, needOf s o.op, [], none⟩]) K
         else if cls = 1 then OneAt P ops o s.N s.k (seen ops o s.T) L (needOf s o.op) s.σ (applyE (effS (needOf s o.op) x.1)) x.2 ∧
           goE P ops L l rg (St.put { s with σ := applyE (effS (needOf s o.op) x.1) s.σ } o.dst x.2) (rs ++ [⟨x.2, needOf s o.op, effS (needOf s o.op) x.1, none⟩]) K
         else if cls = 4 then (OneAt P ops o s.N s.k (seen ops o s.T) L (j :: needOf s o.op) s.σ (fun σ => applyE ((killOf s o.op).map fun k => (k, none)) σ ++ List.replicate (x.1.length - L - 1) none ++ [some (lastBox x.1)]) ((x.2.mv j).ren (mvθ j (L + (x.1.length - L - 1)))) ∧
             (j < L ∧ s.k ≤ j ∧ ltL L (lastBox x.1) = true ∧ (x.2.mv j).lt L = true)) ∧
           goE P ops L l rg (St.put { s with σ := applyE (effF (killOf s o.op) j (lastBox x.1)) s.σ } o.dst (x.2.mv j)) (rs ++ [⟨x.2.mv j, j :: needOf s o.op, effF (killOf s o.op) j (lastBox x.1), some j⟩]) K else False⟩ ⟨False⟩⟩
      ⟨wantedA ⟨s.N, seen ops o s.T, [], s.k⟩ ops o = some false ∧ goE P ops L l rg (s.put o.dst (.tup [])) (rs ++ [⟨.tup [], [], [], none⟩]) K⟩ ⟨False⟩

def StepR (P : Program) (ops : Array Oper) (o : Oper) (s : St) (r : Rcd) : Prop :=
  (wantedA s ops o = some true ∧ DoesR P o s r) ∨ (wantedA s ops o = some false ∧ r.eff = [] ∧ r.fresh = none ∧ r.p = .tup [])

theorem TA_none' {A : Nat → Bool} : ∀ (l : List Oper) (ps : List PV) (i : Nat) (T : List (Nat × PV)), (∀ j, i ≤ j → A j = false) → TA A i l ps T = T
  | [], ps, i, T, _ => by simp [TA]
  | o :: l, [], i, T, _ => by simp [TA]
  | o :: l, p :: ps, i, T, h => by
    unfold TA
    rw [TA_none' l ps (i + 1) _ fun j hj => h j (by omega), h i (Nat.le_refl _)]
    split <;> rfl

theorem goE_spec {P : Program} {ops : Array Oper} {L N k : Nat} : ∀ {l : List Oper} {rg : List (Nat × Nat)} {s : St} {rs0 : List Rcd} {K : St → List Rcd → Prop} (i : Nat), s.N = N → s.k = k → s.σ.length = L →
    goE P ops L l rg s rs0 K → ∃ rs s', K s' (rs0 ++ rs) ∧ rs.length = l.length ∧ s'.N = N ∧ s'.k = k ∧ s'.T = TA (fun _ => true) i l (rs.map (·.p)) s.T ∧ s'.σ = SA (fun _ => true) i rs s.σ ∧
      ∀ (jj : Nat) (o : Oper) (r : Rcd), l[jj]? = some o → rs[jj]? = some r → ∃ cls j, rg[jj]? = some (cls, j) ∧ (∀ b, r.fresh = some b → isFr cls = true ∧ b = j) ∧ (r.eff ≠ [] → cls ≠ 0 ∧ cls ≠ 2) ∧
        ∀ y, StepR P ops o ⟨N, seen ops o (TA (fun m => decide (m < i + jj)) i l (rs.map (·.p)) s.T), blur L r.need (SA (fun m => decide (m < i + jj)) i rs s.σ) y, k⟩ r
  | [], rg, s, rs0, K, i, hN, hk, hL, h => ⟨[], s, by simpa [goE] using h, rfl, hN, hk, by simp [TA], rfl, fun jj o r ho => by simp at ho⟩
  | o :: l, [], s, rs0, K, i, hN, hk, hL, h => by simp [goE] at h
  | o :: l, (cls, j) :: rg, s, rs0, K, i, hN, hk, hL, h => by
    have step : ∀ (r : Rcd) (s2 : St), s2.N = N → s2.k = k → s2.T = (match o.dst with | some d => (d, r.p) :: s.T | none => s.T) → s2.σ = applyE r.eff s.σ →
        (∀ b, r.fresh = some b → isFr cls = true ∧ b = j) → (r.eff ≠ [] → cls ≠ 0 ∧ cls ≠ 2) → (∀ y, StepR P ops o ⟨N, seen ops o s.T, blur L r.need s.σ y, k⟩ r) → goE P ops L l rg s2 (rs0 ++ [r]) K →
        ∃ rs s', K s' (rs0 ++ rs) ∧ rs.length = (o :: l).length ∧ s'.N = N ∧ s'.k = k ∧ s'.T = TA (fun _ => true) i (o :: l) (rs.map (·.p)) s.T ∧ s'.σ = SA (fun _ => true) i rs s.σ ∧
          ∀ (jj : Nat) (o' : Oper) (r : Rcd), (o :: l)[jj]? = some o' → rs[jj]? = some r → ∃ cls' j', ((cls, j) :: rg)[jj]? = some (cls', j') ∧ (∀ b, r.fresh = some b → isFr cls' = true ∧ b = j') ∧ (r.eff ≠ [] → cls' ≠ 0 ∧ cls' ≠ 2) ∧
            ∀ y, StepR P ops o' ⟨N, seen ops o' (TA (fun m => decide (m < i + jj)) i (o :: l) (rs.map (·.p)) s.T), blur L r.need (SA (fun m => decide (m < i + jj)) i rs s.σ) y, k⟩ r := fun r s2 h1 h2 h3 h4 h5 h6 h7 h8 => by
      obtain ⟨rs, s', g1, g2, g3, g4, g5, g6, g7⟩ := goE_spec (i + 1) h1 h2 (by rw [h4, applyE_len]; exact hL) h8
      refine ⟨r :: rs, s', by simpa using g1, by simp [g2], g3, g4, ?_, ?_, fun jj o' r' ho hr => ?_⟩
      · rw [g5, h3]
        cases hd : o.dst <;> simp [TA, hd]
      · rw [g6, h4]; simp [SA]
      · cases jj with
        | zero =>
          simp only [List.getElem?_cons_zero, Option.some.injEq] at ho hr
          subst ho hr
          refine ⟨cls, j, rfl, h5, h6, fun y => ?_⟩
          rw [TA_none' _ _ i _ (fun m hm => by simp; omega), SA_none _ i _ (fun m hm => by simp; omega)]
          exact h7 y
        | succ jj =>
          obtain ⟨cls', j', k1, k2, k3, k4⟩ := g7 jj o' r' (by simpa using ho) (by simpa using hr)
          refine ⟨cls', j', by simpa using k1, k2, k3, fun y => ?_⟩
          have e : i + (jj + 1) = i + 1 + jj := by omega
          have e1 : TA (fun m => decide (m < i + (jj + 1))) i (o :: l) ((r :: rs).map (·.p)) s.T = TA (fun m => decide (m < i + 1 + jj)) (i + 1) l (rs.map (·.p)) s2.T := by
            rw [h3, e]
            have : (decide (i < i + 1 + jj)) = true := by simp; omega
            cases hd : o.dst <;> simp [TA, hd, this]
          have e2 : SA (fun m => decide (m < i + (jj + 1))) i (r :: rs) s.σ = SA (fun m => decide (m < i + 1 + jj)) (i + 1) rs s2.σ := by
            rw [h4, e]
            have : (decide (i < i + 1 + jj)) = true := by simp; omega
            simp [SA, this]
          rw [e1, e2]
          exact k4 y
    have hput : ∀ (p : PV) (σ : Boxes), (St.put { s with σ := σ } o.dst p).N = N ∧ (St.put { s with σ := σ } o.dst p).k = k ∧ (St.put { s with σ := σ } o.dst p).T = (match o.dst with | some d => (d, p) :: s.T | none => s.T) ∧ (St.put { s with σ := σ } o.dst p).σ = σ := fun p σ => by
      cases o.dst <;> simp [St.put, hN, hk]
    have hput' : ∀ (p : PV), (s.put o.dst p).N = N ∧ (s.put o.dst p).k = k ∧ (s.put o.dst p).T = (match o.dst with | some d => (d, p) :: s.T | none => s.T) ∧ (s.put o.dst p).σ = s.σ := fun p => hput p s.σ
    have hw : ∀ (T : List (Nat × PV)) (σ σ' : Boxes), wantedA ⟨s.N, T, σ, s.k⟩ ops o = wantedA ⟨N, T, σ', k⟩ ops o := fun T σ σ' => rfl
    unfold goE brkB at h
    split at h
    · simp only at h
      split at h
      · rename_i hc
        obtain ⟨r, hcall, h⟩ := h
        obtain ⟨g1, g2, g3, g4⟩ := hput' r
        refine step ⟨r, [], [], none⟩ _ g1 g2 g3 g4 (fun b hb => by cases hb) (fun h => absurd rfl h) (fun y => ?_) h
        rw [hN, hk] at hcall
        rcases hcall (blur L [] s.σ y) with ⟨a1, a2⟩ | ⟨a1, a2, a3⟩
        · exact .inl ⟨a1, doesR_of a2⟩
        · exact .inr ⟨a1, rfl, rfl, a3⟩
      · split at h
        · rename_i hc2 hc
          obtain ⟨r, need, eff, hstep, h⟩ := h
          obtain ⟨g1, g2, g3, g4⟩ := hput r (applyE eff s.σ)
          refine step ⟨r, need, eff, none⟩ _ g1 g2 g3 g4 (fun b hb => by cases hb) (fun _ => ⟨by omega, by omega⟩) (fun y => ?_) h
          have := hstep.2 y
          rw [hN, hk] at this
          exact .inl ⟨by rw [← hw]; exact hstep.1, doesR_of this⟩
        · split at h
          · rename_i hc5
            obtain ⟨r, need, ks, c, ⟨⟨c1, c2⟩, c3, c4, c5, c6⟩, h⟩ := h
            obtain ⟨g1, g2, g3, g4⟩ := hput r (applyE (effF ks j c) s.σ)
            refine step ⟨r, j :: need, effF ks j c, some j⟩ _ g1 g2 g3 g4 (fun b hb => ⟨by simp [isFr, hc5], by simp at hb; exact hb.symm⟩) (fun _ => ⟨by omega, by omega⟩) (fun y => .inl ⟨by rw [← hw]; exact c1, ?_⟩) h
            have := c2 y
            rw [hN, hk] at this
            have hbl : (blur L (j :: need) s.σ y).length = L := by simp [blur]
            exact doesR_fresh (ks := ks) (d := 0) (s := ⟨N, seen ops o s.T, blur L (j :: need) s.σ y, k⟩) (by simpa using this) (by rw [hbl]; exact c3) (by rw [← hk]; exact c4) (by rw [hbl]; exact c5) (by rw [hbl]; exact c6) (by rw [hbl]; rfl)
          unfold brk at h
          split at h
          · rename_i x hx
            simp only at h
            split at h
            · obtain ⟨⟨c1, c2⟩, h⟩ := h
              obtain ⟨g1, g2, g3, g4⟩ := hput' x.2
              refine step ⟨x.2, needOf s o.op, [], none⟩ _ g1 g2 g3 g4 (fun b hb => by cases hb) (fun h => absurd rfl h) (fun y => .inl ⟨by rw [← hw]; exact c1, doesR_of ?_⟩) h
              have := c2 y
              rw [hN, hk] at this
              exact does_one this
            · split at h
              · rename_i hc0 hc1
                obtain ⟨⟨c1, c2⟩, h⟩ := h
                obtain ⟨g1, g2, g3, g4⟩ := hput x.2 (applyE (effS (needOf s o.op) x.1) s.σ)
                refine step ⟨x.2, needOf s o.op, effS (needOf s o.op) x.1, none⟩ _ g1 g2 g3 g4 (fun b hb => by cases hb) (fun _ => ⟨by omega, by omega⟩) (fun y => .inl ⟨by rw [← hw]; exact c1, doesR_of ?_⟩) h
                have := c2 y
                rw [hN, hk] at this
                exact does_one this
              · split at h
                · rename_i hc4
                  obtain ⟨⟨⟨c1, c2⟩, c3, c4, c5, c6⟩, h⟩ := h
                  obtain ⟨g1, g2, g3, g4⟩ := hput (x.2.mv j) (applyE (effF (killOf s o.op) j (lastBox x.1)) s.σ)
                  refine step ⟨x.2.mv j, j :: needOf s o.op, effF (killOf s o.op) j (lastBox x.1), some j⟩ _ g1 g2 g3 g4 (fun b hb => ⟨by simp [isFr, hc4], by simp at hb; exact hb.symm⟩) (fun _ => ⟨by omega, by omega⟩) (fun y => .inl ⟨by rw [← hw]; exact c1, ?_⟩) h
                  have := c2 y
                  rw [hN, hk] at this
                  have hbl : (blur L (j :: needOf s o.op) s.σ y).length = L := by simp [blur]
                  exact doesR_fresh (s := ⟨N, seen ops o s.T, blur L (j :: needOf s o.op) s.σ y, k⟩) (does_one this) (by rw [hbl]; exact c3) (by rw [← hk]; exact c4) (by rw [hbl]; exact c5) (by rw [hbl]; exact c6) (by rw [hbl])
                · exact h.elim
          · exact h.elim
    · rename_i hw0
      obtain ⟨c1, h⟩ := h
      obtain ⟨g1, g2, g3, g4⟩ := hput' (.tup [])
      exact step ⟨.tup [], [], [], none⟩ _ g1 g2 g3 g4 (fun b hb => by cases hb) (fun h => absurd rfl h) (fun y => .inr ⟨by rw [← hw]; exact c1, rfl, rfl, rfl⟩) h
    · exact h.elim

def isEff (c : Nat) : Bool := decide (c ≠ 0) && decide (c ≠ 2)
def disjN (a b : List Nat) : Bool := a.all fun x => !b.contains x
def slotsR (rs : List Rcd) (i : Nat) : List Nat := match rs[i]? with | some r => r.eff.map (·.1) | none => []
def needR (rs : List Rcd) (i : Nat) : List Nat := match rs[i]? with | some r => r.need | none => []
def pairChk (rs : List Rcd) : List (Nat × Nat) → Prop
  | [] => True
  | x :: r => (disjN (slotsR rs x.2) (needR rs x.1 ++ slotsR rs x.1) = true ∧ disjN (slotsR rs x.1) (needR rs x.2 ++ slotsR rs x.2) = true) ∧ pairChk rs r

theorem pairChk_spec {rs : List Rcd} : ∀ {inc : List (Nat × Nat)}, pairChk rs inc → ∀ x ∈ inc, disjN (slotsR rs x.2) (needR rs x.1 ++ slotsR rs x.1) = true ∧ disjN (slotsR rs x.1) (needR rs x.2 ++ slotsR rs x.2) = true
  | [], _, x, hx => by simp at hx
  | y :: r, h, x, hx => by
    rcases List.mem_cons.1 hx with rfl | hx
    · exact h.1
    · exact pairChk_spec h.2 x hx

theorem disjN_spec {a b : List Nat} (h : disjN a b = true) : ∀ x ∈ a, x ∉ b := fun x hx hb => by
  have := List.all_eq_true.1 h x hx
  simp [hb] at this

/-- What is asked of the plan. -/
def statOk (l : List Oper) (R : List (List Nat)) (rg : List (Nat × Nat)) (n0 L : Nat) (inc : List (Nat × Nat)) : Bool :=
  drawOk l R && (decide (n0 ≤ L) && (decide (R.length = l.length) && (List.range l.length).all fun i => ((R.getD i []).all fun j => decide (j < i)) &&
    ((!isFr (rg.getD i (0, 0)).1 || (decide (n0 ≤ (rg.getD i (0, 0)).2) && decide ((rg.getD i (0, 0)).2 < L))) &&
    (List.range l.length).all fun j => decide (i = j) || (
      (!isFr (rg.getD i (0, 0)).1 || (!isFr (rg.getD j (0, 0)).1 || decide ((rg.getD i (0, 0)).2 ≠ (rg.getD j (0, 0)).2))) &&
      ((R.getD i []).contains j || ((R.getD j []).contains i || ((!isEff (rg.getD j (0, 0)).1) || (inc.contains (i, j) || inc.contains (j, i))))))))) 
end Go.Proofs.YtidhdlhblhbahaaGreat.Am

/- The machine of values: regions in any order, with boxes: as it is used. -/
set_option linter.unusedVariables false
set_option linter.unusedSimpArgs false
namespace Go.Proofs.YtidhdlhblhbahaaGreat.Am
open Go Go.RowKit

theorem draw_E {P : Program} {l : List Oper} {s : St} {Q : St → Prop} (rg : List (Nat × Nat)) (n0 L : Nat) (inc : List (Nat × Nat))
    (hst : statOk l (clos l []) rg n0 L inc = true) (hn : s.σ.length = n0) (hdst : l.all (fun o => dstOk o.dst s.N) = true)
    (h : goE P l.toArray L l rg { s with σ := s.σ ++ List.replicate (L - n0) none } [] (fun s' rs => pairChk rs inc ∧ Q s')) : DrawW P l s Q := by
  subst hn
  simp only [statOk, Bool.and_eq_true, decide_eq_true_eq, List.all_eq_true, List.mem_range] at hst
  obtain ⟨hok, hL, hRl, hall⟩ := hst
  obtain ⟨rs, s', ⟨hpc, hQ⟩, hlen, hN, hk, hT, hσ, hsteps⟩ := goE_spec (s := { s with σ := s.σ ++ List.replicate (L - s.σ.length) none }) (N := s.N) (k := s.k) (L := L) 0 rfl rfl (by rw [List.length_append, List.length_replicate]; omega) h
  rw [List.nil_append] at hpc
  have hget : ∀ (i : Nat) (r : Rcd), rs[i]? = some r → ∃ o, l[i]? = some o := fun i r hr => by
    have := (List.getElem?_eq_some_iff.1 hr).1
    exact ⟨_, List.getElem?_eq_getElem (by omega)⟩
  have hrg : ∀ {i cls j : Nat}, rg[i]? = some (cls, j) → rg.getD i (0, 0) = (cls, j) := fun h => by simp [List.getD, h]
  refine draw_R (rs := rs) (L := L) hok (fun i j hj => ?_) hL hlen (fun o ho => List.all_eq_true.1 hdst o ho) (fun i r b hi hb => ?_) (fun i i' r r' b hi hi' hb hb' => ?_) (fun i j r r' hi hj hne h1 h2 b hb => ?_)
    (fun i o r ho hr σ hσl hσn => ?_) ?_
  · rcases Nat.lt_or_ge i l.length with hi | hi
    · exact (hall i hi).1 j hj
    · rw [List.getD, List.getElem?_eq_none (by omega)] at hj
      simp at hj
  · obtain ⟨o, ho⟩ := hget i r hi
    have hil := (List.getElem?_eq_some_iff.1 ho).1
    obtain ⟨cls, j, g1, g2, _⟩ := hsteps i o r ho hi
    obtain ⟨g3, rfl⟩ := g2 b hb
    have := (hall i hil).2.1
    rw [hrg g1] at this
    simpa [g3] using this
  · apply Classical.byContradiction
    intro hne
    obtain ⟨o, ho⟩ := hget i r hi
    obtain ⟨o', ho'⟩ := hget i' r' hi'
    have hil := (List.getElem?_eq_some_iff.1 ho).1
    have hil' := (List.getElem?_eq_some_iff.1 ho').1
    obtain ⟨cls, j, g1, g2, _⟩ := hsteps i o r ho hi
    obtain ⟨cls', j', k1, k2, _⟩ := hsteps i' o' r' ho' hi'
    obtain ⟨g3, rfl⟩ := g2 b hb
    obtain ⟨k3, rfl⟩ := k2 b hb'
    have := (hall i hil).2.2 i' hil'
    rw [hrg g1, hrg k1] at this
    simp [hne, g3, k3] at this
  · obtain ⟨o, ho⟩ := hget i r hi
    obtain ⟨o', ho'⟩ := hget j r' hj
    have hil := (List.getElem?_eq_some_iff.1 ho).1
    have hjl := (List.getElem?_eq_some_iff.1 ho').1
    obtain ⟨cls', j', k1, _, k3, _⟩ := hsteps j o' r' ho' hj
    have heff : isEff cls' = true := by
      have := k3 (fun e => by rw [e] at hb; simp at hb)
      simp [isEff, this]
    have := (hall i hil).2.2 j hjl
    rw [hrg k1] at this
    simp only [Bool.or_eq_true, Bool.and_eq_true, decide_eq_true_eq, hne, false_or, List.contains_iff_mem, h1, h2, heff, Bool.not_true, Bool.false_eq_true] at this
    have hs : slotsR rs j = r'.eff.map (·.1) := by simp [slotsR, hj]
    have hs' : slotsR rs i = r.eff.map (·.1) := by simp [slotsR, hi]
    have hn' : needR rs i = r.need := by simp [needR, hi]
    have hd : disjN (slotsR rs j) (needR rs i ++ slotsR rs i) = true := by
      rcases this.2 with g | g
      · exact (pairChk_spec hpc _ g).1
      · exact (pairChk_spec hpc _ g).2
    rw [hs, hs', hn'] at hd
    have := disjN_spec hd b hb
    simp only [List.mem_append, not_or] at this
    exact this
  · obtain ⟨cls, j, _, _, _, g4⟩ := hsteps i o r ho hr
    simp only [Nat.zero_add] at g4
    refine ⟨seen l.toArray o (TA (fun m => decide (m < i)) 0 l (rs.map (·.p)) s.T), fun t q hq => look_seen hq, ?_⟩
    have := g4 (box σ)
    rw [blur_eq hσl hσn] at this
    exact this
  · have : (⟨s.N, TA (fun _ => true) 0 l (rs.map (·.p)) s.T, SA (fun _ => true) 0 rs (s.σ ++ List.replicate (L - s.σ.length) none), s.k⟩ : St) = s' := by
      have hT : s'.T = TA (fun _ => true) 0 l (rs.map (·.p)) s.T := hT
      have hσ : s'.σ = SA (fun _ => true) 0 rs (s.σ ++ List.replicate (L - s.σ.length) none) := hσ
      rw [← hT, ← hσ, ← hN, ← hk]
    rw [this]; exact hQ

/-! ### With what is not yet due held back -/
class HoldE where
  P : Program
  ops : Array Oper
  L : Nat
  l : List Oper
  rg : List (Nat × Nat)
  K : St → List Rcd → Prop
def gE (s : St) (rs : List Rcd) [H : HoldE] : Prop := goE H.P H.ops H.L H.l H.rg s rs H.K

section
variable {P : Program} {ops : Array Oper} {L : Nat} {o : Oper} {l : List Oper} {j : Nat} {rg : List (Nat × Nat)} {K : St → List Rcd → Prop} {s : St} {rs : List Rcd}
theorem gE_nil : @gE s rs ⟨P, ops, L, [], rg, K⟩ = K s rs := (rfl)
theorem gE_cons0 : @gE s rs ⟨P, ops, L, o :: l, (0, j) :: rg, K⟩ = @brkB (wantedA s ops o)
    ⟨@brk (oneOp P s o.op) ⟨fun x => OneAt P ops o s.N s.k (seen ops o s.T) L (needOf s o.op) s.σ (applyE []) x.2 ∧ @gE (s.put o.dst x.2) (rs ++ [⟨x.2, needOf s o.op, [], none⟩]) ⟨P, ops, L, l, rg, K⟩⟩ ⟨False⟩⟩
    ⟨wantedA ⟨s.N, seen ops o s.T, [], s.k⟩ ops o = some false ∧ @gE (s.put o.dst (.tup [])) (rs ++ [⟨.tup [], [], [], none⟩]) ⟨P, ops, L, l, rg, K⟩⟩ ⟨False⟩ := (rfl)
theorem gE_cons1 : @gE s rs ⟨P, ops, L, o :: l, (1, j) :: rg, K⟩ = @brkB (wantedA s ops o)
    ⟨@brk (oneOp P s o.op) ⟨fun x => OneAt P ops o s.N s.k (seen ops o s.T) L (needOf s o.op) s.σ (applyE (effS (needOf s o.op) x.1)) x.2 ∧
      @gE (St.put { s with σ := applyE (effS (needOf s o.op) x.1) s.σ } o.dst x.2) (rs ++ [⟨x.2, needOf s o.op, effS (needOf s o.op) x.1, none⟩]) ⟨P, ops, L, l, rg, K⟩⟩ ⟨False⟩⟩
    ⟨wantedA ⟨s.N, seen ops o s.T, [], s.k⟩ ops o = some false ∧ @gE (s.put o.dst (.tup [])) (rs ++ [⟨.tup [], [], [], none⟩]) ⟨P, ops, L, l, rg, K⟩⟩ ⟨False⟩ := (rfl)
theorem gE_cons2 : @gE s rs ⟨P, ops, L, o :: l, (2, j) :: rg, K⟩ = @brkB (wantedA s ops o)
    ⟨@at_ s ⟨fun s => ∃ r, CallOk P ops o s.N s.k (seen ops o s.T) r ∧ @gE (s.put o.dst r) (rs ++ [⟨r, [], [], none⟩]) ⟨P, ops, L, l, rg, K⟩⟩⟩
    ⟨wantedA ⟨s.N, seen ops o s.T, [], s.k⟩ ops o = some false ∧ @gE (s.put o.dst (.tup [])) (rs ++ [⟨.tup [], [], [], none⟩]) ⟨P, ops, L, l, rg, K⟩⟩ ⟨False⟩ := (rfl)
theorem gE_cons3 : @gE s rs ⟨P, ops, L, o :: l, (3, j) :: rg, K⟩ = @brkB (wantedA s ops o)
    ⟨@at_ s ⟨fun s => ∃ r need eff, (wantedA ⟨s.N, seen ops o s.T, [], s.k⟩ ops o = some true ∧ ∀ y, Does P o ⟨s.N, seen ops o s.T, blur L need s.σ y, s.k⟩ (applyE eff (blur L need s.σ y)) r) ∧
      @gE (St.put { s with σ := applyE eff s.σ } o.dst r) (rs ++ [⟨r, need, eff, none⟩]) ⟨P, ops, L, l, rg, K⟩⟩⟩
    ⟨wantedA ⟨s.N, seen ops o s.T, [], s.k⟩ ops o = some false ∧ @gE (s.put o.dst (.tup [])) (rs ++ [⟨.tup [], [], [], none⟩]) ⟨P, ops, L, l, rg, K⟩⟩ ⟨False⟩ := (rfl)
theorem gE_cons5 : @gE s rs ⟨P, ops, L, o :: l, (5, j) :: rg, K⟩ = @brkB (wantedA s ops o)
    ⟨@at_ s ⟨fun s => ∃ r need ks c, ((wantedA ⟨s.N, seen ops o s.T, [], s.k⟩ ops o = some true ∧ ∀ y, Does P o ⟨s.N, seen ops o s.T, blur L (j :: need) s.σ y, s.k⟩ (applyE (ks.map fun k => (k, none)) (blur L (j :: need) s.σ y) ++ [some c]) (r.ren (mvθ j L))) ∧
        (j < L ∧ s.k ≤ j ∧ ltL L c = true ∧ r.lt L = true)) ∧
      @gE (St.put { s with σ := applyE (effF ks j c) s.σ } o.dst r) (rs ++ [⟨r, j :: need, effF ks j c, some j⟩]) ⟨P, ops, L, l, rg, K⟩⟩⟩
    ⟨wantedA ⟨s.N, seen ops o s.T, [], s.k⟩ ops o = some false ∧ @gE (s.put o.dst (.tup [])) (rs ++ [⟨.tup [], [], [], none⟩]) ⟨P, ops, L, l, rg, K⟩⟩ ⟨False⟩ := (rfl)
theorem gE_call5 (r : PV) (need : List Nat) (c : List PV) (hw : wantedA ⟨s.N, seen ops o s.T, [], s.k⟩ ops o = some true)
    (hc : ∀ y, Does P o ⟨s.N, seen ops o s.T, blur L (j :: need) s.σ y, s.k⟩ (blur L (j :: need) s.σ y ++ [some c]) (r.ren (mvθ j L))) (h1 : j < L) (h2 : s.k ≤ j) (h3 : ltL L c = true) (h4 : r.lt L = true)
    (h : @gE (St.put { s with σ := applyE [(j, some c)] s.σ } o.dst r) (rs ++ [⟨r, j :: need, [(j, some c)], some j⟩]) ⟨P, ops, L, l, rg, K⟩) :
    @at_ s ⟨fun s => ∃ r need ks c, ((wantedA ⟨s.N, seen ops o s.T, [], s.k⟩ ops o = some true ∧ ∀ y, Does P o ⟨s.N, seen ops o s.T, blur L (j :: need) s.σ y, s.k⟩ (applyE (ks.map fun k => (k, none)) (blur L (j :: need) s.σ y) ++ [some c]) (r.ren (mvθ j L))) ∧
        (j < L ∧ s.k ≤ j ∧ ltL L c = true ∧ r.lt L = true)) ∧
      @gE (St.put { s with σ := applyE (effF ks j c) s.σ } o.dst r) (rs ++ [⟨r, j :: need, effF ks j c, some j⟩]) ⟨P, ops, L, l, rg, K⟩⟩ := ⟨r, need, [], c, ⟨⟨hw, hc⟩, h1, h2, h3, h4⟩, h⟩
/-- A call that makes a box, and of whose other boxes nothing more is told. -/
theorem gE_call6 (r : PV) (need : List Nat) (ks : List Nat) (c : List PV) (hw : wantedA ⟨s.N, seen ops o s.T, [], s.k⟩ ops o = some true)
    (hc : ∀ y, Does P o ⟨s.N, seen ops o s.T, blur L (j :: need) s.σ y, s.k⟩ (applyE (ks.map fun k => (k, none)) (blur L (j :: need) s.σ y) ++ [some c]) (r.ren (mvθ j L))) (h1 : j < L) (h2 : s.k ≤ j) (h3 : ltL L c = true) (h4 : r.lt L = true)
    (h : @gE (St.put { s with σ := applyE (effF ks j c) s.σ } o.dst r) (rs ++ [⟨r, j :: need, effF ks j c, some j⟩]) ⟨P, ops, L, l, rg, K⟩) :
    @at_ s ⟨fun s => ∃ r need ks c, ((wantedA ⟨s.N, seen ops o s.T, [], s.k⟩ ops o = some true ∧ ∀ y, Does P o ⟨s.N, seen ops o s.T, blur L (j :: need) s.σ y, s.k⟩ (applyE (ks.map fun k => (k, none)) (blur L (j :: need) s.σ y) ++ [some c]) (r.ren (mvθ j L))) ∧
        (j < L ∧ s.k ≤ j ∧ ltL L c = true ∧ r.lt L = true)) ∧
      @gE (St.put { s with σ := applyE (effF ks j c) s.σ } o.dst r) (rs ++ [⟨r, j :: need, effF ks j c, some j⟩]) ⟨P, ops, L, l, rg, K⟩⟩ := ⟨r, need, ks, c, ⟨⟨hw, hc⟩, h1, h2, h3, h4⟩, h⟩
theorem gE_cons4 : @gE s rs ⟨P, ops, L, o :: l, (4, j) :: rg, K⟩ = @brkB (wantedA s ops o)
    ⟨@brk (oneOp P s o.op) ⟨fun x => (OneAt P ops o s.N s.k (seen ops o s.T) L (j :: needOf s o.op) s.σ (fun σ => applyE ((killOf s o.op).map fun k => (k, none)) σ ++ List.replicate (x.1.length - L - 1) none ++ [some (lastBox x.1)]) ((x.2.mv j).ren (mvθ j (L + (x.1.length - L - 1)))) ∧
        (j < L ∧ s.k ≤ j ∧ ltL L (lastBox x.1) = true ∧ (x.2.mv j).lt L = true)) ∧
      @gE (St.put { s with σ := applyE (effF (killOf s o.op) j (lastBox x.1)) s.σ } o.dst (x.2.mv j)) (rs ++ [⟨x.2.mv j, j :: needOf s o.op, effF (killOf s o.op) j (lastBox x.1), some j⟩]) ⟨P, ops, L, l, rg, K⟩⟩ ⟨False⟩⟩
    ⟨wantedA ⟨s.N, seen ops o s.T, [], s.k⟩ ops o = some false ∧ @gE (s.put o.dst (.tup [])) (rs ++ [⟨.tup [], [], [], none⟩]) ⟨P, ops, L, l, rg, K⟩⟩ ⟨False⟩ := (rfl)

theorem gE_call (r : PV) (hc : CallOk P ops o s.N s.k (seen ops o s.T) r) (h : @gE (s.put o.dst r) (rs ++ [⟨r, [], [], none⟩]) ⟨P, ops, L, l, rg, K⟩) :
    @at_ s ⟨fun s => ∃ r, CallOk P ops o s.N s.k (seen ops o s.T) r ∧ @gE (s.put o.dst r) (rs ++ [⟨r, [], [], none⟩]) ⟨P, ops, L, l, rg, K⟩⟩ := ⟨r, hc, h⟩
theorem gE_callW (r : PV) (need : List Nat) (eff : Eff) (hw : wantedA ⟨s.N, seen ops o s.T, [], s.k⟩ ops o = some true) (hc : ∀ y, Does P o ⟨s.N, seen ops o s.T, blur L need s.σ y, s.k⟩ (applyE eff (blur L need s.σ y)) r)
    (h : @gE (St.put { s with σ := applyE eff s.σ } o.dst r) (rs ++ [⟨r, need, eff, none⟩]) ⟨P, ops, L, l, rg, K⟩) :
    @at_ s ⟨fun s => ∃ r need eff, (wantedA ⟨s.N, seen ops o s.T, [], s.k⟩ ops o = some true ∧ ∀ y, Does P o ⟨s.N, seen ops o s.T, blur L need s.σ y, s.k⟩ (applyE eff (blur L need s.σ y)) r) ∧
      @gE (St.put { s with σ := applyE eff s.σ } o.dst r) (rs ++ [⟨r, need, eff, none⟩]) ⟨P, ops, L, l, rg, K⟩⟩ := ⟨r, need, eff, ⟨hw, hc⟩, h⟩
end

theorem awp_drawS {P : Program} (hm : P.follows .mixedOrders = true) {id : Nat} {l : List Oper} {s : St} {Q : Exit → St → Prop} (rg : List (Nat × Nat)) (n0 L : Nat) (inc : List (Nat × Nat))
    (hst : statOk l (clos l []) rg n0 L inc = true) (hn : s.σ.length = n0) (hdst : l.all (fun o => dstOk o.dst s.N) = true)
    (h : @gE { s with σ := s.σ ++ List.replicate (L - n0) none } [] ⟨P, l.toArray, L, l, rg, fun s' rs => pairChk rs inc ∧ Q .normal s'⟩) : AWp P (.region id l.toArray true) s Q :=
  awp_of_draw hm (draw_E rg n0 L inc hst hn hdst h)

theorem draw_S {P : Program} {l : List Oper} {s : St} {Q : St → Prop} (rg : List (Nat × Nat)) (n0 L : Nat) (inc : List (Nat × Nat))
    (hst : statOk l (clos l []) rg n0 L inc = true) (hn : s.σ.length = n0) (hdst : l.all (fun o => dstOk o.dst s.N) = true)
    (h : @gE { s with σ := s.σ ++ List.replicate (L - n0) none } [] ⟨P, l.toArray, L, l, rg, fun s' rs => pairChk rs inc ∧ Q s'⟩) : DrawW P l s Q :=
  draw_E rg n0 L inc hst hn hdst h

attribute [simp] gE_nil gE_cons0 gE_cons1 gE_cons2 gE_cons3 gE_cons4 gE_cons5 OneAt blur needOf killOf ptrN mrefN oslN oslK PV.mv effS effF lastBox applyE mvθ pairChk disjN slotsR needR
end Go.Proofs.YtidhdlhblhbahaaGreat.Am

/- The machine of values: calls that write boxes, in any place. -/
set_option linter.unusedVariables false
set_option linter.unusedSimpArgs false
namespace Go.Proofs.YtidhdlhblhbahaaGreat.Am
open Go Go.RowKit

theorem does_call {P : Program} {s : St} {o : Oper} {f : Operand} {args : Array Operand} {ts : Array TypeId} {g : FuncId} {caps ps args' : List PV} {th : List Nat} {σc : List (List PV)} {R : PV → Boxes → Prop}
    (ho : o.op = .call { callee := .value f, args := args, argTypes := ts }) (hcal : calleePV s f = some (g, caps)) (hargs : opds s args.toList = some ps)
    (he : enterable P g = true) (hc : FnG P g args' σc R) (hl : th.length = σc.length) (hnd : th.Nodup)
    (hren : ps ++ caps = renL (thF th s.σ.length) args') (hlt : ltL th.length args' = true)
    (hbox : ∀ (i t : Nat) (cs : List PV), th[i]? = some t → σc[i]? = some cs → box s.σ t = some (renL (thF th s.σ.length) cs) ∧ ltL th.length cs = true)
    {c : Ctx} {ι : Nat → Option Nat} {S : Nat → Prop} {a : Act} {w : World} (hr : Rel c ι S s a w) {K : Act → World → Prop} {QQ : Exit → Act → World → Prop}
    (hK : ∀ p σ' ι' S' v w', R p σ' → Store c ι' S' (merge s.σ th σ') w' → (∀ v p, VRel s.σ.length ι S w v p → VRel (merge s.σ th σ').length ι' S' w' v p) →
      VRel (merge s.σ th σ').length ι' S' w' v (p.ren (thF th s.σ.length)) → (∀ b, b < s.σ.length → ι' b = ι b) → K (a.put o.dst v) w') : o.wpIn (wideR c.ro) 0 P a w K QQ := by
  obtain ⟨vs, hf, hvs, hcaps⟩ := callee_rel hr hcal
  obtain ⟨hal, harel⟩ := opds_rel hr hargs
  refine wpIn_ent (exec_call ho hf he) ?_
  have hσ := hr.st
  have hθ : ∀ b, b < th.length → (fun i => ι (thF th s.σ.length i)) b = ι (thF th s.σ.length b) := fun _ _ => rfl
  -- the arguments in the callee's numbers
  have hall : ∀ (j : Nat) (p : PV), args'[j]? = some p → ∃ v, ((args.toList.map a.eval) ++ vs.toList)[j]? = some v ∧ VRel th.length (fun i => ι (thF th s.σ.length i)) S w v p := fun j p hj => by
    have hj2 : (ps ++ caps)[j]? = some (p.ren (thF th s.σ.length)) := by rw [hren, renL_map]; simp [hj]
    have hpl : p.lt th.length = true := by rw [ltL_all] at hlt; exact List.all_eq_true.1 hlt p (List.mem_of_getElem? hj)
    have hv : ∃ v, ((args.toList.map a.eval) ++ vs.toList)[j]? = some v ∧ VRel s.σ.length ι S w v (p.ren (thF th s.σ.length)) := by
      rcases Nat.lt_or_ge j ps.length with h1 | h1
      · rw [List.getElem?_append_left h1] at hj2
        rw [List.getElem?_append_left (by rw [hal]; exact h1)]
        exact harel j _ hj2
      · rw [List.getElem?_append_right h1] at hj2
        rw [List.getElem?_append_right (by rw [hal]; exact h1), hal]
        obtain ⟨v, hv1, hv2⟩ := hcaps _ _ hj2
        exact ⟨v, by simpa using hv1, hv2⟩
    obtain ⟨v, hv1, hv2⟩ := hv
    exact ⟨v, hv1, VRel.unren (m := s.σ.length) (ι' := ι) (fun b _ => rfl) p v hpl hv2⟩
  have hpre : Store (cx w (fun i => ι (thF th s.σ.length i)) S σc.length) (fun i => ι (thF th s.σ.length i)) S (σc.map some) w := by
    have hbx : ∀ i ci, box (σc.map some) i = some ci → ∃ t, th[i]? = some t ∧ thF th s.σ.length i = t ∧ box s.σ t = some (renL (thF th s.σ.length) ci) ∧ ltL th.length ci = true := fun i ci hi => by
      rw [box_some] at hi
      have hil := (List.getElem?_eq_some_iff.1 hi).1
      have hit : i < th.length := by omega
      obtain ⟨h1, h2⟩ := hbox i th[i] ci (List.getElem?_eq_getElem hit) hi
      exact ⟨th[i], List.getElem?_eq_getElem hit, by simp [thF, hit], h1, h2⟩
    refine ⟨rfl, rfl, rfl, Nat.le_refl _, fun _ _ _ => rfl, fun _ _ h => h, fun i ci hi => ?_, fun i ci blk hi hb => ?_, fun i ci blk hi hb => ?_, fun i j ci cj blk hi hj hbi hbj => ?_, hσ.Slt, fun _ h => h, fun _ h => .inl h, by simp [cx], fun _ _ => rfl⟩
    · obtain ⟨t, ht, hθt, hbt, hlt'⟩ := hbx i ci hi
      rcases hσ.boxes t _ hbt with ⟨h', h''⟩ | ⟨blk, c', e', hb', g1, g0, g2⟩
      · refine .inl ⟨by simp only [hθt]; exact h', ?_⟩
        rw [renL_map] at h''
        simpa using h''
      · refine .inr ⟨blk, c', e', by simp only [hθt]; exact hb', g1, g0.unren, fun j p hj => ?_⟩
        obtain ⟨v, hv1, hv2⟩ := g2 j (p.ren (thF th s.σ.length)) (by rw [renL_map]; simp [hj])
        refine ⟨v, hv1, ?_⟩
        have hpl : p.lt th.length = true := by rw [ltL_all] at hlt'; exact List.all_eq_true.1 hlt' p (List.mem_of_getElem? hj)
        have := VRel.unren (n := th.length) (m := s.σ.length) (ι := fun i => ι (thF th s.σ.length i)) (ι' := ι) (θ := thF th s.σ.length) (fun b _ => rfl) p v hpl hv2
        rw [List.length_map, ← hl]; exact this
    · obtain ⟨t, ht, hθt, hbt, _⟩ := hbx i ci hi
      exact hσ.notS t _ blk hbt (by rw [← hθt]; exact hb)
    · have hil := box_lt hi
      exact .inl ⟨i, by simpa using hil, hb⟩
    · obtain ⟨t, ht, hθt, hbt, _⟩ := hbx i ci hi
      obtain ⟨t', ht', hθt', hbt', _⟩ := hbx j cj hj
      have e := hσ.inj t t' _ _ blk hbt hbt' (by rw [← hθt]; exact hbi) (by rw [← hθt']; exact hbj)
      subst e
      exact nodup_inj th hnd i j t ht ht'
  have hlen : ((args.toList.map a.eval) ++ vs.toList).length = args'.length := by
    have := congrArg List.length hren
    rw [renL_map] at this
    simp at this hal ⊢
    omega
  have hcall := hc _ S w ((args.toList.map a.eval) ++ vs.toList) hpre hlen (by rw [← hl]; exact hall)
  have hargs2 : ((args.toList.map a.eval) ++ vs.toList).toArray = args.map a.eval ++ vs := by apply Array.ext'; simp
  rw [hargs2] at hcall
  refine hcall.mono ?_
  rintro e w' ⟨v, p, σ', ι', S', rfl, hR, hst, hvp⟩
  rw [← hl] at hst
  obtain ⟨ιn, k1, k2, k3, k4⟩ := call_back hr hl hnd (fun i t cs h1 h2 => (hbox i t cs h1 h2).1) hst
  exact hK p σ' ιn S' v w' hR k1 k2 (k3 v p hvp) k4

/-- A contract with boxes, where nothing is left open. -/
def FnD (P : Program) (f : FuncId) (args : List PV) (σ : List (List PV)) (r : PV) (σ' : Boxes) : Prop := FnG P f args σ fun p σ2 => p = r ∧ σ2 = σ'

def hboxL (σ : Boxes) (θ : Nat → Nat) (n : Nat) : List Nat → List (List PV) → Prop
  | t :: th, cs :: σc => (box σ t = some (renL θ cs) ∧ ltL n cs = true) ∧ hboxL σ θ n th σc
  | _, _ => True

theorem hboxL_spec {σ : Boxes} {θ : Nat → Nat} {n : Nat} : ∀ {th : List Nat} {σc : List (List PV)}, hboxL σ θ n th σc → ∀ (i t : Nat) (cs : List PV), th[i]? = some t → σc[i]? = some cs → box σ t = some (renL θ cs) ∧ ltL n cs = true
  | [], _, _, i, t, cs, h, _ => by simp at h
  | _ :: _, [], _, i, t, cs, _, h => by simp at h
  | t' :: th, c' :: σc, h, i, t, cs, ht, hc => by
    cases i with
    | zero => simp at ht hc; subst ht hc; exact h.1
    | succ i => exact hboxL_spec h.2 i t cs (by simpa using ht) (by simpa using hc)

theorem does_fnd {P : Program} {s : St} {o : Oper} {f : Operand} {args : Array Operand} {ts : Array TypeId} {g : FuncId} {caps ps args' : List PV} {σc : List (List PV)} {r : PV} {σ' : Boxes} (th : List Nat) {σ2 : Boxes} {r2 : PV}
    (hc : FnD P g args' σc r σ') (ho : o.op = .call { callee := .value f, args := args, argTypes := ts }) (hcal : calleePV s f = some (g, caps)) (hargs : opds s args.toList = some ps)
    (he : enterable P g = true) (hl : th.length = σc.length) (hnd : th.Nodup)
    (hren : ps ++ caps = renL (thF th s.σ.length) args') (hlt : ltL th.length args' = true) (hbox : hboxL s.σ (thF th s.σ.length) th.length th σc)
    (h2 : merge s.σ th σ' = σ2) (hr2 : r.ren (thF th s.σ.length) = r2) : Does P o s σ2 r2 := fun c ι S a w hr K QQ hK =>
  does_call ho hcal hargs he hc hl hnd hren hlt (hboxL_spec hbox) hr fun p σ'' ι' S' v w' hR k1 k2 k3 k4 => by
    obtain ⟨rfl, rfl⟩ := hR
    rw [h2] at k1 k2 k3
    rw [hr2] at k3
    exact hK ι' S' v w' k1 k2 k3 k4

theorem ops_fnd {P : Program} {ops : Array Oper} {rest : List Oper} {Q : St → Prop} {s : St} {o : Oper} {f : Operand} {args : Array Operand} {ts : Array TypeId} {g : FuncId} {caps ps args' : List PV} {σc : List (List PV)} {r : PV} {σ' : Boxes} (th : List Nat) {σ2 : Boxes} {r2 : PV}
    (hc : FnD P g args' σc r σ') (ho : o.op = .call { callee := .value f, args := args, argTypes := ts }) (hcal : calleePV s f = some (g, caps)) (hargs : opds s args.toList = some ps) (hw : wantedA s ops o = some true)
    (he : enterable P g = true) (hd : dstOk o.dst s.N = true) (hl : th.length = σc.length) (hnd : th.Nodup)
    (hren : ps ++ caps = renL (thF th s.σ.length) args') (hlt : ltL th.length args' = true) (hbox : hboxL s.σ (thF th s.σ.length) th.length th σc)
    (h2 : merge s.σ th σ' = σ2) (hr2 : r.ren (thF th s.σ.length) = r2) (h : @gOps (St.put { s with σ := σ2 } o.dst r2) ⟨P, ops, rest, Q⟩) : OpsOk P ops (o :: rest) s Q :=
  ops_step hw fun c ι S a w hr K QQ hK =>
    does_fnd th hc ho hcal hargs he hl hnd hren hlt hbox h2 hr2 c ι S a w hr K QQ fun ι' S' v w' k1 k2 k3 _ => hK ι' S' _ _ w' (Rel.next hr k1 k2 hd k3) (ops_goH h)

theorem finG_mk {P : Program} {rs : List ResultVar} {R : PV → Boxes → Prop} {s : St} {p p2 : PV} (th : List Nat) (σ2 : Boxes) (hres : resPV P s rs = some p) (hp : p = p2.ren (fun i => th.getD i 0)) (hlt : p2.lt σ2.length = true)
    (hl : th.length = σ2.length) (hk : s.k ≤ σ2.length) (hid : th.take s.k = List.range s.k) (hnd : th.Nodup) (hB : EntB s (fun i => th.getD i 0) σ2.length 0 σ2) (hR : R p2 σ2) : FinG P rs R s :=
  ⟨s, p, p2, th, σ2, Ent.refl s, hres, hp, hlt, hl, hk, hid, hnd, hB, hR⟩

theorem fnd_go {P : Program} {f : FuncId} {fn : Func} {code : Code} {args : List PV} {σ : List (List PV)} {r : PV} {σ' : Boxes} (hf : P.funcs[f]? = some fn) (hb : fn.body = some code)
    (h : @gC (entry fn args σ) ⟨P, code, fun e s' => RetOk e ∧ FinG P fn.results.toList (fun p σ2 => p = r ∧ σ2 = σ') s'⟩) : FnD P f args σ r σ' := fng_of hf hb (awp_go h)

attribute [simp] hboxL
end Go.Proofs.YtidhdlhblhbahaaGreat.Am

/- The machine of values: is it nil? -/
set_option linter.unusedVariables false
set_option linter.unusedSimpArgs false
namespace Go.Proofs.YtidhdlhblhbahaaGreat.Am
open Go Go.RowKit

theorem run_equal_slice {P : Program} {t e : TypeId} (hu : P.underlying t = some (.slice e)) (a : Option Addr) (n cap : Nat) (w : World) : (Op.equal t (.slice a n cap) (.slice none 0 0)).run P w = .ok a.isNone w := by
  have h : ∀ d, (Op.equalIn (d + 1) t (.slice a n cap) (.slice none 0 0)).run P w = .ok a.isNone w := fun d => by
    rw [Op.equalIn]; simp only [Sem.run_bind, run_underlying hu, Result.andThen_ok]
    cases a <;> rfl
  exact h 9999

theorem run_nilcmp {P : Program} {t e : TypeId} (hu : P.underlying t = some (.slice e)) (a : Option Addr) (n cap : Nat) (w : World) (X Y : Operand) (neq : Bool) :
    (do eqGuard (if neq then .neq else .eql) t X Y (.slice a n cap) (.slice none 0 0); binOp (if neq then .neq else .eql) t (.slice a n cap) (.slice none 0 0) : Sem Value).run P w = .ok (.bool (a.isNone != neq)) w := by
  have hg : (eqGuard (if neq then .neq else .eql) t X Y (.slice a n cap) (.slice none 0 0)).run P w = .ok () w := by
    unfold eqGuard; cases neq <;> simp
  simp only [Sem.run_bind, hg, Result.andThen_ok]
  cases neq
  · simp [binOp, run_equal_slice hu]
  · simp [binOp, run_equal_slice hu]

/-- What is known of whether a slice is nil. -/
def nilK : PV → Bool → Prop
  | .sl _ rows, b => rows ≠ [] → b = false
  | .osl _ _ _ len, b => len ≠ 0 → b = false
  | .k (.slice none 0 0), b => b = true
  | _, _ => True
def slPV : PV → Bool
  | .sl _ _ | .osl _ _ _ _ | .k (.slice none 0 0) => true
  | _ => false

theorem nilK_rel {n : Nat} {ι : Nat → Option Nat} {S : Nat → Prop} {w : World} {v : Value} {p : PV} (h : VRel n ι S w v p) (hp : slPV p = true) : ∃ a len cap, v = .slice a len cap ∧ nilK p a.isNone := by
  cases h with
  | imm h => cases h with
    | k hs =>
      have : v = .slice none 0 0 := by
        unfold slPV at hp
        split at hp <;> simp_all
      subst this
      exact ⟨none, 0, 0, rfl, rfl⟩
    | sl g h1 h2 h3 h4 h5 h6 h7 h8 =>
      rename_i rows a len cap
      refine ⟨a, len, cap, rfl, fun hne => ?_⟩
      have : 0 < len := by
        rw [← h1]; exact List.length_pos_iff.2 hne
      obtain ⟨b, o, rfl, _⟩ := h7 this
      rfl
    | _ => simp [slPV] at hp
  | osl h1 h2 h3 h4 h5 h6 => exact ⟨_, _, _, rfl, fun _ => rfl⟩
  | osl0 h1 => exact ⟨_, _, _, rfl, fun h => absurd rfl h⟩
  | _ => simp [slPV] at hp

theorem ops_nil_eq {P : Program} {ops : Array Oper} {rest : List Oper} {o : Oper} {s : St} {Q : St → Prop} {neq : Bool} {t ty : TypeId} {x y : Operand} {p : PV} (ho : o.op = .binOp (if neq then .neq else .eql) t x y ty) (hx : opd s x = some p) (hy : opd s y = some (.k (.slice none 0 0)))
    (hp : slPV p = true) (ht : (elemOf P t).isSome = true) (hw : wantedA s ops o = some true) (hd : dstOk o.dst s.N = true)
    (h : ∀ b, nilK p b → @gOps (s.put o.dst (.k (.bool (b != neq)))) ⟨P, ops, rest, Q⟩) : OpsOk P ops (o :: rest) s Q :=
  ops_step hw fun c ι S a w hr K QQ hK => by
    obtain ⟨e, he⟩ := Option.isSome_iff_exists.1 ht
    obtain ⟨ad, len, cap, hv, hn⟩ := nilK_rel (opd_rel hr hx) hp
    have hy' := (opd_rel hr hy).k_inv.1
    have hrun := run_nilcmp (P := P) (und_elemOf he) ad len cap w x y neq
    have : (execOp a.eval o).run P w = .ok (.value (.bool (ad.isNone != neq))) w := by
      unfold execOp
      simp only [Sem.run_bind] at hrun
      simp only [ho, hv, hy', Sem.run_bind]
      generalize (eqGuard (if neq then .neq else .eql) t x y (.slice ad len cap) (.slice none 0 0)).run P w = g at hrun ⊢
      cases g with
      | ok u w1 =>
        simp only [Result.andThen_ok] at hrun ⊢
        rw [hrun]; rfl
      | halt x w1 => simp [Result.andThen] at hrun
    refine wpIn_val this ?_
    exact hK ι S _ _ w (Rel.next hr hr.st (fun _ _ h => h) hd (.imm (.k rfl))) (ops_goH (h _ hn))
end Go.Proofs.YtidhdlhblhbahaaGreat.Am

/- The machine of values: calls that look at boxes and tell a plain value. -/
set_option linter.unusedVariables false
set_option linter.unusedSimpArgs false
namespace Go.Proofs.YtidhdlhblhbahaaGreat.Am
open Go Go.RowKit

/-- The heap only grows. -/
theorem Store.grow {c : Ctx} {ι : Nat → Option Nat} {S : Nat → Prop} {σ : Boxes} {w w' : World} (h : Store c ι S σ w) (h1 : w'.os = w.os) (h2 : w'.tape = w.tape) (h3 : w'.output = w.output) (h4 : w.heap.size ≤ w'.heap.size)
    (h5 : ∀ b, b < w.heap.size → w'.heap[b]? = w.heap[b]?) (h6 : ∀ b x, w.shape? b = some x → w'.shape? b = some x) : Store c ι S σ w' ∧ ∀ m v p, VRel m ι S w v p → VRel m ι S w' v p := by
  have hv : ∀ m v p, VRel m ι S w v p → VRel m ι S w' v p := fun m v p hh =>
    hh.mono (Nat.le_refl _) (fun _ _ => rfl) (fun _ h => h) (fun b o hb => World.cell?_of_block (h5 b (h.Slt b hb))) h6
  refine ⟨⟨h1.trans h.os, h2.trans h.tape, h3.trans h.output, Nat.le_trans h.size h4, fun b hb hM => ?_, fun b x hx => h6 b x (h.shape b x hx), fun i cs hi => ?_, h.notS, h.live, h.inj, fun b hb => Nat.lt_of_lt_of_le (h.Slt b hb) h4, h.S0, h.Snew, h.klen, h.kι⟩, hv⟩
  · rw [h5 b (by have := h.size; omega)]; exact h.old b hb hM
  · rcases h.boxes i cs hi with g | ⟨blk, c', e, g1, g2, g3, g4⟩
    · exact .inl g
    · exact .inr ⟨blk, c', e, g1, by rw [h5 blk (Array.getElem?_eq_some_iff.1 g2).1]; exact g2, g3, fun j p hj => by obtain ⟨v, hv1, hv2⟩ := g4 j p hj; exact ⟨v, hv1, hv _ _ _ hv2⟩⟩

mutual
/-- What a value looks like to one who only looks. -/
def PV.snap (σ : Boxes) : PV → PV
  | .osl b z off len => match box σ b with
    | some cs => if off = 0 ∧ len * z ≤ cs.length ∧ cs.all PV.immB = true then .sl z (chunks z cs len) else .osl b z off len
    | none => .osl b z off len
  | .osc b z off len cap => .osc b z off len cap
  | .agg cs => .agg (snapL σ cs)
  | .k v => .k v
  | .sl z rows => .sl z rows
  | .eptr cs => .eptr cs
  | .ptr b off => .ptr b off
  | .mref b => .mref b
  | .clo fn caps => .clo fn caps
  | .tup ps => .tup ps
def snapL (σ : Boxes) : List PV → List PV
  | [] => []
  | p :: ps => p.snap σ :: snapL σ ps
end
theorem snapL_map (σ : Boxes) : ∀ ps, snapL σ ps = ps.map (PV.snap σ)
  | [] => rfl
  | p :: ps => by simp [snapL, snapL_map σ ps]

/-- All the plain boxes taken for blocks that nobody writes. -/
def snapS (ι : Nat → Option Nat) (S : Nat → Prop) (σ : Boxes) : Nat → Prop := fun q => S q ∨ ∃ b cs, box σ b = some cs ∧ ι b = some q

theorem IRel.of_lt {n : Nat} {ι : Nat → Option Nat} {S : Nat → Prop} {w : World} {v : Value} {p : PV} (h : VRel n ι S w v p) (hp : p.lt 0 = true) : IRel S w v p := by
  induction h with
  | imm h => exact h
  | osl h1 _ _ _ _ _ => simp [PV.lt] at hp
  | osl0 h => simp [PV.lt] at hp
  | osc h1 _ _ _ _ _ => simp [PV.lt] at hp
  | osc0 h => simp [PV.lt] at hp
  | ptr h _ _ => simp [PV.lt] at hp
  | mref h _ => simp [PV.lt] at hp
  | clo h1 h2 _ ih => exact .clo h1 h2 fun j p hj => ih j p hj (by simp only [PV.lt, ltL_all] at hp; exact List.all_eq_true.1 hp p (List.mem_of_getElem? hj))
  | agg h1 h2 _ ih => exact .agg h1 h2 fun j p hj => ih j p hj (by simp only [PV.lt, ltL_all] at hp; exact List.all_eq_true.1 hp p (List.mem_of_getElem? hj))
  | tup h1 _ ih => exact .tup h1 fun j p hj => ih j p hj (by simp only [PV.lt, ltL_all] at hp; exact List.all_eq_true.1 hp p (List.mem_of_getElem? hj))

theorem one_snap (σ : Boxes) (p : PV) : (p.snap σ).one = p.one := by
  cases p with
  | osl b z off len =>
    simp only [PV.snap]
    split
    · split <;> rfl
    · rfl
  | _ => simp only [PV.snap, PV.one]

theorem snap_rel {c : Ctx} {ι : Nat → Option Nat} {S : Nat → Prop} {σ : Boxes} {w : World} (hσ : Store c ι S σ w) {v : Value} {p : PV} (h : VRel σ.length ι S w v p) (hl : (p.snap σ).lt 0 = true) : IRel (snapS ι S σ) w v (p.snap σ) := by
  have hm : ∀ v p, IRel S w v p → IRel (snapS ι S σ) w v p := fun v p hh => hh.mono (fun q hq => .inl hq) (fun _ _ _ => rfl)
  induction h with
  | imm h =>
    have hi : ∀ {v p}, IRel S w v p → p.snap σ = p := by
      intro v p hh
      induction hh with
      | agg h1 h2 h3 ih =>
        simp only [PV.snap, snapL_map]
        congr 1
        refine List.ext_getElem? fun j => ?_
        rw [List.getElem?_map]
        cases hj : (_ : List PV)[j]? with
        | none => rfl
        | some q => simp [ih j q hj]
      | _ => rfl
    rw [hi h]; exact hm _ _ h
  | osl h1 h2 h3 h4 h5 h6 =>
    simp only [PV.snap] at hl ⊢
    split at hl
    · rename_i cs hb
      split at hl
      · rename_i hc
        obtain ⟨rfl, hc1, hc2⟩ := hc
        simp only [hc1, hc2, and_self, if_true]
        exact (frz_rel hσ hb hc1 hc2 _ (.osl h1 h2 h3 h4 h5 h6)).mono (fun q hq => by
          rcases hq with g | g
          · exact .inl g
          · exact .inr ⟨_, _, hb, g⟩) (fun _ _ _ => rfl)
      · simp [PV.lt] at hl
    · simp [PV.lt] at hl
  | osl0 h1 =>
    simp only [PV.snap] at hl ⊢
    split at hl
    · rename_i cs hb
      split at hl
      · rename_i hc
        obtain ⟨rfl, hc1, hc2⟩ := hc
        simp only [hc1, hc2, and_self, if_true]
        exact (frz_rel hσ hb hc1 hc2 _ (.osl0 h1)).mono (fun q hq => by
          rcases hq with g | g
          · exact .inl g
          · exact .inr ⟨_, _, hb, g⟩) (fun _ _ _ => rfl)
      · simp [PV.lt] at hl
    · simp [PV.lt] at hl
  | ptr h h2 h3 => simp [PV.snap, PV.lt] at hl
  | mref h h2 => simp [PV.snap, PV.lt] at hl
  | osc _ _ _ _ _ _ => simp [PV.snap, PV.lt] at hl
  | osc0 _ => simp [PV.snap, PV.lt] at hl
  | clo h1 h2 h3 ih => exact hm _ _ (IRel.of_lt (.clo h1 h2 h3) (by simpa [PV.snap] using hl))
  | agg h1 h2 h3 ih =>
    simp only [PV.snap, snapL_map, PV.lt] at hl ⊢
    refine .agg (by simpa using h1) (fun q hq => ?_) (fun j q hj => ?_)
    · simp at hq; obtain ⟨q', hq', rfl⟩ := hq; rw [one_snap]; exact h2 q' hq'
    · simp at hj; obtain ⟨q', hq', rfl⟩ := hj
      exact ih j q' hq' (by rw [ltL_all] at hl; exact List.all_eq_true.1 hl _ (List.mem_map_of_mem (List.mem_of_getElem? hq')))
  | tup h1 h3 ih => exact hm _ _ (IRel.of_lt (.tup h1 h3) (by simpa [PV.snap] using hl))

/-- A plain result. -/
def plain : PV → Bool
  | .k _ => true
  | .tup ps => ps.all fun p => match p with | .k _ => true | _ => false
  | _ => false

theorem plain_rel {n m : Nat} {ι ι' : Nat → Option Nat} {S S' : Nat → Prop} {w w' : World} {v : Value} {p : PV} (h : VRel n ι S w v p) (hp : plain p = true) : VRel m ι' S' w' v p := by
  cases p with
  | k x => obtain ⟨rfl, hs⟩ := h.k_inv; exact .imm (.k hs)
  | tup ps =>
    obtain ⟨vs, rfl, h1, h2⟩ := tup_inv h
    refine .tup h1 fun j q hj => ?_
    have := List.all_eq_true.1 hp q (List.mem_of_getElem? hj)
    cases q with
    | k x => obtain ⟨e, hs⟩ := (h2 j _ hj).k_inv; rw [e]; exact .imm (.k hs)
    | _ => simp at this
  | _ => simp [plain] at hp

theorem does_snap {P : Program} {o : Oper} {s : St} {f : Operand} {args : Array Operand} {ts : Array TypeId} {g : FuncId} {caps ps : List PV} {r : PV} {args' : List PV}
    (hc : Fn P g args' r) (ho : o.op = .call { callee := .value f, args := args, argTypes := ts }) (hcal : calleePV s f = some (g, caps)) (hargs : opds s args.toList = some ps)
    (he : enterable P g = true) (hren : snapL s.σ (ps ++ caps) = args') (hlt : ltL 0 args' = true) (hlr : plain r = true) : Does P o s s.σ r := by
  intro c ι S a w hr K QQ hK
  obtain ⟨vs, hf, hvs, hcaps⟩ := callee_rel hr hcal
  obtain ⟨hal, harel⟩ := opds_rel hr hargs
  refine wpIn_ent (exec_call ho hf he) ?_
  have hσ := hr.st
  have hall : ∀ (j : Nat) (p : PV), args'[j]? = some p → ∃ v, ((args.toList.map a.eval) ++ vs.toList)[j]? = some v ∧ VRel 0 ι (snapS ι S s.σ) w v p := fun j p hj => by
    rw [← hren, snapL_map, List.getElem?_map] at hj
    simp only [Option.map_eq_some_iff] at hj
    obtain ⟨p0, hj2, rfl⟩ := hj
    have hpl : (p0.snap s.σ).lt 0 = true := by rw [← hren, snapL_map, ltL_all] at hlt; exact List.all_eq_true.1 hlt _ (List.mem_map_of_mem (List.mem_of_getElem? hj2))
    have hv : ∃ v, ((args.toList.map a.eval) ++ vs.toList)[j]? = some v ∧ VRel s.σ.length ι S w v p0 := by
      rcases Nat.lt_or_ge j ps.length with h1 | h1
      · rw [List.getElem?_append_left h1] at hj2
        rw [List.getElem?_append_left (by rw [hal]; exact h1)]
        exact harel j _ hj2
      · rw [List.getElem?_append_right h1] at hj2
        rw [List.getElem?_append_right (by rw [hal]; exact h1), hal]
        obtain ⟨v, hv1, hv2⟩ := hcaps _ _ hj2
        exact ⟨v, by simpa using hv1, hv2⟩
    obtain ⟨v, hv1, hv2⟩ := hv
    exact ⟨v, hv1, .imm (snap_rel hσ hv2 hpl)⟩
  have hpre : Store (cx w ι (snapS ι S s.σ) ([] : List (List PV)).length) ι (snapS ι S s.σ) (([] : List (List PV)).map some) w :=
    ⟨rfl, rfl, rfl, Nat.le_refl _, fun _ _ _ => rfl, fun _ _ h => h, fun i ci hi => by simp [box] at hi, fun i ci blk hi hb => by simp [box] at hi, fun i ci blk hi hb => by simp [box] at hi,
      fun i j ci cj blk hi hj hbi hbj => by simp [box] at hi, fun q hq => by
        rcases hq with g | ⟨b, cs, g1, g2⟩
        · exact hσ.Slt q g
        · rcases hσ.boxes b cs g1 with ⟨h', _⟩ | ⟨blk, c', e, k1, k2, _, _⟩
          · rw [h'] at g2; cases g2
          · rw [k1] at g2; cases g2; exact (Array.getElem?_eq_some_iff.1 k2).1, fun _ h => h, fun _ h => .inl h, by simp [cx], fun _ _ => rfl⟩
  have hlen : ((args.toList.map a.eval) ++ vs.toList).length = args'.length := by
    have := congrArg List.length hren
    rw [snapL_map] at this
    simp at this hal ⊢
    omega
  have hcall := hc _ _ w ((args.toList.map a.eval) ++ vs.toList) hpre hlen hall
  have hargs2 : ((args.toList.map a.eval) ++ vs.toList).toArray = args.map a.eval ++ vs := by apply Array.ext'; simp
  rw [hargs2] at hcall
  refine hcall.mono ?_
  rintro e w' ⟨v, p, σ', ι', S', rfl, ⟨rfl, rfl⟩, hst, hvp⟩
  obtain ⟨k1, k2⟩ := hσ.grow (w' := w') hst.os hst.tape hst.output hst.size (fun b hb => hst.old b hb (fun ⟨i, hi, _⟩ => by simp at hi)) (fun b x hx => hst.shape b x hx)
  exact hK ι S _ w' k1 (fun v p h => k2 _ v p h) (plain_rel hvp hlr) (fun _ _ => rfl)

theorem ops_snap {P : Program} {ops : Array Oper} {rest : List Oper} {Q : St → Prop} {o : Oper} {s : St} {f : Operand} {args : Array Operand} {ts : Array TypeId} {g : FuncId} {caps ps : List PV} {r : PV} {args' : List PV}
    (hc : Fn P g args' r) (ho : o.op = .call { callee := .value f, args := args, argTypes := ts }) (hcal : calleePV s f = some (g, caps)) (hargs : opds s args.toList = some ps) (hw : wantedA s ops o = some true)
    (he : enterable P g = true) (hd : dstOk o.dst s.N = true) (hren : snapL s.σ (ps ++ caps) = args') (hlt : ltL 0 args' = true) (hlr : plain r = true) (h : @gOps (s.put o.dst r) ⟨P, ops, rest, Q⟩) : OpsOk P ops (o :: rest) s Q :=
  ops_step hw fun c ι S a w hr K QQ hK =>
    does_snap hc ho hcal hargs he hren hlt hlr c ι S a w hr K QQ fun ι' S' v w' k1 k2 k3 _ => hK ι' S' _ _ w' (Rel.next hr k1 k2 hd k3) (ops_goH h)
attribute [simp] PV.snap snapL plain
end Go.Proofs.YtidhdlhblhbahaaGreat.Am

/- The machine of values: the rules in short, their small conditions found by simp. -/
set_option linter.unusedVariables false
set_option linter.unusedSimpArgs false
namespace Go.Proofs.YtidhdlhblhbahaaGreat.Am
open Go Go.RowKit

section
variable {P : Program} {ops : Array Oper} {rest : List Oper} {Q : St → Prop} {s : St} {o : Oper} {f : Operand} {args : Array Operand} {ts : Array TypeId} {g : FuncId} {caps ps args' : List PV} {r : PV}
theorem cal (hc : Fn P g args' r) (h : @gOps (s.put o.dst r) ⟨P, ops, rest, Q⟩) (ho : o.op = .call { callee := .value f, args := args, argTypes := ts } := by exact rfl)
    (hcal : calleePV s f = some (g, caps) := by first | exact rfl | simp) (hargs : opds s args.toList = some ps := by first | exact rfl | simp) (hw : wantedA s ops o = some true := by simp)
    (he : enterable P g = true := by simp) (hd : dstOk o.dst s.N = true := by first | exact rfl | simp) (hren : ps ++ caps = args' := by simp) (hlt : ltL 0 args' = true := by simp) (hlr : r.lt 0 = true := by simp) : OpsOk P ops (o :: rest) s Q :=
  ops_fn hc ho hcal hargs hw he hd hren hlt hlr h
theorem calS (hc : Fn P g args' r) (h : @gOps (s.put o.dst r) ⟨P, ops, rest, Q⟩) (ho : o.op = .call { callee := .value f, args := args, argTypes := ts } := by exact rfl)
    (hcal : calleePV s f = some (g, caps) := by first | exact rfl | simp) (hargs : opds s args.toList = some ps := by first | exact rfl | simp) (hw : wantedA s ops o = some true := by simp)
    (he : enterable P g = true := by simp) (hd : dstOk o.dst s.N = true := by first | exact rfl | simp) (hren : snapL s.σ (ps ++ caps) = args' := by simp) (hlt : ltL 0 args' = true := by simp) (hlr : plain r = true := by simp) : OpsOk P ops (o :: rest) s Q :=
  ops_snap hc ho hcal hargs hw he hd hren hlt hlr h
theorem calD {σc : List (List PV)} {σ' : Boxes} (th : List Nat) {σ2 : Boxes} {r2 : PV} (hc : FnD P g args' σc r σ') (h : @gOps (St.put { s with σ := σ2 } o.dst r2) ⟨P, ops, rest, Q⟩)
    (ho : o.op = .call { callee := .value f, args := args, argTypes := ts } := by exact rfl) (hcal : calleePV s f = some (g, caps) := by first | exact rfl | simp) (hargs : opds s args.toList = some ps := by first | exact rfl | simp) (hw : wantedA s ops o = some true := by simp)
    (he : enterable P g = true := by simp) (hd : dstOk o.dst s.N = true := by first | exact rfl | simp) (hl : th.length = σc.length := by first | exact rfl | simp) (hnd : th.Nodup := by simp)
    (hren : ps ++ caps = renL (thF th s.σ.length) args' := by simp) (hlt : ltL th.length args' = true := by simp) (hbox : hboxL s.σ (thF th s.σ.length) th.length th σc := by simp)
    (h2 : merge s.σ th σ' = σ2 := by exact rfl) (hr2 : r.ren (thF th s.σ.length) = r2 := by exact rfl) : OpsOk P ops (o :: rest) s Q :=
  ops_fnd th hc ho hcal hargs hw he hd hl hnd hren hlt hbox h2 hr2 h
theorem doD {σc : List (List PV)} {σ' : Boxes} (th : List Nat) {σ2 : Boxes} {r2 : PV} (hc : FnD P g args' σc r σ')
    (ho : o.op = .call { callee := .value f, args := args, argTypes := ts } := by exact rfl) (hcal : calleePV s f = some (g, caps) := by first | exact rfl | simp) (hargs : opds s args.toList = some ps := by first | exact rfl | simp)
    (he : enterable P g = true := by simp) (hl : th.length = σc.length := by first | exact rfl | simp) (hnd : th.Nodup := by simp)
    (hren : ps ++ caps = renL (thF th s.σ.length) args' := by simp) (hlt : ltL th.length args' = true := by simp) (hbox : hboxL s.σ (thF th s.σ.length) th.length th σc := by simp)
    (h2 : merge s.σ th σ' = σ2 := by simp) (hr2 : r.ren (thF th s.σ.length) = r2 := by first | exact rfl | simp) : Does P o s σ2 r2 :=
  does_fnd th hc ho hcal hargs he hl hnd hren hlt hbox h2 hr2
theorem calO {N k : Nat} {T : List (Nat × PV)} (hc : Fn P g args' r) (ho : o.op = .call { callee := .value f, args := args, argTypes := ts } := by exact rfl) (he : enterable P g = true := by simp)
    (hw : ∀ σ, wantedA ⟨N, T, σ, k⟩ ops o = some true := by exact fun _ => rfl) (hcal : ∀ σ, calleePV ⟨N, T, σ, k⟩ f = some (g, caps) := by exact fun _ => rfl) (hargs : ∀ σ, opds ⟨N, T, σ, k⟩ args.toList = some ps := by exact fun _ => rfl)
    (hren : ps ++ caps = args' := by simp) (hlt : ltL 0 args' = true := by simp) (hlr : r.lt 0 = true := by simp) : CallOk P ops o N k T r :=
  callOk_fn hc ho he hw hcal hargs hren hlt hlr
theorem calNil {neq : Bool} {t ty : TypeId} {x y : Operand} {p : PV} (h : ∀ b, nilK p b → @gOps (s.put o.dst (.k (.bool (b != neq)))) ⟨P, ops, rest, Q⟩)
    (ho : o.op = .binOp (if neq then .neq else .eql) t x y ty := by exact rfl) (hx : opd s x = some p := by first | exact rfl | simp) (hy : opd s y = some (.k (.slice none 0 0)) := by first | exact rfl | simp)
    (hp : slPV p = true := by first | exact rfl | simp [slPV]) (ht : (elemOf P t).isSome = true := by simp) (hw : wantedA s ops o = some true := by simp) (hd : dstOk o.dst s.N = true := by first | exact rfl | simp) : OpsOk P ops (o :: rest) s Q :=
  ops_nil_eq ho hx hy hp ht hw hd h
end

theorem entm {s s' : St} (th : List Nat) (hT : EntT s (fun i => th.getD i 0) s'.σ.length s'.T := by simp) (hB : EntB s (fun i => th.getD i 0) s'.σ.length 0 s'.σ := by simp)
    (hN : s'.N = s.N := by exact rfl) (hk : s'.k = s.k := by exact rfl) (hl : th.length = s'.σ.length := by first | exact rfl | simp) (hkl : s.k ≤ s'.σ.length := by simp) (hid : th.take s.k = List.range s.k := by first | exact rfl | simp) (hnd : th.Nodup := by simp) : Ent s s' :=
  ent_mk th hN hk hl hkl hid hnd hT hB
theorem finm {P : Program} {rs : List ResultVar} {r : PV} {s : St} (h : resPV P s rs = some r := by simp) (hl : r.lt 0 = true := by simp) (hk : s.k = 0 := by exact rfl) : FinF P rs r s := fin_now h hl hk
theorem finGm {P : Program} {rs : List ResultVar} {r : PV} {σ' : Boxes} {s : St} (th : List Nat) (hres : resPV P s rs = some (r.ren (fun i => th.getD i 0)) := by simp) (hlt : r.lt σ'.length = true := by simp)
    (hl : th.length = σ'.length := by simp) (hk : s.k ≤ σ'.length := by simp) (hid : th.take s.k = List.range s.k := by first | exact rfl | simp) (hnd : th.Nodup := by simp) (hB : EntB s (fun i => th.getD i 0) σ'.length 0 σ' := by simp) : FinG P rs (fun p σ2 => p = r ∧ σ2 = σ') s :=
  finG_mk (p2 := r) th σ' hres rfl hlt hl hk hid hnd hB ⟨rfl, rfl⟩

@[simp] theorem wrap_0 : IntKind.i64.wrap 0 = 0 := by rw [IntKind.wrap_i64]; rfl
@[simp] theorem wrap_1 : IntKind.i64.wrap 1 = 1 := by rw [IntKind.wrap_i64]; rfl
@[simp] theorem wrap_m1 : IntKind.i64.wrap (-1) = -1 := by rw [IntKind.wrap_i64]; rfl

/-! ### Slices of whole numbers -/
theorem slI_def (l : List Int) : slI l = .sl 1 (l.map fun x => [kI x]) := rfl
@[simp] theorem slI_cut (n : Nat) (l : List Int) : cutPV n (slI l) = slI l := (rfl)
@[simp] theorem slI_len (P : Program) (t : TypeId) (l : List Int) : lenPV P t (slI l) = if (elemOf P t).isSome then some (kI l.length) else none := by simp [slI_def]
@[simp] theorem slI_index (P : Program) (t : TypeId) (l : List Int) (i : Int) : indexAtPV P t (slI l) i = indexAtPV P t (.sl 1 (l.map fun x => [kI x])) i := rfl
@[simp] theorem slI_nilK (l : List Int) (b : Bool) : nilK (slI l) b = (l ≠ [] → b = false) := by simp [slI_def, nilK]
@[simp] theorem slI_src (P : Program) (σ : Boxes) (z : Nat) (t : TypeId) (l : List Int) : srcPV P σ z t (slI l) = if 1 = z ∧ (elemOf P t).isSome = true then some (l.length, l.map kI) else none := by
  have : ∀ l : List Int, (l.map fun x => [kI x]).flatten = l.map kI := fun l => by induction l <;> simp_all
  simp only [slI_def, srcPV, List.length_map, this]
@[simp] theorem slI_slice (P : Program) (t : TypeId) (l : List Int) (lo hi mx : Option Int) : slicePV P t (slI l) lo hi mx =
    match elemOf P t with
    | some e => if szOf P e = some 1 ∧ 0 ≤ lo.getD 0 ∧ lo.getD 0 ≤ hi.getD l.length ∧ hi.getD l.length ≤ mx.getD l.length ∧ mx.getD l.length ≤ l.length ∧ (mx = none ∨ hi ≠ none) then
        some (slI ((l.take (hi.getD l.length).toNat).drop (lo.getD 0).toNat)) else none
    | none => none := by
  simp only [slI_def, slicePV, List.length_map, List.map_drop, List.map_take]; rfl
@[simp] theorem slI_sl (l : List Int) : slPV (slI l) = true := rfl
theorem sl_slI (l : List Int) : PV.sl 1 (l.map fun x => [kI x]) = slI l := rfl
@[simp] theorem slPV_sl (z : Nat) (rows : List (List PV)) : slPV (PV.sl z rows) = true := (rfl)
@[simp] theorem slPV_osl (b z off n : Nat) : slPV (PV.osl b z off n) = true := (rfl)
@[simp] theorem slPV_nil : slPV (.k (.slice none 0 0)) = true := (rfl)
@[simp] theorem nilK_sl (z : Nat) (rows : List (List PV)) (b : Bool) : nilK (.sl z rows) b = (rows ≠ [] → b = false) := (rfl)
@[simp] theorem nilK_osl (x z off n : Nat) (b : Bool) : nilK (.osl x z off n) b = (n ≠ 0 → b = false) := (rfl)
@[simp] theorem nilK_nil (b : Bool) : nilK (.k (.slice none 0 0)) b = (b = true) := (rfl)
end Go.Proofs.YtidhdlhblhbahaaGreat.Am

/- The machine of values: a box that nobody writes any more, with all that leads into it. -/
set_option linter.unusedVariables false
set_option linter.unusedSimpArgs false
namespace Go.Proofs.YtidhdlhblhbahaaGreat.Am
open Go Go.RowKit

mutual
def PV.fz (b : Nat) (cs : List PV) : PV → PV
  | .osl b' z off len => if b' = b ∧ off + len * z ≤ cs.length then .sl z (chunks z (cs.drop off) len) else .osl b' z off len
  | .ptr b' off => if b' = b then .eptr (cs.drop off) else .ptr b' off
  | .osc b' z off len cap => .osc b' z off len cap
  | .mref b' => .mref b'
  | .k v => .k v
  | .sl z rows => .sl z rows
  | .eptr cs => .eptr cs
  | .clo fn caps => .clo fn (fzL b cs caps)
  | .agg ps => .agg (fzL b cs ps)
  | .tup ps => .tup (fzL b cs ps)
def fzL (b : Nat) (cs : List PV) : List PV → List PV
  | [] => []
  | p :: ps => p.fz b cs :: fzL b cs ps
end
theorem fzL_map (b : Nat) (cs : List PV) : ∀ ps, fzL b cs ps = ps.map (PV.fz b cs)
  | [] => rfl
  | p :: ps => by simp [fzL, fzL_map b cs ps]
theorem one_fz (b : Nat) (cs : List PV) (p : PV) : (p.fz b cs).one = p.one := by
  cases p with
  | osl b' z' off' len' => simp only [PV.fz]; split <;> rfl
  | ptr b' off' => simp only [PV.fz]; split <;> rfl
  | _ => simp [PV.fz, PV.one]
theorem View.fz {o : Obj} {c' : Array Value} {cs0 : List PV} (b : Nat) (cs : List PV) (h : View o c' cs0) : View o c' (fzL b cs cs0) := by
  rw [fzL_map]; exact h.mapP (one_fz b cs) fun l => ⟨fzL b cs l, rfl⟩

theorem VRel.fz {n : Nat} {ι : Nat → Option Nat} {S S' : Nat → Prop} {w : World} {b : Nat} {cs : List PV} (hSS : ∀ b, S b → S' b)
    (hI : ∀ v z off len, off + len * z ≤ cs.length → VRel n ι S w v (.osl b z off len) → IRel S' w v (.sl z (chunks z (cs.drop off) len)))
    (hP : ∀ v off, VRel n ι S w v (.ptr b off) → IRel S' w v (.eptr (cs.drop off))) {v : Value} {p : PV} (h : VRel n ι S w v p) : VRel n ι S' w v (p.fz b cs) := by
  have hm : ∀ v p, VRel n ι S w v p → VRel n ι S' w v p := fun v p hh => hh.mono (Nat.le_refl _) (fun _ _ => rfl) hSS (fun _ _ _ => rfl) (fun _ _ h => h)
  have hi : ∀ v p, IRel S w v p → VRel n ι S' w v (p.fz b cs) := by
    intro v p hh
    induction hh with
    | k h => exact .imm (.k h)
    | sl g h1 h2 h3 h4 h5 h6 h7 h8 _ => exact hm _ _ (.imm (.sl g h1 h2 h3 h4 h5 h6 h7 h8))
    | eptr g h1 h2 h3 h4 _ => exact hm _ _ (.imm (.eptr g h1 h2 h3 h4))
    | clo h1 h2 _ ih =>
      simp only [PV.fz, fzL_map]
      refine .clo (by simpa using h1) (fun p hp => ?_) (fun j p hj => ?_)
      · simp at hp; obtain ⟨q, hq, rfl⟩ := hp; rw [one_fz]; exact h2 q hq
      · simp at hj; obtain ⟨q, hq, rfl⟩ := hj; exact ih j q hq
    | agg h1 h2 _ ih =>
      simp only [PV.fz, fzL_map]
      refine .agg (by simpa using h1) (fun p hp => ?_) (fun j p hj => ?_)
      · simp at hp; obtain ⟨q, hq, rfl⟩ := hp; rw [one_fz]; exact h2 q hq
      · simp at hj; obtain ⟨q, hq, rfl⟩ := hj; exact ih j q hq
    | tup h1 _ ih =>
      simp only [PV.fz, fzL_map]
      refine .tup (by simpa using h1) (fun j p hj => ?_)
      simp at hj; obtain ⟨q, hq, rfl⟩ := hj; exact ih j q hq
  induction h with
  | imm h => exact hi _ _ h
  | osl h1 h2 h3 h4 h5 h6 =>
    simp only [PV.fz]
    split
    · rename_i hc; obtain ⟨rfl, hc⟩ := hc
      exact .imm (hI _ _ _ _ hc (.osl h1 h2 h3 h4 h5 h6))
    · exact hm _ _ (.osl h1 h2 h3 h4 h5 h6)
  | osl0 h1 =>
    simp only [PV.fz]
    split
    · rename_i hc; obtain ⟨rfl, hc⟩ := hc
      exact .imm (hI _ _ _ _ hc (.osl0 h1))
    · exact hm _ _ (.osl0 h1)
  | mref h1 h2 => exact .mref h1 h2
  | ptr h1 h2 h3 =>
    simp only [PV.fz]
    split
    · rename_i hc; subst hc
      exact .imm (hP _ _ (.ptr h1 h2 h3))
    · exact .ptr h1 h2 h3
  | osc h1 h2 h3 h4 h5 h6 => exact hm _ _ (.osc h1 h2 h3 h4 h5 h6)
  | osc0 h1 => exact hm _ _ (.osc0 h1)
  | clo h1 h2 _ ih =>
    simp only [PV.fz, fzL_map]
    refine .clo (by simpa using h1) (fun p hp => ?_) (fun j p hj => ?_)
    · simp at hp; obtain ⟨q, hq, rfl⟩ := hp; rw [one_fz]; exact h2 q hq
    · simp at hj; obtain ⟨q, hq, rfl⟩ := hj; exact ih j q hq
  | agg h1 h2 _ ih =>
    simp only [PV.fz, fzL_map]
    refine .agg (by simpa using h1) (fun p hp => ?_) (fun j p hj => ?_)
    · simp at hp; obtain ⟨q, hq, rfl⟩ := hp; rw [one_fz]; exact h2 q hq
    · simp at hj; obtain ⟨q, hq, rfl⟩ := hj; exact ih j q hq
  | tup h1 _ ih =>
    simp only [PV.fz, fzL_map]
    refine .tup (by simpa using h1) (fun j p hj => ?_)
    simp at hj; obtain ⟨q, hq, rfl⟩ := hj; exact ih j q hq

def St.fz (s : St) (b : Nat) (cs : List PV) : St :=
  { s with T := s.T.map (fun e => (e.1, e.2.fz b cs)), σ := (s.σ.map fun x => x.map (fzL b cs)).set b none }

theorem fz_rel {c : Ctx} {ι : Nat → Option Nat} {S : Nat → Prop} {σ : Boxes} {w : World} (hσ : Store c ι S σ w) {b : Nat} {cs : List PV} (hb : box σ b = some cs) (hi : cs.all PV.immB = true) :
    (∀ v z off len, off + len * z ≤ cs.length → VRel σ.length ι S w v (.osl b z off len) → IRel (fun q => S q ∨ ι b = some q) w v (.sl z (chunks z (cs.drop off) len))) ∧
    (∀ v off, VRel σ.length ι S w v (.ptr b off) → IRel (fun q => S q ∨ ι b = some q) w v (.eptr (cs.drop off))) := by
  have honec : (∀ p ∈ cs, PV.one p = true) := fun p hp => immB_one (List.all_eq_true.1 hi p hp)
  have hmain : ∀ blk x, ι b = some blk → w.shape? blk = some x → ∃ g : Nat → Value, ∀ j p, cs[j]? = some p → w.cell? ⟨blk, j, none⟩ = some (g j) ∧ IRel (fun q => S q ∨ ι b = some q) w (g j) p := fun blk x hblk hsh => by
    obtain ⟨blk', c', e', hb', g1, g0, g2⟩ := hσ.cellsE hb hblk hsh
    rw [hb'] at hblk; simp at hblk; subst hblk
    refine ⟨fun j => c'.getD j undef, fun j p hj => ?_⟩
    obtain ⟨v, hv1, hv2⟩ := g2 j p hj
    have : c'.getD j undef = v := by rw [Array.getD_eq_getD_getElem?, hv1]; rfl
    simp only [this]
    exact ⟨by simp [World.cell?, g1, hv1], (hv2.immI (List.all_eq_true.1 hi p (List.mem_of_getElem? hj))).mono (fun _ h => .inl h) (fun _ _ _ => rfl)⟩
  refine ⟨fun v z off len hlen hv => ?_, fun v off hv => ?_⟩
  · have hlen' : len * z ≤ (cs.drop off).length := by simp; omega
    obtain ⟨k1, k2, k3⟩ := chunks_len hlen'
    have hones : ∀ r ∈ chunks z (cs.drop off) len, ∀ p ∈ r, PV.one p = true := fun r hr p hp => by
      simp only [chunks, List.mem_map] at hr
      obtain ⟨i, _, rfl⟩ := hr
      exact honec p (List.mem_of_mem_drop (List.mem_of_mem_drop (List.mem_of_mem_take hp)))
    cases hv with
    | imm h => cases h
    | osl0 h1 =>
      have hch : chunks z (cs.drop off) 0 = [] := by simp [chunks]
      rw [hch]
      exact .sl (fun _ => .nilFunc) rfl (Nat.le_refl _) (by simp [maxLen]) (by simp) (by simp) (fun _ => rfl) (fun h => by omega) (by simp)
    | osl h1 h2 h3 h4 h5 h6 =>
      rename_i cap blk e m
      obtain ⟨g, hg⟩ := hmain blk _ h4 h5
      refine .sl (fun j => g (off + j)) k2 h2 h3 k1 hones (fun h => by simp at h) (fun hn => ⟨blk, off, rfl, .inr h4, fun j hj => ?_⟩) (fun j p hj => ?_)
      · exact (hg (off + j) _ (List.getElem?_eq_getElem (by omega))).1
      · rw [k3] at hj
        have hj' := (List.getElem?_eq_some_iff.1 hj).1
        simp at hj'
        rw [List.getElem?_take_of_lt (by omega), List.getElem?_drop] at hj
        exact (hg _ p hj).2
  · cases hv with
    | imm h => cases h
    | ptr h1 h2 h3 =>
      obtain ⟨g, hg⟩ := hmain _ _ h2 h3
      refine .eptr (fun j => g (off + j)) (.inr h2) (fun p hp => honec p (List.mem_of_mem_drop hp)) (fun j hj => ?_) (fun j p hj => ?_)
      · simp at hj
        exact (hg (off + j) _ (List.getElem?_eq_getElem (by omega))).1
      · rw [List.getElem?_drop] at hj
        exact (hg _ p hj).2

theorem rel_fz {s : St} {c : Ctx} {ι : Nat → Option Nat} {S : Nat → Prop} {a : Act} {w : World} (hr : Rel c ι S s a w) (b : Nat) (cs : List PV) (hb : box s.σ b = some cs) (hi : cs.all PV.immB = true) : Rel c ι (fun q => S q ∨ ι b = some q) (s.fz b cs) a w := by
  have hσ := hr.st
  have hbl := box_lt hb
  obtain ⟨hI, hP⟩ := fz_rel hσ hb hi
  have hS' : ∀ q, S q → (fun q => S q ∨ ι b = some q) q := fun q h => .inl h
  have hv : ∀ v p, VRel s.σ.length ι S w v p → VRel s.σ.length ι (fun q => S q ∨ ι b = some q) w v (p.fz b cs) := fun v p hh => VRel.fz hS' hI hP hh
  have hlen2 : ((s.σ.map fun x => x.map (fzL b cs)).set b none).length = s.σ.length := by simp
  have hbox : ∀ i ci, box ((s.σ.map fun x => x.map (fzL b cs)).set b none) i = some ci → i ≠ b ∧ ∃ ci', box s.σ i = some ci' ∧ ci = fzL b cs ci' := fun i ci h => by
    rw [box_set (by simpa using hbl)] at h
    split at h
    · simp at h
    · rename_i hne
      rw [box_map] at h
      simp only [Option.map_eq_some_iff] at h
      obtain ⟨ci', h1, rfl⟩ := h
      exact ⟨hne, ci', h1, rfl⟩
  have hblt : ∀ blk, ι b = some blk → blk < w.heap.size := fun blk h => by
    rcases hσ.boxes b cs hb with ⟨h', _⟩ | ⟨blk', c', e', hb', g1, _⟩
    · rw [h'] at h; simp at h
    · rw [hb'] at h; simp at h; subst h; exact (Array.getElem?_eq_some_iff.1 g1).1
  refine ⟨⟨hσ.os, hσ.tape, hσ.output, hσ.size, hσ.old, hσ.shape, fun i ci hi => ?_, fun i ci blk hi hbi hSq => ?_, fun i ci blk hi hbi => ?_, fun i j ci cj blk hi hj hbi hbj => ?_, fun q hq => ?_, fun q hq => .inl (hσ.S0 q hq), fun q hq => ?_, ?_, hσ.kι⟩, hr.ck, hr.tsz, hr.defers, fun t p ht => ?_⟩
  · obtain ⟨hne, ci', h1, rfl⟩ := hbox i ci hi
    rcases hσ.boxes i ci' h1 with ⟨h', h''⟩ | ⟨blk, c', e', hb', g1, g0, g2⟩
    · exact .inl ⟨h', by rw [h'']; rfl⟩
    · refine .inr ⟨blk, c', e', hb', g1, g0.fz b cs, fun j p hj => ?_⟩
      · rw [fzL_map] at hj; simp at hj; obtain ⟨q, hq, rfl⟩ := hj
        obtain ⟨v, hv1, hv2⟩ := g2 j q hq
        refine ⟨v, hv1, ?_⟩
        have := hv v q hv2
        simp only [St.fz]
        rw [hlen2]; exact this
  · obtain ⟨hne, ci', h1, rfl⟩ := hbox i ci hi
    rcases hSq with hSq | hSq
    · exact hσ.notS i ci' blk h1 hbi hSq
    · exact hne (hσ.inj i b ci' cs blk h1 hb hbi hSq)
  · obtain ⟨hne, ci', h1, rfl⟩ := hbox i ci hi
    exact hσ.live i ci' blk h1 hbi
  · obtain ⟨_, ci', h1, rfl⟩ := hbox i ci hi
    obtain ⟨_, cj', h2, rfl⟩ := hbox j cj hj
    exact hσ.inj i j ci' cj' blk h1 h2 hbi hbj
  · rcases hq with hq | hq
    · exact hσ.Slt q hq
    · exact hblt q hq
  · rcases hq with hq | hq
    · exact hσ.Snew q hq
    · rcases hσ.live b cs q hb hq with h | h
      · exact .inr (.inl h)
      · exact .inr (.inr h)
  · simp only [St.fz]; rw [hlen2]; exact hσ.klen
  · simp only [St.fz] at ht ⊢
    rw [look_map (PV.fz b cs)] at ht
    simp only [Option.map_eq_some_iff] at ht
    obtain ⟨q, hq, rfl⟩ := ht
    rw [hlen2]
    exact hv _ q (hr.temps t q hq)
theorem ent_fz {s : St} (b : Nat) (cs : List PV) (hb : box s.σ b = some cs := by first | exact rfl | simp) (hi : cs.all PV.immB = true := by simp) (hk : s.k ≤ b := by simp) : Ent s (s.fz b cs) := fun c ι S a w hr => ⟨ι, _, rel_fz hr b cs hb hi⟩

theorem imm0_fzL {ps : List PV} (h : ps.all PV.imm0 = true) (b : Nat) (cs : List PV) : fzL b cs ps = ps := by
  rw [fzL_map]
  have e : ps.map (PV.fz b cs) = ps.map id := List.map_congr_left fun p hp => by
    have h1 := List.all_eq_true.1 h p hp
    clear h hp
    revert h1
    cases p <;> simp [PV.fz, PV.imm0]
  rw [e]; simp
theorem imms_fz {ps : List PV} (h : ps.all PV.immB = true) (b : Nat) (cs : List PV) : fzL b cs ps = ps := by
  rw [fzL_map]
  have e : ps.map (PV.fz b cs) = ps.map id := List.map_congr_left fun p hp => by
    have h1 := List.all_eq_true.1 h p hp
    clear h hp
    revert h1
    cases p <;> simp [PV.fz, PV.immB]
    exact fun h1 => imm0_fzL (List.all_eq_true.2 h1) b cs
  rw [e]; simp
@[simp] theorem fzL_append (b : Nat) (cs ps qs : List PV) : fzL b cs (ps ++ qs) = fzL b cs ps ++ fzL b cs qs := by simp [fzL_map]
@[simp] theorem slI_fz (l : List Int) (b : Nat) (cs : List PV) : (slI l).fz b cs = slI l := rfl
/-- The operations from here on, with a box frozen first. -/
theorem ops_fz {P : Program} {ops : Array Oper} {l : List Oper} {s : St} {Q : St → Prop} (b : Nat) (cs : List PV) (h : @gOps (s.fz b cs) ⟨P, ops, l, Q⟩) (hb : box s.σ b = some cs := by first | exact rfl | simp) (hi : cs.all PV.immB = true := by simp) (hk : s.k ≤ b := by simp) : OpsOk P ops l s Q :=
  ops_ent (ent_fz b cs hb hi hk) (ops_go h)
theorem fin_fz {P : Program} {rs : List ResultVar} {r : PV} {s : St} (b : Nat) (cs : List PV) (h : FinF P rs r (s.fz b cs)) (hb : box s.σ b = some cs := by first | exact rfl | simp) (hi : cs.all PV.immB = true := by simp) (hk : s.k ≤ b := by simp) : FinF P rs r s :=
  fin_ent (ent_fz b cs hb hi hk) h
theorem finG_fz {P : Program} {rs : List ResultVar} {R : PV → Boxes → Prop} {s : St} (b : Nat) (cs : List PV) (h : FinG P rs R (s.fz b cs)) (hb : box s.σ b = some cs := by first | exact rfl | simp) (hi : cs.all PV.immB = true := by simp) (hk : s.k ≤ b := by simp) : FinG P rs R s :=
  finG_ent (ent_fz b cs hb hi hk) h
@[simp] theorem chunks_zero (z : Nat) (cs : List PV) : chunks z cs 0 = [] := rfl
attribute [simp] St.fz PV.fz fzL
end Go.Proofs.YtidhdlhblhbahaaGreat.Am

/- The machine of values: one cell told in another way. -/
set_option linter.unusedVariables false
set_option linter.unusedSimpArgs false
namespace Go.Proofs.YtidhdlhblhbahaaGreat.Am
open Go Go.RowKit

/-- What is told of one value can be told in another way. -/
def Tell (p p' : PV) : Prop := p'.one = true ∧ ∀ n ι S w v, VRel n ι S w v p → VRel n ι S w v p'

theorem ent_cell {s : St} (b j : Nat) {cs : List PV} {p p' : PV} (hw : Tell p p') (hnt : p.isTup = false := by first | rfl | simp) (hb : box s.σ b = some cs := by first | exact rfl | simp) (h : cs[j]? = some p := by first | exact rfl | simp) : Ent s { s with σ := s.σ.set b (some (cs.set j p')) } := fun c ι S a w hr => by
  have hσ := hr.st
  have hbl := box_lt hb
  have hlen : (s.σ.set b (some (cs.set j p'))).length = s.σ.length := by simp
  have hbx : ∀ i ci, box (s.σ.set b (some (cs.set j p'))) i = some ci → ∃ ci', box s.σ i = some ci' ∧ (ci = ci' ∨ (i = b ∧ ci = ci'.set j p')) := fun i ci hi => by
    rw [box_set hbl] at hi
    split at hi
    · rename_i e; subst e; simp at hi; exact ⟨cs, hb, .inr ⟨rfl, hi.symm⟩⟩
    · exact ⟨ci, hi, .inl rfl⟩
  refine ⟨ι, S, ⟨hσ.os, hσ.tape, hσ.output, hσ.size, hσ.old, hσ.shape, fun i ci hi => ?_, fun i ci blk hi => ?_, fun i ci blk hi => ?_, fun i i' ci ci' blk hi hi' => ?_, hσ.Slt, hσ.S0, hσ.Snew, by rw [hlen]; exact hσ.klen, hσ.kι⟩, hr.ck, hr.tsz, hr.defers, fun t q ht => by rw [hlen]; exact hr.temps t q ht⟩
  · rw [hlen]
    by_cases e : i = b
    · subst e
      rw [box_set hbl, if_pos rfl] at hi
      simp at hi; subst hi
      rcases hσ.boxes i cs hb with ⟨h1, h2⟩ | ⟨blk, c', e, g1, g2, g3, g4⟩
      · subst h2; simp at h
      · refine .inr ⟨blk, c', e, g1, g2, ?_, fun k q hk => ?_⟩
        · rcases g3 with ⟨e, rfl, g3⟩ | ⟨es, clk, ks, vs, rfl, _, rfl⟩
          · refine .inl ⟨e, rfl, fun q hq => ?_⟩
            rcases List.mem_or_eq_of_mem_set hq with hq | rfl
            · exact g3 q hq
            · exact hw.1
          · match j, h with
            | 0, h => simp at h; subst h; simp [PV.isTup] at hnt
            | 1, h => simp at h; subst h; simp [PV.isTup] at hnt
            | j + 2, h => simp at h
        · rw [List.getElem?_set] at hk
          split at hk
          · rename_i ejk; subst ejk
            split at hk
            · simp at hk; subst hk
              obtain ⟨v, hv1, hv2⟩ := g4 j p h
              exact ⟨v, hv1, hw.2 _ _ _ _ _ hv2⟩
            · simp at hk
          · exact g4 k q hk
    · rw [box_set hbl, if_neg e] at hi
      exact hσ.boxes i ci hi
  · obtain ⟨ci', h1, _⟩ := hbx i ci hi
    exact hσ.notS i ci' blk h1
  · obtain ⟨ci', h1, _⟩ := hbx i ci hi
    exact hσ.live i ci' blk h1
  · obtain ⟨c1, h1, _⟩ := hbx i ci hi
    obtain ⟨c2, h2, _⟩ := hbx i' ci' hi'
    exact hσ.inj i i' c1 c2 blk h1 h2

theorem tell_nil (z : Nat) : Tell (.k (.slice none 0 0)) (.sl z []) := ⟨rfl, fun n ι S w v h => by
  obtain ⟨rfl, _⟩ := h.k_inv
  exact .imm .nil_sl⟩

theorem ent_temp {s : St} (t : Nat) {p p' : PV} (hw : ∀ n ι S w v, VRel n ι S w v p → VRel n ι S w v p') (h : look s.T t = some p := by exact rfl) : Ent s { s with T := (t, p') :: s.T } := fun c ι S a w hr =>
  ⟨ι, S, hr.st, hr.ck, hr.tsz, hr.defers, fun t' q ht => by
    simp only [look] at ht
    split at ht
    · rename_i e; subst e; simp at ht; subst ht; exact hw _ _ _ _ _ (hr.temps t' p h)
    · exact hr.temps t' q ht⟩
end Go.Proofs.YtidhdlhblhbahaaGreat.Am

/- The machine of values: less told of a box; a box under a new number; the capacity of a slice. -/
set_option linter.unusedVariables false
set_option linter.unusedSimpArgs false
namespace Go.Proofs.YtidhdlhblhbahaaGreat.Am
open Go Go.RowKit

theorem boxes_set_none {σ : Boxes} {b i : Nat} {cs ci : List PV} (hb : box σ b = some cs) {cs' : List PV} (h : box (σ.set b (some cs')) i = some ci) : ∃ ci', box σ i = some ci' ∧ (i = b → ci = cs') ∧ (i ≠ b → ci = ci') := by
  have hbl := box_lt hb
  rw [box_set hbl] at h
  split at h
  · rename_i e; subst e; simp at h; subst h; exact ⟨cs, hb, fun _ => rfl, fun h => absurd rfl h⟩
  · rename_i e; exact ⟨ci, h, fun h => absurd h e, fun _ => rfl⟩

theorem ne_map_one {cs : List PV} (h : cs.all PV.one = true) : ∀ ks vs, cs ≠ [.tup ks, .tup vs] := fun ks vs e => by subst e; simp at h
theorem ne_map_imm {cs : List PV} (h : cs.all PV.immB = true) : ∀ ks vs, cs ≠ [.tup ks, .tup vs] := fun ks vs e => by subst e; simp at h
theorem ne_map_len {cs : List PV} (h : cs.length ≠ 2) : ∀ ks vs, cs ≠ [.tup ks, .tup vs] := fun ks vs e => by subst e; simp at h
/-- Only the first m cells of a box are told. -/
theorem ent_trunc {s : St} (b m : Nat) {cs : List PV} (hb : box s.σ b = some cs := by first | exact rfl | simp) (hct : ∀ ks vs, cs ≠ [.tup ks, .tup vs] := by first | exact ne_map_one (by simp; done) | exact ne_map_imm (by simp; done) | exact ne_map_len (by simp; done) | (intro _ _ hh; simp at hh; done)) : Ent s { s with σ := s.σ.set b (some (cs.take m)) } := fun c ι S a w hr => by
  have hσ := hr.st
  have hbl := box_lt hb
  have hlen : (s.σ.set b (some (cs.take m))).length = s.σ.length := by simp
  refine ⟨ι, S, ⟨hσ.os, hσ.tape, hσ.output, hσ.size, hσ.old, hσ.shape, fun i ci hi => ?_, fun i ci blk hi => ?_, fun i ci blk hi => ?_, fun i i' ci ci' blk hi hi' => ?_, hσ.Slt, hσ.S0, hσ.Snew, by rw [hlen]; exact hσ.klen, hσ.kι⟩, hr.ck, hr.tsz, hr.defers, fun t q ht => by rw [hlen]; exact hr.temps t q ht⟩
  · rw [hlen]
    obtain ⟨ci', h1, h2, h3⟩ := boxes_set_none hb hi
    by_cases e : i = b
    · subst e
      rw [hb] at h1; simp at h1; subst h1
      rw [h2 rfl]
      rcases hσ.boxes i cs hb with ⟨k1, k2⟩ | ⟨blk, c', e, g1, g2, g3, g4⟩
      · exact .inl ⟨k1, by rw [k2]; simp⟩
      · refine .inr ⟨blk, c', e, g1, g2, ?_, fun k q hk => g4 k q ?_⟩
        · rcases g3 with ⟨e, rfl, g3⟩ | ⟨es, clk, ks, vs, rfl, _, g⟩
          · exact .inl ⟨e, rfl, fun q hq => g3 q (List.mem_of_mem_take hq)⟩
          · exact absurd g (hct ks vs)
        have hlt := (List.getElem?_eq_some_iff.1 hk).1
        rw [List.getElem?_take_of_lt (by simp at hlt; omega)] at hk
        exact hk
    · rw [h3 e]; exact hσ.boxes i ci' h1
  · obtain ⟨ci', h1, _, _⟩ := boxes_set_none hb hi
    exact hσ.notS i ci' blk h1
  · obtain ⟨ci', h1, _, _⟩ := boxes_set_none hb hi
    exact hσ.live i ci' blk h1
  · obtain ⟨c1, h1, _, _⟩ := boxes_set_none hb hi
    obtain ⟨c2, h2, _, _⟩ := boxes_set_none hb hi'
    exact hσ.inj i i' c1 c2 blk h1 h2

/-- What is told temp by temp, box by box, for lists whose length is not known. -/
theorem entB_of {s : St} {θ : Nat → Nat} {n : Nat} : ∀ (l : Boxes) (i0 : Nat), (∀ i cs, box l i = some cs → box s.σ (θ (i0 + i)) = some (renL θ cs) ∧ ltL n cs = true) → EntB s θ n i0 l
  | [], _, _ => trivial
  | none :: r, i0, h => by
    unfold EntB
    exact entB_of r (i0 + 1) fun i cs hi => by
      have := h (i + 1) cs (by simpa [box] using hi)
      rwa [show i0 + (i + 1) = i0 + 1 + i by omega] at this
  | some cs :: r, i0, h => by
    unfold EntB
    refine ⟨by simpa [box] using h 0 cs (by simp [box]), entB_of r (i0 + 1) fun i cs hi => ?_⟩
    have := h (i + 1) cs (by simpa [box] using hi)
    rwa [show i0 + (i + 1) = i0 + 1 + i by omega] at this

/-- Box b gets the number of a new one. -/
def mbθ (b n : Nat) : Nat → Nat := fun x => if x = b then n else x
def St.mb (s : St) (b : Nat) (cs : List PV) : St :=
  { s with T := s.T.map (fun e => (e.1, e.2.ren (mbθ b s.σ.length))), σ := (s.σ.map fun x => x.map (renL (mbθ b s.σ.length))).set b none ++ [some (renL (mbθ b s.σ.length) cs)] }

theorem ent_mb {s : St} (b : Nat) (cs : List PV) (hb : box s.σ b = some cs := by first | exact rfl | simp) (hk : s.k ≤ s.σ.length := by simp) : Ent s (s.mb b cs) := fun c ι S a w hr => by
  have hσ := hr.st
  have hbl := box_lt hb
  have hlen : ((s.σ.map fun x => x.map (renL (mbθ b s.σ.length))).set b none ++ [some (renL (mbθ b s.σ.length) cs)]).length = s.σ.length + 1 := by simp
  have hι : ∀ x, x < s.σ.length → mbθ b s.σ.length x < s.σ.length + 1 ∧ upd ι s.σ.length (ι b) (mbθ b s.σ.length x) = ι x := fun x hx => by
    unfold mbθ upd
    split
    · rename_i e; subst e; simp
    · refine ⟨by omega, ?_⟩; rw [if_neg (by omega)]
  have hv : ∀ v p, VRel s.σ.length ι S w v p → VRel (s.σ.length + 1) (upd ι s.σ.length (ι b)) S w v (p.ren (mbθ b s.σ.length)) := fun v p h => h.ren hι
  have hbox : ∀ i ci, box ((s.σ.map fun x => x.map (renL (mbθ b s.σ.length))).set b none ++ [some (renL (mbθ b s.σ.length) cs)]) i = some ci →
      ∃ j cj, box s.σ j = some cj ∧ ci = renL (mbθ b s.σ.length) cj ∧ upd ι s.σ.length (ι b) i = ι j ∧ ((i = s.σ.length ∧ j = b) ∨ (i ≠ b ∧ i < s.σ.length ∧ j = i)) := fun i ci hi => by
    rw [box_push] at hi
    simp only [List.length_set, List.length_map] at hi
    split at hi
    · rename_i e; simp at hi; exact ⟨b, cs, hb, hi.symm, by simp [upd, e], .inl ⟨e, rfl⟩⟩
    · rename_i e
      rw [box_set (by simpa using hbl)] at hi
      split at hi
      · simp at hi
      · rename_i hne
        rw [box_map] at hi
        simp only [Option.map_eq_some_iff] at hi
        obtain ⟨cj, h1, rfl⟩ := hi
        exact ⟨i, cj, h1, rfl, by simp [upd, e], .inr ⟨hne, box_lt h1, rfl⟩⟩
  refine ⟨upd ι s.σ.length (ι b), S, ⟨hσ.os, hσ.tape, hσ.output, hσ.size, hσ.old, hσ.shape, fun i ci hi => ?_, fun i ci blk hi hbi => ?_, fun i ci blk hi hbi => ?_, fun i i' ci ci' blk hi hi' hbi hbj => ?_, hσ.Slt, hσ.S0, hσ.Snew, by simp only [St.mb]; rw [hlen]; have := hσ.klen; omega, fun i hi => ?_⟩, hr.ck, hr.tsz, hr.defers, fun t q ht => ?_⟩
  · obtain ⟨j, cj, h1, rfl, h2, _⟩ := hbox i ci hi
    rcases hσ.boxes j cj h1 with ⟨k1, k2⟩ | ⟨blk, c', e, g1, g2, g3, g4⟩
    · exact .inl ⟨by rw [h2]; exact k1, by rw [k2]; rfl⟩
    · refine .inr ⟨blk, c', e, by rw [h2]; exact g1, g2, g3.ren _, fun k q hk => ?_⟩
      · rw [renL_map] at hk; simp at hk; obtain ⟨p, hp, rfl⟩ := hk
        obtain ⟨v, hv1, hv2⟩ := g4 k p hp
        refine ⟨v, hv1, ?_⟩
        simp only [St.mb]; rw [hlen]; exact hv _ _ hv2
  · obtain ⟨j, cj, h1, rfl, h2, _⟩ := hbox i ci hi
    rw [h2] at hbi
    exact hσ.notS j cj blk h1 hbi
  · obtain ⟨j, cj, h1, rfl, h2, _⟩ := hbox i ci hi
    rw [h2] at hbi
    exact hσ.live j cj blk h1 hbi
  · obtain ⟨j, cj, h1, rfl, h2, h3⟩ := hbox i ci hi
    obtain ⟨j', cj', h1', rfl, h2', h3'⟩ := hbox i' ci' hi'
    rw [h2] at hbi; rw [h2'] at hbj
    have := hσ.inj j j' cj cj' blk h1 h1' hbi hbj
    rcases h3 with ⟨e1, e2⟩ | ⟨e1, e2, e3⟩ <;> rcases h3' with ⟨f1, f2⟩ | ⟨f1, f2, f3⟩ <;> omega
  · have := hσ.klen
    rw [hr.ck] at hi
    simp only [upd]; rw [if_neg (by omega)]; exact hσ.kι i (by rw [hr.ck]; exact hi)
  · simp only [St.mb] at ht ⊢
    rw [look_map (PV.ren (mbθ b s.σ.length))] at ht
    simp only [Option.map_eq_some_iff] at ht
    obtain ⟨p, hp, rfl⟩ := ht
    rw [hlen]
    exact hv _ p (hr.temps t p hp)

/-- Whatever the capacity of a slice is. -/
theorem awp_cap {P : Program} {c : Code} {s : St} {Q : Exit → St → Prop} (t : Nat) {b z off len : Nat} (hk : ∀ cap, len ≤ cap → cap ≤ maxLen → AWp P c { s with T := (t, .osc b z off len cap) :: s.T } Q) (h : look s.T t = some (.osl b z off len) := by first | exact rfl | simp) : AWp P c s Q := fun ctx ι S a w hr QQ hQ => by
  have hv := hr.temps t _ h
  have key : ∀ cap, len ≤ cap → cap ≤ maxLen → VRel s.σ.length ι S w (a.tmps.getD t undef) (.osc b z off len cap) → c.wpIn (wideR ctx.ro) 0 P QQ a w := fun cap h1 h2 h3 =>
    hk cap h1 h2 ctx ι S a w ⟨hr.st, hr.ck, hr.tsz, hr.defers, fun t' p ht => by
      simp only [look] at ht
      split at ht
      · rename_i e; subst e; simp at ht; subst ht; exact h3
      · exact hr.temps t' p ht⟩ QQ hQ
  generalize a.tmps.getD t undef = v at hv key
  cases hv with
  | imm hh => cases hh
  | osl h1 h2 h3 h4 h5 h6 => exact key _ h2 h3 (.osc h1 h2 h3 h4 h5 h6)
  | osl0 h1 => exact key 0 (Nat.le_refl _) (by simp [maxLen]) (.osc0 h1)
theorem gC_cap {P : Program} {c : Code} {s : St} {Q : Exit → St → Prop} (t : Nat) {b z off len : Nat} (hk : ∀ cap, len ≤ cap → cap ≤ maxLen → @gC { s with T := (t, .osc b z off len cap) :: s.T } ⟨P, c, Q⟩) (h : look s.T t = some (.osl b z off len) := by first | exact rfl | simp) : AWp P c s Q :=
  awp_cap t (fun cap h1 h2 => awp_go (hk cap h1 h2)) h
/-- .. and is not told any more. -/
theorem tell_cap {b z off len cap : Nat} : Tell (.osc b z off len cap) (.osl b z off len) := ⟨rfl, fun n ι S w v h => by
  cases h with
  | imm hh => cases hh
  | osc h1 h2 h3 h4 h5 h6 => exact .osl h1 h2 h3 h4 h5 h6
  | osc0 h1 => exact .osl0 h1⟩
theorem tell_nil_osl (b z : Nat) (n : Nat) : ∀ ι S w v, b < n → VRel n ι S w v (.k (.slice none 0 0)) → VRel n ι S w v (.osl b z 0 0) := fun ι S w v hb h => by
  obtain ⟨rfl, _⟩ := h.k_inv
  exact .osl0 hb
/-- Less told of the temps. -/
def subT (T : List (Nat × PV)) : List (Nat × PV) → Prop
  | [] => True
  | (t, p) :: r => look T t = some p ∧ subT T r
theorem subT_look {T : List (Nat × PV)} : ∀ {T' : List (Nat × PV)}, subT T T' → ∀ t p, look T' t = some p → look T t = some p
  | [], _, t, p, h => by simp [look] at h
  | (t', p') :: r, hs, t, p, h => by
    simp only [look] at h
    split at h
    · rename_i e; subst e; simp at h; subst h; exact hs.1
    · exact subT_look hs.2 t p h
theorem ent_T {s : St} (T' : List (Nat × PV)) (h : subT s.T T' := by simp) : Ent s { s with T := T' } := fun c ι S a w hr =>
  ⟨ι, S, hr.st, hr.ck, hr.tsz, hr.defers, fun t p ht => hr.temps t p (subT_look h t p ht)⟩
theorem entT_T {s s' : St} {θ : Nat → Nat} {n n' : Nat} (h : s'.T = s.T) (hn : n' = n) : ∀ {l : List (Nat × PV)}, EntT s θ n l → EntT s' θ n' l
  | [], _ => trivial
  | (t, p) :: r, hl => by
    subst hn
    unfold EntT at hl ⊢
    exact ⟨by rw [h]; exact hl.1, entT_T h rfl hl.2⟩
/-- The boxes counted anew, by a function: box i was box θ i. -/
theorem ent_ren {s s' : St} (θ : Nat → Nat) (hT : EntT s θ s'.σ.length s'.T) (hB : ∀ i cs, box s'.σ i = some cs → box s.σ (θ i) = some (renL θ cs) ∧ ltL s'.σ.length cs = true)
    (hinj : ∀ i j, i < s'.σ.length → j < s'.σ.length → θ i = θ j → i = j) (hid : ∀ i, i < s.k → θ i = i := by simp) (hkl : s.k ≤ s'.σ.length := by simp) (hN : s'.N = s.N := by exact rfl) (hk : s'.k = s.k := by exact rfl) : Ent s s' := fun c ι S a w hr => by
  have hσ := hr.st
  have hu : ∀ p v, p.lt s'.σ.length = true → VRel s.σ.length ι S w v (p.ren θ) → VRel s'.σ.length (fun i => ι (θ i)) S w v p := fun p v hp h => VRel.unren (fun b _ => rfl) p v hp h
  refine ⟨fun i => ι (θ i), S, ⟨hσ.os, hσ.tape, hσ.output, hσ.size, hσ.old, hσ.shape, fun i cs hi => ?_, fun i cs blk hi hbl => ?_, fun i cs blk hi hbl => ?_, fun i j ci cj blk hi hj hbi hbj => ?_, hσ.Slt, hσ.S0, hσ.Snew, by rw [hr.ck]; exact hkl, fun i hi => ?_⟩, by rw [hr.ck, hk], by rw [hr.tsz, hN], hr.defers, fun t p ht => ?_⟩
  · obtain ⟨h1, h2⟩ := hB i cs hi
    rcases hσ.boxes _ _ h1 with ⟨h', h''⟩ | ⟨blk, c', e', hb', g1, g0, g2⟩
    · exact .inl ⟨h', by rw [renL_map] at h''; simpa using h''⟩
    · refine .inr ⟨blk, c', e', hb', g1, g0.unren, fun j p hj => ?_⟩
      obtain ⟨v, hv1, hv2⟩ := g2 j (p.ren θ) (by rw [renL_map, List.getElem?_map, hj]; rfl)
      exact ⟨v, hv1, hu p v (by rw [ltL_all] at h2; exact List.all_eq_true.1 h2 p (List.mem_of_getElem? hj)) hv2⟩
  · exact hσ.notS _ _ blk (hB i cs hi).1 hbl
  · exact hσ.live _ _ blk (hB i cs hi).1 hbl
  · exact hinj i j (box_lt hi) (box_lt hj) (hσ.inj _ _ _ _ blk (hB i ci hi).1 (hB j cj hj).1 hbi hbj)
  · rw [hr.ck] at hi
    simp only [hid i hi]
    exact hσ.kι i (by rw [hr.ck]; exact hi)
  · obtain ⟨h1, h2⟩ := entT_look s'.T hT t p ht
    exact hu p _ h2 (hr.temps t _ h1)
theorem box_cons0 (x : Option (List PV)) (σ : Boxes) : box (x :: σ) 0 = x := by simp [box]
theorem box_cons1 (x : Option (List PV)) (σ : Boxes) (i : Nat) : box (x :: σ) (i + 1) = box σ i := by simp [box]
theorem box_app1 (σ τ : Boxes) (i : Nat) (h : i < σ.length) : box (σ ++ τ) i = box σ i := by simp [box, List.getElem?_append_left h]
theorem box_app2 (σ τ : Boxes) (i : Nat) : box (σ ++ τ) (σ.length + i) = box τ i := by
  unfold box
  rw [List.getElem?_append_right (Nat.le_add_right _ _), Nat.add_sub_cancel_left]
attribute [simp] St.mb mbθ subT
end Go.Proofs.YtidhdlhblhbahaaGreat.Am
