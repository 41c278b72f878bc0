/- The machine of values: forgetting, freezing, and calls that only look. -/
import Derived.Test.YtmkgechjbbekmaaAm13
set_option linter.unusedVariables false
set_option linter.unusedSimpArgs false
namespace Go.Proofs.Ytmkgechjbbekmaa.Am
open Go Go.RowKit

theorem ops_ent {P : Program} {ops : Array Oper} {l : List Oper} {s s' : St} {Q : St → Prop} (he : Ent s s') (h : OpsOk P ops l s' Q) : OpsOk P ops l s Q := fun c ι S a w hr QQ hQ => by
  obtain ⟨ι', S', hr'⟩ := he c ι S a w hr
  exact h c ι' S' a w hr' QQ hQ

theorem Ent.trans {s s' s'' : St} (h : Ent s s') (k : Ent s' s'') : Ent s s'' := fun c ι S a w hr => by
  obtain ⟨ι', S', hr'⟩ := h c ι S a w hr
  exact k c ι' S' a w hr'

/-! ### Forgetting and renaming -/
def EntT (s : St) (θ : Nat → Nat) (n : Nat) : List (Nat × PV) → Prop
  | [] => True
  | (t, p) :: r => (look s.T t = some (p.ren θ) ∧ p.lt n = true) ∧ EntT s θ n r

def EntB (s : St) (θ : Nat → Nat) (n : Nat) : Nat → Boxes → Prop
  | _, [] => True
  | i, none :: r => EntB s θ n (i + 1) r
  | i, some cs :: r => (box s.σ (θ i) = some (renL θ cs) ∧ ltL n cs = true) ∧ EntB s θ n (i + 1) r

theorem entT_look {s : St} {θ : Nat → Nat} {n : Nat} : ∀ (l : List (Nat × PV)), EntT s θ n l → ∀ t p, look l t = some p → look s.T t = some (p.ren θ) ∧ p.lt n = true
  | [], _, t, p, h => by simp [look] at h
  | (t', p') :: r, hl, t, p, h => by
    simp only [look] at h
    split at h
    · rename_i e; subst e; simp at h; subst h; exact hl.1
    · exact entT_look r hl.2 t p h

theorem entB_box {s : St} {θ : Nat → Nat} {n : Nat} : ∀ (l : Boxes) (i0 : Nat), EntB s θ n i0 l → ∀ i cs, box l i = some cs → box s.σ (θ (i0 + i)) = some (renL θ cs) ∧ ltL n cs = true
  | [], _, _, i, cs, h => by simp [box] at h
  | x :: r, i0, hl, i, cs, h => by
    cases i with
    | zero =>
      simp [box] at h
      subst h
      exact hl.1
    | succ i =>
      have h' : box r i = some cs := by simpa [box] using h
      have hl' : EntB s θ n (i0 + 1) r := by
        cases x with
        | none => exact hl
        | some _ => exact hl.2
      have := entB_box r (i0 + 1) hl' i cs h'
      rwa [show i0 + 1 + i = i0 + (i + 1) by omega] at this

/-- A state in which less is known, its boxes counted anew: box i was box th[i]. -/
theorem ent_mk {s s' : St} (th : List Nat) (hN : s'.N = s.N) (hk : s'.k = s.k) (hl : th.length = s'.σ.length) (hkl : s.k ≤ s'.σ.length) (hid : th.take s.k = List.range s.k) (hnd : th.Nodup)
    (hT : EntT s (fun i => th.getD i 0) s'.σ.length s'.T) (hB : EntB s (fun i => th.getD i 0) s'.σ.length 0 s'.σ) : Ent s s' := fun c ι S a w hr => by
  have hσ := hr.st
  have hid' : ∀ i, i < s.k → th.getD i 0 = i := fun i hi => by
    have := congrArg (fun l => l[i]?) hid
    simp [List.getElem?_take_of_lt hi, hi] at this
    simp [this]
  have hb := fun i cs h => entB_box s'.σ 0 hB i cs h
  simp only [Nat.zero_add] at hb
  have hu : ∀ p v, p.lt s'.σ.length = true → VRel s.σ.length ι S w v (p.ren fun i => th.getD i 0) → VRel s'.σ.length (fun i => ι (th.getD i 0)) S w v p := fun p v hp h => VRel.unren (fun b _ => rfl) p v hp h
  refine ⟨fun i => ι (th.getD i 0), S, ⟨hσ.os, hσ.tape, hσ.output, hσ.size, hσ.old, hσ.shape, fun i cs hi => ?_, fun i cs blk hi hbl => ?_, fun i cs blk hi hbl => ?_, fun i j ci cj blk hi hj hbi hbj => ?_, hσ.Slt, hσ.S0, hσ.Snew, by rw [hr.ck]; exact hkl, fun i hi => ?_⟩, by rw [hr.ck, hk], by rw [hr.tsz, hN], hr.defers, fun t p ht => ?_⟩
  · obtain ⟨h1, h2⟩ := hb i cs hi
    rcases hσ.boxes _ _ h1 with ⟨h', h''⟩ | ⟨blk, c', e', hb', g1, g0, g2⟩
    · exact .inl ⟨h', by rw [renL_map] at h''; simpa using h''⟩
    · refine .inr ⟨blk, c', e', hb', g1, ones_unren g0, fun j p hj => ?_⟩
      obtain ⟨v, hv1, hv2⟩ := g2 j (p.ren fun i => th.getD i 0) (by rw [renL_map, List.getElem?_map, hj]; rfl)
      exact ⟨v, hv1, hu p v (by rw [ltL_all] at h2; exact List.all_eq_true.1 h2 p (List.mem_of_getElem? hj)) hv2⟩
  · exact hσ.notS _ _ blk (hb i cs hi).1 hbl
  · exact hσ.live _ _ blk (hb i cs hi).1 hbl
  · have e := hσ.inj _ _ _ _ blk (hb i ci hi).1 (hb j cj hj).1 hbi hbj
    have hi' := box_lt hi
    have hj' := box_lt hj
    rw [← hl] at hi' hj'
    simp [List.getElem?_eq_getElem hi', List.getElem?_eq_getElem hj'] at e
    exact nodup_inj th hnd i j th[i] (List.getElem?_eq_getElem hi') (by rw [e]; exact List.getElem?_eq_getElem hj')
  · rw [hr.ck] at hi
    simp only [hid' i hi]
    exact hσ.kι i (by rw [hr.ck]; exact hi)
  · obtain ⟨h1, h2⟩ := entT_look s'.T hT t p ht
    exact hu p _ h2 (hr.temps t _ h1)

/-! ### A nil slice is an empty slice of one's own -/
theorem ent_nil {s : St} {t z : Nat} (h : look s.T t = some (.k (.slice none 0 0))) : Ent s { s with T := (t, .osl s.σ.length z 0 0) :: s.T, σ := s.σ ++ [some []] } := fun c ι S a w hr => by
  obtain ⟨h1, h2⟩ := hr.st.adopt (ob := none) (cs := []) (.inl ⟨rfl, rfl⟩)
  have wide : ∀ v p, VRel s.σ.length ι S w v p → VRel (s.σ ++ [some []]).length (upd ι s.σ.length none) S w v p := fun v p hh =>
    (h2 _ v p (Nat.le_refl _) hh).mono (by simp) (fun _ _ => rfl) (fun _ h => h) (fun _ _ _ => rfl) (fun _ _ h => h)
  refine ⟨_, S, h1, hr.ck, hr.tsz, hr.defers, fun t' p ht => ?_⟩
  simp only [look] at ht
  split at ht
  · rename_i e; subst e; simp at ht; subst ht
    have := (hr.temps t' _ h).k_inv.1
    rw [this]
    exact .osl0 (by simp)
  · exact wide _ _ (hr.temps t' p ht)

/-- The same for a nil slice in a box. -/
theorem ent_nilb {s : St} {b j z : Nat} {cs : List PV} (hb : box s.σ b = some cs) (h : cs[j]? = some (.k (.slice none 0 0))) : Ent s { s with σ := s.σ.set b (some (cs.set j (.osl s.σ.length z 0 0))) ++ [some []] } := fun c ι S a w hr => by
  have hσ := hr.st
  have hbl := box_lt hb
  obtain ⟨h1, h2⟩ := hσ.adopt (ob := none) (cs := []) (.inl ⟨rfl, rfl⟩)
  have wide : ∀ v p, VRel s.σ.length ι S w v p → VRel (s.σ ++ [some []]).length (upd ι s.σ.length none) S w v p := fun v p hh =>
    (h2 _ v p (Nat.le_refl _) hh).mono (by simp) (fun _ _ => rfl) (fun _ h => h) (fun _ _ _ => rfl) (fun _ _ h => h)
  have hlen : (s.σ.set b (some (cs.set j (.osl s.σ.length z 0 0))) ++ [some []]).length = (s.σ ++ [some []]).length := by simp
  have hbx : ∀ i ci, box (s.σ.set b (some (cs.set j (.osl s.σ.length z 0 0))) ++ [some []]) i = some ci → (i = b ∧ ci = cs.set j (.osl s.σ.length z 0 0)) ∨ box (s.σ ++ [some []]) i = some ci := fun i ci hi => by
    rw [box_push, List.length_set] at hi
    rw [box_push]
    split at hi
    · rename_i e; rw [if_pos e]; exact .inr hi
    · rename_i e
      rw [if_neg e]
      rw [box_set hbl] at hi
      split at hi
      · rename_i e2; simp at hi; exact .inl ⟨e2, hi.symm⟩
      · exact .inr hi
  have hsome : ∀ i ci, box (s.σ.set b (some (cs.set j (.osl s.σ.length z 0 0))) ++ [some []]) i = some ci → ∃ ci', box (s.σ ++ [some []]) i = some ci' := fun i ci hi => by
    rcases hbx i ci hi with ⟨rfl, _⟩ | h
    · exact ⟨cs, by rw [box_push, if_neg (by omega)]; exact hb⟩
    · exact ⟨ci, h⟩
  refine ⟨upd ι s.σ.length none, S, ⟨h1.os, h1.tape, h1.output, h1.size, h1.old, h1.shape, fun i ci hi => ?_, fun i ci blk hi => ?_, fun i ci blk hi => ?_, fun i i' ci ci' blk hi hi' => ?_, h1.Slt, h1.S0, h1.Snew, by rw [hlen]; exact h1.klen, h1.kι⟩, hr.ck, hr.tsz, hr.defers, fun t' p ht => by rw [hlen]; exact wide _ _ (hr.temps t' p ht)⟩
  · rw [hlen]
    rcases hbx i ci hi with ⟨rfl, rfl⟩ | hh
    · rcases h1.boxes i cs (by rw [box_push, if_neg (by omega)]; exact hb) with ⟨h', h''⟩ | ⟨blk, c', e', hb', g1, g0, g2⟩
      · rw [h''] at h; simp at h
      · refine .inr ⟨blk, c', e', hb', g1, fun p hp => ?_, fun q p hq => ?_⟩
        · rcases List.mem_or_eq_of_mem_set hp with hp | rfl
          · exact g0 p hp
          · rfl
        · by_cases e : q = j
          · subst e
            have hjl := (List.getElem?_eq_some_iff.1 h).1
            simp [List.getElem?_set_self hjl] at hq
            subst hq
            obtain ⟨v, hv1, hv2⟩ := g2 q _ h
            refine ⟨v, hv1, ?_⟩
            rw [hv2.k_inv.1]
            exact .osl0 (by simp)
          · rw [List.getElem?_set_ne (fun e2 => e e2.symm)] at hq
            exact g2 q p hq
    · exact h1.boxes i ci hh
  · obtain ⟨ci', h'⟩ := hsome i ci hi
    exact h1.notS i ci' blk h'
  · obtain ⟨ci', h'⟩ := hsome i ci hi
    exact h1.live i ci' blk h'
  · obtain ⟨c1, k1⟩ := hsome i ci hi
    obtain ⟨c2, k2⟩ := hsome i' ci' hi'
    exact h1.inj i i' c1 c2 blk k1 k2

theorem IRel.nil_sl {S : Nat → Prop} {w : World} {z : Nat} : IRel S w (.slice none 0 0) (.sl z []) :=
  .sl (fun _ => .nilFunc) rfl (Nat.le_refl _) (by simp [maxLen]) (by simp) (by simp) (fun _ => rfl) (fun h => by omega) (by simp)

theorem ent_nilsl {s : St} {t z : Nat} (h : look s.T t = some (.k (.slice none 0 0))) : Ent s { s with T := (t, .sl z []) :: s.T } := fun c ι S a w hr => by
  refine ⟨ι, S, hr.st, hr.ck, hr.tsz, hr.defers, fun t' p ht => ?_⟩
  simp only [look] at ht
  split at ht
  · rename_i e; subst e; simp at ht; subst ht
    have := (hr.temps t' _ h).k_inv.1
    rw [this]
    exact .imm .nil_sl
  · exact hr.temps t' p ht

/-! ### Freezing -/
def PV.immB : PV → Bool
  | .k _ | .sl _ _ | .eptr _ => true
  | _ => false

theorem VRel.immI {n : Nat} {ι : Nat → Option Nat} {S : Nat → Prop} {w : World} {v : Value} {p : PV} (h : VRel n ι S w v p) (hp : p.immB = true) : IRel S w v p := by
  cases h with
  | imm h => exact h
  | _ => simp [PV.immB] at hp

def chunks (z : Nat) (cs : List PV) (len : Nat) : List (List PV) := (List.range len).map fun i => (cs.drop (i * z)).take z

theorem chunks_flatten {z : Nat} : ∀ (rows : List (List PV)), (∀ r ∈ rows, r.length = z) → ∀ rest, chunks z (rows.flatten ++ rest) rows.length = rows := fun rows h rest => by
  refine List.ext_getElem (by simp [chunks]) fun i h1 h2 => ?_
  simp only [chunks, List.getElem_map, List.getElem_range]
  refine List.ext_getElem? fun j => ?_
  have hr : rows[i].length = z := h _ (List.getElem_mem h2)
  have hfl := flatten_len rows h
  rcases Nat.lt_or_ge j z with hj | hj
  · rw [List.getElem?_take_of_lt hj, List.getElem?_drop]
    have hlt : i * z + j < rows.flatten.length := by
      rw [hfl]
      have : i * z + j < (i + 1) * z := by rw [Nat.add_mul]; omega
      exact Nat.lt_of_lt_of_le this (Nat.mul_le_mul_right _ (by omega))
    rw [List.getElem?_append_left hlt, flatten_at i rows h rows[i] (List.getElem?_eq_getElem h2) j hj]
  · rw [List.getElem?_eq_none (by simp; omega), List.getElem?_eq_none (by omega)]

theorem chunks_map {α : Type} {z : Nat} {f : α → List PV} (h : ∀ x, (f x).length = z) (l : List α) : chunks z (l.map f).flatten l.length = l.map f := by
  have := chunks_flatten (l.map f) (fun r hr => by obtain ⟨x, _, rfl⟩ := List.mem_map.1 hr; exact h x) []
  simpa using this

theorem chunks_len {z len : Nat} {cs : List PV} (h : len * z ≤ cs.length) : (∀ r ∈ chunks z cs len, r.length = z) ∧ (chunks z cs len).length = len ∧ (chunks z cs len).flatten = cs.take (len * z) := by
  have h1 : ∀ r ∈ chunks z cs len, r.length = z := fun r hr => by
    simp only [chunks, List.mem_map, List.mem_range] at hr
    obtain ⟨i, hi, rfl⟩ := hr
    have : (i + 1) * z ≤ len * z := Nat.mul_le_mul_right _ (by omega)
    rw [Nat.add_mul] at this
    simp; omega
  have h2 : (chunks z cs len).length = len := by simp [chunks]
  refine ⟨h1, h2, List.ext_getElem? fun j => ?_⟩
  have hfl := flatten_len _ h1
  rw [h2] at hfl
  rcases Nat.lt_or_ge j (len * z) with hj | hj
  · have hz : 0 < z := Nat.pos_of_ne_zero (fun e => by simp [e] at hj)
    have hq : j / z < len := Nat.div_lt_of_lt_mul (by rw [Nat.mul_comm]; exact hj)
    have hm := Nat.mod_lt j hz
    have e : j = (j / z) * z + j % z := by rw [Nat.mul_comm]; exact (Nat.div_add_mod j z).symm
    rw [List.getElem?_take_of_lt hj]
    conv => lhs; rw [e]
    rw [flatten_at (j / z) _ h1 ((cs.drop (j / z * z)).take z) (by simp [chunks, hq]) _ hm, List.getElem?_take_of_lt hm, List.getElem?_drop, ← e]
  · rw [List.getElem?_eq_none (by omega), List.getElem?_eq_none (by simp; omega)]

mutual
/-- The slice (box b, rows of z cells, from its begin on, len rows) is told as a slice that nobody writes any more. -/
def PV.frz (b z len : Nat) (cs : List PV) : PV → PV
  | .osl b' z' off' len' => if b' = b ∧ z' = z ∧ off' = 0 ∧ len' = len then .sl z (chunks z cs len) else .osl b' z' off' len'
  | .k v => .k v
  | .sl z rows => .sl z rows
  | .eptr cs => .eptr cs
  | .ptr b off => .ptr b off
  | .clo fn caps => .clo fn (frzL b z len cs caps)
  | .agg ps => .agg (frzL b z len cs ps)
  | .tup ps => .tup (frzL b z len cs ps)
def frzL (b z len : Nat) (cs : List PV) : List PV → List PV
  | [] => []
  | p :: ps => p.frz b z len cs :: frzL b z len cs ps
end

theorem frzL_map (b z len : Nat) (cs : List PV) : ∀ ps, frzL b z len cs ps = ps.map (PV.frz b z len cs)
  | [] => rfl
  | p :: ps => by simp [frzL, frzL_map b z len cs ps]

theorem one_frz (b z len : Nat) (cs : List PV) (p : PV) : (p.frz b z len cs).one = p.one := by
  cases p with
  | osl b' z' off' len' => simp only [PV.frz]; split <;> rfl
  | _ => simp [PV.frz, PV.one]

theorem VRel.frz {n : Nat} {ι : Nat → Option Nat} {S S' : Nat → Prop} {w : World} {b z len : Nat} {cs : List PV} (hSS : ∀ b, S b → S' b)
    (hI : ∀ v, VRel n ι S w v (.osl b z 0 len) → IRel S' w v (.sl z (chunks z cs len))) {v : Value} {p : PV} (h : VRel n ι S w v p) : VRel n ι S' w v (p.frz b z len cs) := by
  have hm : ∀ v p, VRel n ι S w v p → VRel n ι S' w v p := fun v p hh => hh.mono (Nat.le_refl _) (fun _ _ => rfl) hSS (fun _ _ _ => rfl) (fun _ _ h => h)
  have hi : ∀ v p, IRel S w v p → VRel n ι S' w v (p.frz b z len cs) := by
    intro v p hh
    induction hh with
    | k h => exact .imm (.k h)
    | sl g h1 h2 h3 h4 h5 h6 h7 h8 _ => exact hm _ _ (.imm (.sl g h1 h2 h3 h4 h5 h6 h7 h8))
    | eptr g h1 h2 h3 h4 _ => exact hm _ _ (.imm (.eptr g h1 h2 h3 h4))
    | clo h1 h2 _ ih =>
      simp only [PV.frz, frzL_map]
      refine .clo (by simpa using h1) (fun p hp => ?_) (fun j p hj => ?_)
      · simp at hp; obtain ⟨q, hq, rfl⟩ := hp; rw [one_frz]; exact h2 q hq
      · simp at hj; obtain ⟨q, hq, rfl⟩ := hj; exact ih j q hq
    | agg h1 h2 _ ih =>
      simp only [PV.frz, frzL_map]
      refine .agg (by simpa using h1) (fun p hp => ?_) (fun j p hj => ?_)
      · simp at hp; obtain ⟨q, hq, rfl⟩ := hp; rw [one_frz]; exact h2 q hq
      · simp at hj; obtain ⟨q, hq, rfl⟩ := hj; exact ih j q hq
    | tup h1 _ ih =>
      simp only [PV.frz, frzL_map]
      refine .tup (by simpa using h1) (fun j p hj => ?_)
      simp at hj; obtain ⟨q, hq, rfl⟩ := hj; exact ih j q hq
  induction h with
  | imm h => exact hi _ _ h
  | osl h1 h2 h3 h4 h5 h6 =>
    simp only [PV.frz]
    split
    · rename_i hc; obtain ⟨rfl, rfl, rfl, rfl⟩ := hc
      exact .imm (hI _ (.osl h1 h2 h3 h4 h5 h6))
    · exact hm _ _ (.osl h1 h2 h3 h4 h5 h6)
  | osl0 h1 =>
    simp only [PV.frz]
    split
    · rename_i hc; obtain ⟨rfl, rfl, rfl, rfl⟩ := hc
      exact .imm (hI _ (.osl0 h1))
    · exact hm _ _ (.osl0 h1)
  | ptr h1 h2 => exact .ptr h1 h2
  | clo h1 h2 _ ih =>
    simp only [PV.frz, frzL_map]
    refine .clo (by simpa using h1) (fun p hp => ?_) (fun j p hj => ?_)
    · simp at hp; obtain ⟨q, hq, rfl⟩ := hp; rw [one_frz]; exact h2 q hq
    · simp at hj; obtain ⟨q, hq, rfl⟩ := hj; exact ih j q hq
  | agg h1 h2 _ ih =>
    simp only [PV.frz, frzL_map]
    refine .agg (by simpa using h1) (fun p hp => ?_) (fun j p hj => ?_)
    · simp at hp; obtain ⟨q, hq, rfl⟩ := hp; rw [one_frz]; exact h2 q hq
    · simp at hj; obtain ⟨q, hq, rfl⟩ := hj; exact ih j q hq
  | tup h1 _ ih =>
    simp only [PV.frz, frzL_map]
    refine .tup (by simpa using h1) (fun j p hj => ?_)
    simp at hj; obtain ⟨q, hq, rfl⟩ := hj; exact ih j q hq

def St.frz (s : St) (b z len : Nat) (cs : List PV) : St :=
  { s with T := s.T.map (fun e => (e.1, e.2.frz b z len cs)), σ := (s.σ.map fun x => x.map (frzL b z len cs)).set b none }

theorem look_map (f : PV → PV) : ∀ (l : List (Nat × PV)) (t : Nat), look (l.map fun e => (e.1, f e.2)) t = (look l t).map f
  | [], t => rfl
  | (t', p) :: r, t => by
    simp only [List.map_cons, look]
    split
    · rfl
    · exact look_map f r t

/-- A slice into box b whose cells are all told as memory that nobody writes. -/
theorem frz_rel {c : Ctx} {ι : Nat → Option Nat} {S : Nat → Prop} {σ : Boxes} {w : World} (hσ : Store c ι S σ w) {b z len : Nat} {cs : List PV} (hb : box σ b = some cs) (hlen : len * z ≤ cs.length) (hi : cs.all PV.immB = true) :
    ∀ v, VRel σ.length ι S w v (.osl b z 0 len) → IRel (fun q => S q ∨ ι b = some q) w v (.sl z (chunks z cs len)) := by
  obtain ⟨k1, k2, k3⟩ := chunks_len hlen
  intro v hv
  have honec : (∀ p ∈ cs, PV.one p = true) := by
    rcases hσ.boxes b cs hb with ⟨_, rfl⟩ | ⟨_, _, _, _, _, g0, _⟩
    · simp
    · exact g0
  have hones : ∀ r ∈ chunks z cs len, ∀ p ∈ r, PV.one p = true := fun r hr p hp => by
    simp only [chunks, List.mem_map] at hr
    obtain ⟨i, _, rfl⟩ := hr
    exact honec p (List.mem_of_mem_drop (List.mem_of_mem_take hp))
  cases hv with
  | imm h => cases h
  | osl0 h1 =>
    rename_i a
    have hch : chunks z cs 0 = [] := by simp [chunks]
    rw [hch]
    exact .sl (fun _ => .nilFunc) rfl (Nat.le_refl _) (by simp [maxLen]) (by simp) (by simp) (fun _ => rfl) (fun h => by omega) (by simp)
  | osl h1 h2 h3 h4 h5 h6 =>
    rename_i cap blk e m
    obtain ⟨blk', c', e', hb', g1, g0, g2⟩ := (hσ.boxes b cs hb).resolve_left (fun hh => by rw [hh.1] at h4; simp at h4)
    rw [hb'] at h4; simp at h4; subst h4
    have hcell : ∀ j p, cs[j]? = some p → w.cell? ⟨blk', j, none⟩ = some (c'.getD j undef) ∧ VRel σ.length ι S w (c'.getD j undef) p := fun j p hj => by
      obtain ⟨v, hv1, hv2⟩ := g2 j p hj
      have : c'.getD j undef = v := by rw [Array.getD_eq_getD_getElem?, hv1]; rfl
      rw [this]
      exact ⟨by simp [World.cell?, g1, hv1], hv2⟩
    refine .sl (fun j => c'.getD j undef) k2 h2 h3 k1 hones (fun h => by simp at h) (fun hn => ⟨blk', 0, rfl, .inr hb', fun j hj => ?_⟩) (fun j p hj => ?_)
    · rw [Nat.zero_add]
      exact (hcell j _ (List.getElem?_eq_getElem (by omega))).1
    · rw [k3] at hj
      have hj' := (List.getElem?_eq_some_iff.1 hj).1
      simp at hj'
      rw [List.getElem?_take_of_lt (by omega)] at hj
      obtain ⟨_, hr⟩ := hcell j p hj
      exact (hr.immI (List.all_eq_true.1 hi p (List.mem_of_getElem? hj))).mono (fun _ h => .inl h) (fun _ _ _ => rfl)

theorem ent_frz {s : St} (b z len : Nat) (cs : List PV) (hk : s.k ≤ b) (hb : box s.σ b = some cs) (hlen : len * z ≤ cs.length) (hi : cs.all PV.immB = true) : Ent s (s.frz b z len cs) := fun c ι S a w hr => by
  have hσ := hr.st
  have hbl := box_lt hb
  have hI := frz_rel hσ hb hlen hi
  have hS' : ∀ q, S q → (fun q => S q ∨ ι b = some q) q := fun q h => .inl h
  have hv : ∀ v p, VRel s.σ.length ι S w v p → VRel s.σ.length ι (fun q => S q ∨ ι b = some q) w v (p.frz b z len cs) := fun v p hh => VRel.frz hS' hI hh
  have hlen2 : ((s.σ.map fun x => x.map (frzL b z len cs)).set b none).length = s.σ.length := by simp
  have hbox : ∀ i ci, box ((s.σ.map fun x => x.map (frzL b z len cs)).set b none) i = some ci → i ≠ b ∧ ∃ ci', box s.σ i = some ci' ∧ ci = frzL b z len cs ci' := fun i ci h => by
    rw [box_set (by simpa using hbl)] at h
    split at h
    · simp at h
    · rename_i hne
      rw [box_map] at h
      simp only [Option.map_eq_some_iff] at h
      obtain ⟨ci', h1, rfl⟩ := h
      exact ⟨hne, ci', h1, rfl⟩
  have hblt : ∀ blk, ι b = some blk → blk < w.heap.size := fun blk h => by
    rcases hσ.boxes b cs hb with ⟨h', _⟩ | ⟨blk', c', e', hb', g1, _⟩
    · rw [h'] at h; simp at h
    · rw [hb'] at h; simp at h; subst h; exact (Array.getElem?_eq_some_iff.1 g1).1
  refine ⟨ι, fun q => S q ∨ ι b = some q, ⟨hσ.os, hσ.tape, hσ.output, hσ.size, hσ.old, hσ.shape, fun i ci hi => ?_, fun i ci blk hi hbi hSq => ?_, fun i ci blk hi hbi => ?_, fun i j ci cj blk hi hj hbi hbj => ?_, fun q hq => ?_, fun q hq => .inl (hσ.S0 q hq), fun q hq => ?_, ?_, hσ.kι⟩, hr.ck, hr.tsz, hr.defers, fun t p ht => ?_⟩
  · obtain ⟨hne, ci', h1, rfl⟩ := hbox i ci hi
    rcases hσ.boxes i ci' h1 with ⟨h', h''⟩ | ⟨blk, c', e', hb', g1, g0, g2⟩
    · exact .inl ⟨h', by rw [h'']; rfl⟩
    · refine .inr ⟨blk, c', e', hb', g1, fun p hp => ?_, fun j p hj => ?_⟩
      · rw [frzL_map] at hp; simp at hp; obtain ⟨q, hq, rfl⟩ := hp; rw [one_frz]; exact g0 q hq
      · rw [frzL_map] at hj; simp at hj; obtain ⟨q, hq, rfl⟩ := hj
        obtain ⟨v, hv1, hv2⟩ := g2 j q hq
        refine ⟨v, hv1, ?_⟩
        have := hv v q hv2
        simp only [St.frz]
        rw [hlen2]; exact this
  · obtain ⟨hne, ci', h1, rfl⟩ := hbox i ci hi
    rcases hSq with hSq | hSq
    · exact hσ.notS i ci' blk h1 hbi hSq
    · exact hne (hσ.inj i b ci' cs blk h1 hb hbi hSq)
  · obtain ⟨hne, ci', h1, rfl⟩ := hbox i ci hi
    exact hσ.live i ci' blk h1 hbi
  · obtain ⟨_, ci', h1, rfl⟩ := hbox i ci hi
    obtain ⟨_, cj', h2, rfl⟩ := hbox j cj hj
    exact hσ.inj i j ci' cj' blk h1 h2 hbi hbj
  · rcases hq with hq | hq
    · exact hσ.Slt q hq
    · exact hblt q hq
  · rcases hq with hq | hq
    · exact hσ.Snew q hq
    · rcases hσ.live b cs q hb hq with h | h
      · exact .inr (.inl h)
      · exact .inr (.inr h)
  · simp only [St.frz]; rw [hlen2]; exact hσ.klen
  · simp only [St.frz] at ht ⊢
    rw [look_map (PV.frz b z len cs)] at ht
    simp only [Option.map_eq_some_iff] at ht
    obtain ⟨q, hq, rfl⟩ := ht
    rw [hlen2]
    exact hv _ q (hr.temps t q hq)

end Go.Proofs.Ytmkgechjbbekmaa.Am
