/- The program's values as Lean values, and how they stand in the machine. -/
import Derived.Test.YtidhdlhblhbahaaGreatTy
import Derived.Test.YtidhdlhblhbahaaGreatAmB
namespace Go.Proofs.YtidhdlhblhbahaaGreat.Am
open Go Go.RowKit
set_option linter.unusedSimpArgs false
abbrev Str := ByteArray
theorem bool_beq (a b : Bool) : (a == b) = decide (a = b) := by cases a <;> cases b <;> rfl
structure GField where
  Name : Str
  Bits : Int
  Low : Int
  deriving DecidableEq
structure GKind where
  Name : Str
  Fields : List GField
  deriving DecidableEq
structure GEnt where
  N : Int
  Gen : Int
  deriving DecidableEq
structure GComp where
  Kind : Int
  Vals : List Int
  deriving DecidableEq
structure GItem where
  Ent : GEnt
  Comps : List GComp
  deriving DecidableEq
structure GWorld where
  Kinds : List GKind
  Gens : List Int
  Items : List GItem
  deriving DecidableEq
structure GEvent where
  System : Int
  Ent : GEnt
  Value : Int
  deriving DecidableEq
structure GCount where
  System : Int
  N : Int
  deriving DecidableEq
structure GRef where
  Kind : Int
  Field : Int
  deriving DecidableEq
structure GArg where
  Has : Bool
  N : Int
  Ref : GRef
  deriving DecidableEq
structure GOp where
  Do : Int
  To : GRef
  A : GArg
  B : GArg
  deriving DecidableEq
structure GSystem where
  Name : Str
  With : List Int
  Without : List Int
  Reads : List Int
  Writes : List Int
  Ops : List GOp
  Spawn : List GComp
  deriving DecidableEq
structure GCmd where
  Do : Int
  Ent : GEnt
  Kind : Int
  Comps : List GComp
  deriving DecidableEq
structure GMark where
  N : Int
  Kind : Int
  Tick : Int
  deriving DecidableEq
structure GMove where
  Do : Int
  Kind : Str
  Field : Str
  Name : Str
  Value : Int
  New : GField
  Whole : GKind
  deriving DecidableEq
structure GSpan where
  Low : Int
  High : Int
  deriving DecidableEq
def GField.e (x : GField) : List PV := [kS x.Name, kI x.Bits, kI x.Low]
def GKind.e (x : GKind) : List PV := [kS x.Name, .sl 3 (x.Fields.map GField.e)]
def GEnt.e (x : GEnt) : List PV := [kI x.N, kI x.Gen]
def GComp.e (x : GComp) : List PV := [kI x.Kind, slI x.Vals]
def GItem.e (x : GItem) : List PV := [kI x.Ent.N, kI x.Ent.Gen, .sl 2 (x.Comps.map GComp.e)]
def GWorld.e (x : GWorld) : List PV := [.sl 2 (x.Kinds.map GKind.e), slI x.Gens, .sl 3 (x.Items.map GItem.e)]
def GEvent.e (x : GEvent) : List PV := [kI x.System, kI x.Ent.N, kI x.Ent.Gen, kI x.Value]
def GCount.e (x : GCount) : List PV := [kI x.System, kI x.N]
def GRef.e (x : GRef) : List PV := [kI x.Kind, kI x.Field]
def GArg.e (x : GArg) : List PV := [kB x.Has, kI x.N, kI x.Ref.Kind, kI x.Ref.Field]
def GOp.e (x : GOp) : List PV := [kI x.Do, kI x.To.Kind, kI x.To.Field, kB x.A.Has, kI x.A.N, kI x.A.Ref.Kind, kI x.A.Ref.Field, kB x.B.Has, kI x.B.N, kI x.B.Ref.Kind, kI x.B.Ref.Field]
def GSystem.e (x : GSystem) : List PV := [kS x.Name, slI x.With, slI x.Without, slI x.Reads, slI x.Writes, .sl 11 (x.Ops.map GOp.e), .sl 2 (x.Spawn.map GComp.e)]
def GCmd.e (x : GCmd) : List PV := [kI x.Do, kI x.Ent.N, kI x.Ent.Gen, kI x.Kind, .sl 2 (x.Comps.map GComp.e)]
def GMark.e (x : GMark) : List PV := [kI x.N, kI x.Kind, kI x.Tick]
def GMove.e (x : GMove) : List PV := [kI x.Do, kS x.Kind, kS x.Field, kS x.Name, kI x.Value, kS x.New.Name, kI x.New.Bits, kI x.New.Low, kS x.Whole.Name, .sl 3 (x.Whole.Fields.map GField.e)]
def GSpan.e (x : GSpan) : List PV := [kI x.Low, kI x.High]
theorem GField.ext_iff' (x y : GField) : x = y ↔ x.Name = y.Name ∧ x.Bits = y.Bits ∧ x.Low = y.Low := by cases x; cases y; simp
theorem GKind.ext_iff' (x y : GKind) : x = y ↔ x.Name = y.Name ∧ x.Fields = y.Fields := by cases x; cases y; simp
theorem GEnt.ext_iff' (x y : GEnt) : x = y ↔ x.N = y.N ∧ x.Gen = y.Gen := by cases x; cases y; simp
theorem GComp.ext_iff' (x y : GComp) : x = y ↔ x.Kind = y.Kind ∧ x.Vals = y.Vals := by cases x; cases y; simp
theorem GItem.ext_iff' (x y : GItem) : x = y ↔ x.Ent = y.Ent ∧ x.Comps = y.Comps := by cases x; cases y; simp
theorem GWorld.ext_iff' (x y : GWorld) : x = y ↔ x.Kinds = y.Kinds ∧ x.Gens = y.Gens ∧ x.Items = y.Items := by cases x; cases y; simp
theorem GEvent.ext_iff' (x y : GEvent) : x = y ↔ x.System = y.System ∧ x.Ent = y.Ent ∧ x.Value = y.Value := by cases x; cases y; simp
theorem GCount.ext_iff' (x y : GCount) : x = y ↔ x.System = y.System ∧ x.N = y.N := by cases x; cases y; simp
theorem GRef.ext_iff' (x y : GRef) : x = y ↔ x.Kind = y.Kind ∧ x.Field = y.Field := by cases x; cases y; simp
theorem GArg.ext_iff' (x y : GArg) : x = y ↔ x.Has = y.Has ∧ x.N = y.N ∧ x.Ref = y.Ref := by cases x; cases y; simp
theorem GOp.ext_iff' (x y : GOp) : x = y ↔ x.Do = y.Do ∧ x.To = y.To ∧ x.A = y.A ∧ x.B = y.B := by cases x; cases y; simp
theorem GSystem.ext_iff' (x y : GSystem) : x = y ↔ x.Name = y.Name ∧ x.With = y.With ∧ x.Without = y.Without ∧ x.Reads = y.Reads ∧ x.Writes = y.Writes ∧ x.Ops = y.Ops ∧ x.Spawn = y.Spawn := by cases x; cases y; simp
theorem GCmd.ext_iff' (x y : GCmd) : x = y ↔ x.Do = y.Do ∧ x.Ent = y.Ent ∧ x.Kind = y.Kind ∧ x.Comps = y.Comps := by cases x; cases y; simp
theorem GMark.ext_iff' (x y : GMark) : x = y ↔ x.N = y.N ∧ x.Kind = y.Kind ∧ x.Tick = y.Tick := by cases x; cases y; simp
theorem GMove.ext_iff' (x y : GMove) : x = y ↔ x.Do = y.Do ∧ x.Kind = y.Kind ∧ x.Field = y.Field ∧ x.Name = y.Name ∧ x.Value = y.Value ∧ x.New = y.New ∧ x.Whole = y.Whole := by cases x; cases y; simp
theorem GSpan.ext_iff' (x y : GSpan) : x = y ↔ x.Low = y.Low ∧ x.High = y.High := by cases x; cases y; simp
theorem GField.e_len (x : GField) : x.e.length = 3 := rfl
theorem GKind.e_len (x : GKind) : x.e.length = 2 := rfl
theorem GEnt.e_len (x : GEnt) : x.e.length = 2 := rfl
theorem GComp.e_len (x : GComp) : x.e.length = 2 := rfl
theorem GItem.e_len (x : GItem) : x.e.length = 3 := rfl
theorem GWorld.e_len (x : GWorld) : x.e.length = 3 := rfl
theorem GEvent.e_len (x : GEvent) : x.e.length = 4 := rfl
theorem GCount.e_len (x : GCount) : x.e.length = 2 := rfl
theorem GRef.e_len (x : GRef) : x.e.length = 2 := rfl
theorem GArg.e_len (x : GArg) : x.e.length = 4 := rfl
theorem GOp.e_len (x : GOp) : x.e.length = 11 := rfl
theorem GSystem.e_len (x : GSystem) : x.e.length = 7 := rfl
theorem GCmd.e_len (x : GCmd) : x.e.length = 5 := rfl
theorem GMark.e_len (x : GMark) : x.e.length = 3 := rfl
theorem GMove.e_len (x : GMove) : x.e.length = 10 := rfl
theorem GSpan.e_len (x : GSpan) : x.e.length = 2 := rfl
theorem flat_len {α : Type} {f : α → List PV} {z : Nat} (h : ∀ x, (f x).length = z) : ∀ (l : List α), ((l.map f).flatten).length = l.length * z
  | [] => by simp
  | x :: l => by rw [List.map_cons, List.flatten_cons, List.length_append, flat_len h l, h, List.length_cons, Nat.add_mul, Nat.one_mul, Nat.add_comm]
theorem flat_sum {α : Type} {f : α → List PV} {z : Nat} (h : ∀ x, (f x).length = z) (l : List α) : (l.map (List.length ∘ f)).sum = l.length * z := by
  rw [← flat_len h l, List.length_flatten, List.map_map]
theorem flat_imm {α : Type} {f : α → List PV} (h : ∀ x, (f x).all PV.immB = true) (l : List α) : ((l.map f).flatten).all PV.immB = true := by
  rw [List.all_flatten, List.all_map]
  exact List.all_eq_true.2 fun x _ => h x
theorem imm0_renL {ps : List PV} (h : ps.all PV.imm0 = true) (θ : Nat → Nat) : renL θ ps = ps := by
  rw [renL_map]
  refine (List.map_congr_left fun p hp => (?_ : p.ren θ = id p)).trans (by simp)
  have h1 := List.all_eq_true.1 h p hp
  clear h hp; revert h1; cases p <;> simp [PV.ren, PV.imm0]
theorem imm0_ltL {ps : List PV} (h : ps.all PV.imm0 = true) (n : Nat) : ltL n ps = true := by
  rw [ltL_all]
  refine List.all_eq_true.2 fun p hp => ?_
  have h1 := List.all_eq_true.1 h p hp
  clear h hp; revert h1; cases p <;> simp [PV.lt, PV.imm0]
theorem imm0_frzL {ps : List PV} (h : ps.all PV.imm0 = true) (b z len : Nat) (cs : List PV) : frzL b z len cs ps = ps := by
  rw [frzL_map]
  refine (List.map_congr_left fun p hp => (?_ : p.frz b z len cs = id p)).trans (by simp)
  have h1 := List.all_eq_true.1 h p hp
  clear h hp; revert h1; cases p <;> simp [PV.frz, PV.imm0]
theorem imm_ren {p : PV} (h : p.immB = true) (θ : Nat → Nat) : p.ren θ = p := by
  cases p with
  | clo fn caps => simp only [PV.ren]; rw [imm0_renL h]
  | _ => simp_all
theorem imm_lt {p : PV} (h : p.immB = true) (n : Nat) : p.lt n = true := by
  cases p with
  | clo fn caps => simp only [PV.lt]; exact imm0_ltL h n
  | _ => simp_all
theorem imm_frz {p : PV} (h : p.immB = true) (b z len : Nat) (cs : List PV) : p.frz b z len cs = p := by
  cases p with
  | clo fn caps => simp only [PV.frz]; rw [imm0_frzL h]
  | _ => simp_all
theorem imms_ren {ps : List PV} (h : ps.all PV.immB = true) (θ : Nat → Nat) : renL θ ps = ps := by
  rw [renL_map]
  refine (List.map_congr_left fun p hp => imm_ren (List.all_eq_true.1 h p hp) θ).trans (by simp)
theorem imms_lt {ps : List PV} (h : ps.all PV.immB = true) (n : Nat) : ltL n ps = true := by
  rw [ltL_all]
  exact List.all_eq_true.2 fun p hp => imm_lt (List.all_eq_true.1 h p hp) n
theorem imms_frz {ps : List PV} (h : ps.all PV.immB = true) (b z len : Nat) (cs : List PV) : frzL b z len cs ps = ps := by
  rw [frzL_map]
  refine (List.map_congr_left fun p hp => imm_frz (List.all_eq_true.1 h p hp) b z len cs).trans (by simp)
theorem frzL_append (b z len : Nat) (cs ps qs : List PV) : frzL b z len cs (ps ++ qs) = frzL b z len cs ps ++ frzL b z len cs qs := by simp [frzL_map]
theorem renL_append (θ : Nat → Nat) (ps qs : List PV) : renL θ (ps ++ qs) = renL θ ps ++ renL θ qs := by simp [renL_map]
theorem ltL_append (n : Nat) (ps qs : List PV) : ltL n (ps ++ qs) = (ltL n ps && ltL n qs) := by simp [ltL_all]
attribute [simp] frzL_append renL_append ltL_append
@[simp] theorem slI_ren (l : List Int) (θ : Nat → Nat) : (slI l).ren θ = slI l := rfl
@[simp] theorem slI_lt (l : List Int) (n : Nat) : (slI l).lt n = true := rfl
@[simp] theorem slI_imm (l : List Int) : (slI l).immB = true := rfl
@[simp] theorem slI_frz (l : List Int) (b z len : Nat) (cs : List PV) : (slI l).frz b z len cs = slI l := rfl
@[simp] theorem slI_tup (l : List Int) : (slI l).isTup = false := rfl
@[simp] theorem slI_one (l : List Int) : (slI l).one = true := rfl
theorem take_extG {α : Type} {a b : List α} {i : Nat} (ha : i < a.length) (hb : i < b.length) (h : a.take i = b.take i) (hx : a[i] = b[i]) : a.take (i + 1) = b.take (i + 1) := by
  rw [List.take_add_one, List.take_add_one, h, List.getElem?_eq_getElem ha, List.getElem?_eq_getElem hb, hx]
theorem chunks_ints_app (l : List Int) (r : List PV) (n : Nat) (hn : l.length = n) : chunks 1 (l.map kI ++ r) n = l.map fun x => [kI x] := by
  subst hn
  have e : l.map kI = (l.map fun x => [kI x]).flatten := by induction l <;> simp_all
  have := chunks_flatten (z := 1) (l.map fun x => [kI x]) (fun x hx => by simp at hx; obtain ⟨y, _, rfl⟩ := hx; rfl) r
  rw [e]; simpa using this
theorem chunks_ints' (l : List Int) (n : Nat) (hn : l.length = n) : chunks 1 (l.map kI) n = l.map fun x => [kI x] := by
  have := chunks_ints_app l [] n hn
  simpa using this
@[simp] theorem slI_app (l : List Int) (r : List PV) : PV.sl 1 (chunks 1 (l.map kI ++ r) l.length) = slI l := by rw [chunks_ints_app l r _ rfl]; rfl
@[simp] theorem slI_chk (l : List Int) : PV.sl 1 (chunks 1 (l.map kI) l.length) = slI l := by rw [chunks_ints' l _ rfl]; rfl
@[simp] theorem ints_fz (l : List Int) (b : Nat) (cs : List PV) : fzL b cs (l.map kI) = l.map kI := imms_fz (by simp) b cs
@[simp] theorem zeros_fz (n : Nat) (b : Nat) (cs : List PV) : fzL b cs (List.replicate n (kI 0)) = List.replicate n (kI 0) := imms_fz (by simp) b cs
@[simp] theorem chunk1 (x : PV) : chunks 1 [x] 1 = [[x]] := rfl
@[simp] theorem chunk2 (x y : PV) : chunks 1 [x, y] 2 = [[x], [y]] := rfl
theorem slI_one_ (x : Int) : PV.sl 1 [[kI x]] = slI [x] := rfl
@[simp] theorem slI_nil_ : slI [] = PV.sl 1 [] := rfl
theorem row_cell {α : Type} {f : α → List PV} {z : Nat} (h : ∀ x, (f x).length = z) (l : List α) (i j : Nat) (hi : i < l.length) (hj : j < z) : (l.map f).flatten[i * z + j]? = (f l[i])[j]? :=
  flatten_at i (l.map f) (fun r hr => by simp at hr; obtain ⟨x, _, rfl⟩ := hr; exact h x) (f l[i]) (by simp [hi]) j hj
theorem row_get {α : Type} {f : α → List PV} {z : Nat} (h : ∀ x, (f x).length = z) (l : List α) (i : Nat) (hi : i < l.length) : ((l.map f).flatten.drop (i * z)).take z = f l[i] := by
  refine List.ext_getElem? fun j => ?_
  rcases Nat.lt_or_ge j z with hj | hj
  · rw [List.getElem?_take_of_lt hj, List.getElem?_drop, row_cell h l i j hi hj]
  · rw [List.getElem?_eq_none (by simp; omega), List.getElem?_eq_none (by rw [h]; exact hj)]
theorem row_len {α : Type} {f : α → List PV} {z : Nat} (h : ∀ x, (f x).length = z) (l : List α) (i : Nat) (hi : i < l.length) : i * z + z ≤ (l.map f).flatten.length := by
  rw [flat_len h]
  have := Nat.mul_le_mul_right z hi
  rw [Nat.succ_mul] at this
  exact this
theorem row_put {α : Type} {f : α → List PV} {z : Nat} (h : ∀ x, (f x).length = z) (l : List α) (i j : Nat) (p : PV) (y : α) (hi : i < l.length) (hj : j < z) (hy : f y = (f l[i]).take j ++ p :: (f l[i]).drop (j + 1)) :
    (l.map f).flatten.take (i * z + j) ++ p :: (l.map f).flatten.drop (i * z + j + 1) = ((l.set i y).map f).flatten := by
  have hn := row_len h l i hi
  have hset : ∀ (X : List PV) (k : Nat), k < X.length → X.take k ++ p :: X.drop (k + 1) = X.set k p := fun X k hk => by rw [List.set_eq_take_append_cons_drop, if_pos hk]
  rw [hset _ _ (by rw [h]; exact hj)] at hy
  rw [hset _ _ (by omega)]
  refine List.ext_getElem? fun m => ?_
  have hl2 : ((l.set i y).map f).flatten.length = (l.map f).flatten.length := by rw [flat_len h, flat_len h]; simp
  rcases Nat.lt_or_ge m (l.map f).flatten.length with hm | hm
  · have hz : 0 < z := by omega
    have hml : m < l.length * z := by rw [flat_len h] at hm; exact hm
    have hq : m / z < l.length := Nat.div_lt_of_lt_mul (by rw [Nat.mul_comm]; exact hml)
    have hr := Nat.mod_lt m hz
    have em : m = (m / z) * z + m % z := by rw [Nat.mul_comm]; exact (Nat.div_add_mod m z).symm
    have e2 := row_cell h (l.set i y) (m / z) (m % z) (by simpa using hq) hr
    rw [← em] at e2
    rw [e2, List.getElem?_set]
    by_cases hqi : m / z = i
    · rw [hqi] at em
      simp only [hqi, List.getElem_set_self]
      rw [hy, List.getElem?_set]
      by_cases hj2 : j = m % z
      · rw [if_pos (by omega), if_pos (by omega), if_pos hj2, if_pos (by rw [h]; omega)]
      · rw [if_neg (by omega), if_neg hj2]
        have := row_cell h l i (m % z) hi hr
        rw [← em] at this
        exact this
    · rw [if_neg (fun e => hqi (by rw [← e, Nat.mul_comm i z, Nat.mul_add_div hz, Nat.div_eq_of_lt hj]; omega))]
      rw [List.getElem_set_ne (fun e => hqi e.symm)]
      have := row_cell h l (m / z) (m % z) hq hr
      rw [← em] at this
      exact this
  · rw [List.getElem?_eq_none (by simpa using hm), List.getElem?_eq_none (by omega)]
theorem row_sub {α : Type} {f : α → List PV} {z : Nat} (h : ∀ x, (f x).length = z) (l : List α) (i j m : Nat) (hi : i < l.length) (hj : j + m ≤ z) : ((l.map f).flatten.drop (i * z + j)).take m = ((f l[i]).drop j).take m := by
  refine List.ext_getElem? fun k => ?_
  rcases Nat.lt_or_ge k m with hk | hk
  · rw [List.getElem?_take_of_lt hk, List.getElem?_drop, List.getElem?_take_of_lt hk, List.getElem?_drop, Nat.add_assoc, row_cell h l i (j + k) hi (by omega)]
  · rw [List.getElem?_eq_none (by simp; omega), List.getElem?_eq_none (by simp; omega)]
@[simp] theorem row_le' {i n z k : Nat} (h : i < n) (hk : k ≤ z) : i * z + k ≤ n * z := by
  have := Nat.mul_le_mul_right z h
  rw [Nat.succ_mul] at this
  omega
theorem GField.e_imm (x : GField) : x.e.all PV.immB = true := rfl
theorem GKind.e_imm (x : GKind) : x.e.all PV.immB = true := rfl
theorem GEnt.e_imm (x : GEnt) : x.e.all PV.immB = true := rfl
theorem GComp.e_imm (x : GComp) : x.e.all PV.immB = true := rfl
theorem GItem.e_imm (x : GItem) : x.e.all PV.immB = true := rfl
theorem GWorld.e_imm (x : GWorld) : x.e.all PV.immB = true := rfl
theorem GEvent.e_imm (x : GEvent) : x.e.all PV.immB = true := rfl
theorem GCount.e_imm (x : GCount) : x.e.all PV.immB = true := rfl
theorem GRef.e_imm (x : GRef) : x.e.all PV.immB = true := rfl
theorem GArg.e_imm (x : GArg) : x.e.all PV.immB = true := rfl
theorem GOp.e_imm (x : GOp) : x.e.all PV.immB = true := rfl
theorem GSystem.e_imm (x : GSystem) : x.e.all PV.immB = true := rfl
theorem GCmd.e_imm (x : GCmd) : x.e.all PV.immB = true := rfl
theorem GMark.e_imm (x : GMark) : x.e.all PV.immB = true := rfl
theorem GMove.e_imm (x : GMove) : x.e.all PV.immB = true := rfl
theorem GSpan.e_imm (x : GSpan) : x.e.all PV.immB = true := rfl
theorem int_imm (x : Int) : [kI x].all PV.immB = true := rfl
theorem int_len (x : Int) : [kI x].length = 1 := rfl
@[simp] theorem GField.sum (l : List GField) : (l.map (List.length ∘ GField.e)).sum = l.length * 3 := flat_sum GField.e_len l
@[simp] theorem GField.ren (l : List GField) (θ : Nat → Nat) : renL θ (l.map GField.e).flatten = (l.map GField.e).flatten := imms_ren (flat_imm GField.e_imm l) θ
@[simp] theorem GField.ltl (l : List GField) (n : Nat) : ltL n (l.map GField.e).flatten = true := imms_lt (flat_imm GField.e_imm l) n
@[simp] theorem GField.iml (l : List GField) : (l.map GField.e).flatten.all PV.immB = true := flat_imm GField.e_imm l
@[simp] theorem GField.frl (l : List GField) (b z len : Nat) (cs : List PV) : frzL b z len cs (l.map GField.e).flatten = (l.map GField.e).flatten := imms_frz (flat_imm GField.e_imm l) b z len cs
@[simp] theorem GField.fzl (l : List GField) (b : Nat) (cs : List PV) : fzL b cs (l.map GField.e).flatten = (l.map GField.e).flatten := imms_fz (flat_imm GField.e_imm l) b cs
@[simp] theorem GField.e_fz (x : GField) (b : Nat) (cs : List PV) : fzL b cs x.e = x.e := rfl
@[simp] theorem GField.e_im (x : GField) : x.e.all PV.immB = true := rfl
@[simp] theorem GField.chk (l : List GField) : chunks 3 (l.map GField.e).flatten l.length = l.map GField.e := chunks_map GField.e_len l
@[simp] theorem GField.e_take (x : GField) : x.e.take 3 = x.e := rfl
@[simp] theorem GField.e_ren (x : GField) (θ : Nat → Nat) : renL θ x.e = x.e := rfl
@[simp] theorem GField.e_ltl (x : GField) (n : Nat) : ltL n x.e = true := rfl
@[simp] theorem GField.e_frz (x : GField) (b z len : Nat) (cs : List PV) : frzL b z len cs x.e = x.e := rfl
attribute [simp] GField.e_len
@[simp] theorem GField.row (l : List GField) (i : Nat) (hi : i < l.length) : ((l.map GField.e).flatten.drop (i * 3)).take 3 = l[i].e := row_get GField.e_len l i hi
@[simp] theorem GField.row0 (l : List GField) (i : Nat) (hi : i < l.length) : (l.map GField.e).flatten[i * 3]? = some (kS l[i].Name) := row_cell GField.e_len l i 0 hi (by omega)
@[simp] theorem GField.row1 (l : List GField) (i : Nat) (hi : i < l.length) : (l.map GField.e).flatten[i * 3 + 1]? = some (kI l[i].Bits) := row_cell GField.e_len l i 1 hi (by omega)
@[simp] theorem GField.row2 (l : List GField) (i : Nat) (hi : i < l.length) : (l.map GField.e).flatten[i * 3 + 2]? = some (kI l[i].Low) := row_cell GField.e_len l i 2 hi (by omega)
@[simp] theorem GField.e_0 (x : GField) : x.e[0]? = some (kS x.Name) := rfl
@[simp] theorem GField.eg0 (x : GField) (h : 0 < x.e.length) : x.e[0]'h = kS x.Name := rfl
@[simp] theorem GField.e_1 (x : GField) : x.e[1]? = some (kI x.Bits) := rfl
@[simp] theorem GField.eg1 (x : GField) (h : 1 < x.e.length) : x.e[1]'h = kI x.Bits := rfl
@[simp] theorem GField.e_2 (x : GField) : x.e[2]? = some (kI x.Low) := rfl
@[simp] theorem GField.eg2 (x : GField) (h : 2 < x.e.length) : x.e[2]'h = kI x.Low := rfl
@[simp] theorem GKind.sum (l : List GKind) : (l.map (List.length ∘ GKind.e)).sum = l.length * 2 := flat_sum GKind.e_len l
@[simp] theorem GKind.ren (l : List GKind) (θ : Nat → Nat) : renL θ (l.map GKind.e).flatten = (l.map GKind.e).flatten := imms_ren (flat_imm GKind.e_imm l) θ
@[simp] theorem GKind.ltl (l : List GKind) (n : Nat) : ltL n (l.map GKind.e).flatten = true := imms_lt (flat_imm GKind.e_imm l) n
@[simp] theorem GKind.iml (l : List GKind) : (l.map GKind.e).flatten.all PV.immB = true := flat_imm GKind.e_imm l
@[simp] theorem GKind.frl (l : List GKind) (b z len : Nat) (cs : List PV) : frzL b z len cs (l.map GKind.e).flatten = (l.map GKind.e).flatten := imms_frz (flat_imm GKind.e_imm l) b z len cs
@[simp] theorem GKind.fzl (l : List GKind) (b : Nat) (cs : List PV) : fzL b cs (l.map GKind.e).flatten = (l.map GKind.e).flatten := imms_fz (flat_imm GKind.e_imm l) b cs
@[simp] theorem GKind.e_fz (x : GKind) (b : Nat) (cs : List PV) : fzL b cs x.e = x.e := rfl
@[simp] theorem GKind.e_im (x : GKind) : x.e.all PV.immB = true := rfl
@[simp] theorem GKind.chk (l : List GKind) : chunks 2 (l.map GKind.e).flatten l.length = l.map GKind.e := chunks_map GKind.e_len l
@[simp] theorem GKind.e_take (x : GKind) : x.e.take 2 = x.e := rfl
@[simp] theorem GKind.e_ren (x : GKind) (θ : Nat → Nat) : renL θ x.e = x.e := rfl
@[simp] theorem GKind.e_ltl (x : GKind) (n : Nat) : ltL n x.e = true := rfl
@[simp] theorem GKind.e_frz (x : GKind) (b z len : Nat) (cs : List PV) : frzL b z len cs x.e = x.e := rfl
attribute [simp] GKind.e_len
@[simp] theorem GKind.row (l : List GKind) (i : Nat) (hi : i < l.length) : ((l.map GKind.e).flatten.drop (i * 2)).take 2 = l[i].e := row_get GKind.e_len l i hi
@[simp] theorem GKind.row0 (l : List GKind) (i : Nat) (hi : i < l.length) : (l.map GKind.e).flatten[i * 2]? = some (kS l[i].Name) := row_cell GKind.e_len l i 0 hi (by omega)
@[simp] theorem GKind.row1 (l : List GKind) (i : Nat) (hi : i < l.length) : (l.map GKind.e).flatten[i * 2 + 1]? = some (.sl 3 (l[i].Fields.map GField.e)) := row_cell GKind.e_len l i 1 hi (by omega)
@[simp] theorem GKind.e_0 (x : GKind) : x.e[0]? = some (kS x.Name) := rfl
@[simp] theorem GKind.eg0 (x : GKind) (h : 0 < x.e.length) : x.e[0]'h = kS x.Name := rfl
@[simp] theorem GKind.e_1 (x : GKind) : x.e[1]? = some (.sl 3 (x.Fields.map GField.e)) := rfl
@[simp] theorem GKind.eg1 (x : GKind) (h : 1 < x.e.length) : x.e[1]'h = .sl 3 (x.Fields.map GField.e) := rfl
@[simp] theorem GEnt.sum (l : List GEnt) : (l.map (List.length ∘ GEnt.e)).sum = l.length * 2 := flat_sum GEnt.e_len l
@[simp] theorem GEnt.ren (l : List GEnt) (θ : Nat → Nat) : renL θ (l.map GEnt.e).flatten = (l.map GEnt.e).flatten := imms_ren (flat_imm GEnt.e_imm l) θ
@[simp] theorem GEnt.ltl (l : List GEnt) (n : Nat) : ltL n (l.map GEnt.e).flatten = true := imms_lt (flat_imm GEnt.e_imm l) n
@[simp] theorem GEnt.iml (l : List GEnt) : (l.map GEnt.e).flatten.all PV.immB = true := flat_imm GEnt.e_imm l
@[simp] theorem GEnt.frl (l : List GEnt) (b z len : Nat) (cs : List PV) : frzL b z len cs (l.map GEnt.e).flatten = (l.map GEnt.e).flatten := imms_frz (flat_imm GEnt.e_imm l) b z len cs
@[simp] theorem GEnt.fzl (l : List GEnt) (b : Nat) (cs : List PV) : fzL b cs (l.map GEnt.e).flatten = (l.map GEnt.e).flatten := imms_fz (flat_imm GEnt.e_imm l) b cs
@[simp] theorem GEnt.e_fz (x : GEnt) (b : Nat) (cs : List PV) : fzL b cs x.e = x.e := rfl
@[simp] theorem GEnt.e_im (x : GEnt) : x.e.all PV.immB = true := rfl
@[simp] theorem GEnt.chk (l : List GEnt) : chunks 2 (l.map GEnt.e).flatten l.length = l.map GEnt.e := chunks_map GEnt.e_len l
@[simp] theorem GEnt.e_take (x : GEnt) : x.e.take 2 = x.e := rfl
@[simp] theorem GEnt.e_ren (x : GEnt) (θ : Nat → Nat) : renL θ x.e = x.e := rfl
@[simp] theorem GEnt.e_ltl (x : GEnt) (n : Nat) : ltL n x.e = true := rfl
@[simp] theorem GEnt.e_frz (x : GEnt) (b z len : Nat) (cs : List PV) : frzL b z len cs x.e = x.e := rfl
attribute [simp] GEnt.e_len
@[simp] theorem GEnt.row (l : List GEnt) (i : Nat) (hi : i < l.length) : ((l.map GEnt.e).flatten.drop (i * 2)).take 2 = l[i].e := row_get GEnt.e_len l i hi
@[simp] theorem GEnt.row0 (l : List GEnt) (i : Nat) (hi : i < l.length) : (l.map GEnt.e).flatten[i * 2]? = some (kI l[i].N) := row_cell GEnt.e_len l i 0 hi (by omega)
@[simp] theorem GEnt.row1 (l : List GEnt) (i : Nat) (hi : i < l.length) : (l.map GEnt.e).flatten[i * 2 + 1]? = some (kI l[i].Gen) := row_cell GEnt.e_len l i 1 hi (by omega)
@[simp] theorem GEnt.e_0 (x : GEnt) : x.e[0]? = some (kI x.N) := rfl
@[simp] theorem GEnt.eg0 (x : GEnt) (h : 0 < x.e.length) : x.e[0]'h = kI x.N := rfl
@[simp] theorem GEnt.e_1 (x : GEnt) : x.e[1]? = some (kI x.Gen) := rfl
@[simp] theorem GEnt.eg1 (x : GEnt) (h : 1 < x.e.length) : x.e[1]'h = kI x.Gen := rfl
@[simp] theorem GComp.sum (l : List GComp) : (l.map (List.length ∘ GComp.e)).sum = l.length * 2 := flat_sum GComp.e_len l
@[simp] theorem GComp.ren (l : List GComp) (θ : Nat → Nat) : renL θ (l.map GComp.e).flatten = (l.map GComp.e).flatten := imms_ren (flat_imm GComp.e_imm l) θ
@[simp] theorem GComp.ltl (l : List GComp) (n : Nat) : ltL n (l.map GComp.e).flatten = true := imms_lt (flat_imm GComp.e_imm l) n
@[simp] theorem GComp.iml (l : List GComp) : (l.map GComp.e).flatten.all PV.immB = true := flat_imm GComp.e_imm l
@[simp] theorem GComp.frl (l : List GComp) (b z len : Nat) (cs : List PV) : frzL b z len cs (l.map GComp.e).flatten = (l.map GComp.e).flatten := imms_frz (flat_imm GComp.e_imm l) b z len cs
@[simp] theorem GComp.fzl (l : List GComp) (b : Nat) (cs : List PV) : fzL b cs (l.map GComp.e).flatten = (l.map GComp.e).flatten := imms_fz (flat_imm GComp.e_imm l) b cs
@[simp] theorem GComp.e_fz (x : GComp) (b : Nat) (cs : List PV) : fzL b cs x.e = x.e := rfl
@[simp] theorem GComp.e_im (x : GComp) : x.e.all PV.immB = true := rfl
@[simp] theorem GComp.chk (l : List GComp) : chunks 2 (l.map GComp.e).flatten l.length = l.map GComp.e := chunks_map GComp.e_len l
@[simp] theorem GComp.e_take (x : GComp) : x.e.take 2 = x.e := rfl
@[simp] theorem GComp.e_ren (x : GComp) (θ : Nat → Nat) : renL θ x.e = x.e := rfl
@[simp] theorem GComp.e_ltl (x : GComp) (n : Nat) : ltL n x.e = true := rfl
@[simp] theorem GComp.e_frz (x : GComp) (b z len : Nat) (cs : List PV) : frzL b z len cs x.e = x.e := rfl
attribute [simp] GComp.e_len
@[simp] theorem GComp.row (l : List GComp) (i : Nat) (hi : i < l.length) : ((l.map GComp.e).flatten.drop (i * 2)).take 2 = l[i].e := row_get GComp.e_len l i hi
@[simp] theorem GComp.row0 (l : List GComp) (i : Nat) (hi : i < l.length) : (l.map GComp.e).flatten[i * 2]? = some (kI l[i].Kind) := row_cell GComp.e_len l i 0 hi (by omega)
@[simp] theorem GComp.row1 (l : List GComp) (i : Nat) (hi : i < l.length) : (l.map GComp.e).flatten[i * 2 + 1]? = some (slI l[i].Vals) := row_cell GComp.e_len l i 1 hi (by omega)
@[simp] theorem GComp.e_0 (x : GComp) : x.e[0]? = some (kI x.Kind) := rfl
@[simp] theorem GComp.eg0 (x : GComp) (h : 0 < x.e.length) : x.e[0]'h = kI x.Kind := rfl
@[simp] theorem GComp.e_1 (x : GComp) : x.e[1]? = some (slI x.Vals) := rfl
@[simp] theorem GComp.eg1 (x : GComp) (h : 1 < x.e.length) : x.e[1]'h = slI x.Vals := rfl
@[simp] theorem GItem.sum (l : List GItem) : (l.map (List.length ∘ GItem.e)).sum = l.length * 3 := flat_sum GItem.e_len l
@[simp] theorem GItem.ren (l : List GItem) (θ : Nat → Nat) : renL θ (l.map GItem.e).flatten = (l.map GItem.e).flatten := imms_ren (flat_imm GItem.e_imm l) θ
@[simp] theorem GItem.ltl (l : List GItem) (n : Nat) : ltL n (l.map GItem.e).flatten = true := imms_lt (flat_imm GItem.e_imm l) n
@[simp] theorem GItem.iml (l : List GItem) : (l.map GItem.e).flatten.all PV.immB = true := flat_imm GItem.e_imm l
@[simp] theorem GItem.frl (l : List GItem) (b z len : Nat) (cs : List PV) : frzL b z len cs (l.map GItem.e).flatten = (l.map GItem.e).flatten := imms_frz (flat_imm GItem.e_imm l) b z len cs
@[simp] theorem GItem.fzl (l : List GItem) (b : Nat) (cs : List PV) : fzL b cs (l.map GItem.e).flatten = (l.map GItem.e).flatten := imms_fz (flat_imm GItem.e_imm l) b cs
@[simp] theorem GItem.e_fz (x : GItem) (b : Nat) (cs : List PV) : fzL b cs x.e = x.e := rfl
@[simp] theorem GItem.e_im (x : GItem) : x.e.all PV.immB = true := rfl
@[simp] theorem GItem.chk (l : List GItem) : chunks 3 (l.map GItem.e).flatten l.length = l.map GItem.e := chunks_map GItem.e_len l
@[simp] theorem GItem.e_take (x : GItem) : x.e.take 3 = x.e := rfl
@[simp] theorem GItem.e_ren (x : GItem) (θ : Nat → Nat) : renL θ x.e = x.e := rfl
@[simp] theorem GItem.e_ltl (x : GItem) (n : Nat) : ltL n x.e = true := rfl
@[simp] theorem GItem.e_frz (x : GItem) (b z len : Nat) (cs : List PV) : frzL b z len cs x.e = x.e := rfl
attribute [simp] GItem.e_len
@[simp] theorem GItem.row (l : List GItem) (i : Nat) (hi : i < l.length) : ((l.map GItem.e).flatten.drop (i * 3)).take 3 = l[i].e := row_get GItem.e_len l i hi
@[simp] theorem GItem.row0 (l : List GItem) (i : Nat) (hi : i < l.length) : (l.map GItem.e).flatten[i * 3]? = some (kI l[i].Ent.N) := row_cell GItem.e_len l i 0 hi (by omega)
@[simp] theorem GItem.row1 (l : List GItem) (i : Nat) (hi : i < l.length) : (l.map GItem.e).flatten[i * 3 + 1]? = some (kI l[i].Ent.Gen) := row_cell GItem.e_len l i 1 hi (by omega)
@[simp] theorem GItem.row2 (l : List GItem) (i : Nat) (hi : i < l.length) : (l.map GItem.e).flatten[i * 3 + 2]? = some (.sl 2 (l[i].Comps.map GComp.e)) := row_cell GItem.e_len l i 2 hi (by omega)
@[simp] theorem GItem.e_0 (x : GItem) : x.e[0]? = some (kI x.Ent.N) := rfl
@[simp] theorem GItem.eg0 (x : GItem) (h : 0 < x.e.length) : x.e[0]'h = kI x.Ent.N := rfl
@[simp] theorem GItem.e_1 (x : GItem) : x.e[1]? = some (kI x.Ent.Gen) := rfl
@[simp] theorem GItem.eg1 (x : GItem) (h : 1 < x.e.length) : x.e[1]'h = kI x.Ent.Gen := rfl
@[simp] theorem GItem.e_2 (x : GItem) : x.e[2]? = some (.sl 2 (x.Comps.map GComp.e)) := rfl
@[simp] theorem GItem.eg2 (x : GItem) (h : 2 < x.e.length) : x.e[2]'h = .sl 2 (x.Comps.map GComp.e) := rfl
@[simp] theorem GItem.p_Ent (x : GItem) : x.e.take 2 = x.Ent.e := rfl
@[simp] theorem GWorld.sum (l : List GWorld) : (l.map (List.length ∘ GWorld.e)).sum = l.length * 3 := flat_sum GWorld.e_len l
@[simp] theorem GWorld.ren (l : List GWorld) (θ : Nat → Nat) : renL θ (l.map GWorld.e).flatten = (l.map GWorld.e).flatten := imms_ren (flat_imm GWorld.e_imm l) θ
@[simp] theorem GWorld.ltl (l : List GWorld) (n : Nat) : ltL n (l.map GWorld.e).flatten = true := imms_lt (flat_imm GWorld.e_imm l) n
@[simp] theorem GWorld.iml (l : List GWorld) : (l.map GWorld.e).flatten.all PV.immB = true := flat_imm GWorld.e_imm l
@[simp] theorem GWorld.frl (l : List GWorld) (b z len : Nat) (cs : List PV) : frzL b z len cs (l.map GWorld.e).flatten = (l.map GWorld.e).flatten := imms_frz (flat_imm GWorld.e_imm l) b z len cs
@[simp] theorem GWorld.fzl (l : List GWorld) (b : Nat) (cs : List PV) : fzL b cs (l.map GWorld.e).flatten = (l.map GWorld.e).flatten := imms_fz (flat_imm GWorld.e_imm l) b cs
@[simp] theorem GWorld.e_fz (x : GWorld) (b : Nat) (cs : List PV) : fzL b cs x.e = x.e := rfl
@[simp] theorem GWorld.e_im (x : GWorld) : x.e.all PV.immB = true := rfl
@[simp] theorem GWorld.chk (l : List GWorld) : chunks 3 (l.map GWorld.e).flatten l.length = l.map GWorld.e := chunks_map GWorld.e_len l
@[simp] theorem GWorld.e_take (x : GWorld) : x.e.take 3 = x.e := rfl
@[simp] theorem GWorld.e_ren (x : GWorld) (θ : Nat → Nat) : renL θ x.e = x.e := rfl
@[simp] theorem GWorld.e_ltl (x : GWorld) (n : Nat) : ltL n x.e = true := rfl
@[simp] theorem GWorld.e_frz (x : GWorld) (b z len : Nat) (cs : List PV) : frzL b z len cs x.e = x.e := rfl
attribute [simp] GWorld.e_len
@[simp] theorem GWorld.row (l : List GWorld) (i : Nat) (hi : i < l.length) : ((l.map GWorld.e).flatten.drop (i * 3)).take 3 = l[i].e := row_get GWorld.e_len l i hi
@[simp] theorem GWorld.row0 (l : List GWorld) (i : Nat) (hi : i < l.length) : (l.map GWorld.e).flatten[i * 3]? = some (.sl 2 (l[i].Kinds.map GKind.e)) := row_cell GWorld.e_len l i 0 hi (by omega)
@[simp] theorem GWorld.row1 (l : List GWorld) (i : Nat) (hi : i < l.length) : (l.map GWorld.e).flatten[i * 3 + 1]? = some (slI l[i].Gens) := row_cell GWorld.e_len l i 1 hi (by omega)
@[simp] theorem GWorld.row2 (l : List GWorld) (i : Nat) (hi : i < l.length) : (l.map GWorld.e).flatten[i * 3 + 2]? = some (.sl 3 (l[i].Items.map GItem.e)) := row_cell GWorld.e_len l i 2 hi (by omega)
@[simp] theorem GWorld.e_0 (x : GWorld) : x.e[0]? = some (.sl 2 (x.Kinds.map GKind.e)) := rfl
@[simp] theorem GWorld.eg0 (x : GWorld) (h : 0 < x.e.length) : x.e[0]'h = .sl 2 (x.Kinds.map GKind.e) := rfl
@[simp] theorem GWorld.e_1 (x : GWorld) : x.e[1]? = some (slI x.Gens) := rfl
@[simp] theorem GWorld.eg1 (x : GWorld) (h : 1 < x.e.length) : x.e[1]'h = slI x.Gens := rfl
@[simp] theorem GWorld.e_2 (x : GWorld) : x.e[2]? = some (.sl 3 (x.Items.map GItem.e)) := rfl
@[simp] theorem GWorld.eg2 (x : GWorld) (h : 2 < x.e.length) : x.e[2]'h = .sl 3 (x.Items.map GItem.e) := rfl
@[simp] theorem GEvent.sum (l : List GEvent) : (l.map (List.length ∘ GEvent.e)).sum = l.length * 4 := flat_sum GEvent.e_len l
@[simp] theorem GEvent.ren (l : List GEvent) (θ : Nat → Nat) : renL θ (l.map GEvent.e).flatten = (l.map GEvent.e).flatten := imms_ren (flat_imm GEvent.e_imm l) θ
@[simp] theorem GEvent.ltl (l : List GEvent) (n : Nat) : ltL n (l.map GEvent.e).flatten = true := imms_lt (flat_imm GEvent.e_imm l) n
@[simp] theorem GEvent.iml (l : List GEvent) : (l.map GEvent.e).flatten.all PV.immB = true := flat_imm GEvent.e_imm l
@[simp] theorem GEvent.frl (l : List GEvent) (b z len : Nat) (cs : List PV) : frzL b z len cs (l.map GEvent.e).flatten = (l.map GEvent.e).flatten := imms_frz (flat_imm GEvent.e_imm l) b z len cs
@[simp] theorem GEvent.fzl (l : List GEvent) (b : Nat) (cs : List PV) : fzL b cs (l.map GEvent.e).flatten = (l.map GEvent.e).flatten := imms_fz (flat_imm GEvent.e_imm l) b cs
@[simp] theorem GEvent.e_fz (x : GEvent) (b : Nat) (cs : List PV) : fzL b cs x.e = x.e := rfl
@[simp] theorem GEvent.e_im (x : GEvent) : x.e.all PV.immB = true := rfl
@[simp] theorem GEvent.chk (l : List GEvent) : chunks 4 (l.map GEvent.e).flatten l.length = l.map GEvent.e := chunks_map GEvent.e_len l
@[simp] theorem GEvent.e_take (x : GEvent) : x.e.take 4 = x.e := rfl
@[simp] theorem GEvent.e_ren (x : GEvent) (θ : Nat → Nat) : renL θ x.e = x.e := rfl
@[simp] theorem GEvent.e_ltl (x : GEvent) (n : Nat) : ltL n x.e = true := rfl
@[simp] theorem GEvent.e_frz (x : GEvent) (b z len : Nat) (cs : List PV) : frzL b z len cs x.e = x.e := rfl
attribute [simp] GEvent.e_len
@[simp] theorem GEvent.row (l : List GEvent) (i : Nat) (hi : i < l.length) : ((l.map GEvent.e).flatten.drop (i * 4)).take 4 = l[i].e := row_get GEvent.e_len l i hi
@[simp] theorem GEvent.row0 (l : List GEvent) (i : Nat) (hi : i < l.length) : (l.map GEvent.e).flatten[i * 4]? = some (kI l[i].System) := row_cell GEvent.e_len l i 0 hi (by omega)
@[simp] theorem GEvent.row1 (l : List GEvent) (i : Nat) (hi : i < l.length) : (l.map GEvent.e).flatten[i * 4 + 1]? = some (kI l[i].Ent.N) := row_cell GEvent.e_len l i 1 hi (by omega)
@[simp] theorem GEvent.row2 (l : List GEvent) (i : Nat) (hi : i < l.length) : (l.map GEvent.e).flatten[i * 4 + 2]? = some (kI l[i].Ent.Gen) := row_cell GEvent.e_len l i 2 hi (by omega)
@[simp] theorem GEvent.row3 (l : List GEvent) (i : Nat) (hi : i < l.length) : (l.map GEvent.e).flatten[i * 4 + 3]? = some (kI l[i].Value) := row_cell GEvent.e_len l i 3 hi (by omega)
@[simp] theorem GEvent.e_0 (x : GEvent) : x.e[0]? = some (kI x.System) := rfl
@[simp] theorem GEvent.eg0 (x : GEvent) (h : 0 < x.e.length) : x.e[0]'h = kI x.System := rfl
@[simp] theorem GEvent.e_1 (x : GEvent) : x.e[1]? = some (kI x.Ent.N) := rfl
@[simp] theorem GEvent.eg1 (x : GEvent) (h : 1 < x.e.length) : x.e[1]'h = kI x.Ent.N := rfl
@[simp] theorem GEvent.e_2 (x : GEvent) : x.e[2]? = some (kI x.Ent.Gen) := rfl
@[simp] theorem GEvent.eg2 (x : GEvent) (h : 2 < x.e.length) : x.e[2]'h = kI x.Ent.Gen := rfl
@[simp] theorem GEvent.e_3 (x : GEvent) : x.e[3]? = some (kI x.Value) := rfl
@[simp] theorem GEvent.eg3 (x : GEvent) (h : 3 < x.e.length) : x.e[3]'h = kI x.Value := rfl
@[simp] theorem GEvent.p_Ent (x : GEvent) : (x.e.drop 1).take 2 = x.Ent.e := rfl
@[simp] theorem GCount.sum (l : List GCount) : (l.map (List.length ∘ GCount.e)).sum = l.length * 2 := flat_sum GCount.e_len l
@[simp] theorem GCount.ren (l : List GCount) (θ : Nat → Nat) : renL θ (l.map GCount.e).flatten = (l.map GCount.e).flatten := imms_ren (flat_imm GCount.e_imm l) θ
@[simp] theorem GCount.ltl (l : List GCount) (n : Nat) : ltL n (l.map GCount.e).flatten = true := imms_lt (flat_imm GCount.e_imm l) n
@[simp] theorem GCount.iml (l : List GCount) : (l.map GCount.e).flatten.all PV.immB = true := flat_imm GCount.e_imm l
@[simp] theorem GCount.frl (l : List GCount) (b z len : Nat) (cs : List PV) : frzL b z len cs (l.map GCount.e).flatten = (l.map GCount.e).flatten := imms_frz (flat_imm GCount.e_imm l) b z len cs
@[simp] theorem GCount.fzl (l : List GCount) (b : Nat) (cs : List PV) : fzL b cs (l.map GCount.e).flatten = (l.map GCount.e).flatten := imms_fz (flat_imm GCount.e_imm l) b cs
@[simp] theorem GCount.e_fz (x : GCount) (b : Nat) (cs : List PV) : fzL b cs x.e = x.e := rfl
@[simp] theorem GCount.e_im (x : GCount) : x.e.all PV.immB = true := rfl
@[simp] theorem GCount.chk (l : List GCount) : chunks 2 (l.map GCount.e).flatten l.length = l.map GCount.e := chunks_map GCount.e_len l
@[simp] theorem GCount.e_take (x : GCount) : x.e.take 2 = x.e := rfl
@[simp] theorem GCount.e_ren (x : GCount) (θ : Nat → Nat) : renL θ x.e = x.e := rfl
@[simp] theorem GCount.e_ltl (x : GCount) (n : Nat) : ltL n x.e = true := rfl
@[simp] theorem GCount.e_frz (x : GCount) (b z len : Nat) (cs : List PV) : frzL b z len cs x.e = x.e := rfl
attribute [simp] GCount.e_len
@[simp] theorem GCount.row (l : List GCount) (i : Nat) (hi : i < l.length) : ((l.map GCount.e).flatten.drop (i * 2)).take 2 = l[i].e := row_get GCount.e_len l i hi
@[simp] theorem GCount.row0 (l : List GCount) (i : Nat) (hi : i < l.length) : (l.map GCount.e).flatten[i * 2]? = some (kI l[i].System) := row_cell GCount.e_len l i 0 hi (by omega)
@[simp] theorem GCount.row1 (l : List GCount) (i : Nat) (hi : i < l.length) : (l.map GCount.e).flatten[i * 2 + 1]? = some (kI l[i].N) := row_cell GCount.e_len l i 1 hi (by omega)
@[simp] theorem GCount.e_0 (x : GCount) : x.e[0]? = some (kI x.System) := rfl
@[simp] theorem GCount.eg0 (x : GCount) (h : 0 < x.e.length) : x.e[0]'h = kI x.System := rfl
@[simp] theorem GCount.e_1 (x : GCount) : x.e[1]? = some (kI x.N) := rfl
@[simp] theorem GCount.eg1 (x : GCount) (h : 1 < x.e.length) : x.e[1]'h = kI x.N := rfl
@[simp] theorem GRef.sum (l : List GRef) : (l.map (List.length ∘ GRef.e)).sum = l.length * 2 := flat_sum GRef.e_len l
@[simp] theorem GRef.ren (l : List GRef) (θ : Nat → Nat) : renL θ (l.map GRef.e).flatten = (l.map GRef.e).flatten := imms_ren (flat_imm GRef.e_imm l) θ
@[simp] theorem GRef.ltl (l : List GRef) (n : Nat) : ltL n (l.map GRef.e).flatten = true := imms_lt (flat_imm GRef.e_imm l) n
@[simp] theorem GRef.iml (l : List GRef) : (l.map GRef.e).flatten.all PV.immB = true := flat_imm GRef.e_imm l
@[simp] theorem GRef.frl (l : List GRef) (b z len : Nat) (cs : List PV) : frzL b z len cs (l.map GRef.e).flatten = (l.map GRef.e).flatten := imms_frz (flat_imm GRef.e_imm l) b z len cs
@[simp] theorem GRef.fzl (l : List GRef) (b : Nat) (cs : List PV) : fzL b cs (l.map GRef.e).flatten = (l.map GRef.e).flatten := imms_fz (flat_imm GRef.e_imm l) b cs
@[simp] theorem GRef.e_fz (x : GRef) (b : Nat) (cs : List PV) : fzL b cs x.e = x.e := rfl
@[simp] theorem GRef.e_im (x : GRef) : x.e.all PV.immB = true := rfl
@[simp] theorem GRef.chk (l : List GRef) : chunks 2 (l.map GRef.e).flatten l.length = l.map GRef.e := chunks_map GRef.e_len l
@[simp] theorem GRef.e_take (x : GRef) : x.e.take 2 = x.e := rfl
@[simp] theorem GRef.e_ren (x : GRef) (θ : Nat → Nat) : renL θ x.e = x.e := rfl
@[simp] theorem GRef.e_ltl (x : GRef) (n : Nat) : ltL n x.e = true := rfl
@[simp] theorem GRef.e_frz (x : GRef) (b z len : Nat) (cs : List PV) : frzL b z len cs x.e = x.e := rfl
attribute [simp] GRef.e_len
@[simp] theorem GRef.row (l : List GRef) (i : Nat) (hi : i < l.length) : ((l.map GRef.e).flatten.drop (i * 2)).take 2 = l[i].e := row_get GRef.e_len l i hi
@[simp] theorem GRef.row0 (l : List GRef) (i : Nat) (hi : i < l.length) : (l.map GRef.e).flatten[i * 2]? = some (kI l[i].Kind) := row_cell GRef.e_len l i 0 hi (by omega)
@[simp] theorem GRef.row1 (l : List GRef) (i : Nat) (hi : i < l.length) : (l.map GRef.e).flatten[i * 2 + 1]? = some (kI l[i].Field) := row_cell GRef.e_len l i 1 hi (by omega)
@[simp] theorem GRef.e_0 (x : GRef) : x.e[0]? = some (kI x.Kind) := rfl
@[simp] theorem GRef.eg0 (x : GRef) (h : 0 < x.e.length) : x.e[0]'h = kI x.Kind := rfl
@[simp] theorem GRef.e_1 (x : GRef) : x.e[1]? = some (kI x.Field) := rfl
@[simp] theorem GRef.eg1 (x : GRef) (h : 1 < x.e.length) : x.e[1]'h = kI x.Field := rfl
@[simp] theorem GArg.sum (l : List GArg) : (l.map (List.length ∘ GArg.e)).sum = l.length * 4 := flat_sum GArg.e_len l
@[simp] theorem GArg.ren (l : List GArg) (θ : Nat → Nat) : renL θ (l.map GArg.e).flatten = (l.map GArg.e).flatten := imms_ren (flat_imm GArg.e_imm l) θ
@[simp] theorem GArg.ltl (l : List GArg) (n : Nat) : ltL n (l.map GArg.e).flatten = true := imms_lt (flat_imm GArg.e_imm l) n
@[simp] theorem GArg.iml (l : List GArg) : (l.map GArg.e).flatten.all PV.immB = true := flat_imm GArg.e_imm l
@[simp] theorem GArg.frl (l : List GArg) (b z len : Nat) (cs : List PV) : frzL b z len cs (l.map GArg.e).flatten = (l.map GArg.e).flatten := imms_frz (flat_imm GArg.e_imm l) b z len cs
@[simp] theorem GArg.fzl (l : List GArg) (b : Nat) (cs : List PV) : fzL b cs (l.map GArg.e).flatten = (l.map GArg.e).flatten := imms_fz (flat_imm GArg.e_imm l) b cs
@[simp] theorem GArg.e_fz (x : GArg) (b : Nat) (cs : List PV) : fzL b cs x.e = x.e := rfl
@[simp] theorem GArg.e_im (x : GArg) : x.e.all PV.immB = true := rfl
@[simp] theorem GArg.chk (l : List GArg) : chunks 4 (l.map GArg.e).flatten l.length = l.map GArg.e := chunks_map GArg.e_len l
@[simp] theorem GArg.e_take (x : GArg) : x.e.take 4 = x.e := rfl
@[simp] theorem GArg.e_ren (x : GArg) (θ : Nat → Nat) : renL θ x.e = x.e := rfl
@[simp] theorem GArg.e_ltl (x : GArg) (n : Nat) : ltL n x.e = true := rfl
@[simp] theorem GArg.e_frz (x : GArg) (b z len : Nat) (cs : List PV) : frzL b z len cs x.e = x.e := rfl
attribute [simp] GArg.e_len
@[simp] theorem GArg.row (l : List GArg) (i : Nat) (hi : i < l.length) : ((l.map GArg.e).flatten.drop (i * 4)).take 4 = l[i].e := row_get GArg.e_len l i hi
@[simp] theorem GArg.row0 (l : List GArg) (i : Nat) (hi : i < l.length) : (l.map GArg.e).flatten[i * 4]? = some (kB l[i].Has) := row_cell GArg.e_len l i 0 hi (by omega)
@[simp] theorem GArg.row1 (l : List GArg) (i : Nat) (hi : i < l.length) : (l.map GArg.e).flatten[i * 4 + 1]? = some (kI l[i].N) := row_cell GArg.e_len l i 1 hi (by omega)
@[simp] theorem GArg.row2 (l : List GArg) (i : Nat) (hi : i < l.length) : (l.map GArg.e).flatten[i * 4 + 2]? = some (kI l[i].Ref.Kind) := row_cell GArg.e_len l i 2 hi (by omega)
@[simp] theorem GArg.row3 (l : List GArg) (i : Nat) (hi : i < l.length) : (l.map GArg.e).flatten[i * 4 + 3]? = some (kI l[i].Ref.Field) := row_cell GArg.e_len l i 3 hi (by omega)
@[simp] theorem GArg.e_0 (x : GArg) : x.e[0]? = some (kB x.Has) := rfl
@[simp] theorem GArg.eg0 (x : GArg) (h : 0 < x.e.length) : x.e[0]'h = kB x.Has := rfl
@[simp] theorem GArg.e_1 (x : GArg) : x.e[1]? = some (kI x.N) := rfl
@[simp] theorem GArg.eg1 (x : GArg) (h : 1 < x.e.length) : x.e[1]'h = kI x.N := rfl
@[simp] theorem GArg.e_2 (x : GArg) : x.e[2]? = some (kI x.Ref.Kind) := rfl
@[simp] theorem GArg.eg2 (x : GArg) (h : 2 < x.e.length) : x.e[2]'h = kI x.Ref.Kind := rfl
@[simp] theorem GArg.e_3 (x : GArg) : x.e[3]? = some (kI x.Ref.Field) := rfl
@[simp] theorem GArg.eg3 (x : GArg) (h : 3 < x.e.length) : x.e[3]'h = kI x.Ref.Field := rfl
@[simp] theorem GArg.p_Ref (x : GArg) : (x.e.drop 2).take 2 = x.Ref.e := rfl
@[simp] theorem GArg.q_Ref (x : GArg) : x.e.drop 2 = x.Ref.e := rfl
@[simp] theorem GOp.sum (l : List GOp) : (l.map (List.length ∘ GOp.e)).sum = l.length * 11 := flat_sum GOp.e_len l
@[simp] theorem GOp.ren (l : List GOp) (θ : Nat → Nat) : renL θ (l.map GOp.e).flatten = (l.map GOp.e).flatten := imms_ren (flat_imm GOp.e_imm l) θ
@[simp] theorem GOp.ltl (l : List GOp) (n : Nat) : ltL n (l.map GOp.e).flatten = true := imms_lt (flat_imm GOp.e_imm l) n
@[simp] theorem GOp.iml (l : List GOp) : (l.map GOp.e).flatten.all PV.immB = true := flat_imm GOp.e_imm l
@[simp] theorem GOp.frl (l : List GOp) (b z len : Nat) (cs : List PV) : frzL b z len cs (l.map GOp.e).flatten = (l.map GOp.e).flatten := imms_frz (flat_imm GOp.e_imm l) b z len cs
@[simp] theorem GOp.fzl (l : List GOp) (b : Nat) (cs : List PV) : fzL b cs (l.map GOp.e).flatten = (l.map GOp.e).flatten := imms_fz (flat_imm GOp.e_imm l) b cs
@[simp] theorem GOp.e_fz (x : GOp) (b : Nat) (cs : List PV) : fzL b cs x.e = x.e := rfl
@[simp] theorem GOp.e_im (x : GOp) : x.e.all PV.immB = true := rfl
@[simp] theorem GOp.chk (l : List GOp) : chunks 11 (l.map GOp.e).flatten l.length = l.map GOp.e := chunks_map GOp.e_len l
@[simp] theorem GOp.e_take (x : GOp) : x.e.take 11 = x.e := rfl
@[simp] theorem GOp.e_ren (x : GOp) (θ : Nat → Nat) : renL θ x.e = x.e := rfl
@[simp] theorem GOp.e_ltl (x : GOp) (n : Nat) : ltL n x.e = true := rfl
@[simp] theorem GOp.e_frz (x : GOp) (b z len : Nat) (cs : List PV) : frzL b z len cs x.e = x.e := rfl
attribute [simp] GOp.e_len
@[simp] theorem GOp.row (l : List GOp) (i : Nat) (hi : i < l.length) : ((l.map GOp.e).flatten.drop (i * 11)).take 11 = l[i].e := row_get GOp.e_len l i hi
@[simp] theorem GOp.row0 (l : List GOp) (i : Nat) (hi : i < l.length) : (l.map GOp.e).flatten[i * 11]? = some (kI l[i].Do) := row_cell GOp.e_len l i 0 hi (by omega)
@[simp] theorem GOp.row1 (l : List GOp) (i : Nat) (hi : i < l.length) : (l.map GOp.e).flatten[i * 11 + 1]? = some (kI l[i].To.Kind) := row_cell GOp.e_len l i 1 hi (by omega)
@[simp] theorem GOp.row2 (l : List GOp) (i : Nat) (hi : i < l.length) : (l.map GOp.e).flatten[i * 11 + 2]? = some (kI l[i].To.Field) := row_cell GOp.e_len l i 2 hi (by omega)
@[simp] theorem GOp.row3 (l : List GOp) (i : Nat) (hi : i < l.length) : (l.map GOp.e).flatten[i * 11 + 3]? = some (kB l[i].A.Has) := row_cell GOp.e_len l i 3 hi (by omega)
@[simp] theorem GOp.row4 (l : List GOp) (i : Nat) (hi : i < l.length) : (l.map GOp.e).flatten[i * 11 + 4]? = some (kI l[i].A.N) := row_cell GOp.e_len l i 4 hi (by omega)
@[simp] theorem GOp.row5 (l : List GOp) (i : Nat) (hi : i < l.length) : (l.map GOp.e).flatten[i * 11 + 5]? = some (kI l[i].A.Ref.Kind) := row_cell GOp.e_len l i 5 hi (by omega)
@[simp] theorem GOp.row6 (l : List GOp) (i : Nat) (hi : i < l.length) : (l.map GOp.e).flatten[i * 11 + 6]? = some (kI l[i].A.Ref.Field) := row_cell GOp.e_len l i 6 hi (by omega)
@[simp] theorem GOp.row7 (l : List GOp) (i : Nat) (hi : i < l.length) : (l.map GOp.e).flatten[i * 11 + 7]? = some (kB l[i].B.Has) := row_cell GOp.e_len l i 7 hi (by omega)
@[simp] theorem GOp.row8 (l : List GOp) (i : Nat) (hi : i < l.length) : (l.map GOp.e).flatten[i * 11 + 8]? = some (kI l[i].B.N) := row_cell GOp.e_len l i 8 hi (by omega)
@[simp] theorem GOp.row9 (l : List GOp) (i : Nat) (hi : i < l.length) : (l.map GOp.e).flatten[i * 11 + 9]? = some (kI l[i].B.Ref.Kind) := row_cell GOp.e_len l i 9 hi (by omega)
@[simp] theorem GOp.row10 (l : List GOp) (i : Nat) (hi : i < l.length) : (l.map GOp.e).flatten[i * 11 + 10]? = some (kI l[i].B.Ref.Field) := row_cell GOp.e_len l i 10 hi (by omega)
@[simp] theorem GOp.e_0 (x : GOp) : x.e[0]? = some (kI x.Do) := rfl
@[simp] theorem GOp.eg0 (x : GOp) (h : 0 < x.e.length) : x.e[0]'h = kI x.Do := rfl
@[simp] theorem GOp.e_1 (x : GOp) : x.e[1]? = some (kI x.To.Kind) := rfl
@[simp] theorem GOp.eg1 (x : GOp) (h : 1 < x.e.length) : x.e[1]'h = kI x.To.Kind := rfl
@[simp] theorem GOp.e_2 (x : GOp) : x.e[2]? = some (kI x.To.Field) := rfl
@[simp] theorem GOp.eg2 (x : GOp) (h : 2 < x.e.length) : x.e[2]'h = kI x.To.Field := rfl
@[simp] theorem GOp.e_3 (x : GOp) : x.e[3]? = some (kB x.A.Has) := rfl
@[simp] theorem GOp.eg3 (x : GOp) (h : 3 < x.e.length) : x.e[3]'h = kB x.A.Has := rfl
@[simp] theorem GOp.e_4 (x : GOp) : x.e[4]? = some (kI x.A.N) := rfl
@[simp] theorem GOp.eg4 (x : GOp) (h : 4 < x.e.length) : x.e[4]'h = kI x.A.N := rfl
@[simp] theorem GOp.e_5 (x : GOp) : x.e[5]? = some (kI x.A.Ref.Kind) := rfl
@[simp] theorem GOp.eg5 (x : GOp) (h : 5 < x.e.length) : x.e[5]'h = kI x.A.Ref.Kind := rfl
@[simp] theorem GOp.e_6 (x : GOp) : x.e[6]? = some (kI x.A.Ref.Field) := rfl
@[simp] theorem GOp.eg6 (x : GOp) (h : 6 < x.e.length) : x.e[6]'h = kI x.A.Ref.Field := rfl
@[simp] theorem GOp.e_7 (x : GOp) : x.e[7]? = some (kB x.B.Has) := rfl
@[simp] theorem GOp.eg7 (x : GOp) (h : 7 < x.e.length) : x.e[7]'h = kB x.B.Has := rfl
@[simp] theorem GOp.e_8 (x : GOp) : x.e[8]? = some (kI x.B.N) := rfl
@[simp] theorem GOp.eg8 (x : GOp) (h : 8 < x.e.length) : x.e[8]'h = kI x.B.N := rfl
@[simp] theorem GOp.e_9 (x : GOp) : x.e[9]? = some (kI x.B.Ref.Kind) := rfl
@[simp] theorem GOp.eg9 (x : GOp) (h : 9 < x.e.length) : x.e[9]'h = kI x.B.Ref.Kind := rfl
@[simp] theorem GOp.e_10 (x : GOp) : x.e[10]? = some (kI x.B.Ref.Field) := rfl
@[simp] theorem GOp.eg10 (x : GOp) (h : 10 < x.e.length) : x.e[10]'h = kI x.B.Ref.Field := rfl
@[simp] theorem GOp.p_To (x : GOp) : (x.e.drop 1).take 2 = x.To.e := rfl
@[simp] theorem GOp.p_A (x : GOp) : (x.e.drop 3).take 4 = x.A.e := rfl
@[simp] theorem GOp.p_B (x : GOp) : (x.e.drop 7).take 4 = x.B.e := rfl
@[simp] theorem GOp.q_B (x : GOp) : x.e.drop 7 = x.B.e := rfl
@[simp] theorem GSystem.sum (l : List GSystem) : (l.map (List.length ∘ GSystem.e)).sum = l.length * 7 := flat_sum GSystem.e_len l
@[simp] theorem GSystem.ren (l : List GSystem) (θ : Nat → Nat) : renL θ (l.map GSystem.e).flatten = (l.map GSystem.e).flatten := imms_ren (flat_imm GSystem.e_imm l) θ
@[simp] theorem GSystem.ltl (l : List GSystem) (n : Nat) : ltL n (l.map GSystem.e).flatten = true := imms_lt (flat_imm GSystem.e_imm l) n
@[simp] theorem GSystem.iml (l : List GSystem) : (l.map GSystem.e).flatten.all PV.immB = true := flat_imm GSystem.e_imm l
@[simp] theorem GSystem.frl (l : List GSystem) (b z len : Nat) (cs : List PV) : frzL b z len cs (l.map GSystem.e).flatten = (l.map GSystem.e).flatten := imms_frz (flat_imm GSystem.e_imm l) b z len cs
@[simp] theorem GSystem.fzl (l : List GSystem) (b : Nat) (cs : List PV) : fzL b cs (l.map GSystem.e).flatten = (l.map GSystem.e).flatten := imms_fz (flat_imm GSystem.e_imm l) b cs
@[simp] theorem GSystem.e_fz (x : GSystem) (b : Nat) (cs : List PV) : fzL b cs x.e = x.e := rfl
@[simp] theorem GSystem.e_im (x : GSystem) : x.e.all PV.immB = true := rfl
@[simp] theorem GSystem.chk (l : List GSystem) : chunks 7 (l.map GSystem.e).flatten l.length = l.map GSystem.e := chunks_map GSystem.e_len l
@[simp] theorem GSystem.e_take (x : GSystem) : x.e.take 7 = x.e := rfl
@[simp] theorem GSystem.e_ren (x : GSystem) (θ : Nat → Nat) : renL θ x.e = x.e := rfl
@[simp] theorem GSystem.e_ltl (x : GSystem) (n : Nat) : ltL n x.e = true := rfl
@[simp] theorem GSystem.e_frz (x : GSystem) (b z len : Nat) (cs : List PV) : frzL b z len cs x.e = x.e := rfl
attribute [simp] GSystem.e_len
@[simp] theorem GSystem.row (l : List GSystem) (i : Nat) (hi : i < l.length) : ((l.map GSystem.e).flatten.drop (i * 7)).take 7 = l[i].e := row_get GSystem.e_len l i hi
@[simp] theorem GSystem.row0 (l : List GSystem) (i : Nat) (hi : i < l.length) : (l.map GSystem.e).flatten[i * 7]? = some (kS l[i].Name) := row_cell GSystem.e_len l i 0 hi (by omega)
@[simp] theorem GSystem.row1 (l : List GSystem) (i : Nat) (hi : i < l.length) : (l.map GSystem.e).flatten[i * 7 + 1]? = some (slI l[i].With) := row_cell GSystem.e_len l i 1 hi (by omega)
@[simp] theorem GSystem.row2 (l : List GSystem) (i : Nat) (hi : i < l.length) : (l.map GSystem.e).flatten[i * 7 + 2]? = some (slI l[i].Without) := row_cell GSystem.e_len l i 2 hi (by omega)
@[simp] theorem GSystem.row3 (l : List GSystem) (i : Nat) (hi : i < l.length) : (l.map GSystem.e).flatten[i * 7 + 3]? = some (slI l[i].Reads) := row_cell GSystem.e_len l i 3 hi (by omega)
@[simp] theorem GSystem.row4 (l : List GSystem) (i : Nat) (hi : i < l.length) : (l.map GSystem.e).flatten[i * 7 + 4]? = some (slI l[i].Writes) := row_cell GSystem.e_len l i 4 hi (by omega)
@[simp] theorem GSystem.row5 (l : List GSystem) (i : Nat) (hi : i < l.length) : (l.map GSystem.e).flatten[i * 7 + 5]? = some (.sl 11 (l[i].Ops.map GOp.e)) := row_cell GSystem.e_len l i 5 hi (by omega)
@[simp] theorem GSystem.row6 (l : List GSystem) (i : Nat) (hi : i < l.length) : (l.map GSystem.e).flatten[i * 7 + 6]? = some (.sl 2 (l[i].Spawn.map GComp.e)) := row_cell GSystem.e_len l i 6 hi (by omega)
@[simp] theorem GSystem.e_0 (x : GSystem) : x.e[0]? = some (kS x.Name) := rfl
@[simp] theorem GSystem.eg0 (x : GSystem) (h : 0 < x.e.length) : x.e[0]'h = kS x.Name := rfl
@[simp] theorem GSystem.e_1 (x : GSystem) : x.e[1]? = some (slI x.With) := rfl
@[simp] theorem GSystem.eg1 (x : GSystem) (h : 1 < x.e.length) : x.e[1]'h = slI x.With := rfl
@[simp] theorem GSystem.e_2 (x : GSystem) : x.e[2]? = some (slI x.Without) := rfl
@[simp] theorem GSystem.eg2 (x : GSystem) (h : 2 < x.e.length) : x.e[2]'h = slI x.Without := rfl
@[simp] theorem GSystem.e_3 (x : GSystem) : x.e[3]? = some (slI x.Reads) := rfl
@[simp] theorem GSystem.eg3 (x : GSystem) (h : 3 < x.e.length) : x.e[3]'h = slI x.Reads := rfl
@[simp] theorem GSystem.e_4 (x : GSystem) : x.e[4]? = some (slI x.Writes) := rfl
@[simp] theorem GSystem.eg4 (x : GSystem) (h : 4 < x.e.length) : x.e[4]'h = slI x.Writes := rfl
@[simp] theorem GSystem.e_5 (x : GSystem) : x.e[5]? = some (.sl 11 (x.Ops.map GOp.e)) := rfl
@[simp] theorem GSystem.eg5 (x : GSystem) (h : 5 < x.e.length) : x.e[5]'h = .sl 11 (x.Ops.map GOp.e) := rfl
@[simp] theorem GSystem.e_6 (x : GSystem) : x.e[6]? = some (.sl 2 (x.Spawn.map GComp.e)) := rfl
@[simp] theorem GSystem.eg6 (x : GSystem) (h : 6 < x.e.length) : x.e[6]'h = .sl 2 (x.Spawn.map GComp.e) := rfl
@[simp] theorem GCmd.sum (l : List GCmd) : (l.map (List.length ∘ GCmd.e)).sum = l.length * 5 := flat_sum GCmd.e_len l
@[simp] theorem GCmd.ren (l : List GCmd) (θ : Nat → Nat) : renL θ (l.map GCmd.e).flatten = (l.map GCmd.e).flatten := imms_ren (flat_imm GCmd.e_imm l) θ
@[simp] theorem GCmd.ltl (l : List GCmd) (n : Nat) : ltL n (l.map GCmd.e).flatten = true := imms_lt (flat_imm GCmd.e_imm l) n
@[simp] theorem GCmd.iml (l : List GCmd) : (l.map GCmd.e).flatten.all PV.immB = true := flat_imm GCmd.e_imm l
@[simp] theorem GCmd.frl (l : List GCmd) (b z len : Nat) (cs : List PV) : frzL b z len cs (l.map GCmd.e).flatten = (l.map GCmd.e).flatten := imms_frz (flat_imm GCmd.e_imm l) b z len cs
@[simp] theorem GCmd.fzl (l : List GCmd) (b : Nat) (cs : List PV) : fzL b cs (l.map GCmd.e).flatten = (l.map GCmd.e).flatten := imms_fz (flat_imm GCmd.e_imm l) b cs
@[simp] theorem GCmd.e_fz (x : GCmd) (b : Nat) (cs : List PV) : fzL b cs x.e = x.e := rfl
@[simp] theorem GCmd.e_im (x : GCmd) : x.e.all PV.immB = true := rfl
@[simp] theorem GCmd.chk (l : List GCmd) : chunks 5 (l.map GCmd.e).flatten l.length = l.map GCmd.e := chunks_map GCmd.e_len l
@[simp] theorem GCmd.e_take (x : GCmd) : x.e.take 5 = x.e := rfl
@[simp] theorem GCmd.e_ren (x : GCmd) (θ : Nat → Nat) : renL θ x.e = x.e := rfl
@[simp] theorem GCmd.e_ltl (x : GCmd) (n : Nat) : ltL n x.e = true := rfl
@[simp] theorem GCmd.e_frz (x : GCmd) (b z len : Nat) (cs : List PV) : frzL b z len cs x.e = x.e := rfl
attribute [simp] GCmd.e_len
@[simp] theorem GCmd.row (l : List GCmd) (i : Nat) (hi : i < l.length) : ((l.map GCmd.e).flatten.drop (i * 5)).take 5 = l[i].e := row_get GCmd.e_len l i hi
@[simp] theorem GCmd.row0 (l : List GCmd) (i : Nat) (hi : i < l.length) : (l.map GCmd.e).flatten[i * 5]? = some (kI l[i].Do) := row_cell GCmd.e_len l i 0 hi (by omega)
@[simp] theorem GCmd.row1 (l : List GCmd) (i : Nat) (hi : i < l.length) : (l.map GCmd.e).flatten[i * 5 + 1]? = some (kI l[i].Ent.N) := row_cell GCmd.e_len l i 1 hi (by omega)
@[simp] theorem GCmd.row2 (l : List GCmd) (i : Nat) (hi : i < l.length) : (l.map GCmd.e).flatten[i * 5 + 2]? = some (kI l[i].Ent.Gen) := row_cell GCmd.e_len l i 2 hi (by omega)
@[simp] theorem GCmd.row3 (l : List GCmd) (i : Nat) (hi : i < l.length) : (l.map GCmd.e).flatten[i * 5 + 3]? = some (kI l[i].Kind) := row_cell GCmd.e_len l i 3 hi (by omega)
@[simp] theorem GCmd.row4 (l : List GCmd) (i : Nat) (hi : i < l.length) : (l.map GCmd.e).flatten[i * 5 + 4]? = some (.sl 2 (l[i].Comps.map GComp.e)) := row_cell GCmd.e_len l i 4 hi (by omega)
@[simp] theorem GCmd.e_0 (x : GCmd) : x.e[0]? = some (kI x.Do) := rfl
@[simp] theorem GCmd.eg0 (x : GCmd) (h : 0 < x.e.length) : x.e[0]'h = kI x.Do := rfl
@[simp] theorem GCmd.e_1 (x : GCmd) : x.e[1]? = some (kI x.Ent.N) := rfl
@[simp] theorem GCmd.eg1 (x : GCmd) (h : 1 < x.e.length) : x.e[1]'h = kI x.Ent.N := rfl
@[simp] theorem GCmd.e_2 (x : GCmd) : x.e[2]? = some (kI x.Ent.Gen) := rfl
@[simp] theorem GCmd.eg2 (x : GCmd) (h : 2 < x.e.length) : x.e[2]'h = kI x.Ent.Gen := rfl
@[simp] theorem GCmd.e_3 (x : GCmd) : x.e[3]? = some (kI x.Kind) := rfl
@[simp] theorem GCmd.eg3 (x : GCmd) (h : 3 < x.e.length) : x.e[3]'h = kI x.Kind := rfl
@[simp] theorem GCmd.e_4 (x : GCmd) : x.e[4]? = some (.sl 2 (x.Comps.map GComp.e)) := rfl
@[simp] theorem GCmd.eg4 (x : GCmd) (h : 4 < x.e.length) : x.e[4]'h = .sl 2 (x.Comps.map GComp.e) := rfl
@[simp] theorem GCmd.p_Ent (x : GCmd) : (x.e.drop 1).take 2 = x.Ent.e := rfl
@[simp] theorem GMark.sum (l : List GMark) : (l.map (List.length ∘ GMark.e)).sum = l.length * 3 := flat_sum GMark.e_len l
@[simp] theorem GMark.ren (l : List GMark) (θ : Nat → Nat) : renL θ (l.map GMark.e).flatten = (l.map GMark.e).flatten := imms_ren (flat_imm GMark.e_imm l) θ
@[simp] theorem GMark.ltl (l : List GMark) (n : Nat) : ltL n (l.map GMark.e).flatten = true := imms_lt (flat_imm GMark.e_imm l) n
@[simp] theorem GMark.iml (l : List GMark) : (l.map GMark.e).flatten.all PV.immB = true := flat_imm GMark.e_imm l
@[simp] theorem GMark.frl (l : List GMark) (b z len : Nat) (cs : List PV) : frzL b z len cs (l.map GMark.e).flatten = (l.map GMark.e).flatten := imms_frz (flat_imm GMark.e_imm l) b z len cs
@[simp] theorem GMark.fzl (l : List GMark) (b : Nat) (cs : List PV) : fzL b cs (l.map GMark.e).flatten = (l.map GMark.e).flatten := imms_fz (flat_imm GMark.e_imm l) b cs
@[simp] theorem GMark.e_fz (x : GMark) (b : Nat) (cs : List PV) : fzL b cs x.e = x.e := rfl
@[simp] theorem GMark.e_im (x : GMark) : x.e.all PV.immB = true := rfl
@[simp] theorem GMark.chk (l : List GMark) : chunks 3 (l.map GMark.e).flatten l.length = l.map GMark.e := chunks_map GMark.e_len l
@[simp] theorem GMark.e_take (x : GMark) : x.e.take 3 = x.e := rfl
@[simp] theorem GMark.e_ren (x : GMark) (θ : Nat → Nat) : renL θ x.e = x.e := rfl
@[simp] theorem GMark.e_ltl (x : GMark) (n : Nat) : ltL n x.e = true := rfl
@[simp] theorem GMark.e_frz (x : GMark) (b z len : Nat) (cs : List PV) : frzL b z len cs x.e = x.e := rfl
attribute [simp] GMark.e_len
@[simp] theorem GMark.row (l : List GMark) (i : Nat) (hi : i < l.length) : ((l.map GMark.e).flatten.drop (i * 3)).take 3 = l[i].e := row_get GMark.e_len l i hi
@[simp] theorem GMark.row0 (l : List GMark) (i : Nat) (hi : i < l.length) : (l.map GMark.e).flatten[i * 3]? = some (kI l[i].N) := row_cell GMark.e_len l i 0 hi (by omega)
@[simp] theorem GMark.row1 (l : List GMark) (i : Nat) (hi : i < l.length) : (l.map GMark.e).flatten[i * 3 + 1]? = some (kI l[i].Kind) := row_cell GMark.e_len l i 1 hi (by omega)
@[simp] theorem GMark.row2 (l : List GMark) (i : Nat) (hi : i < l.length) : (l.map GMark.e).flatten[i * 3 + 2]? = some (kI l[i].Tick) := row_cell GMark.e_len l i 2 hi (by omega)
@[simp] theorem GMark.e_0 (x : GMark) : x.e[0]? = some (kI x.N) := rfl
@[simp] theorem GMark.eg0 (x : GMark) (h : 0 < x.e.length) : x.e[0]'h = kI x.N := rfl
@[simp] theorem GMark.e_1 (x : GMark) : x.e[1]? = some (kI x.Kind) := rfl
@[simp] theorem GMark.eg1 (x : GMark) (h : 1 < x.e.length) : x.e[1]'h = kI x.Kind := rfl
@[simp] theorem GMark.e_2 (x : GMark) : x.e[2]? = some (kI x.Tick) := rfl
@[simp] theorem GMark.eg2 (x : GMark) (h : 2 < x.e.length) : x.e[2]'h = kI x.Tick := rfl
@[simp] theorem GMove.sum (l : List GMove) : (l.map (List.length ∘ GMove.e)).sum = l.length * 10 := flat_sum GMove.e_len l
@[simp] theorem GMove.ren (l : List GMove) (θ : Nat → Nat) : renL θ (l.map GMove.e).flatten = (l.map GMove.e).flatten := imms_ren (flat_imm GMove.e_imm l) θ
@[simp] theorem GMove.ltl (l : List GMove) (n : Nat) : ltL n (l.map GMove.e).flatten = true := imms_lt (flat_imm GMove.e_imm l) n
@[simp] theorem GMove.iml (l : List GMove) : (l.map GMove.e).flatten.all PV.immB = true := flat_imm GMove.e_imm l
@[simp] theorem GMove.frl (l : List GMove) (b z len : Nat) (cs : List PV) : frzL b z len cs (l.map GMove.e).flatten = (l.map GMove.e).flatten := imms_frz (flat_imm GMove.e_imm l) b z len cs
@[simp] theorem GMove.fzl (l : List GMove) (b : Nat) (cs : List PV) : fzL b cs (l.map GMove.e).flatten = (l.map GMove.e).flatten := imms_fz (flat_imm GMove.e_imm l) b cs
@[simp] theorem GMove.e_fz (x : GMove) (b : Nat) (cs : List PV) : fzL b cs x.e = x.e := rfl
@[simp] theorem GMove.e_im (x : GMove) : x.e.all PV.immB = true := rfl
@[simp] theorem GMove.chk (l : List GMove) : chunks 10 (l.map GMove.e).flatten l.length = l.map GMove.e := chunks_map GMove.e_len l
@[simp] theorem GMove.e_take (x : GMove) : x.e.take 10 = x.e := rfl
@[simp] theorem GMove.e_ren (x : GMove) (θ : Nat → Nat) : renL θ x.e = x.e := rfl
@[simp] theorem GMove.e_ltl (x : GMove) (n : Nat) : ltL n x.e = true := rfl
@[simp] theorem GMove.e_frz (x : GMove) (b z len : Nat) (cs : List PV) : frzL b z len cs x.e = x.e := rfl
attribute [simp] GMove.e_len
@[simp] theorem GMove.row (l : List GMove) (i : Nat) (hi : i < l.length) : ((l.map GMove.e).flatten.drop (i * 10)).take 10 = l[i].e := row_get GMove.e_len l i hi
@[simp] theorem GMove.row0 (l : List GMove) (i : Nat) (hi : i < l.length) : (l.map GMove.e).flatten[i * 10]? = some (kI l[i].Do) := row_cell GMove.e_len l i 0 hi (by omega)
@[simp] theorem GMove.row1 (l : List GMove) (i : Nat) (hi : i < l.length) : (l.map GMove.e).flatten[i * 10 + 1]? = some (kS l[i].Kind) := row_cell GMove.e_len l i 1 hi (by omega)
@[simp] theorem GMove.row2 (l : List GMove) (i : Nat) (hi : i < l.length) : (l.map GMove.e).flatten[i * 10 + 2]? = some (kS l[i].Field) := row_cell GMove.e_len l i 2 hi (by omega)
@[simp] theorem GMove.row3 (l : List GMove) (i : Nat) (hi : i < l.length) : (l.map GMove.e).flatten[i * 10 + 3]? = some (kS l[i].Name) := row_cell GMove.e_len l i 3 hi (by omega)
@[simp] theorem GMove.row4 (l : List GMove) (i : Nat) (hi : i < l.length) : (l.map GMove.e).flatten[i * 10 + 4]? = some (kI l[i].Value) := row_cell GMove.e_len l i 4 hi (by omega)
@[simp] theorem GMove.row5 (l : List GMove) (i : Nat) (hi : i < l.length) : (l.map GMove.e).flatten[i * 10 + 5]? = some (kS l[i].New.Name) := row_cell GMove.e_len l i 5 hi (by omega)
@[simp] theorem GMove.row6 (l : List GMove) (i : Nat) (hi : i < l.length) : (l.map GMove.e).flatten[i * 10 + 6]? = some (kI l[i].New.Bits) := row_cell GMove.e_len l i 6 hi (by omega)
@[simp] theorem GMove.row7 (l : List GMove) (i : Nat) (hi : i < l.length) : (l.map GMove.e).flatten[i * 10 + 7]? = some (kI l[i].New.Low) := row_cell GMove.e_len l i 7 hi (by omega)
@[simp] theorem GMove.row8 (l : List GMove) (i : Nat) (hi : i < l.length) : (l.map GMove.e).flatten[i * 10 + 8]? = some (kS l[i].Whole.Name) := row_cell GMove.e_len l i 8 hi (by omega)
@[simp] theorem GMove.row9 (l : List GMove) (i : Nat) (hi : i < l.length) : (l.map GMove.e).flatten[i * 10 + 9]? = some (.sl 3 (l[i].Whole.Fields.map GField.e)) := row_cell GMove.e_len l i 9 hi (by omega)
@[simp] theorem GMove.e_0 (x : GMove) : x.e[0]? = some (kI x.Do) := rfl
@[simp] theorem GMove.eg0 (x : GMove) (h : 0 < x.e.length) : x.e[0]'h = kI x.Do := rfl
@[simp] theorem GMove.e_1 (x : GMove) : x.e[1]? = some (kS x.Kind) := rfl
@[simp] theorem GMove.eg1 (x : GMove) (h : 1 < x.e.length) : x.e[1]'h = kS x.Kind := rfl
@[simp] theorem GMove.e_2 (x : GMove) : x.e[2]? = some (kS x.Field) := rfl
@[simp] theorem GMove.eg2 (x : GMove) (h : 2 < x.e.length) : x.e[2]'h = kS x.Field := rfl
@[simp] theorem GMove.e_3 (x : GMove) : x.e[3]? = some (kS x.Name) := rfl
@[simp] theorem GMove.eg3 (x : GMove) (h : 3 < x.e.length) : x.e[3]'h = kS x.Name := rfl
@[simp] theorem GMove.e_4 (x : GMove) : x.e[4]? = some (kI x.Value) := rfl
@[simp] theorem GMove.eg4 (x : GMove) (h : 4 < x.e.length) : x.e[4]'h = kI x.Value := rfl
@[simp] theorem GMove.e_5 (x : GMove) : x.e[5]? = some (kS x.New.Name) := rfl
@[simp] theorem GMove.eg5 (x : GMove) (h : 5 < x.e.length) : x.e[5]'h = kS x.New.Name := rfl
@[simp] theorem GMove.e_6 (x : GMove) : x.e[6]? = some (kI x.New.Bits) := rfl
@[simp] theorem GMove.eg6 (x : GMove) (h : 6 < x.e.length) : x.e[6]'h = kI x.New.Bits := rfl
@[simp] theorem GMove.e_7 (x : GMove) : x.e[7]? = some (kI x.New.Low) := rfl
@[simp] theorem GMove.eg7 (x : GMove) (h : 7 < x.e.length) : x.e[7]'h = kI x.New.Low := rfl
@[simp] theorem GMove.e_8 (x : GMove) : x.e[8]? = some (kS x.Whole.Name) := rfl
@[simp] theorem GMove.eg8 (x : GMove) (h : 8 < x.e.length) : x.e[8]'h = kS x.Whole.Name := rfl
@[simp] theorem GMove.e_9 (x : GMove) : x.e[9]? = some (.sl 3 (x.Whole.Fields.map GField.e)) := rfl
@[simp] theorem GMove.eg9 (x : GMove) (h : 9 < x.e.length) : x.e[9]'h = .sl 3 (x.Whole.Fields.map GField.e) := rfl
@[simp] theorem GMove.p_New (x : GMove) : (x.e.drop 5).take 3 = x.New.e := rfl
@[simp] theorem GMove.p_Whole (x : GMove) : (x.e.drop 8).take 2 = x.Whole.e := rfl
@[simp] theorem GMove.q_Whole (x : GMove) : x.e.drop 8 = x.Whole.e := rfl
@[simp] theorem GSpan.sum (l : List GSpan) : (l.map (List.length ∘ GSpan.e)).sum = l.length * 2 := flat_sum GSpan.e_len l
@[simp] theorem GSpan.ren (l : List GSpan) (θ : Nat → Nat) : renL θ (l.map GSpan.e).flatten = (l.map GSpan.e).flatten := imms_ren (flat_imm GSpan.e_imm l) θ
@[simp] theorem GSpan.ltl (l : List GSpan) (n : Nat) : ltL n (l.map GSpan.e).flatten = true := imms_lt (flat_imm GSpan.e_imm l) n
@[simp] theorem GSpan.iml (l : List GSpan) : (l.map GSpan.e).flatten.all PV.immB = true := flat_imm GSpan.e_imm l
@[simp] theorem GSpan.frl (l : List GSpan) (b z len : Nat) (cs : List PV) : frzL b z len cs (l.map GSpan.e).flatten = (l.map GSpan.e).flatten := imms_frz (flat_imm GSpan.e_imm l) b z len cs
@[simp] theorem GSpan.fzl (l : List GSpan) (b : Nat) (cs : List PV) : fzL b cs (l.map GSpan.e).flatten = (l.map GSpan.e).flatten := imms_fz (flat_imm GSpan.e_imm l) b cs
@[simp] theorem GSpan.e_fz (x : GSpan) (b : Nat) (cs : List PV) : fzL b cs x.e = x.e := rfl
@[simp] theorem GSpan.e_im (x : GSpan) : x.e.all PV.immB = true := rfl
@[simp] theorem GSpan.chk (l : List GSpan) : chunks 2 (l.map GSpan.e).flatten l.length = l.map GSpan.e := chunks_map GSpan.e_len l
@[simp] theorem GSpan.e_take (x : GSpan) : x.e.take 2 = x.e := rfl
@[simp] theorem GSpan.e_ren (x : GSpan) (θ : Nat → Nat) : renL θ x.e = x.e := rfl
@[simp] theorem GSpan.e_ltl (x : GSpan) (n : Nat) : ltL n x.e = true := rfl
@[simp] theorem GSpan.e_frz (x : GSpan) (b z len : Nat) (cs : List PV) : frzL b z len cs x.e = x.e := rfl
attribute [simp] GSpan.e_len
@[simp] theorem GSpan.row (l : List GSpan) (i : Nat) (hi : i < l.length) : ((l.map GSpan.e).flatten.drop (i * 2)).take 2 = l[i].e := row_get GSpan.e_len l i hi
@[simp] theorem GSpan.row0 (l : List GSpan) (i : Nat) (hi : i < l.length) : (l.map GSpan.e).flatten[i * 2]? = some (kI l[i].Low) := row_cell GSpan.e_len l i 0 hi (by omega)
@[simp] theorem GSpan.row1 (l : List GSpan) (i : Nat) (hi : i < l.length) : (l.map GSpan.e).flatten[i * 2 + 1]? = some (kI l[i].High) := row_cell GSpan.e_len l i 1 hi (by omega)
@[simp] theorem GSpan.e_0 (x : GSpan) : x.e[0]? = some (kI x.Low) := rfl
@[simp] theorem GSpan.eg0 (x : GSpan) (h : 0 < x.e.length) : x.e[0]'h = kI x.Low := rfl
@[simp] theorem GSpan.e_1 (x : GSpan) : x.e[1]? = some (kI x.High) := rfl
@[simp] theorem GSpan.eg1 (x : GSpan) (h : 1 < x.e.length) : x.e[1]'h = kI x.High := rfl
@[simp] theorem int_ren (l : List Int) (θ : Nat → Nat) : renL θ (l.map fun x => [kI x]).flatten = (l.map fun x => [kI x]).flatten := imms_ren (flat_imm int_imm l) θ
@[simp] theorem int_ltl (l : List Int) (n : Nat) : ltL n (l.map fun x => [kI x]).flatten = true := imms_lt (flat_imm int_imm l) n
@[simp] theorem int_frl (l : List Int) (b z len : Nat) (cs : List PV) : frzL b z len cs (l.map fun x => [kI x]).flatten = (l.map fun x => [kI x]).flatten := imms_frz (flat_imm int_imm l) b z len cs
theorem follows_mix : Tryz.prog.follows .mixedOrders = true := by kernel_rfl
@[simp high] theorem GField.eqv (x y : GField) : eqPV Tryz.prog 9 126 (.agg x.e) (.agg y.e) = some (decide (x = y)) := by cases x; cases y; simp [GField.e, GField.mk.injEq, Bool.and_assoc, bool_beq]
@[simp high] theorem GEnt.eqv (x y : GEnt) : eqPV Tryz.prog 9 32 (.agg x.e) (.agg y.e) = some (decide (x = y)) := by cases x; cases y; simp [GEnt.e, GEnt.mk.injEq, Bool.and_assoc, bool_beq]
@[simp high] theorem GEvent.eqv (x y : GEvent) : eqPV Tryz.prog 9 106 (.agg x.e) (.agg y.e) = some (decide (x = y)) := by cases x; cases y; simp [GEvent.e, GEvent.mk.injEq, GEnt.ext_iff', Bool.and_assoc, bool_beq]
@[simp high] theorem GRef.eqv (x y : GRef) : eqPV Tryz.prog 9 208 (.agg x.e) (.agg y.e) = some (decide (x = y)) := by cases x; cases y; simp [GRef.e, GRef.mk.injEq, Bool.and_assoc, bool_beq]
@[simp high] theorem GArg.eqv (x y : GArg) : eqPV Tryz.prog 9 210 (.agg x.e) (.agg y.e) = some (decide (x = y)) := by cases x; cases y; simp [GArg.e, GArg.mk.injEq, GRef.ext_iff', Bool.and_assoc, bool_beq]
@[simp high] theorem GOp.eqv (x y : GOp) : eqPV Tryz.prog 9 212 (.agg x.e) (.agg y.e) = some (decide (x = y)) := by cases x; cases y; simp [GOp.e, GOp.mk.injEq, GRef.ext_iff', GArg.ext_iff', Bool.and_assoc, bool_beq]
@[simp high] theorem GMark.eqv (x y : GMark) : eqPV Tryz.prog 9 79 (.agg x.e) (.agg y.e) = some (decide (x = y)) := by cases x; cases y; simp [GMark.e, GMark.mk.injEq, Bool.and_assoc, bool_beq]
end Go.Proofs.YtidhdlhblhbahaaGreat.Am
