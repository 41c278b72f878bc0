/- The program's values as Lean values, and how they stand in the machine. -/
import Derived.Test.YtmkgechjbbekmaaTy
import Derived.Test.YtmkgechjbbekmaaAmB
namespace Go.Proofs.Ytmkgechjbbekmaa.Am
open Go Go.RowKit
abbrev Str := ByteArray
structure GField where
  Name : Str
  Bits : Int
  Low : Int
  deriving DecidableEq
structure GKind where
  Name : Str
  Fields : List GField
  deriving DecidableEq
structure GEnt where
  N : Int
  Gen : Int
  deriving DecidableEq
structure GComp where
  Kind : Int
  Vals : List Int
  deriving DecidableEq
structure GItem where
  Ent : GEnt
  Comps : List GComp
  deriving DecidableEq
structure GWorld where
  Kinds : List GKind
  Gens : List Int
  Items : List GItem
  deriving DecidableEq
def GField.e (f : GField) : List PV := [kS f.Name, kI f.Bits, kI f.Low]
def GKind.e (k : GKind) : List PV := [kS k.Name, .sl 3 (k.Fields.map GField.e)]
def GEnt.e (x : GEnt) : List PV := [kI x.N, kI x.Gen]
def GComp.e (c : GComp) : List PV := [kI c.Kind, slI c.Vals]
def GItem.e (x : GItem) : List PV := [kI x.Ent.N, kI x.Ent.Gen, .sl 2 (x.Comps.map GComp.e)]
def GWorld.e (w : GWorld) : List PV := [.sl 2 (w.Kinds.map GKind.e), slI w.Gens, .sl 3 (w.Items.map GItem.e)]
theorem GField.e_len (f : GField) : f.e.length = 3 := rfl
theorem GKind.e_len (k : GKind) : k.e.length = 2 := rfl
theorem GComp.e_len (c : GComp) : c.e.length = 2 := rfl
theorem GItem.e_len (x : GItem) : x.e.length = 3 := rfl

theorem flat_len {α : Type} {f : α → List PV} {z : Nat} (h : ∀ x, (f x).length = z) : ∀ (l : List α), ((l.map f).flatten).length = l.length * z
  | [] => by simp
  | x :: l => by rw [List.map_cons, List.flatten_cons, List.length_append, flat_len h l, h, List.length_cons, Nat.add_mul, Nat.one_mul, Nat.add_comm]
theorem flat_sum {α : Type} {f : α → List PV} {z : Nat} (h : ∀ x, (f x).length = z) (l : List α) : (l.map (List.length ∘ f)).sum = l.length * z := by
  rw [← flat_len h l, List.length_flatten, List.map_map]
theorem flat_imm {α : Type} {f : α → List PV} (h : ∀ x, (f x).all PV.immB = true) (l : List α) : ((l.map f).flatten).all PV.immB = true := by
  rw [List.all_flatten, List.all_map]
  exact List.all_eq_true.2 fun x _ => h x
theorem imm_ren {p : PV} (h : p.immB = true) (θ : Nat → Nat) : p.ren θ = p := by cases p <;> simp_all
theorem imm_lt {p : PV} (h : p.immB = true) (n : Nat) : p.lt n = true := by cases p <;> simp_all
theorem imm_frz {p : PV} (h : p.immB = true) (b z len : Nat) (cs : List PV) : p.frz b z len cs = p := by cases p <;> simp_all
theorem imms_ren {ps : List PV} (h : ps.all PV.immB = true) (θ : Nat → Nat) : renL θ ps = ps := by
  rw [renL_map]
  refine (List.map_congr_left fun p hp => imm_ren (List.all_eq_true.1 h p hp) θ).trans (by simp)
theorem imms_lt {ps : List PV} (h : ps.all PV.immB = true) (n : Nat) : ltL n ps = true := by
  rw [ltL_all]
  exact List.all_eq_true.2 fun p hp => imm_lt (List.all_eq_true.1 h p hp) n
theorem imms_frz {ps : List PV} (h : ps.all PV.immB = true) (b z len : Nat) (cs : List PV) : frzL b z len cs ps = ps := by
  rw [frzL_map]
  refine (List.map_congr_left fun p hp => imm_frz (List.all_eq_true.1 h p hp) b z len cs).trans (by simp)
theorem frzL_append (b z len : Nat) (cs ps qs : List PV) : frzL b z len cs (ps ++ qs) = frzL b z len cs ps ++ frzL b z len cs qs := by simp [frzL_map]
theorem renL_append (θ : Nat → Nat) (ps qs : List PV) : renL θ (ps ++ qs) = renL θ ps ++ renL θ qs := by simp [renL_map]
theorem ltL_append (n : Nat) (ps qs : List PV) : ltL n (ps ++ qs) = (ltL n ps && ltL n qs) := by simp [ltL_all]
attribute [simp] frzL_append renL_append ltL_append
@[simp] theorem slI_ren (l : List Int) (θ : Nat → Nat) : (slI l).ren θ = slI l := rfl
@[simp] theorem slI_lt (l : List Int) (n : Nat) : (slI l).lt n = true := rfl
@[simp] theorem slI_imm (l : List Int) : (slI l).immB = true := rfl
@[simp] theorem slI_frz (l : List Int) (b z len : Nat) (cs : List PV) : (slI l).frz b z len cs = slI l := rfl
@[simp] theorem slI_tup (l : List Int) : (slI l).isTup = false := rfl
@[simp] theorem slI_one (l : List Int) : (slI l).one = true := rfl
theorem GField.e_imm (f : GField) : f.e.all PV.immB = true := rfl
theorem GKind.e_imm (f : GKind) : f.e.all PV.immB = true := rfl
theorem GComp.e_imm (f : GComp) : f.e.all PV.immB = true := rfl
theorem GItem.e_imm (f : GItem) : f.e.all PV.immB = true := rfl
theorem int_imm (x : Int) : [kI x].all PV.immB = true := rfl
theorem int_len (x : Int) : [kI x].length = 1 := rfl
@[simp] theorem GField.sum (l : List GField) : (l.map (List.length ∘ GField.e)).sum = l.length * 3 := flat_sum GField.e_len l
@[simp] theorem GKind.sum (l : List GKind) : (l.map (List.length ∘ GKind.e)).sum = l.length * 2 := flat_sum GKind.e_len l
@[simp] theorem GComp.sum (l : List GComp) : (l.map (List.length ∘ GComp.e)).sum = l.length * 2 := flat_sum GComp.e_len l
@[simp] theorem GItem.sum (l : List GItem) : (l.map (List.length ∘ GItem.e)).sum = l.length * 3 := flat_sum GItem.e_len l
@[simp] theorem GField.ren (l : List GField) (θ : Nat → Nat) : renL θ (l.map GField.e).flatten = (l.map GField.e).flatten := imms_ren (flat_imm GField.e_imm l) θ
@[simp] theorem GKind.ren (l : List GKind) (θ : Nat → Nat) : renL θ (l.map GKind.e).flatten = (l.map GKind.e).flatten := imms_ren (flat_imm GKind.e_imm l) θ
@[simp] theorem GComp.ren (l : List GComp) (θ : Nat → Nat) : renL θ (l.map GComp.e).flatten = (l.map GComp.e).flatten := imms_ren (flat_imm GComp.e_imm l) θ
@[simp] theorem GItem.ren (l : List GItem) (θ : Nat → Nat) : renL θ (l.map GItem.e).flatten = (l.map GItem.e).flatten := imms_ren (flat_imm GItem.e_imm l) θ
@[simp] theorem int_ren (l : List Int) (θ : Nat → Nat) : renL θ (l.map fun x => [kI x]).flatten = (l.map fun x => [kI x]).flatten := imms_ren (flat_imm int_imm l) θ
@[simp] theorem GField.ltl (l : List GField) (n : Nat) : ltL n (l.map GField.e).flatten = true := imms_lt (flat_imm GField.e_imm l) n
@[simp] theorem GKind.ltl (l : List GKind) (n : Nat) : ltL n (l.map GKind.e).flatten = true := imms_lt (flat_imm GKind.e_imm l) n
@[simp] theorem GComp.ltl (l : List GComp) (n : Nat) : ltL n (l.map GComp.e).flatten = true := imms_lt (flat_imm GComp.e_imm l) n
@[simp] theorem GItem.ltl (l : List GItem) (n : Nat) : ltL n (l.map GItem.e).flatten = true := imms_lt (flat_imm GItem.e_imm l) n
@[simp] theorem int_ltl (l : List Int) (n : Nat) : ltL n (l.map fun x => [kI x]).flatten = true := imms_lt (flat_imm int_imm l) n
@[simp] theorem GField.frl (l : List GField) (b z len : Nat) (cs : List PV) : frzL b z len cs (l.map GField.e).flatten = (l.map GField.e).flatten := imms_frz (flat_imm GField.e_imm l) b z len cs
@[simp] theorem GKind.frl (l : List GKind) (b z len : Nat) (cs : List PV) : frzL b z len cs (l.map GKind.e).flatten = (l.map GKind.e).flatten := imms_frz (flat_imm GKind.e_imm l) b z len cs
@[simp] theorem GComp.frl (l : List GComp) (b z len : Nat) (cs : List PV) : frzL b z len cs (l.map GComp.e).flatten = (l.map GComp.e).flatten := imms_frz (flat_imm GComp.e_imm l) b z len cs
@[simp] theorem GItem.frl (l : List GItem) (b z len : Nat) (cs : List PV) : frzL b z len cs (l.map GItem.e).flatten = (l.map GItem.e).flatten := imms_frz (flat_imm GItem.e_imm l) b z len cs
@[simp] theorem int_frl (l : List Int) (b z len : Nat) (cs : List PV) : frzL b z len cs (l.map fun x => [kI x]).flatten = (l.map fun x => [kI x]).flatten := imms_frz (flat_imm int_imm l) b z len cs
theorem follows_mix : Try.prog.follows .mixedOrders = true := by kernel_rfl
attribute [simp] GField.e_len GKind.e_len GComp.e_len GItem.e_len
@[simp] theorem GField.e_take (x : GField) : x.e.take 3 = x.e := rfl
@[simp] theorem GKind.e_take (x : GKind) : x.e.take 2 = x.e := rfl
@[simp] theorem GComp.e_take (x : GComp) : x.e.take 2 = x.e := rfl
@[simp] theorem GItem.e_take (x : GItem) : x.e.take 3 = x.e := rfl
@[simp] theorem GField.e_ren (x : GField) (θ : Nat → Nat) : renL θ x.e = x.e := rfl
@[simp] theorem GKind.e_ren (x : GKind) (θ : Nat → Nat) : renL θ x.e = x.e := rfl
@[simp] theorem GComp.e_ren (x : GComp) (θ : Nat → Nat) : renL θ x.e = x.e := rfl
@[simp] theorem GItem.e_ren (x : GItem) (θ : Nat → Nat) : renL θ x.e = x.e := rfl
@[simp] theorem GField.e_ltl (x : GField) (n : Nat) : ltL n x.e = true := rfl
@[simp] theorem GKind.e_ltl (x : GKind) (n : Nat) : ltL n x.e = true := rfl
@[simp] theorem GComp.e_ltl (x : GComp) (n : Nat) : ltL n x.e = true := rfl
@[simp] theorem GItem.e_ltl (x : GItem) (n : Nat) : ltL n x.e = true := rfl
@[simp] theorem GField.e_frz (x : GField) (b z len : Nat) (cs : List PV) : frzL b z len cs x.e = x.e := rfl
@[simp] theorem GKind.e_frz (x : GKind) (b z len : Nat) (cs : List PV) : frzL b z len cs x.e = x.e := rfl
@[simp] theorem GComp.e_frz (x : GComp) (b z len : Nat) (cs : List PV) : frzL b z len cs x.e = x.e := rfl
@[simp] theorem GItem.e_frz (x : GItem) (b z len : Nat) (cs : List PV) : frzL b z len cs x.e = x.e := rfl
@[simp] theorem GField.e_0 (x : GField) : x.e[0]? = some (kS x.Name) := rfl
@[simp] theorem GField.e_1 (x : GField) : x.e[1]? = some (kI x.Bits) := rfl
@[simp] theorem GField.e_2 (x : GField) : x.e[2]? = some (kI x.Low) := rfl
@[simp] theorem GKind.e_0 (x : GKind) : x.e[0]? = some (kS x.Name) := rfl
@[simp] theorem GKind.e_1 (x : GKind) : x.e[1]? = some (.sl 3 (x.Fields.map GField.e)) := rfl
@[simp] theorem GComp.e_0 (x : GComp) : x.e[0]? = some (kI x.Kind) := rfl
@[simp] theorem GComp.e_1 (x : GComp) : x.e[1]? = some (slI x.Vals) := rfl
@[simp] theorem GItem.e_2 (x : GItem) : x.e[2]? = some (.sl 2 (x.Comps.map GComp.e)) := rfl
@[simp] theorem GField.eg0 (x : GField) (h : 0 < x.e.length) : x.e[0]'h = kS x.Name := rfl
@[simp] theorem GField.eg1 (x : GField) (h : 1 < x.e.length) : x.e[1]'h = kI x.Bits := rfl
@[simp] theorem GField.eg2 (x : GField) (h : 2 < x.e.length) : x.e[2]'h = kI x.Low := rfl
@[simp] theorem GKind.eg0 (x : GKind) (h : 0 < x.e.length) : x.e[0]'h = kS x.Name := rfl
@[simp] theorem GKind.eg1 (x : GKind) (h : 1 < x.e.length) : x.e[1]'h = .sl 3 (x.Fields.map GField.e) := rfl
@[simp] theorem GComp.eg0 (x : GComp) (h : 0 < x.e.length) : x.e[0]'h = kI x.Kind := rfl
@[simp] theorem GComp.eg1 (x : GComp) (h : 1 < x.e.length) : x.e[1]'h = slI x.Vals := rfl
@[simp] theorem GItem.eg0 (x : GItem) (h : 0 < x.e.length) : x.e[0]'h = kI x.Ent.N := rfl
@[simp] theorem GItem.eg1 (x : GItem) (h : 1 < x.e.length) : x.e[1]'h = kI x.Ent.Gen := rfl
@[simp] theorem GItem.eg2 (x : GItem) (h : 2 < x.e.length) : x.e[2]'h = .sl 2 (x.Comps.map GComp.e) := rfl
end Go.Proofs.Ytmkgechjbbekmaa.Am
