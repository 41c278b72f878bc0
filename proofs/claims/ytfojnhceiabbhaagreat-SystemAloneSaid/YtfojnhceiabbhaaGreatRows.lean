/-
  No cell of these rows narrows 'for every input' (looked for: loops, veiled, ifaces, maps, wideKeys, modest, calm, conditions, laid).
  DERIVED. THE GIVEN ROWS OF THIS SEAT. 2 by the template 'for every input the law returns true; each argument reads behind the call as it read before'; 0 by the template 'total and deterministic' (their statements: YtfojnhceiabbhaaGreatTotals.lean).
  GIVEN WITH THE SEED: the statements are not yours to turn. If you find one false, say at which input.
  Laid BY PROGRAM, IN A SANDBOX (cutbox-rows.mjs): the forced cells as the released guide's own fill.sh prints them over the translation 7b32ce339f312b4d… (all of the seat's roots in one cut). By AI agents, Wed Nov 11 2026. No macro, syntax, notation, axiom, sorry.
-/
import Derived.Test.YtfojnhceiabbhaaGreatChecked
import GoSem.Claim
import GoSem.ClaimJoined
import GoSem.ClaimMapViews
import Derived.JoinedTies
import Derived.KernelRfl
namespace Go.Proofs.YtfojnhceiabbhaaGreat
/- THE CELL 'sum', in the pinned program and in every row, IS THE sha256 OF THE DUMP (.gsa) THAT YtfojnhceiabbhaaGreatProg.lean LOADS. Nothing in Lean hashes anything: it is a label: what it is worth is what the hold of that sum in a sandbox is worth. -/
noncomputable def Tryz.pinned : Pinned := { name := "ytfojnhceiabbhaagreat", sum := "7b32ce339f312b4d8e4160a541d9b3be3ce66d6ac1c3c24f52af8aebb09e7be1", checked := Tryz.checked }
namespace Rows
def none {H : Type} : Left H := { results := [], args := [] }

/-- 'tourkeep3.SystemIdle': WHATEVER THE INPUT: true; the input reads as it did. -/
def systemIdleSpec : ChangeSpec := { name := "systemIdle", fn := fun _ => fun
  | [d1, d2, d3, d4] => { results := [.lit (.bool true)], args := [d1, d2, d3, d4] }
  | _ => none }
def systemIdleRow : OpenClaim := { program := "ytfojnhceiabbhaagreat", sum := "7b32ce339f312b4d8e4160a541d9b3be3ce66d6ac1c3c24f52af8aebb09e7be1", func := "tourney/tourkeep3.SystemIdle", spec := "systemIdle", unfollowed := true, recurses := true, named := ["math/bits.divideError", "math/bits.overflowError"], apart := false }
def SystemIdleSaid : Prop := systemIdleRow.holds Tryz.pinned (OpenSpec.ofChange systemIdleSpec)

/-- ITS FALSE NEIGHBOUR: 'it returns false'. Refute it at one input. -/
def systemIdleWrong : ChangeSpec := { name := "systemIdle", fn := fun _ => fun
  | [d1, d2, d3, d4] => { results := [.lit (.bool false)], args := [d1, d2, d3, d4] }
  | _ => none }
def SystemIdleWrongFalsely : Prop := systemIdleRow.holds Tryz.pinned (OpenSpec.ofChange systemIdleWrong)

/-- 'tourkeep3.SystemAlone': WHATEVER THE INPUT: true; the input reads as it did. -/
def systemAloneSpec : ChangeSpec := { name := "systemAlone", fn := fun _ => fun
  | [d1, d2, d3, d4, d5] => { results := [.lit (.bool true)], args := [d1, d2, d3, d4, d5] }
  | _ => none }
def systemAloneRow : OpenClaim := { program := "ytfojnhceiabbhaagreat", sum := "7b32ce339f312b4d8e4160a541d9b3be3ce66d6ac1c3c24f52af8aebb09e7be1", func := "tourney/tourkeep3.SystemAlone", spec := "systemAlone", unfollowed := true, recurses := true, named := ["math/bits.divideError", "math/bits.overflowError"], apart := false }
def SystemAloneSaid : Prop := systemAloneRow.holds Tryz.pinned (OpenSpec.ofChange systemAloneSpec)

/-- ITS FALSE NEIGHBOUR: 'it returns false'. Refute it at one input. -/
def systemAloneWrong : ChangeSpec := { name := "systemAlone", fn := fun _ => fun
  | [d1, d2, d3, d4, d5] => { results := [.lit (.bool false)], args := [d1, d2, d3, d4, d5] }
  | _ => none }
def SystemAloneWrongFalsely : Prop := systemAloneRow.holds Tryz.pinned (OpenSpec.ofChange systemAloneWrong)

/- THE SECOND FORM. 'bulk': how many values and letters a reading holds, each counted each time it is reached (what is shared counts as often as it is met; a slice's spare places count too). A statement '..UptoSaid' is the law's where the arguments, and the package variables that the reading takes, are together of bulk at most 1048576: NARROWER than '..Said'. Prove '..Said' where nothing that the law and all that it calls make is longer than what came in: it says more and counts as full. Else prove '..UptoSaid'. A law counts once. -/
mutual
def uptoBulk {H : Type} : DataW H → Nat
  | .lit (.string bytes) => bytes.length + 1
  | .lit _ => 1
  | .nil => 1
  | .ptr d => uptoBulk d + 1
  | .slice elems spare => uptoBulkAll elems + uptoBulkAll spare + 1
  | .agg parts => uptoBulkAll parts + 1
  | .iface _ d => uptoBulk d + 1
  | .map entries => uptoBulkEntries entries + 1
  | .held _ => 1
def uptoBulkAll {H : Type} : List (DataW H) → Nat
  | [] => 0
  | d :: r => uptoBulk d + uptoBulkAll r
def uptoBulkEntries {H : Type} : List (Lit × DataW H) → Nat
  | [] => 0
  | x :: r => uptoBulkEntry x + uptoBulkEntries r
def uptoBulkEntry {H : Type} : Lit × DataW H → Nat
  | (.string bytes, d) => bytes.length + uptoBulk d + 1
  | (_, d) => uptoBulk d + 1
 end
def uptoSmall : (H : Type) → List (DataW H) → Bool := fun _ ds => decide (uptoBulkAll ds ≤ 1048576)
def OpenSpec.upto (s : _root_.Go.ChangeSpec) : _root_.Go.OpenSpec := { _root_.Go.OpenSpec.ofChange s with cond := some uptoSmall }

/-- 'tourkeep3.SystemIdle', WHERE WHAT IT READS IS OF BULK AT MOST 1048576: true; the input reads as it did. -/
def systemIdleUptoRow : OpenClaim := { program := "ytfojnhceiabbhaagreat", sum := "7b32ce339f312b4d8e4160a541d9b3be3ce66d6ac1c3c24f52af8aebb09e7be1", func := "tourney/tourkeep3.SystemIdle", spec := "systemIdle", unfollowed := true, recurses := true, named := ["math/bits.divideError", "math/bits.overflowError"], apart := false, narrowed := true }
def SystemIdleUptoSaid : Prop := systemIdleUptoRow.holds Tryz.pinned (OpenSpec.upto systemIdleSpec)

/-- 'tourkeep3.SystemAlone', WHERE WHAT IT READS IS OF BULK AT MOST 1048576: true; the input reads as it did. -/
def systemAloneUptoRow : OpenClaim := { program := "ytfojnhceiabbhaagreat", sum := "7b32ce339f312b4d8e4160a541d9b3be3ce66d6ac1c3c24f52af8aebb09e7be1", func := "tourney/tourkeep3.SystemAlone", spec := "systemAlone", unfollowed := true, recurses := true, named := ["math/bits.divideError", "math/bits.overflowError"], apart := false, narrowed := true }
def SystemAloneUptoSaid : Prop := systemAloneUptoRow.holds Tryz.pinned (OpenSpec.upto systemAloneSpec)

end Rows
end Go.Proofs.YtfojnhceiabbhaaGreat
