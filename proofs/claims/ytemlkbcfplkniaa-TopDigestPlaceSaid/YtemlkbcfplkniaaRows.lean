/-
  No cell of these rows narrows 'for every input' (looked for: loops, veiled, ifaces, maps, wideKeys, modest, calm, conditions, laid).
  DERIVED. THE GIVEN ROWS OF THIS SEAT. 10 by the template 'for every input the law returns true; each argument reads behind the call as it read before'; 0 by the template 'total and deterministic' (their statements: YtemlkbcfplkniaaTotals.lean).
  GIVEN WITH THE SEED: the statements are not yours to turn. If you find one false, say at which input.
  Laid BY PROGRAM, IN A SANDBOX (cutbox-rows.mjs): the forced cells as the released guide's own fill.sh prints them over the translation 0004a82201113fd0… (all of the seat's roots in one cut). By AI agents, Wed Nov 11 2026. No macro, syntax, notation, axiom, sorry.
-/
import Derived.Test.YtemlkbcfplkniaaChecked
import GoSem.Claim
import GoSem.ClaimJoined
import GoSem.ClaimMapViews
import Derived.JoinedTies
import Derived.KernelRfl
namespace Go.Proofs.Ytemlkbcfplkniaa
/- THE CELL 'sum', in the pinned program and in every row, IS THE sha256 OF THE DUMP (.gsa) THAT YtemlkbcfplkniaaProg.lean LOADS. Nothing in Lean hashes anything: it is a label: what it is worth is what the hold of that sum in a sandbox is worth. -/
noncomputable def Try.pinned : Pinned := { name := "ytemlkbcfplkniaa", sum := "0004a82201113fd0289899d16c47e904b635bb4901254f707a7b8e8bf1211fa1", checked := Try.checked }
namespace Rows
def none {H : Type} : Left H := { results := [], args := [] }

/-- 'tourkeep3.QuerySplits': WHATEVER THE INPUT: true; the input reads as it did. -/
def querySplitsSpec : ChangeSpec := { name := "querySplits", fn := fun _ => fun
  | [d1, d2, d3, d4] => { results := [.lit (.bool true)], args := [d1, d2, d3, d4] }
  | _ => none }
def querySplitsRow : OpenClaim := { program := "ytemlkbcfplkniaa", sum := "0004a82201113fd0289899d16c47e904b635bb4901254f707a7b8e8bf1211fa1", func := "tourney/tourkeep3.QuerySplits", spec := "querySplits", unfollowed := true, recurses := true, apart := false }
def QuerySplitsSaid : Prop := querySplitsRow.holds Try.pinned (OpenSpec.ofChange querySplitsSpec)

/-- ITS FALSE NEIGHBOUR: 'it returns false'. Refute it at one input. -/
def querySplitsWrong : ChangeSpec := { name := "querySplits", fn := fun _ => fun
  | [d1, d2, d3, d4] => { results := [.lit (.bool false)], args := [d1, d2, d3, d4] }
  | _ => none }
def QuerySplitsWrongFalsely : Prop := querySplitsRow.holds Try.pinned (OpenSpec.ofChange querySplitsWrong)

/-- 'tourkeep3.WorldSmallest': WHATEVER THE INPUT: true; the input reads as it did. -/
def worldSmallestSpec : ChangeSpec := { name := "worldSmallest", fn := fun _ => fun
  | [d] => { results := [.lit (.bool true)], args := [d] }
  | _ => none }
def worldSmallestRow : OpenClaim := { program := "ytemlkbcfplkniaa", sum := "0004a82201113fd0289899d16c47e904b635bb4901254f707a7b8e8bf1211fa1", func := "tourney/tourkeep3.WorldSmallest", spec := "worldSmallest", unfollowed := true, recurses := true, apart := false }
def WorldSmallestSaid : Prop := worldSmallestRow.holds Try.pinned (OpenSpec.ofChange worldSmallestSpec)

/-- ITS FALSE NEIGHBOUR: 'it returns false'. Refute it at one input. -/
def worldSmallestWrong : ChangeSpec := { name := "worldSmallest", fn := fun _ => fun
  | [d] => { results := [.lit (.bool false)], args := [d] }
  | _ => none }
def WorldSmallestWrongFalsely : Prop := worldSmallestRow.holds Try.pinned (OpenSpec.ofChange worldSmallestWrong)

/-- 'tourkeep3.ColumnSorts': WHATEVER THE INPUT: true; the input reads as it did. -/
def columnSortsSpec : ChangeSpec := { name := "columnSorts", fn := fun _ => fun
  | [d] => { results := [.lit (.bool true)], args := [d] }
  | _ => none }
def columnSortsRow : OpenClaim := { program := "ytemlkbcfplkniaa", sum := "0004a82201113fd0289899d16c47e904b635bb4901254f707a7b8e8bf1211fa1", func := "tourney/tourkeep3.ColumnSorts", spec := "columnSorts", unfollowed := true, recurses := true, apart := false }
def ColumnSortsSaid : Prop := columnSortsRow.holds Try.pinned (OpenSpec.ofChange columnSortsSpec)

/-- ITS FALSE NEIGHBOUR: 'it returns false'. Refute it at one input. -/
def columnSortsWrong : ChangeSpec := { name := "columnSorts", fn := fun _ => fun
  | [d] => { results := [.lit (.bool false)], args := [d] }
  | _ => none }
def ColumnSortsWrongFalsely : Prop := columnSortsRow.holds Try.pinned (OpenSpec.ofChange columnSortsWrong)

/-- 'tourkeep3.SaveOnly': WHATEVER THE INPUT: true; the input reads as it did. -/
def saveOnlySpec : ChangeSpec := { name := "saveOnly", fn := fun _ => fun
  | [d] => { results := [.lit (.bool true)], args := [d] }
  | _ => none }
def saveOnlyRow : OpenClaim := { program := "ytemlkbcfplkniaa", sum := "0004a82201113fd0289899d16c47e904b635bb4901254f707a7b8e8bf1211fa1", func := "tourney/tourkeep3.SaveOnly", spec := "saveOnly", inPlace := ["internal/bytealg.IndexByte"], unfollowed := true, recurses := true, apart := false }
def SaveOnlySaid : Prop := saveOnlyRow.holds Try.pinned (OpenSpec.ofChange saveOnlySpec)

/-- ITS FALSE NEIGHBOUR: 'it returns false'. Refute it at one input. -/
def saveOnlyWrong : ChangeSpec := { name := "saveOnly", fn := fun _ => fun
  | [d] => { results := [.lit (.bool false)], args := [d] }
  | _ => none }
def SaveOnlyWrongFalsely : Prop := saveOnlyRow.holds Try.pinned (OpenSpec.ofChange saveOnlyWrong)

/-- 'tourkeep3.SaveBack': WHATEVER THE INPUT: true; the input reads as it did. -/
def saveBackSpec : ChangeSpec := { name := "saveBack", fn := fun _ => fun
  | [d] => { results := [.lit (.bool true)], args := [d] }
  | _ => none }
def saveBackRow : OpenClaim := { program := "ytemlkbcfplkniaa", sum := "0004a82201113fd0289899d16c47e904b635bb4901254f707a7b8e8bf1211fa1", func := "tourney/tourkeep3.SaveBack", spec := "saveBack", inPlace := ["internal/bytealg.IndexByte"], unfollowed := true, recurses := true, apart := false }
def SaveBackSaid : Prop := saveBackRow.holds Try.pinned (OpenSpec.ofChange saveBackSpec)

/-- ITS FALSE NEIGHBOUR: 'it returns false'. Refute it at one input. -/
def saveBackWrong : ChangeSpec := { name := "saveBack", fn := fun _ => fun
  | [d] => { results := [.lit (.bool false)], args := [d] }
  | _ => none }
def SaveBackWrongFalsely : Prop := saveBackRow.holds Try.pinned (OpenSpec.ofChange saveBackWrong)

/-- 'tourtop.TopPackedWorld': WHATEVER THE INPUT: true; the input reads as it did. -/
def topPackedWorldSpec : ChangeSpec := { name := "topPackedWorld", fn := fun _ => fun
  | [d] => { results := [.lit (.bool true)], args := [d] }
  | _ => none }
def topPackedWorldRow : OpenClaim := { program := "ytemlkbcfplkniaa", sum := "0004a82201113fd0289899d16c47e904b635bb4901254f707a7b8e8bf1211fa1", func := "tourney/tourtop.TopPackedWorld", spec := "topPackedWorld", inPlace := ["slices.overlaps[tourney/api.Item]"], unfollowed := true, recurses := true, apart := false }
def TopPackedWorldSaid : Prop := topPackedWorldRow.holds Try.pinned (OpenSpec.ofChange topPackedWorldSpec)

/-- ITS FALSE NEIGHBOUR: 'it returns false'. Refute it at one input. -/
def topPackedWorldWrong : ChangeSpec := { name := "topPackedWorld", fn := fun _ => fun
  | [d] => { results := [.lit (.bool false)], args := [d] }
  | _ => none }
def TopPackedWorldWrongFalsely : Prop := topPackedWorldRow.holds Try.pinned (OpenSpec.ofChange topPackedWorldWrong)

/-- 'tourkeep3.SaveFlips': WHATEVER THE INPUT: true; the input reads as it did. -/
def saveFlipsSpec : ChangeSpec := { name := "saveFlips", fn := fun _ => fun
  | [d1, d2, d3] => { results := [.lit (.bool true)], args := [d1, d2, d3] }
  | _ => none }
def saveFlipsRow : OpenClaim := { program := "ytemlkbcfplkniaa", sum := "0004a82201113fd0289899d16c47e904b635bb4901254f707a7b8e8bf1211fa1", func := "tourney/tourkeep3.SaveFlips", spec := "saveFlips", inPlace := ["internal/bytealg.IndexByte"], unfollowed := true, recurses := true, apart := false }
def SaveFlipsSaid : Prop := saveFlipsRow.holds Try.pinned (OpenSpec.ofChange saveFlipsSpec)

/-- ITS FALSE NEIGHBOUR: 'it returns false'. Refute it at one input. -/
def saveFlipsWrong : ChangeSpec := { name := "saveFlips", fn := fun _ => fun
  | [d1, d2, d3] => { results := [.lit (.bool false)], args := [d1, d2, d3] }
  | _ => none }
def SaveFlipsWrongFalsely : Prop := saveFlipsRow.holds Try.pinned (OpenSpec.ofChange saveFlipsWrong)

/-- 'tourkeep3.ArchOnce': WHATEVER THE INPUT: true; the input reads as it did. -/
def archOnceSpec : ChangeSpec := { name := "archOnce", fn := fun _ => fun
  | [d] => { results := [.lit (.bool true)], args := [d] }
  | _ => none }
def archOnceRow : OpenClaim := { program := "ytemlkbcfplkniaa", sum := "0004a82201113fd0289899d16c47e904b635bb4901254f707a7b8e8bf1211fa1", func := "tourney/tourkeep3.ArchOnce", spec := "archOnce", inPlace := ["slices.overlaps[*tourney/arch.table]"], unfollowed := true, recurses := true, apart := false }
def ArchOnceSaid : Prop := archOnceRow.holds Try.pinned (OpenSpec.ofChange archOnceSpec)

/-- ITS FALSE NEIGHBOUR: 'it returns false'. Refute it at one input. -/
def archOnceWrong : ChangeSpec := { name := "archOnce", fn := fun _ => fun
  | [d] => { results := [.lit (.bool false)], args := [d] }
  | _ => none }
def ArchOnceWrongFalsely : Prop := archOnceRow.holds Try.pinned (OpenSpec.ofChange archOnceWrong)

/-- 'tourtop.TopDigestPlace': WHATEVER THE INPUT: true; the input reads as it did. -/
def topDigestPlaceSpec : ChangeSpec := { name := "topDigestPlace", fn := fun _ => fun
  | [d1, d2, d3] => { results := [.lit (.bool true)], args := [d1, d2, d3] }
  | _ => none }
def topDigestPlaceRow : OpenClaim := { program := "ytemlkbcfplkniaa", sum := "0004a82201113fd0289899d16c47e904b635bb4901254f707a7b8e8bf1211fa1", func := "tourney/tourtop.TopDigestPlace", spec := "topDigestPlace", inPlace := ["slices.overlaps[tourney/api.Item]"], unfollowed := true, recurses := true, apart := false }
def TopDigestPlaceSaid : Prop := topDigestPlaceRow.holds Try.pinned (OpenSpec.ofChange topDigestPlaceSpec)

/-- ITS FALSE NEIGHBOUR: 'it returns false'. Refute it at one input. -/
def topDigestPlaceWrong : ChangeSpec := { name := "topDigestPlace", fn := fun _ => fun
  | [d1, d2, d3] => { results := [.lit (.bool false)], args := [d1, d2, d3] }
  | _ => none }
def TopDigestPlaceWrongFalsely : Prop := topDigestPlaceRow.holds Try.pinned (OpenSpec.ofChange topDigestPlaceWrong)

/-- 'tourkeep3.SystemKeeps': WHATEVER THE INPUT: true; the input reads as it did. -/
def systemKeepsSpec : ChangeSpec := { name := "systemKeeps", fn := fun _ => fun
  | [d1, d2, d3, d4] => { results := [.lit (.bool true)], args := [d1, d2, d3, d4] }
  | _ => none }
def systemKeepsRow : OpenClaim := { program := "ytemlkbcfplkniaa", sum := "0004a82201113fd0289899d16c47e904b635bb4901254f707a7b8e8bf1211fa1", func := "tourney/tourkeep3.SystemKeeps", spec := "systemKeeps", unfollowed := true, recurses := true, named := ["math/bits.divideError", "math/bits.overflowError"], apart := false }
def SystemKeepsSaid : Prop := systemKeepsRow.holds Try.pinned (OpenSpec.ofChange systemKeepsSpec)

/-- ITS FALSE NEIGHBOUR: 'it returns false'. Refute it at one input. -/
def systemKeepsWrong : ChangeSpec := { name := "systemKeeps", fn := fun _ => fun
  | [d1, d2, d3, d4] => { results := [.lit (.bool false)], args := [d1, d2, d3, d4] }
  | _ => none }
def SystemKeepsWrongFalsely : Prop := systemKeepsRow.holds Try.pinned (OpenSpec.ofChange systemKeepsWrong)

/- THE SECOND FORM. 'bulk': how many values and letters a reading holds, each counted each time it is reached (what is shared counts as often as it is met; a slice's spare places count too). A statement '..UptoSaid' is the law's where the arguments, and the package variables that the reading takes, are together of bulk at most 1048576: NARROWER than '..Said'. Prove '..Said' where nothing that the law and all that it calls make is longer than what came in: it says more and counts as full. Else prove '..UptoSaid'. A law counts once. -/
mutual
def uptoBulk {H : Type} : DataW H → Nat
  | .lit (.string bytes) => bytes.length + 1
  | .lit _ => 1
  | .nil => 1
  | .ptr d => uptoBulk d + 1
  | .slice elems spare => uptoBulkAll elems + uptoBulkAll spare + 1
  | .agg parts => uptoBulkAll parts + 1
  | .iface _ d => uptoBulk d + 1
  | .map entries => uptoBulkEntries entries + 1
  | .held _ => 1
def uptoBulkAll {H : Type} : List (DataW H) → Nat
  | [] => 0
  | d :: r => uptoBulk d + uptoBulkAll r
def uptoBulkEntries {H : Type} : List (Lit × DataW H) → Nat
  | [] => 0
  | x :: r => uptoBulkEntry x + uptoBulkEntries r
def uptoBulkEntry {H : Type} : Lit × DataW H → Nat
  | (.string bytes, d) => bytes.length + uptoBulk d + 1
  | (_, d) => uptoBulk d + 1
 end
def uptoSmall : (H : Type) → List (DataW H) → Bool := fun _ ds => decide (uptoBulkAll ds ≤ 1048576)
def OpenSpec.upto (s : _root_.Go.ChangeSpec) : _root_.Go.OpenSpec := { _root_.Go.OpenSpec.ofChange s with cond := some uptoSmall }

/-- 'tourkeep3.QuerySplits', WHERE WHAT IT READS IS OF BULK AT MOST 1048576: true; the input reads as it did. -/
def querySplitsUptoRow : OpenClaim := { program := "ytemlkbcfplkniaa", sum := "0004a82201113fd0289899d16c47e904b635bb4901254f707a7b8e8bf1211fa1", func := "tourney/tourkeep3.QuerySplits", spec := "querySplits", unfollowed := true, recurses := true, apart := false, narrowed := true }
def QuerySplitsUptoSaid : Prop := querySplitsUptoRow.holds Try.pinned (OpenSpec.upto querySplitsSpec)

/-- 'tourkeep3.WorldSmallest', WHERE WHAT IT READS IS OF BULK AT MOST 1048576: true; the input reads as it did. -/
def worldSmallestUptoRow : OpenClaim := { program := "ytemlkbcfplkniaa", sum := "0004a82201113fd0289899d16c47e904b635bb4901254f707a7b8e8bf1211fa1", func := "tourney/tourkeep3.WorldSmallest", spec := "worldSmallest", unfollowed := true, recurses := true, apart := false, narrowed := true }
def WorldSmallestUptoSaid : Prop := worldSmallestUptoRow.holds Try.pinned (OpenSpec.upto worldSmallestSpec)

/-- 'tourkeep3.ColumnSorts', WHERE WHAT IT READS IS OF BULK AT MOST 1048576: true; the input reads as it did. -/
def columnSortsUptoRow : OpenClaim := { program := "ytemlkbcfplkniaa", sum := "0004a82201113fd0289899d16c47e904b635bb4901254f707a7b8e8bf1211fa1", func := "tourney/tourkeep3.ColumnSorts", spec := "columnSorts", unfollowed := true, recurses := true, apart := false, narrowed := true }
def ColumnSortsUptoSaid : Prop := columnSortsUptoRow.holds Try.pinned (OpenSpec.upto columnSortsSpec)

/-- 'tourkeep3.SaveOnly', WHERE WHAT IT READS IS OF BULK AT MOST 1048576: true; the input reads as it did. -/
def saveOnlyUptoRow : OpenClaim := { program := "ytemlkbcfplkniaa", sum := "0004a82201113fd0289899d16c47e904b635bb4901254f707a7b8e8bf1211fa1", func := "tourney/tourkeep3.SaveOnly", spec := "saveOnly", inPlace := ["internal/bytealg.IndexByte"], unfollowed := true, recurses := true, apart := false, narrowed := true }
def SaveOnlyUptoSaid : Prop := saveOnlyUptoRow.holds Try.pinned (OpenSpec.upto saveOnlySpec)

/-- 'tourkeep3.SaveBack', WHERE WHAT IT READS IS OF BULK AT MOST 1048576: true; the input reads as it did. -/
def saveBackUptoRow : OpenClaim := { program := "ytemlkbcfplkniaa", sum := "0004a82201113fd0289899d16c47e904b635bb4901254f707a7b8e8bf1211fa1", func := "tourney/tourkeep3.SaveBack", spec := "saveBack", inPlace := ["internal/bytealg.IndexByte"], unfollowed := true, recurses := true, apart := false, narrowed := true }
def SaveBackUptoSaid : Prop := saveBackUptoRow.holds Try.pinned (OpenSpec.upto saveBackSpec)

/-- 'tourtop.TopPackedWorld', WHERE WHAT IT READS IS OF BULK AT MOST 1048576: true; the input reads as it did. -/
def topPackedWorldUptoRow : OpenClaim := { program := "ytemlkbcfplkniaa", sum := "0004a82201113fd0289899d16c47e904b635bb4901254f707a7b8e8bf1211fa1", func := "tourney/tourtop.TopPackedWorld", spec := "topPackedWorld", inPlace := ["slices.overlaps[tourney/api.Item]"], unfollowed := true, recurses := true, apart := false, narrowed := true }
def TopPackedWorldUptoSaid : Prop := topPackedWorldUptoRow.holds Try.pinned (OpenSpec.upto topPackedWorldSpec)

/-- 'tourkeep3.SaveFlips', WHERE WHAT IT READS IS OF BULK AT MOST 1048576: true; the input reads as it did. -/
def saveFlipsUptoRow : OpenClaim := { program := "ytemlkbcfplkniaa", sum := "0004a82201113fd0289899d16c47e904b635bb4901254f707a7b8e8bf1211fa1", func := "tourney/tourkeep3.SaveFlips", spec := "saveFlips", inPlace := ["internal/bytealg.IndexByte"], unfollowed := true, recurses := true, apart := false, narrowed := true }
def SaveFlipsUptoSaid : Prop := saveFlipsUptoRow.holds Try.pinned (OpenSpec.upto saveFlipsSpec)

/-- 'tourkeep3.ArchOnce', WHERE WHAT IT READS IS OF BULK AT MOST 1048576: true; the input reads as it did. -/
def archOnceUptoRow : OpenClaim := { program := "ytemlkbcfplkniaa", sum := "0004a82201113fd0289899d16c47e904b635bb4901254f707a7b8e8bf1211fa1", func := "tourney/tourkeep3.ArchOnce", spec := "archOnce", inPlace := ["slices.overlaps[*tourney/arch.table]"], unfollowed := true, recurses := true, apart := false, narrowed := true }
def ArchOnceUptoSaid : Prop := archOnceUptoRow.holds Try.pinned (OpenSpec.upto archOnceSpec)

/-- 'tourtop.TopDigestPlace', WHERE WHAT IT READS IS OF BULK AT MOST 1048576: true; the input reads as it did. -/
def topDigestPlaceUptoRow : OpenClaim := { program := "ytemlkbcfplkniaa", sum := "0004a82201113fd0289899d16c47e904b635bb4901254f707a7b8e8bf1211fa1", func := "tourney/tourtop.TopDigestPlace", spec := "topDigestPlace", inPlace := ["slices.overlaps[tourney/api.Item]"], unfollowed := true, recurses := true, apart := false, narrowed := true }
def TopDigestPlaceUptoSaid : Prop := topDigestPlaceUptoRow.holds Try.pinned (OpenSpec.upto topDigestPlaceSpec)

/-- 'tourkeep3.SystemKeeps', WHERE WHAT IT READS IS OF BULK AT MOST 1048576: true; the input reads as it did. -/
def systemKeepsUptoRow : OpenClaim := { program := "ytemlkbcfplkniaa", sum := "0004a82201113fd0289899d16c47e904b635bb4901254f707a7b8e8bf1211fa1", func := "tourney/tourkeep3.SystemKeeps", spec := "systemKeeps", unfollowed := true, recurses := true, named := ["math/bits.divideError", "math/bits.overflowError"], apart := false, narrowed := true }
def SystemKeepsUptoSaid : Prop := systemKeepsUptoRow.holds Try.pinned (OpenSpec.upto systemKeepsSpec)

end Rows
end Go.Proofs.Ytemlkbcfplkniaa
