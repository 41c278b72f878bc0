/- The machine of values: what simp unfolds when it runs code. -/
import Derived.Test.YtmkgechjbbekmaaAm17
namespace Go.Proofs.Ytmkgechjbbekmaa.Am
open Go Go.RowKit
/-- A fact that simp doesn't look into. -/
structure Asd (p : Prop) : Prop where
  out : p
abbrev kI (x : Int) : PV := .k (.int .i64 x)
abbrev kB (b : Bool) : PV := .k (.bool b)
abbrev kS (s : ByteArray) : PV := .k (.string s)
abbrev kNil : PV := .k (.slice none 0 0)
/-- A slice of ints. -/
def slI (l : List Int) : PV := .sl 1 (l.map fun x => [kI x])
attribute [simp] brk_some brk_none brkB_true brkB_false brkB_none wantedD gOps_nil gOps_cons condB gC_skip gC_seq gC_region gC_draw gC_cond gC_block gC_exit gC_ret gC_loop gC_rangeFunc entry entryT wantedA oneOp pureVal memVal storeVal opd opds opdI opdIO look constPV scal St.put dstOk binK builtinPV lenPV indexAtPV fieldAtPV loadPV partPV slicePV box pcells PV.isTup splice RetOk resPV resOne PV.lt ltL PV.ren renL EntT EntB appendPV appendCore srcPV partsPV buildPV fillPV PV.one PV.immB PV.frz frzL St.frz calleePV thF merge setAll
attribute [simp ↓] thenA_normal thenA_ret thenA_exit inBlockA_normal inBlockA_ret inBlockA_exit
end Go.Proofs.Ytmkgechjbbekmaa.Am
