/-
  No cell of these rows narrows 'for every input' (looked for: loops, veiled, ifaces, maps, wideKeys, modest, calm, conditions, laid).
  DERIVED. THE GIVEN ROWS OF THIS SEAT. 7 by the template 'for every input the law returns true; each argument reads behind the call as it read before'; 0 by the template 'total and deterministic' (their statements: YtnpdfmpjjomhcaaGreatTotals.lean).
  GIVEN WITH THE SEED: the statements are not yours to turn. If you find one false, say at which input.
  Laid BY PROGRAM, IN A SANDBOX (cutbox-rows.mjs): the forced cells as the released guide's own fill.sh prints them over the translation 55d239a7755ea48f… (all of the seat's roots in one cut). By AI agents, Wed Nov 11 2026. No macro, syntax, notation, axiom, sorry.
-/
import Derived.Test.YtnpdfmpjjomhcaaGreatChecked
import GoSem.Claim
import GoSem.ClaimJoined
import GoSem.ClaimMapViews
import Derived.JoinedTies
import Derived.KernelRfl
namespace Go.Proofs.YtnpdfmpjjomhcaaGreat
/- THE CELL 'sum', in the pinned program and in every row, IS THE sha256 OF THE DUMP (.gsa) THAT YtnpdfmpjjomhcaaGreatProg.lean LOADS. Nothing in Lean hashes anything: it is a label: what it is worth is what the hold of that sum in a sandbox is worth. -/
noncomputable def Tryz.pinned : Pinned := { name := "ytnpdfmpjjomhcaagreat", sum := "55d239a7755ea48f122c15e09bbfed99d525dc638e5870a1c831394d307f3423", checked := Tryz.checked }
namespace Rows
def none {H : Type} : Left H := { results := [], args := [] }

/-- 'biscottilaw20.EventBytes': WHATEVER THE INPUT: true; the input reads as it did. -/
def eventBytesSpec : ChangeSpec := { name := "eventBytes", fn := fun _ => fun
  | [d] => { results := [.lit (.bool true)], args := [d] }
  | _ => none }
def eventBytesRow : OpenClaim := { program := "ytnpdfmpjjomhcaagreat", sum := "55d239a7755ea48f122c15e09bbfed99d525dc638e5870a1c831394d307f3423", func := "biscotti/biscottilaw20.EventBytes", spec := "eventBytes", unfollowed := true, recurses := true, apart := false }
def EventBytesSaid : Prop := eventBytesRow.holds Tryz.pinned (OpenSpec.ofChange eventBytesSpec)

/-- ITS FALSE NEIGHBOUR: 'it returns false'. Refute it at one input. -/
def eventBytesWrong : ChangeSpec := { name := "eventBytes", fn := fun _ => fun
  | [d] => { results := [.lit (.bool false)], args := [d] }
  | _ => none }
def EventBytesWrongFalsely : Prop := eventBytesRow.holds Tryz.pinned (OpenSpec.ofChange eventBytesWrong)

/-- 'biscottilaw31.RecordCuts': WHATEVER THE INPUT: true; the input reads as it did. -/
def recordCutsSpec : ChangeSpec := { name := "recordCuts", fn := fun _ => fun
  | [d1, d2] => { results := [.lit (.bool true)], args := [d1, d2] }
  | _ => none }
def recordCutsRow : OpenClaim := { program := "ytnpdfmpjjomhcaagreat", sum := "55d239a7755ea48f122c15e09bbfed99d525dc638e5870a1c831394d307f3423", func := "biscotti/biscottilaw31.RecordCuts", spec := "recordCuts", unfollowed := true, recurses := true, apart := false }
def RecordCutsSaid : Prop := recordCutsRow.holds Tryz.pinned (OpenSpec.ofChange recordCutsSpec)

/-- ITS FALSE NEIGHBOUR: 'it returns false'. Refute it at one input. -/
def recordCutsWrong : ChangeSpec := { name := "recordCuts", fn := fun _ => fun
  | [d1, d2] => { results := [.lit (.bool false)], args := [d1, d2] }
  | _ => none }
def RecordCutsWrongFalsely : Prop := recordCutsRow.holds Tryz.pinned (OpenSpec.ofChange recordCutsWrong)

/-- 'biscottilaw31.RecordSpoilt': WHATEVER THE INPUT: true; the input reads as it did. -/
def recordSpoiltSpec : ChangeSpec := { name := "recordSpoilt", fn := fun _ => fun
  | [d1, d2, d3] => { results := [.lit (.bool true)], args := [d1, d2, d3] }
  | _ => none }
def recordSpoiltRow : OpenClaim := { program := "ytnpdfmpjjomhcaagreat", sum := "55d239a7755ea48f122c15e09bbfed99d525dc638e5870a1c831394d307f3423", func := "biscotti/biscottilaw31.RecordSpoilt", spec := "recordSpoilt", unfollowed := true, recurses := true, apart := false }
def RecordSpoiltSaid : Prop := recordSpoiltRow.holds Tryz.pinned (OpenSpec.ofChange recordSpoiltSpec)

/-- ITS FALSE NEIGHBOUR: 'it returns false'. Refute it at one input. -/
def recordSpoiltWrong : ChangeSpec := { name := "recordSpoilt", fn := fun _ => fun
  | [d1, d2, d3] => { results := [.lit (.bool false)], args := [d1, d2, d3] }
  | _ => none }
def RecordSpoiltWrongFalsely : Prop := recordSpoiltRow.holds Tryz.pinned (OpenSpec.ofChange recordSpoiltWrong)

/-- 'biscottilaw31.RecordLines': WHATEVER THE INPUT: true; the input reads as it did. -/
def recordLinesSpec : ChangeSpec := { name := "recordLines", fn := fun _ => fun
  | [d1, d2, d3] => { results := [.lit (.bool true)], args := [d1, d2, d3] }
  | _ => none }
def recordLinesRow : OpenClaim := { program := "ytnpdfmpjjomhcaagreat", sum := "55d239a7755ea48f122c15e09bbfed99d525dc638e5870a1c831394d307f3423", func := "biscotti/biscottilaw31.RecordLines", spec := "recordLines", unfollowed := true, recurses := true, apart := false }
def RecordLinesSaid : Prop := recordLinesRow.holds Tryz.pinned (OpenSpec.ofChange recordLinesSpec)

/-- ITS FALSE NEIGHBOUR: 'it returns false'. Refute it at one input. -/
def recordLinesWrong : ChangeSpec := { name := "recordLines", fn := fun _ => fun
  | [d1, d2, d3] => { results := [.lit (.bool false)], args := [d1, d2, d3] }
  | _ => none }
def RecordLinesWrongFalsely : Prop := recordLinesRow.holds Tryz.pinned (OpenSpec.ofChange recordLinesWrong)

/-- 'biscottilaw35.MsgBytes': WHATEVER THE INPUT: true; the input reads as it did. -/
def msgBytesSpec : ChangeSpec := { name := "msgBytes", fn := fun _ => fun
  | [d] => { results := [.lit (.bool true)], args := [d] }
  | _ => none }
def msgBytesRow : OpenClaim := { program := "ytnpdfmpjjomhcaagreat", sum := "55d239a7755ea48f122c15e09bbfed99d525dc638e5870a1c831394d307f3423", func := "biscotti/biscottilaw35.MsgBytes", spec := "msgBytes", unfollowed := true, recurses := true, apart := false }
def MsgBytesSaid : Prop := msgBytesRow.holds Tryz.pinned (OpenSpec.ofChange msgBytesSpec)

/-- ITS FALSE NEIGHBOUR: 'it returns false'. Refute it at one input. -/
def msgBytesWrong : ChangeSpec := { name := "msgBytes", fn := fun _ => fun
  | [d] => { results := [.lit (.bool false)], args := [d] }
  | _ => none }
def MsgBytesWrongFalsely : Prop := msgBytesRow.holds Tryz.pinned (OpenSpec.ofChange msgBytesWrong)

/-- 'biscottilaw35.MsgParses': WHATEVER THE INPUT: true; the input reads as it did. -/
def msgParsesSpec : ChangeSpec := { name := "msgParses", fn := fun _ => fun
  | [d] => { results := [.lit (.bool true)], args := [d] }
  | _ => none }
def msgParsesRow : OpenClaim := { program := "ytnpdfmpjjomhcaagreat", sum := "55d239a7755ea48f122c15e09bbfed99d525dc638e5870a1c831394d307f3423", func := "biscotti/biscottilaw35.MsgParses", spec := "msgParses", unfollowed := true, recurses := true, apart := false }
def MsgParsesSaid : Prop := msgParsesRow.holds Tryz.pinned (OpenSpec.ofChange msgParsesSpec)

/-- ITS FALSE NEIGHBOUR: 'it returns false'. Refute it at one input. -/
def msgParsesWrong : ChangeSpec := { name := "msgParses", fn := fun _ => fun
  | [d] => { results := [.lit (.bool false)], args := [d] }
  | _ => none }
def MsgParsesWrongFalsely : Prop := msgParsesRow.holds Tryz.pinned (OpenSpec.ofChange msgParsesWrong)

/-- 'biscottilaw35.MsgSame': WHATEVER THE INPUT: true; the input reads as it did. -/
def msgSameSpec : ChangeSpec := { name := "msgSame", fn := fun _ => fun
  | [d1, d2] => { results := [.lit (.bool true)], args := [d1, d2] }
  | _ => none }
def msgSameRow : OpenClaim := { program := "ytnpdfmpjjomhcaagreat", sum := "55d239a7755ea48f122c15e09bbfed99d525dc638e5870a1c831394d307f3423", func := "biscotti/biscottilaw35.MsgSame", spec := "msgSame", unfollowed := true, recurses := true, apart := false }
def MsgSameSaid : Prop := msgSameRow.holds Tryz.pinned (OpenSpec.ofChange msgSameSpec)

/-- ITS FALSE NEIGHBOUR: 'it returns false'. Refute it at one input. -/
def msgSameWrong : ChangeSpec := { name := "msgSame", fn := fun _ => fun
  | [d1, d2] => { results := [.lit (.bool false)], args := [d1, d2] }
  | _ => none }
def MsgSameWrongFalsely : Prop := msgSameRow.holds Tryz.pinned (OpenSpec.ofChange msgSameWrong)

/- THE SECOND FORM. 'bulk': how many values and letters a reading holds, each counted each time it is reached (what is shared counts as often as it is met; a slice's spare places count too). A statement '..UptoSaid' is the law's where the arguments, and the package variables that the reading takes, are together of bulk at most 1048576: NARROWER than '..Said'. Prove '..Said' where nothing that the law and all that it calls make is longer than what came in: it says more and counts as full. Else prove '..UptoSaid'. A law counts once. -/
mutual
def uptoBulk {H : Type} : DataW H → Nat
  | .lit (.string bytes) => bytes.length + 1
  | .lit _ => 1
  | .nil => 1
  | .ptr d => uptoBulk d + 1
  | .slice elems spare => uptoBulkAll elems + uptoBulkAll spare + 1
  | .agg parts => uptoBulkAll parts + 1
  | .iface _ d => uptoBulk d + 1
  | .map entries => uptoBulkEntries entries + 1
  | .held _ => 1
def uptoBulkAll {H : Type} : List (DataW H) → Nat
  | [] => 0
  | d :: r => uptoBulk d + uptoBulkAll r
def uptoBulkEntries {H : Type} : List (Lit × DataW H) → Nat
  | [] => 0
  | x :: r => uptoBulkEntry x + uptoBulkEntries r
def uptoBulkEntry {H : Type} : Lit × DataW H → Nat
  | (.string bytes, d) => bytes.length + uptoBulk d + 1
  | (_, d) => uptoBulk d + 1
 end
def uptoSmall : (H : Type) → List (DataW H) → Bool := fun _ ds => decide (uptoBulkAll ds ≤ 1048576)
def OpenSpec.upto (s : _root_.Go.ChangeSpec) : _root_.Go.OpenSpec := { _root_.Go.OpenSpec.ofChange s with cond := some uptoSmall }

/-- 'biscottilaw20.EventBytes', WHERE WHAT IT READS IS OF BULK AT MOST 1048576: true; the input reads as it did. -/
def eventBytesUptoRow : OpenClaim := { program := "ytnpdfmpjjomhcaagreat", sum := "55d239a7755ea48f122c15e09bbfed99d525dc638e5870a1c831394d307f3423", func := "biscotti/biscottilaw20.EventBytes", spec := "eventBytes", unfollowed := true, recurses := true, apart := false, narrowed := true }
def EventBytesUptoSaid : Prop := eventBytesUptoRow.holds Tryz.pinned (OpenSpec.upto eventBytesSpec)

/-- 'biscottilaw31.RecordCuts', WHERE WHAT IT READS IS OF BULK AT MOST 1048576: true; the input reads as it did. -/
def recordCutsUptoRow : OpenClaim := { program := "ytnpdfmpjjomhcaagreat", sum := "55d239a7755ea48f122c15e09bbfed99d525dc638e5870a1c831394d307f3423", func := "biscotti/biscottilaw31.RecordCuts", spec := "recordCuts", unfollowed := true, recurses := true, apart := false, narrowed := true }
def RecordCutsUptoSaid : Prop := recordCutsUptoRow.holds Tryz.pinned (OpenSpec.upto recordCutsSpec)

/-- 'biscottilaw31.RecordSpoilt', WHERE WHAT IT READS IS OF BULK AT MOST 1048576: true; the input reads as it did. -/
def recordSpoiltUptoRow : OpenClaim := { program := "ytnpdfmpjjomhcaagreat", sum := "55d239a7755ea48f122c15e09bbfed99d525dc638e5870a1c831394d307f3423", func := "biscotti/biscottilaw31.RecordSpoilt", spec := "recordSpoilt", unfollowed := true, recurses := true, apart := false, narrowed := true }
def RecordSpoiltUptoSaid : Prop := recordSpoiltUptoRow.holds Tryz.pinned (OpenSpec.upto recordSpoiltSpec)

/-- 'biscottilaw31.RecordLines', WHERE WHAT IT READS IS OF BULK AT MOST 1048576: true; the input reads as it did. -/
def recordLinesUptoRow : OpenClaim := { program := "ytnpdfmpjjomhcaagreat", sum := "55d239a7755ea48f122c15e09bbfed99d525dc638e5870a1c831394d307f3423", func := "biscotti/biscottilaw31.RecordLines", spec := "recordLines", unfollowed := true, recurses := true, apart := false, narrowed := true }
def RecordLinesUptoSaid : Prop := recordLinesUptoRow.holds Tryz.pinned (OpenSpec.upto recordLinesSpec)

/-- 'biscottilaw35.MsgBytes', WHERE WHAT IT READS IS OF BULK AT MOST 1048576: true; the input reads as it did. -/
def msgBytesUptoRow : OpenClaim := { program := "ytnpdfmpjjomhcaagreat", sum := "55d239a7755ea48f122c15e09bbfed99d525dc638e5870a1c831394d307f3423", func := "biscotti/biscottilaw35.MsgBytes", spec := "msgBytes", unfollowed := true, recurses := true, apart := false, narrowed := true }
def MsgBytesUptoSaid : Prop := msgBytesUptoRow.holds Tryz.pinned (OpenSpec.upto msgBytesSpec)

/-- 'biscottilaw35.MsgParses', WHERE WHAT IT READS IS OF BULK AT MOST 1048576: true; the input reads as it did. -/
def msgParsesUptoRow : OpenClaim := { program := "ytnpdfmpjjomhcaagreat", sum := "55d239a7755ea48f122c15e09bbfed99d525dc638e5870a1c831394d307f3423", func := "biscotti/biscottilaw35.MsgParses", spec := "msgParses", unfollowed := true, recurses := true, apart := false, narrowed := true }
def MsgParsesUptoSaid : Prop := msgParsesUptoRow.holds Tryz.pinned (OpenSpec.upto msgParsesSpec)

/-- 'biscottilaw35.MsgSame', WHERE WHAT IT READS IS OF BULK AT MOST 1048576: true; the input reads as it did. -/
def msgSameUptoRow : OpenClaim := { program := "ytnpdfmpjjomhcaagreat", sum := "55d239a7755ea48f122c15e09bbfed99d525dc638e5870a1c831394d307f3423", func := "biscotti/biscottilaw35.MsgSame", spec := "msgSame", unfollowed := true, recurses := true, apart := false, narrowed := true }
def MsgSameUptoSaid : Prop := msgSameUptoRow.holds Tryz.pinned (OpenSpec.upto msgSameSpec)

end Rows
end Go.Proofs.YtnpdfmpjjomhcaaGreat
