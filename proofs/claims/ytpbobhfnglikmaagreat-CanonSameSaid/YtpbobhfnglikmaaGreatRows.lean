/-
  No cell of these rows narrows 'for every input' (looked for: loops, veiled, ifaces, maps, wideKeys, modest, calm, conditions, laid).
  DERIVED. THE GIVEN ROWS OF THIS SEAT. 10 by the template 'for every input the law returns true; each argument reads behind the call as it read before'; 0 by the template 'total and deterministic' (their statements: YtpbobhfnglikmaaGreatTotals.lean).
  GIVEN WITH THE SEED: the statements are not yours to turn. If you find one false, say at which input.
  Laid BY PROGRAM, IN A SANDBOX (cutbox-rows.mjs): the forced cells as the released guide's own fill.sh prints them over the translation 90bfe88118b21cc9… (all of the seat's roots in one cut). By AI agents, Wed Nov 11 2026. No macro, syntax, notation, axiom, sorry.
-/
import Derived.Test.YtpbobhfnglikmaaGreatChecked
import GoSem.Claim
import GoSem.ClaimJoined
import GoSem.ClaimMapViews
import Derived.JoinedTies
import Derived.KernelRfl
namespace Go.Proofs.YtpbobhfnglikmaaGreat
/- THE CELL 'sum', in the pinned program and in every row, IS THE sha256 OF THE DUMP (.gsa) THAT YtpbobhfnglikmaaGreatProg.lean LOADS. Nothing in Lean hashes anything: it is a label: what it is worth is what the hold of that sum in a sandbox is worth. -/
noncomputable def Tryz.pinned : Pinned := { name := "ytpbobhfnglikmaagreat", sum := "90bfe88118b21cc9341bbeffaf0038c3bd967912352ceaa833c1b9a4516d1cb3", checked := Tryz.checked }
namespace Rows
def none {H : Type} : Left H := { results := [], args := [] }

/-- 'biscottilaw21.OrmapPlays': WHATEVER THE INPUT: true; the input reads as it did. -/
def ormapPlaysSpec : ChangeSpec := { name := "ormapPlays", fn := fun _ => fun
  | [d] => { results := [.lit (.bool true)], args := [d] }
  | _ => none }
def ormapPlaysRow : OpenClaim := { program := "ytpbobhfnglikmaagreat", sum := "90bfe88118b21cc9341bbeffaf0038c3bd967912352ceaa833c1b9a4516d1cb3", func := "biscotti/biscottilaw21.OrmapPlays", spec := "ormapPlays", inPlace := ["internal/bytealg.abigen_runtime_cmpstring"], unfollowed := true, recurses := true, plainKeys := false, apart := false }
def OrmapPlaysSaid : Prop := ormapPlaysRow.holds Tryz.pinned (OpenSpec.ofChange ormapPlaysSpec)

/-- ITS FALSE NEIGHBOUR: 'it returns false'. Refute it at one input. -/
def ormapPlaysWrong : ChangeSpec := { name := "ormapPlays", fn := fun _ => fun
  | [d] => { results := [.lit (.bool false)], args := [d] }
  | _ => none }
def OrmapPlaysWrongFalsely : Prop := ormapPlaysRow.holds Tryz.pinned (OpenSpec.ofChange ormapPlaysWrong)

/-- 'biscottilaw23.CompactKeeps': WHATEVER THE INPUT: true; the input reads as it did. -/
def compactKeepsSpec : ChangeSpec := { name := "compactKeeps", fn := fun _ => fun
  | [d1, d2, d3] => { results := [.lit (.bool true)], args := [d1, d2, d3] }
  | _ => none }
def compactKeepsRow : OpenClaim := { program := "ytpbobhfnglikmaagreat", sum := "90bfe88118b21cc9341bbeffaf0038c3bd967912352ceaa833c1b9a4516d1cb3", func := "biscotti/biscottilaw23.CompactKeeps", spec := "compactKeeps", unfollowed := true, recurses := true, plainKeys := false, apart := false }
def CompactKeepsSaid : Prop := compactKeepsRow.holds Tryz.pinned (OpenSpec.ofChange compactKeepsSpec)

/-- ITS FALSE NEIGHBOUR: 'it returns false'. Refute it at one input. -/
def compactKeepsWrong : ChangeSpec := { name := "compactKeeps", fn := fun _ => fun
  | [d1, d2, d3] => { results := [.lit (.bool false)], args := [d1, d2, d3] }
  | _ => none }
def CompactKeepsWrongFalsely : Prop := compactKeepsRow.holds Tryz.pinned (OpenSpec.ofChange compactKeepsWrong)

/-- 'biscottilaw23.CompactAll': WHATEVER THE INPUT: true; the input reads as it did. -/
def compactAllSpec : ChangeSpec := { name := "compactAll", fn := fun _ => fun
  | [d] => { results := [.lit (.bool true)], args := [d] }
  | _ => none }
def compactAllRow : OpenClaim := { program := "ytpbobhfnglikmaagreat", sum := "90bfe88118b21cc9341bbeffaf0038c3bd967912352ceaa833c1b9a4516d1cb3", func := "biscotti/biscottilaw23.CompactAll", spec := "compactAll", unfollowed := true, recurses := true, plainKeys := false, apart := false }
def CompactAllSaid : Prop := compactAllRow.holds Tryz.pinned (OpenSpec.ofChange compactAllSpec)

/-- ITS FALSE NEIGHBOUR: 'it returns false'. Refute it at one input. -/
def compactAllWrong : ChangeSpec := { name := "compactAll", fn := fun _ => fun
  | [d] => { results := [.lit (.bool false)], args := [d] }
  | _ => none }
def CompactAllWrongFalsely : Prop := compactAllRow.holds Tryz.pinned (OpenSpec.ofChange compactAllWrong)

/-- 'biscottilaw23.CompactSettled': WHATEVER THE INPUT: true; the input reads as it did. -/
def compactSettledSpec : ChangeSpec := { name := "compactSettled", fn := fun _ => fun
  | [d1, d2, d3] => { results := [.lit (.bool true)], args := [d1, d2, d3] }
  | _ => none }
def compactSettledRow : OpenClaim := { program := "ytpbobhfnglikmaagreat", sum := "90bfe88118b21cc9341bbeffaf0038c3bd967912352ceaa833c1b9a4516d1cb3", func := "biscotti/biscottilaw23.CompactSettled", spec := "compactSettled", unfollowed := true, recurses := true, plainKeys := false, apart := false }
def CompactSettledSaid : Prop := compactSettledRow.holds Tryz.pinned (OpenSpec.ofChange compactSettledSpec)

/-- ITS FALSE NEIGHBOUR: 'it returns false'. Refute it at one input. -/
def compactSettledWrong : ChangeSpec := { name := "compactSettled", fn := fun _ => fun
  | [d1, d2, d3] => { results := [.lit (.bool false)], args := [d1, d2, d3] }
  | _ => none }
def CompactSettledWrongFalsely : Prop := compactSettledRow.holds Tryz.pinned (OpenSpec.ofChange compactSettledWrong)

/-- 'biscottilaw22.DeltaJoins': WHATEVER THE INPUT: true; the input reads as it did. -/
def deltaJoinsSpec : ChangeSpec := { name := "deltaJoins", fn := fun _ => fun
  | [d1, d2, d3] => { results := [.lit (.bool true)], args := [d1, d2, d3] }
  | _ => none }
def deltaJoinsRow : OpenClaim := { program := "ytpbobhfnglikmaagreat", sum := "90bfe88118b21cc9341bbeffaf0038c3bd967912352ceaa833c1b9a4516d1cb3", func := "biscotti/biscottilaw22.DeltaJoins", spec := "deltaJoins", inPlace := ["internal/bytealg.abigen_runtime_cmpstring"], unfollowed := true, recurses := true, plainKeys := false, apart := false }
def DeltaJoinsSaid : Prop := deltaJoinsRow.holds Tryz.pinned (OpenSpec.ofChange deltaJoinsSpec)

/-- ITS FALSE NEIGHBOUR: 'it returns false'. Refute it at one input. -/
def deltaJoinsWrong : ChangeSpec := { name := "deltaJoins", fn := fun _ => fun
  | [d1, d2, d3] => { results := [.lit (.bool false)], args := [d1, d2, d3] }
  | _ => none }
def DeltaJoinsWrongFalsely : Prop := deltaJoinsRow.holds Tryz.pinned (OpenSpec.ofChange deltaJoinsWrong)

/-- 'biscottilaw24.CanonMost': WHATEVER THE INPUT: true; the input reads as it did. -/
def canonMostSpec : ChangeSpec := { name := "canonMost", fn := fun _ => fun
  | [d1, d2, d3] => { results := [.lit (.bool true)], args := [d1, d2, d3] }
  | _ => none }
def canonMostRow : OpenClaim := { program := "ytpbobhfnglikmaagreat", sum := "90bfe88118b21cc9341bbeffaf0038c3bd967912352ceaa833c1b9a4516d1cb3", func := "biscotti/biscottilaw24.CanonMost", spec := "canonMost", unfollowed := true, recurses := true, plainKeys := false, apart := false }
def CanonMostSaid : Prop := canonMostRow.holds Tryz.pinned (OpenSpec.ofChange canonMostSpec)

/-- ITS FALSE NEIGHBOUR: 'it returns false'. Refute it at one input. -/
def canonMostWrong : ChangeSpec := { name := "canonMost", fn := fun _ => fun
  | [d1, d2, d3] => { results := [.lit (.bool false)], args := [d1, d2, d3] }
  | _ => none }
def CanonMostWrongFalsely : Prop := canonMostRow.holds Tryz.pinned (OpenSpec.ofChange canonMostWrong)

/-- 'biscottilaw23.CompactDoes': WHATEVER THE INPUT: true; the input reads as it did. -/
def compactDoesSpec : ChangeSpec := { name := "compactDoes", fn := fun _ => fun
  | [d1, d2] => { results := [.lit (.bool true)], args := [d1, d2] }
  | _ => none }
def compactDoesRow : OpenClaim := { program := "ytpbobhfnglikmaagreat", sum := "90bfe88118b21cc9341bbeffaf0038c3bd967912352ceaa833c1b9a4516d1cb3", func := "biscotti/biscottilaw23.CompactDoes", spec := "compactDoes", inPlace := ["internal/bytealg.abigen_runtime_cmpstring"], unfollowed := true, recurses := true, plainKeys := false, apart := false }
def CompactDoesSaid : Prop := compactDoesRow.holds Tryz.pinned (OpenSpec.ofChange compactDoesSpec)

/-- ITS FALSE NEIGHBOUR: 'it returns false'. Refute it at one input. -/
def compactDoesWrong : ChangeSpec := { name := "compactDoes", fn := fun _ => fun
  | [d1, d2] => { results := [.lit (.bool false)], args := [d1, d2] }
  | _ => none }
def CompactDoesWrongFalsely : Prop := compactDoesRow.holds Tryz.pinned (OpenSpec.ofChange compactDoesWrong)

/-- 'biscottilaw24.CanonSame': WHATEVER THE INPUT: true; the input reads as it did. -/
def canonSameSpec : ChangeSpec := { name := "canonSame", fn := fun _ => fun
  | [d1, d2, d3] => { results := [.lit (.bool true)], args := [d1, d2, d3] }
  | _ => none }
def canonSameRow : OpenClaim := { program := "ytpbobhfnglikmaagreat", sum := "90bfe88118b21cc9341bbeffaf0038c3bd967912352ceaa833c1b9a4516d1cb3", func := "biscotti/biscottilaw24.CanonSame", spec := "canonSame", unfollowed := true, recurses := true, plainKeys := false, apart := false }
def CanonSameSaid : Prop := canonSameRow.holds Tryz.pinned (OpenSpec.ofChange canonSameSpec)

/-- ITS FALSE NEIGHBOUR: 'it returns false'. Refute it at one input. -/
def canonSameWrong : ChangeSpec := { name := "canonSame", fn := fun _ => fun
  | [d1, d2, d3] => { results := [.lit (.bool false)], args := [d1, d2, d3] }
  | _ => none }
def CanonSameWrongFalsely : Prop := canonSameRow.holds Tryz.pinned (OpenSpec.ofChange canonSameWrong)

/-- 'biscottilaw24.CanonLoads': WHATEVER THE INPUT: true; the input reads as it did. -/
def canonLoadsSpec : ChangeSpec := { name := "canonLoads", fn := fun _ => fun
  | [d] => { results := [.lit (.bool true)], args := [d] }
  | _ => none }
def canonLoadsRow : OpenClaim := { program := "ytpbobhfnglikmaagreat", sum := "90bfe88118b21cc9341bbeffaf0038c3bd967912352ceaa833c1b9a4516d1cb3", func := "biscotti/biscottilaw24.CanonLoads", spec := "canonLoads", inPlace := ["internal/bytealg.abigen_runtime_cmpstring"], unfollowed := true, recurses := true, plainKeys := false, apart := false }
def CanonLoadsSaid : Prop := canonLoadsRow.holds Tryz.pinned (OpenSpec.ofChange canonLoadsSpec)

/-- ITS FALSE NEIGHBOUR: 'it returns false'. Refute it at one input. -/
def canonLoadsWrong : ChangeSpec := { name := "canonLoads", fn := fun _ => fun
  | [d] => { results := [.lit (.bool false)], args := [d] }
  | _ => none }
def CanonLoadsWrongFalsely : Prop := canonLoadsRow.holds Tryz.pinned (OpenSpec.ofChange canonLoadsWrong)

/-- 'biscottilaw24.CanonBytes': WHATEVER THE INPUT: true; the input reads as it did. -/
def canonBytesSpec : ChangeSpec := { name := "canonBytes", fn := fun _ => fun
  | [d] => { results := [.lit (.bool true)], args := [d] }
  | _ => none }
def canonBytesRow : OpenClaim := { program := "ytpbobhfnglikmaagreat", sum := "90bfe88118b21cc9341bbeffaf0038c3bd967912352ceaa833c1b9a4516d1cb3", func := "biscotti/biscottilaw24.CanonBytes", spec := "canonBytes", inPlace := ["internal/bytealg.abigen_runtime_cmpstring"], unfollowed := true, recurses := true, plainKeys := false, apart := false }
def CanonBytesSaid : Prop := canonBytesRow.holds Tryz.pinned (OpenSpec.ofChange canonBytesSpec)

/-- ITS FALSE NEIGHBOUR: 'it returns false'. Refute it at one input. -/
def canonBytesWrong : ChangeSpec := { name := "canonBytes", fn := fun _ => fun
  | [d] => { results := [.lit (.bool false)], args := [d] }
  | _ => none }
def CanonBytesWrongFalsely : Prop := canonBytesRow.holds Tryz.pinned (OpenSpec.ofChange canonBytesWrong)

/- THE SECOND FORM. 'bulk': how many values and letters a reading holds, each counted each time it is reached (what is shared counts as often as it is met; a slice's spare places count too). A statement '..UptoSaid' is the law's where the arguments, and the package variables that the reading takes, are together of bulk at most 1048576: NARROWER than '..Said'. Prove '..Said' where nothing that the law and all that it calls make is longer than what came in: it says more and counts as full. Else prove '..UptoSaid'. A law counts once. -/
mutual
def uptoBulk {H : Type} : DataW H → Nat
  | .lit (.string bytes) => bytes.length + 1
  | .lit _ => 1
  | .nil => 1
  | .ptr d => uptoBulk d + 1
  | .slice elems spare => uptoBulkAll elems + uptoBulkAll spare + 1
  | .agg parts => uptoBulkAll parts + 1
  | .iface _ d => uptoBulk d + 1
  | .map entries => uptoBulkEntries entries + 1
  | .held _ => 1
def uptoBulkAll {H : Type} : List (DataW H) → Nat
  | [] => 0
  | d :: r => uptoBulk d + uptoBulkAll r
def uptoBulkEntries {H : Type} : List (Lit × DataW H) → Nat
  | [] => 0
  | x :: r => uptoBulkEntry x + uptoBulkEntries r
def uptoBulkEntry {H : Type} : Lit × DataW H → Nat
  | (.string bytes, d) => bytes.length + uptoBulk d + 1
  | (_, d) => uptoBulk d + 1
 end
def uptoSmall : (H : Type) → List (DataW H) → Bool := fun _ ds => decide (uptoBulkAll ds ≤ 1048576)
def OpenSpec.upto (s : _root_.Go.ChangeSpec) : _root_.Go.OpenSpec := { _root_.Go.OpenSpec.ofChange s with cond := some uptoSmall }

/-- 'biscottilaw21.OrmapPlays', WHERE WHAT IT READS IS OF BULK AT MOST 1048576: true; the input reads as it did. -/
def ormapPlaysUptoRow : OpenClaim := { program := "ytpbobhfnglikmaagreat", sum := "90bfe88118b21cc9341bbeffaf0038c3bd967912352ceaa833c1b9a4516d1cb3", func := "biscotti/biscottilaw21.OrmapPlays", spec := "ormapPlays", inPlace := ["internal/bytealg.abigen_runtime_cmpstring"], unfollowed := true, recurses := true, plainKeys := false, apart := false, narrowed := true }
def OrmapPlaysUptoSaid : Prop := ormapPlaysUptoRow.holds Tryz.pinned (OpenSpec.upto ormapPlaysSpec)

/-- 'biscottilaw23.CompactKeeps', WHERE WHAT IT READS IS OF BULK AT MOST 1048576: true; the input reads as it did. -/
def compactKeepsUptoRow : OpenClaim := { program := "ytpbobhfnglikmaagreat", sum := "90bfe88118b21cc9341bbeffaf0038c3bd967912352ceaa833c1b9a4516d1cb3", func := "biscotti/biscottilaw23.CompactKeeps", spec := "compactKeeps", unfollowed := true, recurses := true, plainKeys := false, apart := false, narrowed := true }
def CompactKeepsUptoSaid : Prop := compactKeepsUptoRow.holds Tryz.pinned (OpenSpec.upto compactKeepsSpec)

/-- 'biscottilaw23.CompactAll', WHERE WHAT IT READS IS OF BULK AT MOST 1048576: true; the input reads as it did. -/
def compactAllUptoRow : OpenClaim := { program := "ytpbobhfnglikmaagreat", sum := "90bfe88118b21cc9341bbeffaf0038c3bd967912352ceaa833c1b9a4516d1cb3", func := "biscotti/biscottilaw23.CompactAll", spec := "compactAll", unfollowed := true, recurses := true, plainKeys := false, apart := false, narrowed := true }
def CompactAllUptoSaid : Prop := compactAllUptoRow.holds Tryz.pinned (OpenSpec.upto compactAllSpec)

/-- 'biscottilaw23.CompactSettled', WHERE WHAT IT READS IS OF BULK AT MOST 1048576: true; the input reads as it did. -/
def compactSettledUptoRow : OpenClaim := { program := "ytpbobhfnglikmaagreat", sum := "90bfe88118b21cc9341bbeffaf0038c3bd967912352ceaa833c1b9a4516d1cb3", func := "biscotti/biscottilaw23.CompactSettled", spec := "compactSettled", unfollowed := true, recurses := true, plainKeys := false, apart := false, narrowed := true }
def CompactSettledUptoSaid : Prop := compactSettledUptoRow.holds Tryz.pinned (OpenSpec.upto compactSettledSpec)

/-- 'biscottilaw22.DeltaJoins', WHERE WHAT IT READS IS OF BULK AT MOST 1048576: true; the input reads as it did. -/
def deltaJoinsUptoRow : OpenClaim := { program := "ytpbobhfnglikmaagreat", sum := "90bfe88118b21cc9341bbeffaf0038c3bd967912352ceaa833c1b9a4516d1cb3", func := "biscotti/biscottilaw22.DeltaJoins", spec := "deltaJoins", inPlace := ["internal/bytealg.abigen_runtime_cmpstring"], unfollowed := true, recurses := true, plainKeys := false, apart := false, narrowed := true }
def DeltaJoinsUptoSaid : Prop := deltaJoinsUptoRow.holds Tryz.pinned (OpenSpec.upto deltaJoinsSpec)

/-- 'biscottilaw24.CanonMost', WHERE WHAT IT READS IS OF BULK AT MOST 1048576: true; the input reads as it did. -/
def canonMostUptoRow : OpenClaim := { program := "ytpbobhfnglikmaagreat", sum := "90bfe88118b21cc9341bbeffaf0038c3bd967912352ceaa833c1b9a4516d1cb3", func := "biscotti/biscottilaw24.CanonMost", spec := "canonMost", unfollowed := true, recurses := true, plainKeys := false, apart := false, narrowed := true }
def CanonMostUptoSaid : Prop := canonMostUptoRow.holds Tryz.pinned (OpenSpec.upto canonMostSpec)

/-- 'biscottilaw23.CompactDoes', WHERE WHAT IT READS IS OF BULK AT MOST 1048576: true; the input reads as it did. -/
def compactDoesUptoRow : OpenClaim := { program := "ytpbobhfnglikmaagreat", sum := "90bfe88118b21cc9341bbeffaf0038c3bd967912352ceaa833c1b9a4516d1cb3", func := "biscotti/biscottilaw23.CompactDoes", spec := "compactDoes", inPlace := ["internal/bytealg.abigen_runtime_cmpstring"], unfollowed := true, recurses := true, plainKeys := false, apart := false, narrowed := true }
def CompactDoesUptoSaid : Prop := compactDoesUptoRow.holds Tryz.pinned (OpenSpec.upto compactDoesSpec)

/-- 'biscottilaw24.CanonSame', WHERE WHAT IT READS IS OF BULK AT MOST 1048576: true; the input reads as it did. -/
def canonSameUptoRow : OpenClaim := { program := "ytpbobhfnglikmaagreat", sum := "90bfe88118b21cc9341bbeffaf0038c3bd967912352ceaa833c1b9a4516d1cb3", func := "biscotti/biscottilaw24.CanonSame", spec := "canonSame", unfollowed := true, recurses := true, plainKeys := false, apart := false, narrowed := true }
def CanonSameUptoSaid : Prop := canonSameUptoRow.holds Tryz.pinned (OpenSpec.upto canonSameSpec)

/-- 'biscottilaw24.CanonLoads', WHERE WHAT IT READS IS OF BULK AT MOST 1048576: true; the input reads as it did. -/
def canonLoadsUptoRow : OpenClaim := { program := "ytpbobhfnglikmaagreat", sum := "90bfe88118b21cc9341bbeffaf0038c3bd967912352ceaa833c1b9a4516d1cb3", func := "biscotti/biscottilaw24.CanonLoads", spec := "canonLoads", inPlace := ["internal/bytealg.abigen_runtime_cmpstring"], unfollowed := true, recurses := true, plainKeys := false, apart := false, narrowed := true }
def CanonLoadsUptoSaid : Prop := canonLoadsUptoRow.holds Tryz.pinned (OpenSpec.upto canonLoadsSpec)

/-- 'biscottilaw24.CanonBytes', WHERE WHAT IT READS IS OF BULK AT MOST 1048576: true; the input reads as it did. -/
def canonBytesUptoRow : OpenClaim := { program := "ytpbobhfnglikmaagreat", sum := "90bfe88118b21cc9341bbeffaf0038c3bd967912352ceaa833c1b9a4516d1cb3", func := "biscotti/biscottilaw24.CanonBytes", spec := "canonBytes", inPlace := ["internal/bytealg.abigen_runtime_cmpstring"], unfollowed := true, recurses := true, plainKeys := false, apart := false, narrowed := true }
def CanonBytesUptoSaid : Prop := canonBytesUptoRow.holds Tryz.pinned (OpenSpec.upto canonBytesSpec)

end Rows
end Go.Proofs.YtpbobhfnglikmaaGreat
