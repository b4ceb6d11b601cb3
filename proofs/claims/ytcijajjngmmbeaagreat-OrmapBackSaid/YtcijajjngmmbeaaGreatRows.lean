/-
  No cell of these rows narrows 'for every input' (looked for: loops, veiled, ifaces, maps, wideKeys, modest, calm, conditions, laid).
  DERIVED. THE GIVEN ROWS OF THIS SEAT. 11 by the template 'for every input the law returns true; each argument reads behind the call as it read before'; 0 by the template 'total and deterministic' (their statements: YtcijajjngmmbeaaGreatTotals.lean).
  GIVEN WITH THE SEED: the statements are not yours to turn. If you find one false, say at which input.
  Laid BY PROGRAM, IN A SANDBOX (cutbox-rows.mjs): the forced cells as the released guide's own fill.sh prints them over the translation 7de46b5f4be1ef28… (all of the seat's roots in one cut). By AI agents, Wed Nov 11 2026. No macro, syntax, notation, axiom, sorry.
-/
import Derived.Test.YtcijajjngmmbeaaGreatChecked
import GoSem.Claim
import GoSem.ClaimJoined
import GoSem.ClaimMapViews
import Derived.JoinedTies
import Derived.KernelRfl
namespace Go.Proofs.YtcijajjngmmbeaaGreat
/- THE CELL 'sum', in the pinned program and in every row, IS THE sha256 OF THE DUMP (.gsa) THAT YtcijajjngmmbeaaGreatProg.lean LOADS. Nothing in Lean hashes anything: it is a label: what it is worth is what the hold of that sum in a sandbox is worth. -/
noncomputable def Tryz.pinned : Pinned := { name := "ytcijajjngmmbeaagreat", sum := "7de46b5f4be1ef289d2cd7b91d1fb24a9b8f0529266d180b03015b2d4ac04d81", checked := Tryz.checked }
namespace Rows
def none {H : Type} : Left H := { results := [], args := [] }

/-- 'biscottilaw21.OrmapKeys': WHATEVER THE INPUT: true; the input reads as it did. -/
def ormapKeysSpec : ChangeSpec := { name := "ormapKeys", fn := fun _ => fun
  | [d1, d2, d3] => { results := [.lit (.bool true)], args := [d1, d2, d3] }
  | _ => none }
def ormapKeysRow : OpenClaim := { program := "ytcijajjngmmbeaagreat", sum := "7de46b5f4be1ef289d2cd7b91d1fb24a9b8f0529266d180b03015b2d4ac04d81", func := "biscotti/biscottilaw21.OrmapKeys", spec := "ormapKeys", unfollowed := true, recurses := true, plainKeys := false, apart := false }
def OrmapKeysSaid : Prop := ormapKeysRow.holds Tryz.pinned (OpenSpec.ofChange ormapKeysSpec)

/-- ITS FALSE NEIGHBOUR: 'it returns false'. Refute it at one input. -/
def ormapKeysWrong : ChangeSpec := { name := "ormapKeys", fn := fun _ => fun
  | [d1, d2, d3] => { results := [.lit (.bool false)], args := [d1, d2, d3] }
  | _ => none }
def OrmapKeysWrongFalsely : Prop := ormapKeysRow.holds Tryz.pinned (OpenSpec.ofChange ormapKeysWrong)

/-- 'biscottilaw22.DeltaOf': WHATEVER THE INPUT: true; the input reads as it did. -/
def deltaOfSpec : ChangeSpec := { name := "deltaOf", fn := fun _ => fun
  | [d1, d2, d3] => { results := [.lit (.bool true)], args := [d1, d2, d3] }
  | _ => none }
def deltaOfRow : OpenClaim := { program := "ytcijajjngmmbeaagreat", sum := "7de46b5f4be1ef289d2cd7b91d1fb24a9b8f0529266d180b03015b2d4ac04d81", func := "biscotti/biscottilaw22.DeltaOf", spec := "deltaOf", unfollowed := true, recurses := true, plainKeys := false, apart := false }
def DeltaOfSaid : Prop := deltaOfRow.holds Tryz.pinned (OpenSpec.ofChange deltaOfSpec)

/-- ITS FALSE NEIGHBOUR: 'it returns false'. Refute it at one input. -/
def deltaOfWrong : ChangeSpec := { name := "deltaOf", fn := fun _ => fun
  | [d1, d2, d3] => { results := [.lit (.bool false)], args := [d1, d2, d3] }
  | _ => none }
def DeltaOfWrongFalsely : Prop := deltaOfRow.holds Tryz.pinned (OpenSpec.ofChange deltaOfWrong)

/-- 'biscottilaw22.DeltaCovers': WHATEVER THE INPUT: true; the input reads as it did. -/
def deltaCoversSpec : ChangeSpec := { name := "deltaCovers", fn := fun _ => fun
  | [d1, d2] => { results := [.lit (.bool true)], args := [d1, d2] }
  | _ => none }
def deltaCoversRow : OpenClaim := { program := "ytcijajjngmmbeaagreat", sum := "7de46b5f4be1ef289d2cd7b91d1fb24a9b8f0529266d180b03015b2d4ac04d81", func := "biscotti/biscottilaw22.DeltaCovers", spec := "deltaCovers", unfollowed := true, recurses := true, plainKeys := false, apart := false }
def DeltaCoversSaid : Prop := deltaCoversRow.holds Tryz.pinned (OpenSpec.ofChange deltaCoversSpec)

/-- ITS FALSE NEIGHBOUR: 'it returns false'. Refute it at one input. -/
def deltaCoversWrong : ChangeSpec := { name := "deltaCovers", fn := fun _ => fun
  | [d1, d2] => { results := [.lit (.bool false)], args := [d1, d2] }
  | _ => none }
def DeltaCoversWrongFalsely : Prop := deltaCoversRow.holds Tryz.pinned (OpenSpec.ofChange deltaCoversWrong)

/-- 'biscottilaw22.DeltaNils': WHATEVER THE INPUT: true; the input reads as it did. -/
def deltaNilsSpec : ChangeSpec := { name := "deltaNils", fn := fun _ => fun
  | [d1, d2] => { results := [.lit (.bool true)], args := [d1, d2] }
  | _ => none }
def deltaNilsRow : OpenClaim := { program := "ytcijajjngmmbeaagreat", sum := "7de46b5f4be1ef289d2cd7b91d1fb24a9b8f0529266d180b03015b2d4ac04d81", func := "biscotti/biscottilaw22.DeltaNils", spec := "deltaNils", unfollowed := true, recurses := true, plainKeys := false, apart := false }
def DeltaNilsSaid : Prop := deltaNilsRow.holds Tryz.pinned (OpenSpec.ofChange deltaNilsSpec)

/-- ITS FALSE NEIGHBOUR: 'it returns false'. Refute it at one input. -/
def deltaNilsWrong : ChangeSpec := { name := "deltaNils", fn := fun _ => fun
  | [d1, d2] => { results := [.lit (.bool false)], args := [d1, d2] }
  | _ => none }
def DeltaNilsWrongFalsely : Prop := deltaNilsRow.holds Tryz.pinned (OpenSpec.ofChange deltaNilsWrong)

/-- 'biscottilaw21.OrmapTurned': WHATEVER THE INPUT: true; the input reads as it did. -/
def ormapTurnedSpec : ChangeSpec := { name := "ormapTurned", fn := fun _ => fun
  | [d1, d2, d3] => { results := [.lit (.bool true)], args := [d1, d2, d3] }
  | _ => none }
def ormapTurnedRow : OpenClaim := { program := "ytcijajjngmmbeaagreat", sum := "7de46b5f4be1ef289d2cd7b91d1fb24a9b8f0529266d180b03015b2d4ac04d81", func := "biscotti/biscottilaw21.OrmapTurned", spec := "ormapTurned", inPlace := ["internal/bytealg.abigen_runtime_cmpstring"], unfollowed := true, recurses := true, plainKeys := false, apart := false }
def OrmapTurnedSaid : Prop := ormapTurnedRow.holds Tryz.pinned (OpenSpec.ofChange ormapTurnedSpec)

/-- ITS FALSE NEIGHBOUR: 'it returns false'. Refute it at one input. -/
def ormapTurnedWrong : ChangeSpec := { name := "ormapTurned", fn := fun _ => fun
  | [d1, d2, d3] => { results := [.lit (.bool false)], args := [d1, d2, d3] }
  | _ => none }
def OrmapTurnedWrongFalsely : Prop := ormapTurnedRow.holds Tryz.pinned (OpenSpec.ofChange ormapTurnedWrong)

/-- 'biscottilaw21.OrmapTwice': WHATEVER THE INPUT: true; the input reads as it did. -/
def ormapTwiceSpec : ChangeSpec := { name := "ormapTwice", fn := fun _ => fun
  | [d] => { results := [.lit (.bool true)], args := [d] }
  | _ => none }
def ormapTwiceRow : OpenClaim := { program := "ytcijajjngmmbeaagreat", sum := "7de46b5f4be1ef289d2cd7b91d1fb24a9b8f0529266d180b03015b2d4ac04d81", func := "biscotti/biscottilaw21.OrmapTwice", spec := "ormapTwice", inPlace := ["internal/bytealg.abigen_runtime_cmpstring"], unfollowed := true, recurses := true, plainKeys := false, apart := false }
def OrmapTwiceSaid : Prop := ormapTwiceRow.holds Tryz.pinned (OpenSpec.ofChange ormapTwiceSpec)

/-- ITS FALSE NEIGHBOUR: 'it returns false'. Refute it at one input. -/
def ormapTwiceWrong : ChangeSpec := { name := "ormapTwice", fn := fun _ => fun
  | [d] => { results := [.lit (.bool false)], args := [d] }
  | _ => none }
def OrmapTwiceWrongFalsely : Prop := ormapTwiceRow.holds Tryz.pinned (OpenSpec.ofChange ormapTwiceWrong)

/-- 'biscottilaw21.OrmapPlays': WHATEVER THE INPUT: true; the input reads as it did. -/
def ormapPlaysSpec : ChangeSpec := { name := "ormapPlays", fn := fun _ => fun
  | [d] => { results := [.lit (.bool true)], args := [d] }
  | _ => none }
def ormapPlaysRow : OpenClaim := { program := "ytcijajjngmmbeaagreat", sum := "7de46b5f4be1ef289d2cd7b91d1fb24a9b8f0529266d180b03015b2d4ac04d81", func := "biscotti/biscottilaw21.OrmapPlays", spec := "ormapPlays", inPlace := ["internal/bytealg.abigen_runtime_cmpstring"], unfollowed := true, recurses := true, plainKeys := false, apart := false }
def OrmapPlaysSaid : Prop := ormapPlaysRow.holds Tryz.pinned (OpenSpec.ofChange ormapPlaysSpec)

/-- ITS FALSE NEIGHBOUR: 'it returns false'. Refute it at one input. -/
def ormapPlaysWrong : ChangeSpec := { name := "ormapPlays", fn := fun _ => fun
  | [d] => { results := [.lit (.bool false)], args := [d] }
  | _ => none }
def OrmapPlaysWrongFalsely : Prop := ormapPlaysRow.holds Tryz.pinned (OpenSpec.ofChange ormapPlaysWrong)

/-- 'biscottilaw21.OrmapNils': WHATEVER THE INPUT: true; the input reads as it did. -/
def ormapNilsSpec : ChangeSpec := { name := "ormapNils", fn := fun _ => fun
  | [d] => { results := [.lit (.bool true)], args := [d] }
  | _ => none }
def ormapNilsRow : OpenClaim := { program := "ytcijajjngmmbeaagreat", sum := "7de46b5f4be1ef289d2cd7b91d1fb24a9b8f0529266d180b03015b2d4ac04d81", func := "biscotti/biscottilaw21.OrmapNils", spec := "ormapNils", inPlace := ["internal/bytealg.abigen_runtime_cmpstring"], unfollowed := true, recurses := true, plainKeys := false, apart := false }
def OrmapNilsSaid : Prop := ormapNilsRow.holds Tryz.pinned (OpenSpec.ofChange ormapNilsSpec)

/-- ITS FALSE NEIGHBOUR: 'it returns false'. Refute it at one input. -/
def ormapNilsWrong : ChangeSpec := { name := "ormapNils", fn := fun _ => fun
  | [d] => { results := [.lit (.bool false)], args := [d] }
  | _ => none }
def OrmapNilsWrongFalsely : Prop := ormapNilsRow.holds Tryz.pinned (OpenSpec.ofChange ormapNilsWrong)

/-- 'biscottilaw21.OrmapLoads': WHATEVER THE INPUT: true; the input reads as it did. -/
def ormapLoadsSpec : ChangeSpec := { name := "ormapLoads", fn := fun _ => fun
  | [d] => { results := [.lit (.bool true)], args := [d] }
  | _ => none }
def ormapLoadsRow : OpenClaim := { program := "ytcijajjngmmbeaagreat", sum := "7de46b5f4be1ef289d2cd7b91d1fb24a9b8f0529266d180b03015b2d4ac04d81", func := "biscotti/biscottilaw21.OrmapLoads", spec := "ormapLoads", inPlace := ["internal/bytealg.abigen_runtime_cmpstring"], unfollowed := true, recurses := true, plainKeys := false, apart := false }
def OrmapLoadsSaid : Prop := ormapLoadsRow.holds Tryz.pinned (OpenSpec.ofChange ormapLoadsSpec)

/-- ITS FALSE NEIGHBOUR: 'it returns false'. Refute it at one input. -/
def ormapLoadsWrong : ChangeSpec := { name := "ormapLoads", fn := fun _ => fun
  | [d] => { results := [.lit (.bool false)], args := [d] }
  | _ => none }
def OrmapLoadsWrongFalsely : Prop := ormapLoadsRow.holds Tryz.pinned (OpenSpec.ofChange ormapLoadsWrong)

/-- 'biscottilaw22.DeltaMerges': WHATEVER THE INPUT: true; the input reads as it did. -/
def deltaMergesSpec : ChangeSpec := { name := "deltaMerges", fn := fun _ => fun
  | [d1, d2] => { results := [.lit (.bool true)], args := [d1, d2] }
  | _ => none }
def deltaMergesRow : OpenClaim := { program := "ytcijajjngmmbeaagreat", sum := "7de46b5f4be1ef289d2cd7b91d1fb24a9b8f0529266d180b03015b2d4ac04d81", func := "biscotti/biscottilaw22.DeltaMerges", spec := "deltaMerges", inPlace := ["internal/bytealg.abigen_runtime_cmpstring"], unfollowed := true, recurses := true, plainKeys := false, apart := false }
def DeltaMergesSaid : Prop := deltaMergesRow.holds Tryz.pinned (OpenSpec.ofChange deltaMergesSpec)

/-- ITS FALSE NEIGHBOUR: 'it returns false'. Refute it at one input. -/
def deltaMergesWrong : ChangeSpec := { name := "deltaMerges", fn := fun _ => fun
  | [d1, d2] => { results := [.lit (.bool false)], args := [d1, d2] }
  | _ => none }
def DeltaMergesWrongFalsely : Prop := deltaMergesRow.holds Tryz.pinned (OpenSpec.ofChange deltaMergesWrong)

/-- 'biscottilaw21.OrmapBack': WHATEVER THE INPUT: true; the input reads as it did. -/
def ormapBackSpec : ChangeSpec := { name := "ormapBack", fn := fun _ => fun
  | [d1, d2] => { results := [.lit (.bool true)], args := [d1, d2] }
  | _ => none }
def ormapBackRow : OpenClaim := { program := "ytcijajjngmmbeaagreat", sum := "7de46b5f4be1ef289d2cd7b91d1fb24a9b8f0529266d180b03015b2d4ac04d81", func := "biscotti/biscottilaw21.OrmapBack", spec := "ormapBack", inPlace := ["internal/bytealg.abigen_runtime_cmpstring"], unfollowed := true, recurses := true, plainKeys := false, apart := false }
def OrmapBackSaid : Prop := ormapBackRow.holds Tryz.pinned (OpenSpec.ofChange ormapBackSpec)

/-- ITS FALSE NEIGHBOUR: 'it returns false'. Refute it at one input. -/
def ormapBackWrong : ChangeSpec := { name := "ormapBack", fn := fun _ => fun
  | [d1, d2] => { results := [.lit (.bool false)], args := [d1, d2] }
  | _ => none }
def OrmapBackWrongFalsely : Prop := ormapBackRow.holds Tryz.pinned (OpenSpec.ofChange ormapBackWrong)

/- THE SECOND FORM. 'bulk': how many values and letters a reading holds, each counted each time it is reached (what is shared counts as often as it is met; a slice's spare places count too). A statement '..UptoSaid' is the law's where the arguments, and the package variables that the reading takes, are together of bulk at most 1048576: NARROWER than '..Said'. Prove '..Said' where nothing that the law and all that it calls make is longer than what came in: it says more and counts as full. Else prove '..UptoSaid'. A law counts once. -/
mutual
def uptoBulk {H : Type} : DataW H → Nat
  | .lit (.string bytes) => bytes.length + 1
  | .lit _ => 1
  | .nil => 1
  | .ptr d => uptoBulk d + 1
  | .slice elems spare => uptoBulkAll elems + uptoBulkAll spare + 1
  | .agg parts => uptoBulkAll parts + 1
  | .iface _ d => uptoBulk d + 1
  | .map entries => uptoBulkEntries entries + 1
  | .held _ => 1
def uptoBulkAll {H : Type} : List (DataW H) → Nat
  | [] => 0
  | d :: r => uptoBulk d + uptoBulkAll r
def uptoBulkEntries {H : Type} : List (Lit × DataW H) → Nat
  | [] => 0
  | x :: r => uptoBulkEntry x + uptoBulkEntries r
def uptoBulkEntry {H : Type} : Lit × DataW H → Nat
  | (.string bytes, d) => bytes.length + uptoBulk d + 1
  | (_, d) => uptoBulk d + 1
 end
def uptoSmall : (H : Type) → List (DataW H) → Bool := fun _ ds => decide (uptoBulkAll ds ≤ 1048576)
def OpenSpec.upto (s : _root_.Go.ChangeSpec) : _root_.Go.OpenSpec := { _root_.Go.OpenSpec.ofChange s with cond := some uptoSmall }

/-- 'biscottilaw21.OrmapKeys', WHERE WHAT IT READS IS OF BULK AT MOST 1048576: true; the input reads as it did. -/
def ormapKeysUptoRow : OpenClaim := { program := "ytcijajjngmmbeaagreat", sum := "7de46b5f4be1ef289d2cd7b91d1fb24a9b8f0529266d180b03015b2d4ac04d81", func := "biscotti/biscottilaw21.OrmapKeys", spec := "ormapKeys", unfollowed := true, recurses := true, plainKeys := false, apart := false, narrowed := true }
def OrmapKeysUptoSaid : Prop := ormapKeysUptoRow.holds Tryz.pinned (OpenSpec.upto ormapKeysSpec)

/-- 'biscottilaw22.DeltaOf', WHERE WHAT IT READS IS OF BULK AT MOST 1048576: true; the input reads as it did. -/
def deltaOfUptoRow : OpenClaim := { program := "ytcijajjngmmbeaagreat", sum := "7de46b5f4be1ef289d2cd7b91d1fb24a9b8f0529266d180b03015b2d4ac04d81", func := "biscotti/biscottilaw22.DeltaOf", spec := "deltaOf", unfollowed := true, recurses := true, plainKeys := false, apart := false, narrowed := true }
def DeltaOfUptoSaid : Prop := deltaOfUptoRow.holds Tryz.pinned (OpenSpec.upto deltaOfSpec)

/-- 'biscottilaw22.DeltaCovers', WHERE WHAT IT READS IS OF BULK AT MOST 1048576: true; the input reads as it did. -/
def deltaCoversUptoRow : OpenClaim := { program := "ytcijajjngmmbeaagreat", sum := "7de46b5f4be1ef289d2cd7b91d1fb24a9b8f0529266d180b03015b2d4ac04d81", func := "biscotti/biscottilaw22.DeltaCovers", spec := "deltaCovers", unfollowed := true, recurses := true, plainKeys := false, apart := false, narrowed := true }
def DeltaCoversUptoSaid : Prop := deltaCoversUptoRow.holds Tryz.pinned (OpenSpec.upto deltaCoversSpec)

/-- 'biscottilaw22.DeltaNils', WHERE WHAT IT READS IS OF BULK AT MOST 1048576: true; the input reads as it did. -/
def deltaNilsUptoRow : OpenClaim := { program := "ytcijajjngmmbeaagreat", sum := "7de46b5f4be1ef289d2cd7b91d1fb24a9b8f0529266d180b03015b2d4ac04d81", func := "biscotti/biscottilaw22.DeltaNils", spec := "deltaNils", unfollowed := true, recurses := true, plainKeys := false, apart := false, narrowed := true }
def DeltaNilsUptoSaid : Prop := deltaNilsUptoRow.holds Tryz.pinned (OpenSpec.upto deltaNilsSpec)

/-- 'biscottilaw21.OrmapTurned', WHERE WHAT IT READS IS OF BULK AT MOST 1048576: true; the input reads as it did. -/
def ormapTurnedUptoRow : OpenClaim := { program := "ytcijajjngmmbeaagreat", sum := "7de46b5f4be1ef289d2cd7b91d1fb24a9b8f0529266d180b03015b2d4ac04d81", func := "biscotti/biscottilaw21.OrmapTurned", spec := "ormapTurned", inPlace := ["internal/bytealg.abigen_runtime_cmpstring"], unfollowed := true, recurses := true, plainKeys := false, apart := false, narrowed := true }
def OrmapTurnedUptoSaid : Prop := ormapTurnedUptoRow.holds Tryz.pinned (OpenSpec.upto ormapTurnedSpec)

/-- 'biscottilaw21.OrmapTwice', WHERE WHAT IT READS IS OF BULK AT MOST 1048576: true; the input reads as it did. -/
def ormapTwiceUptoRow : OpenClaim := { program := "ytcijajjngmmbeaagreat", sum := "7de46b5f4be1ef289d2cd7b91d1fb24a9b8f0529266d180b03015b2d4ac04d81", func := "biscotti/biscottilaw21.OrmapTwice", spec := "ormapTwice", inPlace := ["internal/bytealg.abigen_runtime_cmpstring"], unfollowed := true, recurses := true, plainKeys := false, apart := false, narrowed := true }
def OrmapTwiceUptoSaid : Prop := ormapTwiceUptoRow.holds Tryz.pinned (OpenSpec.upto ormapTwiceSpec)

/-- 'biscottilaw21.OrmapPlays', WHERE WHAT IT READS IS OF BULK AT MOST 1048576: true; the input reads as it did. -/
def ormapPlaysUptoRow : OpenClaim := { program := "ytcijajjngmmbeaagreat", sum := "7de46b5f4be1ef289d2cd7b91d1fb24a9b8f0529266d180b03015b2d4ac04d81", func := "biscotti/biscottilaw21.OrmapPlays", spec := "ormapPlays", inPlace := ["internal/bytealg.abigen_runtime_cmpstring"], unfollowed := true, recurses := true, plainKeys := false, apart := false, narrowed := true }
def OrmapPlaysUptoSaid : Prop := ormapPlaysUptoRow.holds Tryz.pinned (OpenSpec.upto ormapPlaysSpec)

/-- 'biscottilaw21.OrmapNils', WHERE WHAT IT READS IS OF BULK AT MOST 1048576: true; the input reads as it did. -/
def ormapNilsUptoRow : OpenClaim := { program := "ytcijajjngmmbeaagreat", sum := "7de46b5f4be1ef289d2cd7b91d1fb24a9b8f0529266d180b03015b2d4ac04d81", func := "biscotti/biscottilaw21.OrmapNils", spec := "ormapNils", inPlace := ["internal/bytealg.abigen_runtime_cmpstring"], unfollowed := true, recurses := true, plainKeys := false, apart := false, narrowed := true }
def OrmapNilsUptoSaid : Prop := ormapNilsUptoRow.holds Tryz.pinned (OpenSpec.upto ormapNilsSpec)

/-- 'biscottilaw21.OrmapLoads', WHERE WHAT IT READS IS OF BULK AT MOST 1048576: true; the input reads as it did. -/
def ormapLoadsUptoRow : OpenClaim := { program := "ytcijajjngmmbeaagreat", sum := "7de46b5f4be1ef289d2cd7b91d1fb24a9b8f0529266d180b03015b2d4ac04d81", func := "biscotti/biscottilaw21.OrmapLoads", spec := "ormapLoads", inPlace := ["internal/bytealg.abigen_runtime_cmpstring"], unfollowed := true, recurses := true, plainKeys := false, apart := false, narrowed := true }
def OrmapLoadsUptoSaid : Prop := ormapLoadsUptoRow.holds Tryz.pinned (OpenSpec.upto ormapLoadsSpec)

/-- 'biscottilaw22.DeltaMerges', WHERE WHAT IT READS IS OF BULK AT MOST 1048576: true; the input reads as it did. -/
def deltaMergesUptoRow : OpenClaim := { program := "ytcijajjngmmbeaagreat", sum := "7de46b5f4be1ef289d2cd7b91d1fb24a9b8f0529266d180b03015b2d4ac04d81", func := "biscotti/biscottilaw22.DeltaMerges", spec := "deltaMerges", inPlace := ["internal/bytealg.abigen_runtime_cmpstring"], unfollowed := true, recurses := true, plainKeys := false, apart := false, narrowed := true }
def DeltaMergesUptoSaid : Prop := deltaMergesUptoRow.holds Tryz.pinned (OpenSpec.upto deltaMergesSpec)

/-- 'biscottilaw21.OrmapBack', WHERE WHAT IT READS IS OF BULK AT MOST 1048576: true; the input reads as it did. -/
def ormapBackUptoRow : OpenClaim := { program := "ytcijajjngmmbeaagreat", sum := "7de46b5f4be1ef289d2cd7b91d1fb24a9b8f0529266d180b03015b2d4ac04d81", func := "biscotti/biscottilaw21.OrmapBack", spec := "ormapBack", inPlace := ["internal/bytealg.abigen_runtime_cmpstring"], unfollowed := true, recurses := true, plainKeys := false, apart := false, narrowed := true }
def OrmapBackUptoSaid : Prop := ormapBackUptoRow.holds Tryz.pinned (OpenSpec.upto ormapBackSpec)

end Rows
end Go.Proofs.YtcijajjngmmbeaaGreat
