/- A map's winners, plainly. Conditions: none. -/
import Derived.Test.YtpbobhfnglikmaaGreatLawKeys
import Derived.Test.YtpbobhfnglikmaaGreatKeyOrd
set_option linter.unusedSimpArgs false
set_option linter.unusedVariables false
set_option linter.unnecessarySimpa false
set_option maxHeartbeats 16000000
set_option maxRecDepth 100000
namespace Go.Proofs.YtpbobhfnglikmaaGreat
open Go.RowKit
def SrtKs (l : List Ev) : Prop := l.Pairwise fun x y => keyLt x.key y.key = true
theorem srtKs_ext {l m : List Ev} (h : SrtKs l) (k : SrtKs m) (e : ∀ x, x ∈ l ↔ x ∈ m) : l = m := srt_ext (lt := fun x y : Ev => keyLt x.key y.key) (fun x => keyLt_irrefl x.key) (fun _ _ _ => keyLt_trans) h k e
/-- the winners of a map, by their keys -/
structure WinsOf (s : MS) (L : List Ev) : Prop where
 srt : SrtKs L
 mem : ∀ e, e ∈ L ↔ e ∈ aliveOf s ∧ (winOf (keyOfS s e.key)).1 = e
theorem WinsOf.ext {s : MS} {l m : List Ev} (h : WinsOf s l) (k : WinsOf s m) : l = m :=
 srtKs_ext h.srt k.srt fun e => (h.mem e).trans (k.mem e).symm
/-! ### the reference's -/
theorem RMAt.range {w : World} {R : Nat} {x : RMIt} (h : RMAt w R x) : w.rangeAt R 0 (rmCells x) := fun j v hj => by
 rw [Nat.zero_add]
 simp only [RMAt] at h
 simp only [World.cell?, h, rmRow]
 simpa using hj
end Go.Proofs.YtpbobhfnglikmaaGreat
