/- Slices, bytes, numbers that came in as arguments, out of their readings. Conditions: none. -/
import Derived.Test.YtkklcpmbgfgcmaaGreatCel
import Derived.ProofKit
import Derived.Deep.Slices
import Derived.OpenShut
set_option linter.unusedSimpArgs false
set_option linter.unusedVariables false
set_option linter.unnecessarySimpa false
namespace Go.Proofs.YtkklcpmbgfgcmaaGreat
open Go.ChangeShapes Go.WideShapes Go.ChangeAt Go.RowKit
section
variable {H : Type} {enc : TypeId × Value → H} {P : Program} {w : World} {base : Nat} {spare : Nat → Bool} {held : Bool}
/-- one field of a struct, read by itself -/
theorem trod_field {t : TypeId} {fs : Array Field} {fuel : Nat} {cs : List Value} {x : DataW H × List MemPlace} (ht : P.underlying t = some (.struct fs)) (h : DataW.trod enc P w base spare held fuel t cs = some x)
 (i : Nat) (f : Field) (hf : fs[i]? = some f) (n : Nat) (hn : P.cellsOf f.type = n) (sub : List Value) (hsub : (cs.drop f.offset).take n = sub) :
 ∃ y m, DataW.trod enc P w base spare held m f.type sub = some y := by
 obtain ⟨xs, n', _, hx, _, hlen, hfs⟩ := DataW.trod_struct ht h
 have h1 := hfs i f hf
 have hi : i < xs.length := by
  rw [hlen]
  exact (Array.getElem?_eq_some_iff.1 hf).1
 rw [List.getElem?_eq_getElem hi, hn, hsub] at h1
 exact ⟨_, _, h1⟩
end
section
variable {H : Type} {enc : TypeId × Value → H} {w : World} {base : Nat} {spare : Nat → Bool} {held : Bool}
end
end Go.Proofs.YtkklcpmbgfgcmaaGreat
