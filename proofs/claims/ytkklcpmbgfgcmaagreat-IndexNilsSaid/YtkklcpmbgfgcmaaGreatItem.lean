/- Which cookies may be: package cookie's Right and the reference's. Conditions: texts of at most 2^30 bytes. -/
import Derived.Test.YtkklcpmbgfgcmaaGreatCookie
set_option linter.unusedSimpArgs false
set_option linter.unusedVariables false
set_option linter.unnecessarySimpa false
namespace Go.Proofs.YtkklcpmbgfgcmaaGreat
open Go.RowKit
/-- in block b lie a key's cells, a cookie's -/
structure KeyAt (w : World) (b : Nat) (k : Key) : Prop where
 c0 : w.cell? ⟨b, 0, none⟩ = some (.string k.name)
 c1 : w.cell? ⟨b, 1, none⟩ = some (.string k.domain)
 c2 : w.cell? ⟨b, 2, none⟩ = some (.string k.path)
structure CkAt (w : World) (b : Nat) (c : Ck) : Prop where
 c0 : w.cell? ⟨b, 0, none⟩ = some (.string c.value)
 c1 : w.cell? ⟨b, 1, none⟩ = some (.bool c.hostOnly)
 c2 : w.cell? ⟨b, 2, none⟩ = some (.bool c.secure)
 c3 : w.cell? ⟨b, 3, none⟩ = some (.bool c.httpOnly)
 c4 : w.cell? ⟨b, 4, none⟩ = some (.bool c.persistent)
 c5 : w.cell? ⟨b, 5, none⟩ = some (.int .i64 c.expiry)
 c6 : w.cell? ⟨b, 6, none⟩ = some (.int .i64 c.creation)
 c7 : w.cell? ⟨b, 7, none⟩ = some (.int .i64 c.access)
theorem KeyAt.kept {w w' : World} {b : Nat} {k : Key} (h : KeyAt w b k) (hb : Below w.heap.size w w') : KeyAt w' b k := ⟨YtkklcpmbgfgcmaaGreat.kept hb h.c0, YtkklcpmbgfgcmaaGreat.kept hb h.c1, YtkklcpmbgfgcmaaGreat.kept hb h.c2⟩
theorem CkAt.kept {w w' : World} {b : Nat} {k : Ck} (h : CkAt w b k) (hb : Below w.heap.size w w') : CkAt w' b k :=
 ⟨YtkklcpmbgfgcmaaGreat.kept hb h.c0, YtkklcpmbgfgcmaaGreat.kept hb h.c1, YtkklcpmbgfgcmaaGreat.kept hb h.c2, YtkklcpmbgfgcmaaGreat.kept hb h.c3, YtkklcpmbgfgcmaaGreat.kept hb h.c4, YtkklcpmbgfgcmaaGreat.kept hb h.c5, YtkklcpmbgfgcmaaGreat.kept hb h.c6, YtkklcpmbgfgcmaaGreat.kept hb h.c7⟩
end Go.Proofs.YtkklcpmbgfgcmaaGreat
/- Which cookies may be: the reference's Right. Conditions: texts of at most 2^30 bytes. -/
namespace Go.Proofs.YtkklcpmbgfgcmaaGreat
open Go.RowKit
end Go.Proofs.YtkklcpmbgfgcmaaGreat
