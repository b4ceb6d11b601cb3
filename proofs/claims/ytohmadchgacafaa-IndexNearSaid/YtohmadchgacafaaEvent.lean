/- Which events may be: event.Right. Conditions: texts of at most 2^30 bytes, at most 2^30 dots. -/
import Derived.Test.YtohmadchgacafaaDot
import Derived.Test.YtohmadchgacafaaItem
set_option linter.unusedSimpArgs false
set_option linter.unusedVariables false
set_option linter.unnecessarySimpa false
namespace Go.Proofs.Ytohmadchgacafaa
open Go.RowKit

structure Ev where
  dot : Dot
  stamp : Stamp
  kind : Int
  key : Key
  ck : Ck
  over : List Dot
  deriving DecidableEq
def key0 : Key := ⟨ByteArray.empty, ByteArray.empty, ByteArray.empty⟩
def ck0 : Ck := ⟨ByteArray.empty, false, false, false, false, 0, 0, 0⟩
def dot0 : Dot := ⟨⟨0, 0⟩, 0⟩
def stamp0 : Stamp := ⟨0, 0, 0⟩
def ev0 : Ev := ⟨dot0, stamp0, 0, key0, ck0, []⟩
def kindOk (e : Ev) : Bool := if e.kind = 2 then (decide (e.key = key0) && decide (e.ck = ck0)) && decide (0 < e.over.length) else if e.kind = 1 then itemOk e.key e.ck else false
def evOk (e : Ev) : Bool := dotOk e.dot && (stampOk e.stamp && (decide (e.stamp.dev = e.dot.a.dev) && (overOk e.dot e.over && kindOk e)))
/-- an event's texts and lists are short -/
structure EvSmall (e : Ev) : Prop where
  name : e.key.name.size ≤ 1073741824
  domain : e.key.domain.size ≤ 1073741824
  path : e.key.path.size ≤ 1073741824
  value : e.ck.value.size ≤ 1073741824
  over : e.over.length ≤ 1073741824

/-- an event's value -/
abbrev itemVal (k : Key) (c : Ck) : Value := .agg #[.string k.name, .string k.domain, .string k.path, .string c.value, .bool c.hostOnly, .bool c.secure, .bool c.httpOnly, .bool c.persistent, .int .i64 c.expiry, .int .i64 c.creation, .int .i64 c.access]
abbrev evVal (e : Ev) (a : Option Addr) (cap : Nat) : Value :=
  .agg #[.int .i64 e.dot.a.dev, .int .i64 e.dot.a.inc, .int .i64 e.dot.seq, .int .i64 e.stamp.wall, .int .i64 e.stamp.count, .int .i64 e.stamp.dev, .int .i64 e.kind, .string e.key.name, .string e.key.domain, .string e.key.path, .string e.ck.value, .bool e.ck.hostOnly, .bool e.ck.secure, .bool e.ck.httpOnly, .bool e.ck.persistent, .int .i64 e.ck.expiry, .int .i64 e.ck.creation, .int .i64 e.ck.access, .slice a e.over.length cap]

end Go.Proofs.Ytohmadchgacafaa
