/- A whole struct loaded out of a block, at once; which cells an event has. Conditions: none. -/
import Derived.Test.YtkklcpmbgfgcmaaGreatEvent
import Derived.Deep.MidRow
import Derived.Test.YtkklcpmbgfgcmaaGreatPack
import Derived.Maps.AppendAt
import Derived.Deep.AppendLies
import Derived.Test.YtkklcpmbgfgcmaaGreatDot
import Derived.WalkSmall
set_option linter.unusedSimpArgs false
set_option linter.unusedVariables false
set_option linter.unnecessarySimpa false
namespace Go.Proofs.YtkklcpmbgfgcmaaGreat
open Go.RowKit
theorem wpList_load_at {P : Program} {ops : Array Oper} {rest : List Oper} {a : Act} {w : World} {Q : Exit → Act → World → Prop} {dst : Option Tmp} {type : TypeId} {pos : String} {after : Array Edge} {guard : Option (Nat × Bool)} (ty : TypeId) (x : Operand)
 (b o : Nat) (cs : List Value) (d : TypeDesc) (hu : P.underlying ty = some d) (hd : d.isRow = true) (hi : (P.info? ty).map (·.size) = some cs.length)
 (hc : w.rangeAt b o cs)
 (hw : Region.wanted ⟨dst, .load ty x, type, pos, after, guard⟩ (yielded ops a.tmps) = true)
 (hx : a.eval x = .pointer (some ⟨b, o, none⟩))
 (h : wpList P ops Q rest (a.put dst (.agg cs.toArray)) w) : wpList P ops Q (⟨dst, .load ty x, type, pos, after, guard⟩ :: rest) a w :=
 BigFrame.wpList_want hw fun _ hK => wp_load_mid ty x rfl b o hx cs d hc hu hd hi (hK _ _ h)
theorem rangeAt_kept {w w' : World} {b o : Nat} {cs : List Value} (h : w.rangeAt b o cs) (hb : Below w.heap.size w w') : w'.rangeAt b o cs := fun j v hv => kept hb (h j v hv)
def evCells (e : Ev) (a : Option Addr) (cap : Nat) : List Value :=
 [.int .i64 e.dot.a.dev, .int .i64 e.dot.a.inc, .int .i64 e.dot.seq, .int .i64 e.stamp.wall, .int .i64 e.stamp.count, .int .i64 e.stamp.dev, .int .i64 e.kind, .string e.key.name, .string e.key.domain, .string e.key.path, .string e.ck.value, .bool e.ck.hostOnly, .bool e.ck.secure, .bool e.ck.httpOnly, .bool e.ck.persistent, .int .i64 e.ck.expiry, .int .i64 e.ck.creation, .int .i64 e.ck.access, .slice a e.over.length cap]
theorem wpQuiet_load_at {P : Program} {ops : Array Oper} {rest : List Oper} {a : Act} {C : World → Prop} {Q : Act → Prop} {dst : Option Tmp} {type : TypeId} {pos : String} {after : Array Edge} {guard : Option (Nat × Bool)} (ty : TypeId) (x : Operand)
 (b o : Nat) (cs : List Value) (d : TypeDesc) (hu : P.underlying ty = some d) (hd : d.isRow = true) (hi : (P.info? ty).map (·.size) = some cs.length)
 (hc : ∀ w, C w → w.rangeAt b o cs)
 (hw : Region.wanted ⟨dst, .load ty x, type, pos, after, guard⟩ (yielded ops a.tmps) = true)
 (hx : a.eval x = .pointer (some ⟨b, o, none⟩))
 (h : wpQuiet P ops C Q rest (a.put dst (.agg cs.toArray))) : wpQuiet P ops C Q (⟨dst, .load ty x, type, pos, after, guard⟩ :: rest) a :=
 BigFrame.wpQuiet_want hw fun K hK => ⟨.agg cs.toArray, fun w hw' => by
  unfold Oper.quietAt execOp
  simp only [hx, Instr.loadAt, Instr.sureAddr, Sem.run_bind, Sem.run_pure, Result.andThen_ok, run_loadVar_mid w b o ty cs d (hc w hw') hu hd hi]
  exact ⟨rfl, rfl⟩, hK _ h⟩
end Go.Proofs.YtkklcpmbgfgcmaaGreat
/- Loads of whole structs, the value as its reader spells it. Conditions: none. -/
namespace Go.Proofs.YtkklcpmbgfgcmaaGreat
open Go.RowKit
theorem wpList_load_to {P : Program} {ops : Array Oper} {rest : List Oper} {a : Act} {w : World} {Q : Exit → Act → World → Prop} {dst : Option Tmp} {type : TypeId} {pos : String} {after : Array Edge} {guard : Option (Nat × Bool)} (ty : TypeId) (x : Operand)
 (b o : Nat) (cs : List Value) (v : Value) (hv : Value.agg cs.toArray = v) (d : TypeDesc) (hu : P.underlying ty = some d) (hd : d.isRow = true) (hi : (P.info? ty).map (·.size) = some cs.length)
 (hc : w.rangeAt b o cs)
 (hw : Region.wanted ⟨dst, .load ty x, type, pos, after, guard⟩ (yielded ops a.tmps) = true)
 (hx : a.eval x = .pointer (some ⟨b, o, none⟩))
 (h : wpList P ops Q rest (a.put dst v) w) : wpList P ops Q (⟨dst, .load ty x, type, pos, after, guard⟩ :: rest) a w :=
 wpList_load_at ty x b o cs d hu hd hi hc hw hx (by rw [hv]; exact h)
theorem wpQuiet_load_to {P : Program} {ops : Array Oper} {rest : List Oper} {a : Act} {W : World} {Q : Act → Prop} {dst : Option Tmp} {type : TypeId} {pos : String} {after : Array Edge} {guard : Option (Nat × Bool)} (ty : TypeId) (x : Operand)
 (b o : Nat) (cs : List Value) (v : Value) (hv : Value.agg cs.toArray = v) (d : TypeDesc) (hu : P.underlying ty = some d) (hd : d.isRow = true) (hi : (P.info? ty).map (·.size) = some cs.length)
 (hc : W.rangeAt b o cs)
 (hw : Region.wanted ⟨dst, .load ty x, type, pos, after, guard⟩ (yielded ops a.tmps) = true)
 (hx : a.eval x = .pointer (some ⟨b, o, none⟩))
 (h : wpQuiet P ops (fun w' => ∃ i : After W, w' = i.w) Q rest (a.put dst v)) : wpQuiet P ops (fun w' => ∃ i : After W, w' = i.w) Q (⟨dst, .load ty x, type, pos, after, guard⟩ :: rest) a :=
 wpQuiet_load_at ty x b o cs d hu hd hi (fun _ hw' => by obtain ⟨i, rfl⟩ := hw'; exact rangeAt_kept hc i.h) hw hx (by rw [hv]; exact h)
end Go.Proofs.YtkklcpmbgfgcmaaGreat
/- Bytes compared. Conditions: at most 2^30 of them. -/
namespace Go.Proofs.YtkklcpmbgfgcmaaGreat
open Go.RowKit
end Go.Proofs.YtkklcpmbgfgcmaaGreat
/- Lists of dots compared, bytes compared. Conditions: at most 2^30 of them. -/
namespace Go.Proofs.YtkklcpmbgfgcmaaGreat
open Go.RowKit
end Go.Proofs.YtkklcpmbgfgcmaaGreat
/- Are two events the same: the reference's Same. Conditions: at most 2^30 dots. -/
namespace Go.Proofs.YtkklcpmbgfgcmaaGreat
open Go.RowKit
end Go.Proofs.YtkklcpmbgfgcmaaGreat
/- Are two events the same: event.Same. Conditions: at most 2^30 dots. -/
namespace Go.Proofs.YtkklcpmbgfgcmaaGreat
open Go.RowKit
end Go.Proofs.YtkklcpmbgfgcmaaGreat
/- Which events may be: the reference's Right. Conditions: texts of at most 2^30 bytes, at most 2^30 dots. -/
namespace Go.Proofs.YtkklcpmbgfgcmaaGreat
open Go.RowKit
end Go.Proofs.YtkklcpmbgfgcmaaGreat
/- Which events are short enough to be gone over: the reference's Light. Conditions: none. -/
namespace Go.Proofs.YtkklcpmbgfgcmaaGreat
open Go.RowKit
end Go.Proofs.YtkklcpmbgfgcmaaGreat
/- Which events may be: event.Right. Conditions: texts of at most 2^30 bytes, at most 2^30 dots. -/
namespace Go.Proofs.YtkklcpmbgfgcmaaGreat
open Go.RowKit
end Go.Proofs.YtkklcpmbgfgcmaaGreat
