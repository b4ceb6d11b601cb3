/- A whole struct loaded out of a block, at once; which cells an event has. Conditions: none. -/
import Derived.Test.YtcijajjngmmbeaaEvent
import Derived.Deep.MidRow
set_option linter.unusedSimpArgs false
set_option linter.unusedVariables false
set_option linter.unnecessarySimpa false
namespace Go.Proofs.Ytcijajjngmmbeaa
open Go.RowKit

theorem wpList_load_at {P : Program} {ops : Array Oper} {rest : List Oper} {a : Act} {w : World} {Q : Exit → Act → World → Prop} {dst : Option Tmp} {type : TypeId} {pos : String} {after : Array Edge} {guard : Option (Nat × Bool)} (ty : TypeId) (x : Operand)
    (b o : Nat) (cs : List Value) (d : TypeDesc) (hu : P.underlying ty = some d) (hd : d.isRow = true) (hi : (P.info? ty).map (·.size) = some cs.length)
    (hc : w.rangeAt b o cs)
    (hw : Region.wanted ⟨dst, .load ty x, type, pos, after, guard⟩ (yielded ops a.tmps) = true)
    (hx : a.eval x = .pointer (some ⟨b, o, none⟩))
    (h : wpList P ops Q rest (a.put dst (.agg cs.toArray)) w) : wpList P ops Q (⟨dst, .load ty x, type, pos, after, guard⟩ :: rest) a w :=
  BigFrame.wpList_want hw fun _ hK => wp_load_mid ty x rfl b o hx cs d hc hu hd hi (hK _ _ h)

theorem rangeAt_kept {w w' : World} {b o : Nat} {cs : List Value} (h : w.rangeAt b o cs) (hb : Below w.heap.size w w') : w'.rangeAt b o cs := fun j v hv => kept hb (h j v hv)

def evCells (e : Ev) (a : Option Addr) (cap : Nat) : List Value :=
  [.int .i64 e.dot.a.dev, .int .i64 e.dot.a.inc, .int .i64 e.dot.seq, .int .i64 e.stamp.wall, .int .i64 e.stamp.count, .int .i64 e.stamp.dev, .int .i64 e.kind, .string e.key.name, .string e.key.domain, .string e.key.path, .string e.ck.value, .bool e.ck.hostOnly, .bool e.ck.secure, .bool e.ck.httpOnly, .bool e.ck.persistent, .int .i64 e.ck.expiry, .int .i64 e.ck.creation, .int .i64 e.ck.access, .slice a e.over.length cap]
theorem evCells_val (e : Ev) (a : Option Addr) (cap : Nat) : Value.agg (evCells e a cap).toArray = evVal e a cap := rfl
theorem evCells_box (e : Ev) (a : Option Addr) (cap : Nat) (w : World) (t : TypeId) : (w.alloc (Obj.cells #[.int .i64 e.dot.a.dev, .int .i64 e.dot.a.inc, .int .i64 e.dot.seq, .int .i64 e.stamp.wall, .int .i64 e.stamp.count, .int .i64 e.stamp.dev, .int .i64 e.kind, .string e.key.name, .string e.key.domain, .string e.key.path, .string e.ck.value, .bool e.ck.hostOnly, .bool e.ck.secure, .bool e.ck.httpOnly, .bool e.ck.persistent, .int .i64 e.ck.expiry, .int .i64 e.ck.creation, .int .i64 e.ck.access, .slice a e.over.length cap] t)).rangeAt w.heap.size 0 (evCells e a cap) := by
  intro j v hv
  rw [Nat.zero_add, World.cell?_alloc_new]
  exact (by simpa [evCells] using hv)

/-- the load of an event that lies in block b -/
theorem wpList_load_ev {ops : Array Oper} {rest : List Oper} {a : Act} {w : World} {Q : Exit → Act → World → Prop} {dst : Option Tmp} {type : TypeId} {pos : String} {after : Array Edge} {guard : Option (Nat × Bool)} (x : Operand)
    (b : Nat) (e : Ev) (ad : Option Addr) (cap : Nat) (hc : w.rangeAt b 0 (evCells e ad cap))
    (hw : Region.wanted ⟨dst, .load 39 x, type, pos, after, guard⟩ (yielded ops a.tmps) = true)
    (hx : a.eval x = .pointer (some ⟨b, 0, none⟩))
    (h : wpList Try.prog ops Q rest (a.put dst (evVal e ad cap)) w) : wpList Try.prog ops Q (⟨dst, .load 39 x, type, pos, after, guard⟩ :: rest) a w :=
  wpList_load_at 39 x b 0 (evCells e ad cap) _ Try.underlying39 rfl (by kernel_rfl) hc hw hx h
theorem wpQuiet_load_at {P : Program} {ops : Array Oper} {rest : List Oper} {a : Act} {C : World → Prop} {Q : Act → Prop} {dst : Option Tmp} {type : TypeId} {pos : String} {after : Array Edge} {guard : Option (Nat × Bool)} (ty : TypeId) (x : Operand)
    (b o : Nat) (cs : List Value) (d : TypeDesc) (hu : P.underlying ty = some d) (hd : d.isRow = true) (hi : (P.info? ty).map (·.size) = some cs.length)
    (hc : ∀ w, C w → w.rangeAt b o cs)
    (hw : Region.wanted ⟨dst, .load ty x, type, pos, after, guard⟩ (yielded ops a.tmps) = true)
    (hx : a.eval x = .pointer (some ⟨b, o, none⟩))
    (h : wpQuiet P ops C Q rest (a.put dst (.agg cs.toArray))) : wpQuiet P ops C Q (⟨dst, .load ty x, type, pos, after, guard⟩ :: rest) a :=
  BigFrame.wpQuiet_want hw fun K hK => ⟨.agg cs.toArray, fun w hw' => by
    unfold Oper.quietAt execOp
    simp only [hx, Instr.loadAt, Instr.sureAddr, Sem.run_bind, Sem.run_pure, Result.andThen_ok, run_loadVar_mid w b o ty cs d (hc w hw') hu hd hi]
    exact ⟨rfl, rfl⟩, hK _ h⟩
/-- the load of an event out of block b, in a region whose order is open -/
theorem wpQuiet_load_ev {ops : Array Oper} {rest : List Oper} {a : Act} {W : World} {Q : Act → Prop} {dst : Option Tmp} {type : TypeId} {pos : String} {after : Array Edge} {guard : Option (Nat × Bool)} (x : Operand)
    (b : Nat) (e : Ev) (ad : Option Addr) (cap : Nat) (hc : W.rangeAt b 0 (evCells e ad cap))
    (hw : Region.wanted ⟨dst, .load 39 x, type, pos, after, guard⟩ (yielded ops a.tmps) = true)
    (hx : a.eval x = .pointer (some ⟨b, 0, none⟩))
    (h : wpQuiet Try.prog ops (fun w' => ∃ i : After W, w' = i.w) Q rest (a.put dst (evVal e ad cap))) : wpQuiet Try.prog ops (fun w' => ∃ i : After W, w' = i.w) Q (⟨dst, .load 39 x, type, pos, after, guard⟩ :: rest) a :=
  wpQuiet_load_at 39 x b 0 (evCells e ad cap) _ Try.underlying39 rfl (by kernel_rfl) (fun _ hw' => by obtain ⟨i, rfl⟩ := hw'; exact rangeAt_kept hc i.h) hw hx h
end Go.Proofs.Ytcijajjngmmbeaa
