/- A whole struct loaded out of a block, at once; which cells an event has. Conditions: none. -/
import Derived.Test.YtcijajjngmmbeaaGreatEvent
import Derived.Deep.MidRow
import Derived.Test.YtcijajjngmmbeaaGreatPack
import Derived.Maps.AppendAt
import Derived.Deep.AppendLies
set_option linter.unusedSimpArgs false
set_option linter.unusedVariables false
set_option linter.unnecessarySimpa false
namespace Go.Proofs.YtcijajjngmmbeaaGreat
open Go.RowKit

theorem wpList_load_at {P : Program} {ops : Array Oper} {rest : List Oper} {a : Act} {w : World} {Q : Exit → Act → World → Prop} {dst : Option Tmp} {type : TypeId} {pos : String} {after : Array Edge} {guard : Option (Nat × Bool)} (ty : TypeId) (x : Operand)
    (b o : Nat) (cs : List Value) (d : TypeDesc) (hu : P.underlying ty = some d) (hd : d.isRow = true) (hi : (P.info? ty).map (·.size) = some cs.length)
    (hc : w.rangeAt b o cs)
    (hw : Region.wanted ⟨dst, .load ty x, type, pos, after, guard⟩ (yielded ops a.tmps) = true)
    (hx : a.eval x = .pointer (some ⟨b, o, none⟩))
    (h : wpList P ops Q rest (a.put dst (.agg cs.toArray)) w) : wpList P ops Q (⟨dst, .load ty x, type, pos, after, guard⟩ :: rest) a w :=
  BigFrame.wpList_want hw fun _ hK => wp_load_mid ty x rfl b o hx cs d hc hu hd hi (hK _ _ h)

theorem rangeAt_kept {w w' : World} {b o : Nat} {cs : List Value} (h : w.rangeAt b o cs) (hb : Below w.heap.size w w') : w'.rangeAt b o cs := fun j v hv => kept hb (h j v hv)

def evCells (e : Ev) (a : Option Addr) (cap : Nat) : List Value :=
  [.int .i64 e.dot.a.dev, .int .i64 e.dot.a.inc, .int .i64 e.dot.seq, .int .i64 e.stamp.wall, .int .i64 e.stamp.count, .int .i64 e.stamp.dev, .int .i64 e.kind, .string e.key.name, .string e.key.domain, .string e.key.path, .string e.ck.value, .bool e.ck.hostOnly, .bool e.ck.secure, .bool e.ck.httpOnly, .bool e.ck.persistent, .int .i64 e.ck.expiry, .int .i64 e.ck.creation, .int .i64 e.ck.access, .slice a e.over.length cap]
theorem evCells_val (e : Ev) (a : Option Addr) (cap : Nat) : Value.agg (evCells e a cap).toArray = evVal e a cap := rfl
theorem evCells_box (e : Ev) (a : Option Addr) (cap : Nat) (w : World) (t : TypeId) : (w.alloc (Obj.cells #[.int .i64 e.dot.a.dev, .int .i64 e.dot.a.inc, .int .i64 e.dot.seq, .int .i64 e.stamp.wall, .int .i64 e.stamp.count, .int .i64 e.stamp.dev, .int .i64 e.kind, .string e.key.name, .string e.key.domain, .string e.key.path, .string e.ck.value, .bool e.ck.hostOnly, .bool e.ck.secure, .bool e.ck.httpOnly, .bool e.ck.persistent, .int .i64 e.ck.expiry, .int .i64 e.ck.creation, .int .i64 e.ck.access, .slice a e.over.length cap] t)).rangeAt w.heap.size 0 (evCells e a cap) := by
  intro j v hv
  rw [Nat.zero_add, World.cell?_alloc_new]
  exact (by simpa [evCells] using hv)

/-- the load of an event that lies in block b -/
theorem wpList_load_ev {ops : Array Oper} {rest : List Oper} {a : Act} {w : World} {Q : Exit → Act → World → Prop} {dst : Option Tmp} {type : TypeId} {pos : String} {after : Array Edge} {guard : Option (Nat × Bool)} (x : Operand)
    (b : Nat) (e : Ev) (ad : Option Addr) (cap : Nat) (hc : w.rangeAt b 0 (evCells e ad cap))
    (hw : Region.wanted ⟨dst, .load 42 x, type, pos, after, guard⟩ (yielded ops a.tmps) = true)
    (hx : a.eval x = .pointer (some ⟨b, 0, none⟩))
    (h : wpList Tryz.prog ops Q rest (a.put dst (evVal e ad cap)) w) : wpList Tryz.prog ops Q (⟨dst, .load 42 x, type, pos, after, guard⟩ :: rest) a w :=
  wpList_load_at 42 x b 0 (evCells e ad cap) _ Tryz.underlying42 rfl (by kernel_rfl) hc hw hx h
theorem wpQuiet_load_at {P : Program} {ops : Array Oper} {rest : List Oper} {a : Act} {C : World → Prop} {Q : Act → Prop} {dst : Option Tmp} {type : TypeId} {pos : String} {after : Array Edge} {guard : Option (Nat × Bool)} (ty : TypeId) (x : Operand)
    (b o : Nat) (cs : List Value) (d : TypeDesc) (hu : P.underlying ty = some d) (hd : d.isRow = true) (hi : (P.info? ty).map (·.size) = some cs.length)
    (hc : ∀ w, C w → w.rangeAt b o cs)
    (hw : Region.wanted ⟨dst, .load ty x, type, pos, after, guard⟩ (yielded ops a.tmps) = true)
    (hx : a.eval x = .pointer (some ⟨b, o, none⟩))
    (h : wpQuiet P ops C Q rest (a.put dst (.agg cs.toArray))) : wpQuiet P ops C Q (⟨dst, .load ty x, type, pos, after, guard⟩ :: rest) a :=
  BigFrame.wpQuiet_want hw fun K hK => ⟨.agg cs.toArray, fun w hw' => by
    unfold Oper.quietAt execOp
    simp only [hx, Instr.loadAt, Instr.sureAddr, Sem.run_bind, Sem.run_pure, Result.andThen_ok, run_loadVar_mid w b o ty cs d (hc w hw') hu hd hi]
    exact ⟨rfl, rfl⟩, hK _ h⟩
/-- the load of an event out of block b, in a region whose order is open -/
theorem wpQuiet_load_ev {ops : Array Oper} {rest : List Oper} {a : Act} {W : World} {Q : Act → Prop} {dst : Option Tmp} {type : TypeId} {pos : String} {after : Array Edge} {guard : Option (Nat × Bool)} (x : Operand)
    (b : Nat) (e : Ev) (ad : Option Addr) (cap : Nat) (hc : W.rangeAt b 0 (evCells e ad cap))
    (hw : Region.wanted ⟨dst, .load 42 x, type, pos, after, guard⟩ (yielded ops a.tmps) = true)
    (hx : a.eval x = .pointer (some ⟨b, 0, none⟩))
    (h : wpQuiet Tryz.prog ops (fun w' => ∃ i : After W, w' = i.w) Q rest (a.put dst (evVal e ad cap))) : wpQuiet Tryz.prog ops (fun w' => ∃ i : After W, w' = i.w) Q (⟨dst, .load 42 x, type, pos, after, guard⟩ :: rest) a :=
  wpQuiet_load_at 42 x b 0 (evCells e ad cap) _ Tryz.underlying42 rfl (by kernel_rfl) (fun _ hw' => by obtain ⟨i, rfl⟩ := hw'; exact rangeAt_kept hc i.h) hw hx h
end Go.Proofs.YtcijajjngmmbeaaGreat

/- Loads of whole structs, the value as its reader spells it. Conditions: none. -/
namespace Go.Proofs.YtcijajjngmmbeaaGreat
open Go.RowKit

theorem wpList_load_to {P : Program} {ops : Array Oper} {rest : List Oper} {a : Act} {w : World} {Q : Exit → Act → World → Prop} {dst : Option Tmp} {type : TypeId} {pos : String} {after : Array Edge} {guard : Option (Nat × Bool)} (ty : TypeId) (x : Operand)
    (b o : Nat) (cs : List Value) (v : Value) (hv : Value.agg cs.toArray = v) (d : TypeDesc) (hu : P.underlying ty = some d) (hd : d.isRow = true) (hi : (P.info? ty).map (·.size) = some cs.length)
    (hc : w.rangeAt b o cs)
    (hw : Region.wanted ⟨dst, .load ty x, type, pos, after, guard⟩ (yielded ops a.tmps) = true)
    (hx : a.eval x = .pointer (some ⟨b, o, none⟩))
    (h : wpList P ops Q rest (a.put dst v) w) : wpList P ops Q (⟨dst, .load ty x, type, pos, after, guard⟩ :: rest) a w :=
  wpList_load_at ty x b o cs d hu hd hi hc hw hx (by rw [hv]; exact h)
/-- an event out of block b, place o -/
theorem wpList_load_evo {ops : Array Oper} {rest : List Oper} {a : Act} {w : World} {Q : Exit → Act → World → Prop} {dst : Option Tmp} {type : TypeId} {pos : String} {after : Array Edge} {guard : Option (Nat × Bool)} (x : Operand)
    (b o : Nat) (e : Ev) (ad : Option Addr) (cap : Nat) (hc : w.rangeAt b o (evCells e ad cap))
    (hw : Region.wanted ⟨dst, .load 42 x, type, pos, after, guard⟩ (yielded ops a.tmps) = true)
    (hx : a.eval x = .pointer (some ⟨b, o, none⟩))
    (h : wpList Tryz.prog ops Q rest (a.put dst (evVal e ad cap)) w) : wpList Tryz.prog ops Q (⟨dst, .load 42 x, type, pos, after, guard⟩ :: rest) a w :=
  wpList_load_at 42 x b o (evCells e ad cap) _ Tryz.underlying42 rfl (by kernel_rfl) hc hw hx h
theorem wpQuiet_load_evo {ops : Array Oper} {rest : List Oper} {a : Act} {W : World} {Q : Act → Prop} {dst : Option Tmp} {type : TypeId} {pos : String} {after : Array Edge} {guard : Option (Nat × Bool)} (x : Operand)
    (b o : Nat) (e : Ev) (ad : Option Addr) (cap : Nat) (hc : W.rangeAt b o (evCells e ad cap))
    (hw : Region.wanted ⟨dst, .load 42 x, type, pos, after, guard⟩ (yielded ops a.tmps) = true)
    (hx : a.eval x = .pointer (some ⟨b, o, none⟩))
    (h : wpQuiet Tryz.prog ops (fun w' => ∃ i : After W, w' = i.w) Q rest (a.put dst (evVal e ad cap))) : wpQuiet Tryz.prog ops (fun w' => ∃ i : After W, w' = i.w) Q (⟨dst, .load 42 x, type, pos, after, guard⟩ :: rest) a :=
  wpQuiet_load_at 42 x b o (evCells e ad cap) _ Tryz.underlying42 rfl (by kernel_rfl) (fun _ hw' => by obtain ⟨i, rfl⟩ := hw'; exact rangeAt_kept hc i.h) hw hx h
theorem wpQuiet_load_to {P : Program} {ops : Array Oper} {rest : List Oper} {a : Act} {W : World} {Q : Act → Prop} {dst : Option Tmp} {type : TypeId} {pos : String} {after : Array Edge} {guard : Option (Nat × Bool)} (ty : TypeId) (x : Operand)
    (b o : Nat) (cs : List Value) (v : Value) (hv : Value.agg cs.toArray = v) (d : TypeDesc) (hu : P.underlying ty = some d) (hd : d.isRow = true) (hi : (P.info? ty).map (·.size) = some cs.length)
    (hc : W.rangeAt b o cs)
    (hw : Region.wanted ⟨dst, .load ty x, type, pos, after, guard⟩ (yielded ops a.tmps) = true)
    (hx : a.eval x = .pointer (some ⟨b, o, none⟩))
    (h : wpQuiet P ops (fun w' => ∃ i : After W, w' = i.w) Q rest (a.put dst v)) : wpQuiet P ops (fun w' => ∃ i : After W, w' = i.w) Q (⟨dst, .load ty x, type, pos, after, guard⟩ :: rest) a :=
  wpQuiet_load_at ty x b o cs d hu hd hi (fun _ hw' => by obtain ⟨i, rfl⟩ := hw'; exact rangeAt_kept hc i.h) hw hx (by rw [hv]; exact h)
/-- the same, as a step of a region whose order is open -/
theorem step_load_to {P : Program} {ops : Array Oper} {a : Act} {w : World} {K : Act → World → Prop} {Q : Exit → Act → World → Prop} {E : Prop} {dst : Option Tmp} {type : TypeId} {pos : String} {after : Array Edge} {guard : Option (Nat × Bool)} (ty : TypeId) (x : Operand)
    (b o : Nat) (cs : List Value) (v : Value) (hv : Value.agg cs.toArray = v) (d : TypeDesc) (hu : P.underlying ty = some d) (hd : d.isRow = true) (hi : (P.info? ty).map (·.size) = some cs.length)
    (hc : w.rangeAt b o cs)
    (hw : Region.wanted ⟨dst, .load ty x, type, pos, after, guard⟩ (yielded ops a.tmps) = true)
    (hx : a.eval x = .pointer (some ⟨b, o, none⟩))
    (h : K (a.put dst v) w) : if Region.wanted ⟨dst, .load ty x, type, pos, after, guard⟩ (yielded ops a.tmps) = true then Oper.wp P ⟨dst, .load ty x, type, pos, after, guard⟩ a w K Q else E := by
  rw [if_pos hw]
  exact wp_load_mid ty x rfl b o hx cs d hc hu hd hi (by rw [hv]; exact h)
/-- append of bytes to a row of bytes of one's own, whatever the source is -/
theorem run_append_bytes (w : World) (base : Nat) (v : Value) (d : Bytes) (hown : w.ownsRow base 5 1 v d.length (byteVals d)) (A : Option Addr) (m : Bytes) (c : Nat) (hin : BytesIn w A m)
    (hb : d.length + m.length ≤ 1073741824) (hbase : base ≤ w.heap.size) :
    ∃ v' w', (Builtin.append_ #[183, 183] 183 #[v, .slice A m.length c]).run Tryz.prog w = .ok v' w' ∧ w'.ownsRow base 5 1 v' (d ++ m).length (byteVals (d ++ m)) ∧ w.grownBy w' v.ownBlock := by
  obtain ⟨i0, hi, hz0, hz1, hz2⟩ := info_parts Tryz.infoByte
  have key : ∀ (ad : Addr), A = some ad → (∀ j u, (byteVals m)[j]? = some u → w.cell? (ad.add j) = some u) → ∃ v' w', (Builtin.append_ #[183, 183] 183 #[v, .slice A m.length c]).run Tryz.prog w = .ok v' w' ∧ w'.ownsRow base 5 1 v' (d ++ m).length (byteVals (d ++ m)) ∧ w.grownBy w' v.ownBlock := fun ad hA hn => by
    obtain ⟨v', w', hrun, h2, h3, _, _⟩ := run_append_own_at (P := Tryz.prog) w base 183 183 5 i0 (.int .u8 0) 1 1 Tryz.underlying183 hi hz0 hz1 hz2 rfl (by decide) v d.length (byteVals d) hown ad m.length c (byteVals m) (by simp [byteVals_length]) hn (byteVals_one m) (by unfold maxLen; omega) (by omega) hbase
    exact ⟨v', w', by rw [hA]; exact hrun, by rw [byteVals_append, List.length_append]; exact h2, h3⟩
  rcases hin with h0 | ⟨B, off, rfl, hb2⟩
  · subst h0
    rcases A with _ | ad
    · refine ⟨v, w, ?_, by simpa using hown, World.grownBy.refl w _⟩
      rcases hown.2 with ⟨rfl, h0⟩ | ⟨g, cap, cur, rfl, _, _, hnc, _⟩
      · simp [Builtin.append_, run_underlying Tryz.underlying183, sizeOf, typeInfo, hi, Builtin.lenOf, Builtin.firstCells]
      · simp [Builtin.append_, run_underlying Tryz.underlying183, sizeOf, typeInfo, hi, Builtin.lenOf, Builtin.firstCells, hnc, storeCells]
    · exact key ad rfl (fun j u hu => by simp [byteVals] at hu)
  · exact key _ rfl hb2.news
theorem wp_append_bytes {o : Oper} {a : Act} {w : World} {K : Act → World → Prop} {Q : Exit → Act → World → Prop} (s x : Operand)
    (ho : o.op = .call { callee := .builtin .append, args := #[s, x], argTypes := #[183, 183] }) (hty : o.type = 183)
    (base : Nat) (v : Value) (d : Bytes) (hs : a.eval s = v) (hown : w.ownsRow base 5 1 v d.length (byteVals d)) (A : Option Addr) (m : Bytes) (c : Nat) (hx : a.eval x = .slice A m.length c) (hin : BytesIn w A m)
    (hb : d.length + m.length ≤ 1073741824) (hbase : base ≤ w.heap.size)
    (h : ∀ v' w', w'.ownsRow base 5 1 v' (d ++ m).length (byteVals (d ++ m)) → w.grownBy w' v.ownBlock → K (a.put o.dst v') w') : o.wp Tryz.prog a w K Q := by
  obtain ⟨v', w', hrun, h2, h3⟩ := run_append_bytes w base v d hown A m c hin hb hbase
  unfold Oper.wp execOp
  simp only [ho, hty, resolve, invoke, builtin, Sem.run_bind, Sem.run_pure, Result.andThen_ok, List.map_toArray, List.map_cons, List.map_nil, hs, hx, hrun]
  exact h v' w' h2 h3
theorem wpList_append_bytes {ops : Array Oper} {rest : List Oper} {o : Oper} {a : Act} {w : World} {Q : Exit → Act → World → Prop} (hgd : o.guard = none) (s x : Operand)
    (ho : o.op = .call { callee := .builtin .append, args := #[s, x], argTypes := #[183, 183] }) (hty : o.type = 183)
    (base : Nat) (v : Value) (d : Bytes) (hs : a.eval s = v) (hown : w.ownsRow base 5 1 v d.length (byteVals d)) (A : Option Addr) (m : Bytes) (c : Nat) (hx : a.eval x = .slice A m.length c) (hin : BytesIn w A m)
    (hb : d.length + m.length ≤ 1073741824) (hbase : base ≤ w.heap.size)
    (h : ∀ v' w', w'.ownsRow base 5 1 v' (d ++ m).length (byteVals (d ++ m)) → w.grownBy w' v.ownBlock → wpList Tryz.prog ops Q rest (a.put o.dst v') w') : wpList Tryz.prog ops Q (o :: rest) a w :=
  wpList_plain hgd fun _ hK => wp_append_bytes s x ho hty base v d hs hown A m c hx hin hb hbase fun v' w' h2 h3 => hK _ _ (h v' w' h2 h3)
theorem step_append_bytes {ops : Array Oper} {o : Oper} {a : Act} {w : World} {K : Act → World → Prop} {Q : Exit → Act → World → Prop} {E : Prop} (hw : Region.wanted o (yielded ops a.tmps) = true) (s x : Operand)
    (ho : o.op = .call { callee := .builtin .append, args := #[s, x], argTypes := #[183, 183] }) (hty : o.type = 183)
    (base : Nat) (v : Value) (d : Bytes) (hs : a.eval s = v) (hown : w.ownsRow base 5 1 v d.length (byteVals d)) (A : Option Addr) (m : Bytes) (c : Nat) (hx : a.eval x = .slice A m.length c) (hin : BytesIn w A m)
    (hb : d.length + m.length ≤ 1073741824) (hbase : base ≤ w.heap.size)
    (h : ∀ v' w', w'.ownsRow base 5 1 v' (d ++ m).length (byteVals (d ++ m)) → w.grownBy w' v.ownBlock → K (a.put o.dst v') w') :
    if Region.wanted o (yielded ops a.tmps) = true then Oper.wp Tryz.prog o a w K Q else E := by
  rw [if_pos hw]
  exact wp_append_bytes s x ho hty base v d hs hown A m c hx hin hb hbase h
/-- an empty slice of bytes, made in a region whose order is open -/
theorem step_build0 {ops : Array Oper} {o : Oper} {a : Act} {w : World} {K : Act → World → Prop} {Q : Exit → Act → World → Prop} {E : Prop} (hw : Region.wanted o (yielded ops a.tmps) = true)
    (ho : o.op = .buildSlice 183 0 #[])
    (h : ∀ v' w', w'.ownsRow w.heap.size 5 1 v' ([] : Bytes).length (byteVals []) → Below w.heap.size w w' → K (a.put o.dst v') w') :
    if Region.wanted o (yielded ops a.tmps) = true then Oper.wp Tryz.prog o a w K Q else E := by
  obtain ⟨i0, hi, hz0, hz1, hz2⟩ := info_parts Tryz.infoByte
  rw [if_pos hw]
  have hrun : (Instr.buildSlice 183 0 #[]).run Tryz.prog w = .ok (.slice (some ⟨w.heap.size, 0, none⟩) 0 0) (w.alloc (.cells #[] 5)) := by
    simp [Instr.buildSlice, run_underlying Tryz.underlying183, sizeOf, typeInfo, zeroValue, hi, hz0, hz1, newRow, Instr.fill]
    rw [show (Array.map (fun _ => default) (Array.range 0) : Array Value) = #[] from Array.eq_empty_of_size_eq_zero (by simp)]
  unfold Oper.wp execOp
  simp only [ho, Sem.run_bind, Array.map_empty, hrun, Result.andThen_ok]
  exact h _ _ (World.ownsRow_made _ _ _ (Nat.le_refl _) (by decide) rfl) ((Below.refl _ _).alloc (Nat.le_refl _) _)
end Go.Proofs.YtcijajjngmmbeaaGreat
