/- Loads of whole structs, the value as its reader spells it. Conditions: none. -/
import Derived.Test.YtcijajjngmmbeaaLoad
import Derived.Test.YtcijajjngmmbeaaPack
import Derived.Maps.AppendAt
import Derived.Deep.AppendLies
set_option linter.unusedSimpArgs false
set_option linter.unusedVariables false
set_option linter.unnecessarySimpa false
namespace Go.Proofs.Ytcijajjngmmbeaa
open Go.RowKit

theorem wpList_load_to {P : Program} {ops : Array Oper} {rest : List Oper} {a : Act} {w : World} {Q : Exit → Act → World → Prop} {dst : Option Tmp} {type : TypeId} {pos : String} {after : Array Edge} {guard : Option (Nat × Bool)} (ty : TypeId) (x : Operand)
    (b o : Nat) (cs : List Value) (v : Value) (hv : Value.agg cs.toArray = v) (d : TypeDesc) (hu : P.underlying ty = some d) (hd : d.isRow = true) (hi : (P.info? ty).map (·.size) = some cs.length)
    (hc : w.rangeAt b o cs)
    (hw : Region.wanted ⟨dst, .load ty x, type, pos, after, guard⟩ (yielded ops a.tmps) = true)
    (hx : a.eval x = .pointer (some ⟨b, o, none⟩))
    (h : wpList P ops Q rest (a.put dst v) w) : wpList P ops Q (⟨dst, .load ty x, type, pos, after, guard⟩ :: rest) a w :=
  wpList_load_at ty x b o cs d hu hd hi hc hw hx (by rw [hv]; exact h)
/-- an event out of block b, place o -/
theorem wpList_load_evo {ops : Array Oper} {rest : List Oper} {a : Act} {w : World} {Q : Exit → Act → World → Prop} {dst : Option Tmp} {type : TypeId} {pos : String} {after : Array Edge} {guard : Option (Nat × Bool)} (x : Operand)
    (b o : Nat) (e : Ev) (ad : Option Addr) (cap : Nat) (hc : w.rangeAt b o (evCells e ad cap))
    (hw : Region.wanted ⟨dst, .load 39 x, type, pos, after, guard⟩ (yielded ops a.tmps) = true)
    (hx : a.eval x = .pointer (some ⟨b, o, none⟩))
    (h : wpList Try.prog ops Q rest (a.put dst (evVal e ad cap)) w) : wpList Try.prog ops Q (⟨dst, .load 39 x, type, pos, after, guard⟩ :: rest) a w :=
  wpList_load_at 39 x b o (evCells e ad cap) _ Try.underlying39 rfl (by kernel_rfl) hc hw hx h
theorem wpQuiet_load_evo {ops : Array Oper} {rest : List Oper} {a : Act} {W : World} {Q : Act → Prop} {dst : Option Tmp} {type : TypeId} {pos : String} {after : Array Edge} {guard : Option (Nat × Bool)} (x : Operand)
    (b o : Nat) (e : Ev) (ad : Option Addr) (cap : Nat) (hc : W.rangeAt b o (evCells e ad cap))
    (hw : Region.wanted ⟨dst, .load 39 x, type, pos, after, guard⟩ (yielded ops a.tmps) = true)
    (hx : a.eval x = .pointer (some ⟨b, o, none⟩))
    (h : wpQuiet Try.prog ops (fun w' => ∃ i : After W, w' = i.w) Q rest (a.put dst (evVal e ad cap))) : wpQuiet Try.prog ops (fun w' => ∃ i : After W, w' = i.w) Q (⟨dst, .load 39 x, type, pos, after, guard⟩ :: rest) a :=
  wpQuiet_load_at 39 x b o (evCells e ad cap) _ Try.underlying39 rfl (by kernel_rfl) (fun _ hw' => by obtain ⟨i, rfl⟩ := hw'; exact rangeAt_kept hc i.h) hw hx h
theorem wpQuiet_load_to {P : Program} {ops : Array Oper} {rest : List Oper} {a : Act} {W : World} {Q : Act → Prop} {dst : Option Tmp} {type : TypeId} {pos : String} {after : Array Edge} {guard : Option (Nat × Bool)} (ty : TypeId) (x : Operand)
    (b o : Nat) (cs : List Value) (v : Value) (hv : Value.agg cs.toArray = v) (d : TypeDesc) (hu : P.underlying ty = some d) (hd : d.isRow = true) (hi : (P.info? ty).map (·.size) = some cs.length)
    (hc : W.rangeAt b o cs)
    (hw : Region.wanted ⟨dst, .load ty x, type, pos, after, guard⟩ (yielded ops a.tmps) = true)
    (hx : a.eval x = .pointer (some ⟨b, o, none⟩))
    (h : wpQuiet P ops (fun w' => ∃ i : After W, w' = i.w) Q rest (a.put dst v)) : wpQuiet P ops (fun w' => ∃ i : After W, w' = i.w) Q (⟨dst, .load ty x, type, pos, after, guard⟩ :: rest) a :=
  wpQuiet_load_at ty x b o cs d hu hd hi (fun _ hw' => by obtain ⟨i, rfl⟩ := hw'; exact rangeAt_kept hc i.h) hw hx (by rw [hv]; exact h)
/-- the same, as a step of a region whose order is open -/
theorem step_load_to {P : Program} {ops : Array Oper} {a : Act} {w : World} {K : Act → World → Prop} {Q : Exit → Act → World → Prop} {E : Prop} {dst : Option Tmp} {type : TypeId} {pos : String} {after : Array Edge} {guard : Option (Nat × Bool)} (ty : TypeId) (x : Operand)
    (b o : Nat) (cs : List Value) (v : Value) (hv : Value.agg cs.toArray = v) (d : TypeDesc) (hu : P.underlying ty = some d) (hd : d.isRow = true) (hi : (P.info? ty).map (·.size) = some cs.length)
    (hc : w.rangeAt b o cs)
    (hw : Region.wanted ⟨dst, .load ty x, type, pos, after, guard⟩ (yielded ops a.tmps) = true)
    (hx : a.eval x = .pointer (some ⟨b, o, none⟩))
    (h : K (a.put dst v) w) : if Region.wanted ⟨dst, .load ty x, type, pos, after, guard⟩ (yielded ops a.tmps) = true then Oper.wp P ⟨dst, .load ty x, type, pos, after, guard⟩ a w K Q else E := by
  rw [if_pos hw]
  exact wp_load_mid ty x rfl b o hx cs d hc hu hd hi (by rw [hv]; exact h)
/-- append of bytes to a row of bytes of one's own, whatever the source is -/
theorem run_append_bytes (w : World) (base : Nat) (v : Value) (d : Bytes) (hown : w.ownsRow base 5 1 v d.length (byteVals d)) (A : Option Addr) (m : Bytes) (c : Nat) (hin : BytesIn w A m)
    (hb : d.length + m.length ≤ 1073741824) (hbase : base ≤ w.heap.size) :
    ∃ v' w', (Builtin.append_ #[82, 82] 82 #[v, .slice A m.length c]).run Try.prog w = .ok v' w' ∧ w'.ownsRow base 5 1 v' (d ++ m).length (byteVals (d ++ m)) ∧ w.grownBy w' v.ownBlock := by
  obtain ⟨i0, hi, hz0, hz1, hz2⟩ := info_parts Try.infoByte
  have key : ∀ (ad : Addr), A = some ad → (∀ j u, (byteVals m)[j]? = some u → w.cell? (ad.add j) = some u) → ∃ v' w', (Builtin.append_ #[82, 82] 82 #[v, .slice A m.length c]).run Try.prog w = .ok v' w' ∧ w'.ownsRow base 5 1 v' (d ++ m).length (byteVals (d ++ m)) ∧ w.grownBy w' v.ownBlock := fun ad hA hn => by
    obtain ⟨v', w', hrun, h2, h3, _, _⟩ := run_append_own_at (P := Try.prog) w base 82 82 5 i0 (.int .u8 0) 1 1 Try.underlying82 hi hz0 hz1 hz2 rfl (by decide) v d.length (byteVals d) hown ad m.length c (byteVals m) (by simp [byteVals_length]) hn (byteVals_one m) (by unfold maxLen; omega) (by omega) hbase
    exact ⟨v', w', by rw [hA]; exact hrun, by rw [byteVals_append, List.length_append]; exact h2, h3⟩
  rcases hin with h0 | ⟨B, off, rfl, hb2⟩
  · subst h0
    rcases A with _ | ad
    · refine ⟨v, w, ?_, by simpa using hown, World.grownBy.refl w _⟩
      rcases hown.2 with ⟨rfl, h0⟩ | ⟨g, cap, cur, rfl, _, _, hnc, _⟩
      · simp [Builtin.append_, run_underlying Try.underlying82, sizeOf, typeInfo, hi, Builtin.lenOf, Builtin.firstCells]
      · simp [Builtin.append_, run_underlying Try.underlying82, sizeOf, typeInfo, hi, Builtin.lenOf, Builtin.firstCells, hnc, storeCells]
    · exact key ad rfl (fun j u hu => by simp [byteVals] at hu)
  · exact key _ rfl hb2.news
theorem wp_append_bytes {o : Oper} {a : Act} {w : World} {K : Act → World → Prop} {Q : Exit → Act → World → Prop} (s x : Operand)
    (ho : o.op = .call { callee := .builtin .append, args := #[s, x], argTypes := #[82, 82] }) (hty : o.type = 82)
    (base : Nat) (v : Value) (d : Bytes) (hs : a.eval s = v) (hown : w.ownsRow base 5 1 v d.length (byteVals d)) (A : Option Addr) (m : Bytes) (c : Nat) (hx : a.eval x = .slice A m.length c) (hin : BytesIn w A m)
    (hb : d.length + m.length ≤ 1073741824) (hbase : base ≤ w.heap.size)
    (h : ∀ v' w', w'.ownsRow base 5 1 v' (d ++ m).length (byteVals (d ++ m)) → w.grownBy w' v.ownBlock → K (a.put o.dst v') w') : o.wp Try.prog a w K Q := by
  obtain ⟨v', w', hrun, h2, h3⟩ := run_append_bytes w base v d hown A m c hin hb hbase
  unfold Oper.wp execOp
  simp only [ho, hty, resolve, invoke, builtin, Sem.run_bind, Sem.run_pure, Result.andThen_ok, List.map_toArray, List.map_cons, List.map_nil, hs, hx, hrun]
  exact h v' w' h2 h3
theorem wpList_append_bytes {ops : Array Oper} {rest : List Oper} {o : Oper} {a : Act} {w : World} {Q : Exit → Act → World → Prop} (hgd : o.guard = none) (s x : Operand)
    (ho : o.op = .call { callee := .builtin .append, args := #[s, x], argTypes := #[82, 82] }) (hty : o.type = 82)
    (base : Nat) (v : Value) (d : Bytes) (hs : a.eval s = v) (hown : w.ownsRow base 5 1 v d.length (byteVals d)) (A : Option Addr) (m : Bytes) (c : Nat) (hx : a.eval x = .slice A m.length c) (hin : BytesIn w A m)
    (hb : d.length + m.length ≤ 1073741824) (hbase : base ≤ w.heap.size)
    (h : ∀ v' w', w'.ownsRow base 5 1 v' (d ++ m).length (byteVals (d ++ m)) → w.grownBy w' v.ownBlock → wpList Try.prog ops Q rest (a.put o.dst v') w') : wpList Try.prog ops Q (o :: rest) a w :=
  wpList_plain hgd fun _ hK => wp_append_bytes s x ho hty base v d hs hown A m c hx hin hb hbase fun v' w' h2 h3 => hK _ _ (h v' w' h2 h3)
theorem step_append_bytes {ops : Array Oper} {o : Oper} {a : Act} {w : World} {K : Act → World → Prop} {Q : Exit → Act → World → Prop} {E : Prop} (hw : Region.wanted o (yielded ops a.tmps) = true) (s x : Operand)
    (ho : o.op = .call { callee := .builtin .append, args := #[s, x], argTypes := #[82, 82] }) (hty : o.type = 82)
    (base : Nat) (v : Value) (d : Bytes) (hs : a.eval s = v) (hown : w.ownsRow base 5 1 v d.length (byteVals d)) (A : Option Addr) (m : Bytes) (c : Nat) (hx : a.eval x = .slice A m.length c) (hin : BytesIn w A m)
    (hb : d.length + m.length ≤ 1073741824) (hbase : base ≤ w.heap.size)
    (h : ∀ v' w', w'.ownsRow base 5 1 v' (d ++ m).length (byteVals (d ++ m)) → w.grownBy w' v.ownBlock → K (a.put o.dst v') w') :
    if Region.wanted o (yielded ops a.tmps) = true then Oper.wp Try.prog o a w K Q else E := by
  rw [if_pos hw]
  exact wp_append_bytes s x ho hty base v d hs hown A m c hx hin hb hbase h
/-- an empty slice of bytes, made in a region whose order is open -/
theorem step_build0 {ops : Array Oper} {o : Oper} {a : Act} {w : World} {K : Act → World → Prop} {Q : Exit → Act → World → Prop} {E : Prop} (hw : Region.wanted o (yielded ops a.tmps) = true)
    (ho : o.op = .buildSlice 82 0 #[])
    (h : ∀ v' w', w'.ownsRow w.heap.size 5 1 v' ([] : Bytes).length (byteVals []) → Below w.heap.size w w' → K (a.put o.dst v') w') :
    if Region.wanted o (yielded ops a.tmps) = true then Oper.wp Try.prog o a w K Q else E := by
  obtain ⟨i0, hi, hz0, hz1, hz2⟩ := info_parts Try.infoByte
  rw [if_pos hw]
  have hrun : (Instr.buildSlice 82 0 #[]).run Try.prog w = .ok (.slice (some ⟨w.heap.size, 0, none⟩) 0 0) (w.alloc (.cells #[] 5)) := by
    simp [Instr.buildSlice, run_underlying Try.underlying82, sizeOf, typeInfo, zeroValue, hi, hz0, hz1, newRow, Instr.fill]
    rw [show (Array.map (fun _ => default) (Array.range 0) : Array Value) = #[] from Array.eq_empty_of_size_eq_zero (by simp)]
  unfold Oper.wp execOp
  simp only [ho, Sem.run_bind, Array.map_empty, hrun, Result.andThen_ok]
  exact h _ _ (World.ownsRow_made _ _ _ (Nat.le_refl _) (by decide) rfl) ((Below.refl _ _).alloc (Nat.le_refl _) _)
end Go.Proofs.Ytcijajjngmmbeaa
