/- What the log's steps ask of the lower texts beyond what the other laws ask. Conditions: as in the text. -/
import Derived.Test.YtlefejokpdjpgaaGreatReadI
import Derived.Test.YtlefejokpdjpgaaGreatDCrashB
import Derived.Test.YtlefejokpdjpgaaGreatDRefE
import Derived.Test.YtlefejokpdjpgaaGreatDRefG
import Derived.Test.YtlefejokpdjpgaaGreatDRefH
import Derived.Lib.Hide
import Derived.WalkKit
import Derived.WalkSpells
import Derived.WalkLawsBesides
import Derived.Deep.QuietTactic
import Derived.BigQuiet
import Derived.StillTailTactics
import Derived.Deep.RegionHeld3
import Derived.Handy
import Derived.Deep.CutBlock
import Derived.Deep.DeepCutAuto
import Derived.Maps.AppendAt
import Derived.Lib.SliceRun
import Derived.Deep.MidRow
import Derived.Maps.OwnSet
import Derived.OrdersHeld
import Derived.Deep.RegionLaw
import Derived.Deep.AppendLies
import Derived.Great.BuildSlice
import Derived.Great.FillDense
import Derived.OwnWalk
import Derived.Shelf.SlIter.Nil
import Derived.Shelf.SortM.Plain
import Derived.Shelf.SortM.SortNone
import Derived.Ground.GgzProg
import Derived.Ground.SlgmProg
import Derived.Laws.ResultCell
import Derived.Sort.Walk0
import Derived.Deep.WholeRow
import Derived.Sort.KeysCollected
import Derived.Deep.RegionHeld
import Derived.IntWalk
import Derived.Lib.SlBytesConst
import Derived.OneCell
import Derived.Lib.AppendStr
import Derived.Lib.Zigzag
import Derived.WalkSmall
import Derived.Laws.BitsAllLaws
import Derived.Laws.IdiomStrings
import Derived.Laws.BytesArg
set_option linter.unusedSimpArgs false
set_option linter.unusedVariables false
set_option linter.unnecessarySimpa false
set_option maxHeartbeats 16000000
set_option maxRecDepth 100000
namespace Go.Proofs.YtlefejokpdjpgaaGreat
end Go.Proofs.YtlefejokpdjpgaaGreat
namespace Go.Proofs.YtlefejokpdjpgaaGreat
open Go.RowKit
instance (W : World) : Nonempty (After W) := ⟨⟨W, Below.refl _ _⟩⟩
end Go.Proofs.YtlefejokpdjpgaaGreat
namespace Go.Proofs.YtlefejokpdjpgaaGreat
open Go.RowKit
theorem aF (w : World) (o : Obj) : (w.alloc o).heap[w.heap.size]? = some o := by show (w.heap.push o)[w.heap.size]? = some o; simp
theorem bn (w : World) (o p : Obj) : ((w.alloc o).alloc p).heap[w.heap.size + 1]? = some p := by
 have := aF (w.alloc o) p
 rwa [show (w.alloc o).heap.size = w.heap.size + 1 by simp] at this
end Go.Proofs.YtlefejokpdjpgaaGreat
namespace Go.Proofs.YtlefejokpdjpgaaGreat
open Go.RowKit
theorem kX (s : ByteArray) (w : World) (hs : s.size ≤ maxLen) :
 Calls Tryz.prog 105 #[.string s] w fun e w' => e = .returned (.bool (nameOk s)) ∧ w = w' := by
 unfold maxLen at hs
 go_enter Tryz.func105, Tryz.ntmps105
 go_wp2
 go_loop [3] (fun i => ∃ k : Nat, k ≤ s.size ∧ i = .int .i64 k ∧ (bl s).all isLow = ((bl s).drop k).all isLow) (fun i => s.size - (intOf i).toNat)
 case atStart => exact ⟨0, Nat.zero_le _, rfl, rfl⟩
 case round =>
  obtain ⟨k, hk, rfl, hpre⟩ := hrel
  have HP := Lib.hid hpre
  clear hpre
  by_cases hlt : k < s.size
  ·have HD := Lib.hid (drop_cons s k hlt)
   by_cases hc : isLow s[k] = true
   ·have HC := Lib.hid hc
    unfold isLow at hc
    simp only [Bool.and_eq_true, decide_eq_true_eq] at hc
    obtain ⟨c1, c2⟩ := hc
    go_wp2
    go_round
    case rel => exact ⟨k + 1, by omega, by go_num, by rw [HP.out, HD.out, all_cons_low, HC.out]; rfl⟩
    case measure => simp [intOf]; omega
   ·have HC := Lib.hid (Bool.eq_false_iff.2 hc)
    unfold isLow at hc
    simp only [Bool.and_eq_true, decide_eq_true_eq, not_and] at hc
    have hc' : s[k].toNat < 97 ∨ 122 < s[k].toNat := by omega
    clear hc
    rcases hc' with c1 | c1
    all_goals
     go_wp2
     all_goals
      go_ret
      exact ⟨ret_bool (by unfold nameOk; rw [HP.out, HD.out, all_cons_low, HC.out]; simp), rfl⟩
  ·have HD := Lib.hid (drop_all s k hlt)
   have HE : Hid (nameOk s = (decide (1 ≤ s.size) && decide (s.size ≤ 16))) := Lib.hid (by unfold nameOk; rw [HP.out, HD.out]; simp)
   go_wp2
   all_goals
        go_ret
        exact ⟨ret_bool (by rw [HE.out]; rw [Bool.eq_iff_iff]; simp <;> omega), rfl⟩
end Go.Proofs.YtlefejokpdjpgaaGreat
namespace Go.Proofs.YtlefejokpdjpgaaGreat
open Go.RowKit
theorem z35 {p : Prop} (h : p := by
 clear hr
 go_enter Tryz.func40, Tryz.ntmps40
 go_wp2
 all_goals
  go_ret
  exact ⟨rfl, H.out, Fr.refl _ _⟩) : p := h
theorem wQ (d b arm : Nat) (down : Bool) (n : Int) (w : World) (h : DkCells w d b arm down) :
 Calls Tryz.prog 40 #[.pointer (some ⟨d, 0, none⟩), .int .i64 n] w fun e w' =>
  e = .returned (.int .i64 (if armOk n then 0 else 4)) ∧ DkCells w' d b (if armOk n then n.toNat else arm) down ∧ Fr (isR d) w w' := by
 have H := Lib.hid h
 obtain ⟨p0, p1, p2, f0, f1, f2⟩ := three_cell h
 clear h
 by_cases h1 : 1 ≤ n
 case neg =>
  have hr : armOk n = false := by unfold armOk; rw [decide_eq_false h1]; rfl
  simp only [hr, Bool.false_eq_true, if_false]
  have h1' : n < 1 := by omega
  exact z35
 case pos =>
 by_cases h2 : n ≤ 1048576
 case neg =>
  have hr : armOk n = false := by unfold armOk; rw [decide_eq_false h2]; simp
  simp only [hr, Bool.false_eq_true, if_false]
  exact z35
 case pos =>
 have hr : armOk n = true := by unfold armOk; rw [decide_eq_true h1, decide_eq_true h2]; rfl
 simp only [hr, if_true]
 clear hr
 have hn : ((n.toNat : Nat) : Int) = n := by omega
 have HN := Lib.hid hn
 clear hn
 go_enter Tryz.func40, Tryz.ntmps40
 go_wp2
 all_goals
  go_ret
  exact ⟨rfl, by unfold DkCells; rw [HN.out]; exact three_set1 H.out _, fr_set _⟩
theorem qh (d b arm : Nat) (down : Bool) (w : World) (h : DkCells w d b arm down) : Calls Tryz.prog 42 #[.pointer (some ⟨d, 0, none⟩)] w fun e w' => e = .returned (.bool down) ∧ w = w' := by
 obtain ⟨p0, p1, p2, f0, f1, f2⟩ := three_cell h
 clear h
 go_enter Tryz.func42, Tryz.ntmps42
 go_wp2
 all_goals
  go_ret
  exact ⟨rfl, rfl⟩
end Go.Proofs.YtlefejokpdjpgaaGreat
namespace Go.Proofs.YtlefejokpdjpgaaGreat
open Go.RowKit
end Go.Proofs.YtlefejokpdjpgaaGreat
namespace Go.Proofs.YtlefejokpdjpgaaGreat
open Go.RowKit
end Go.Proofs.YtlefejokpdjpgaaGreat
namespace Go.Proofs.YtlefejokpdjpgaaGreat
open Go.RowKit
open Go.Maps (Keyed)
variable {F : Nat → Prop} {d : Nat} {S : DS} {b : Nat} {D : DataW Unit} {s : ByteArray} {w : World}
/-- how many bytes of a file are safe -/
def fD (S : DS) (s : ByteArray) : Nat := if nameOk s then (match getF S.f s with | none => 0 | some f => f.safe) else 0
theorem pU (hs : s.size ≤ maxLen) (h : DkIn w F d S b D) :
 Calls Tryz.prog 43 #[.pointer (some ⟨d, 0, none⟩), .string s] w fun e w' => e = .returned (.int .i64 (fD S s)) ∧ w = w' := by
 by_cases hok : nameOk s = true
 case neg =>
  have HN := Lib.hid (find_form (d := d) (w := w) hs rfl (Bool.eq_false_iff.2 hok))
  have hr : fD S s = 0 := by unfold fD; rw [if_neg hok]
  rw [hr]
  clear h hok hr
  go_enter Tryz.func43, Tryz.ntmps43
  go_wp2_with (go_at_call 51; (with_reducible refine HN.out.mono ?_); rintro e w1 ⟨rfl, rfl⟩)
  all_goals
   go_ret
   exact ⟨rfl, rfl⟩
 case pos =>
 cases hg : getF S.f s with
 | none =>
   have HN := Lib.hid (find_none hs h hok hg)
   have hr : fD S s = 0 := by unfold fD; rw [if_pos hok, hg]
   rw [hr]
   clear h hok hr hg
   go_enter Tryz.func43, Tryz.ntmps43
   go_wp2_with (go_at_call 51; (with_reducible refine HN.out.mono ?_); rintro e w1 ⟨rfl, rfl⟩)
   all_goals
    go_ret
    exact ⟨rfl, rfl⟩
 | some f =>
   obtain ⟨fb, h1, h2, a, cap, h3, h4, h5⟩ := h.files.some s f hg
   have HN := Lib.hid (find_some hs h hok h2)
   have hr : fD S s = f.safe := by unfold fD; rw [if_pos hok, hg]
   rw [hr]
   obtain ⟨p0, p1, f0, f1⟩ := two_cell h3
   clear h hok hr hg h2 h3 h4
   go_enter Tryz.func43, Tryz.ntmps43
   go_wp2_with (go_at_call 51; (with_reducible refine HN.out.mono ?_); rintro e w1 ⟨rfl, rfl⟩)
   all_goals
    go_ret
    exact ⟨rfl, rfl⟩
end Go.Proofs.YtlefejokpdjpgaaGreat
namespace Go.Proofs.YtlefejokpdjpgaaGreat
open Go.RowKit
section
variable {P : Program}
theorem kN (w : World) (t e : TypeId) (i0 : TypeInfo) (a : Option Addr) (n cap : Nat) (k : IntKind) (i size : Nat) (ht : P.underlying t = some (.slice e)) (hi : P.info? e = some i0) (hs : i0.size = size) (h1 : i ≤ n) :
 (Instr.sliceAt t (.slice a n cap) (some (.int k i)) none none).run P w = .ok (.slice (cutA a cap i size) (n - i) (cap - i)) w := by
 subst hs
 simp [Instr.sliceAt, Instr.slice, Instr.sliceBounds, Instr.sliceBound, asIntOf, run_underlying ht, sizeOf, typeInfo, hi, cutA]
 intro h3
 omega
theorem dW (w : World) (t e : TypeId) (i0 : TypeInfo) (a : Option Addr) (n cap : Nat) (k : IntKind) (j : Nat) (ht : P.underlying t = some (.slice e)) (hi : P.info? e = some i0) (h1 : j ≤ cap) :
 (Instr.sliceAt t (.slice a n cap) none (some (.int k j)) none).run P w = .ok (.slice a j cap) w := by
 have h3 : (if cap = 0 then a else a.map (fun x => x.add 0)) = a := by
  split
  ·rfl
  ·cases a with
   | none => rfl
   | some x => obtain ⟨b, o, p⟩ := x; cases p <;> simp [Addr.add]
 simp [Instr.sliceAt, Instr.slice, Instr.sliceBounds, Instr.sliceBound, asIntOf, run_underlying ht, sizeOf, typeInfo, hi]
 rw [if_pos h1, show (if cap = 0 then a else a.map (fun x => x.add 0)) = a from h3]
theorem nG (w : World) (t e : TypeId) (i0 : TypeInfo) (a : Option Addr) (n cap : Nat) (k k2 : IntKind) (i j size : Nat) (ht : P.underlying t = some (.slice e)) (hi : P.info? e = some i0) (hs : i0.size = size) (h1 : i ≤ j) (h2 : j ≤ cap) :
 (Instr.sliceAt t (.slice a n cap) (some (.int k i)) (some (.int k2 j)) none).run P w = .ok (.slice (cutA a cap i size) (j - i) (cap - i)) w := by
 subst hs
 simp [Instr.sliceAt, Instr.slice, Instr.sliceBounds, Instr.sliceBound, asIntOf, run_underlying ht, sizeOf, typeInfo, hi, cutA]
 rw [if_pos h2, if_pos h1]
/-- an operation that is run to a value in whatever world -/
theorem bu {o : Oper} {a : Act} {w : World} (t : TypeId) (x : Operand) (lo hi mx : Option Operand) (ho : o.op = .slice t x lo hi mx) (v : Value)
 (h : (Instr.sliceAt t (a.eval x) (lo.map a.eval) (hi.map a.eval) (mx.map a.eval)).run P w = .ok v w) : (execOp a.eval o).run P w = .ok (.value v) w := by
 unfold execOp
 simp only [ho]
 simp [Sem.run_bind, h, Result.andThen]
theorem ut {o : Oper} {a : Act} {w : World} (t t2 : TypeId) (x : Operand) (ho : o.op = .convert t t2 x) (v : Value) (h : (convert t t2 (a.eval x)).run P w = .ok v w) : (execOp a.eval o).run P w = .ok (.value v) w := by
 unfold execOp
 simp only [ho]
 simp [Sem.run_bind, h, Result.andThen]
theorem dm {ops : Array Oper} {rest : List Oper} {o : Oper} {a : Act} {w : World} {Q : Exit → Act → World → Prop} (hgd : o.guard = none) (v : Value) (h : (execOp a.eval o).run P w = .ok (.value v) w)
 (k : wpList P ops Q rest (a.put o.dst v) w) : wpList P ops Q (o :: rest) a w :=
 wpList_plain hgd fun _ hK => by unfold Oper.wp; rw [h]; exact hK _ _ k
theorem dK {ops : Array Oper} {rest : List Oper} {o : Oper} {a : Act} {C : World → Prop} {Q : Act → Prop} (hw : Region.wanted o (yielded ops a.tmps) = true) (v : Value) (h : ∀ w, C w → (execOp a.eval o).run P w = .ok (.value v) w)
 (k : wpQuiet P ops C Q rest (a.put o.dst v)) : wpQuiet P ops C Q (o :: rest) a :=
 BigFrame.wpQuiet_want hw fun _ hK => ⟨v, fun w hw' => by unfold Oper.quietAt; rw [h w hw']; exact ⟨rfl, rfl⟩, hK _ k⟩
theorem aP {ops : Array Oper} {o : Oper} {a : Act} {w : World} {K : Act → World → Prop} {Q : Exit → Act → World → Prop} {E : Prop} (hw : Region.wanted o (yielded ops a.tmps) = true) (ty : TypeId) (x y : Operand) (ho : o.op = .store ty x y)
 (g : Nat) (cells : Array Value) (hx : a.eval x = .pointer (some ⟨g, 0, none⟩)) (hy : a.eval y = .agg cells)
 (t : TypeId) (old : Array Value) (hg : w.heap[g]? = some (.cells old t (0, 0))) (hi : (P.info? ty).map (·.size) = some cells.size)
 (hold : old.size = cells.size) (h1 : cells.all (·.oneCell') = true) (h : K (a.put o.dst undef) (w.setRow g cells)) :
 if Region.wanted o (yielded ops a.tmps) = true then Oper.wp P o a w K Q else E := by
 rw [if_pos hw]
 exact wp_store_row ty x y ho g cells hx hy t old hg hi hold h1 h
end
section
variable {P : Program}
/-- an append to a slice of one's own, whatever the source is -/
theorem jA (w : World) (base : Nat) (t ty e : TypeId) (i0 : TypeInfo) (z : Value) (size bytes : Nat) (ht : P.underlying t = some (.slice e)) (hi : P.info? e = some i0) (hz : i0.zero = some z)
 (hsize : i0.size = size) (hby : i0.bytes = bytes) (hzs : z.cells.size = size) (hsz : 0 < size)
 (v : Value) (n : Nat) (xs : List Value) (hown : w.ownsRow base e size v n xs) (A : Option Addr) (m c : Nat) (cs : List Value) (hl : cs.length = m * size) (hin : CellsIn w A cs) (h1 : ∀ u ∈ cs, u.oneCell' = true)
 (h63 : n + m ≤ maxLen) (hbytes : (n + m) * bytes ≤ 140737488355328) (hbase : base ≤ w.heap.size) :
 ∃ v' w', (Builtin.append_ #[t, t] ty #[v, .slice A m c]).run P w = .ok v' w' ∧ w'.ownsRow base e size v' (n + m) (xs ++ cs) ∧ w.grownBy w' v.ownBlock := by
 have key : ∀ (ad : Addr), A = some ad → (∀ j u, cs[j]? = some u → w.cell? (ad.add j) = some u) → ∃ v' w', (Builtin.append_ #[t, t] ty #[v, .slice A m c]).run P w = .ok v' w' ∧ w'.ownsRow base e size v' (n + m) (xs ++ cs) ∧ w.grownBy w' v.ownBlock := fun ad hA hn => by
  obtain ⟨v', w', hrun, h2, h3, _, _⟩ := run_append_own_at (P := P) w base t ty e i0 z size bytes ht hi hz hsize hby hzs hsz v n xs hown ad m c cs hl hn h1 h63 hbytes hbase
  exact ⟨v', w', by rw [hA]; exact hrun, h2, h3⟩
 rcases hin with h0 | ⟨B, off, rfl, hb2⟩
 ·subst h0
  have hm : m = 0 := by
   rcases Nat.eq_zero_or_pos m with h | h
   ·exact h
   ·have := Nat.mul_pos h hsz; simp at hl; omega
  subst hm
  rcases A with _ | ad
  ·refine ⟨v, w, ?_, by simpa using hown, World.grownBy.refl w _⟩
   rcases hown.2 with ⟨rfl, h0⟩ | ⟨g, cap, cur, rfl, _, _, hnc, _⟩
   ·simp [Builtin.append_, run_underlying ht, sizeOf, typeInfo, hi, Builtin.lenOf, Builtin.firstCells]
   ·simp [Builtin.append_, run_underlying ht, sizeOf, typeInfo, hi, Builtin.lenOf, Builtin.firstCells, hnc, storeCells]
  ·exact key ad rfl (fun j u hu => by simp at hu)
 ·exact key _ rfl (fun j u hu => by rw [Addr.add_mid]; exact hb2 j u hu)
theorem iw {o : Oper} {a : Act} {w : World} {K : Act → World → Prop} {Q : Exit → Act → World → Prop} (s x : Operand) (t : TypeId)
 (ho : o.op = .call { callee := .builtin .append, args := #[s, x], argTypes := #[t, t] })
 (base : Nat) (e : TypeId) (i0 : TypeInfo) (z : Value) (size bytes : Nat) (ht : P.underlying t = some (.slice e)) (hi : P.info? e = some i0) (hz : i0.zero = some z)
 (hsize : i0.size = size) (hby : i0.bytes = bytes) (hzs : z.cells.size = size) (hsz : 0 < size)
 (v : Value) (n : Nat) (xs : List Value) (hs : a.eval s = v) (hown : w.ownsRow base e size v n xs) (A : Option Addr) (m c : Nat) (cs : List Value) (hx : a.eval x = .slice A m c) (hl : cs.length = m * size) (hin : CellsIn w A cs) (h1 : ∀ u ∈ cs, u.oneCell' = true)
 (h63 : n + m ≤ maxLen) (hbytes : (n + m) * bytes ≤ 140737488355328) (hbase : base ≤ w.heap.size)
 (h : ∀ v' w', w'.ownsRow base e size v' (n + m) (xs ++ cs) → w.grownBy w' v.ownBlock → K (a.put o.dst v') w') : o.wp P a w K Q := by
 obtain ⟨v', w', hrun, h2, h3⟩ := jA (P := P) w base t o.type e i0 z size bytes ht hi hz hsize hby hzs hsz v n xs hown A m c cs hl hin h1 h63 hbytes hbase
 unfold Oper.wp execOp
 simp only [ho, resolve, invoke, builtin, Sem.run_bind, Sem.run_pure, Result.andThen_ok, List.map_toArray, List.map_cons, List.map_nil, hs, hx, hrun]
 exact h v' w' h2 h3
theorem df {ops : Array Oper} {rest : List Oper} {o : Oper} {a : Act} {w : World} {Q : Exit → Act → World → Prop} (hgd : o.guard = none) (s x : Operand) (t : TypeId)
 (ho : o.op = .call { callee := .builtin .append, args := #[s, x], argTypes := #[t, t] })
 (base : Nat) (e : TypeId) (i0 : TypeInfo) (z : Value) (size bytes : Nat) (ht : P.underlying t = some (.slice e)) (hi : P.info? e = some i0) (hz : i0.zero = some z)
 (hsize : i0.size = size) (hby : i0.bytes = bytes) (hzs : z.cells.size = size) (hsz : 0 < size)
 (v : Value) (n : Nat) (xs : List Value) (hs : a.eval s = v) (hown : w.ownsRow base e size v n xs) (A : Option Addr) (m c : Nat) (cs : List Value) (hx : a.eval x = .slice A m c) (hl : cs.length = m * size) (hin : CellsIn w A cs) (h1 : ∀ u ∈ cs, u.oneCell' = true)
 (h63 : n + m ≤ maxLen) (hbytes : (n + m) * bytes ≤ 140737488355328) (hbase : base ≤ w.heap.size)
 (h : ∀ v' w', w'.ownsRow base e size v' (n + m) (xs ++ cs) → w.grownBy w' v.ownBlock → wpList P ops Q rest (a.put o.dst v') w') : wpList P ops Q (o :: rest) a w :=
 wpList_plain hgd fun _ hK => iw s x t ho base e i0 z size bytes ht hi hz hsize hby hzs hsz v n xs hs hown A m c cs hx hl hin h1 h63 hbytes hbase fun v' w' h2 h3 => hK _ _ (h v' w' h2 h3)
theorem aI {ops : Array Oper} {o : Oper} {a : Act} {w : World} {K : Act → World → Prop} {Q : Exit → Act → World → Prop} {E : Prop} (hw : Region.wanted o (yielded ops a.tmps) = true) (s x : Operand) (t : TypeId)
 (ho : o.op = .call { callee := .builtin .append, args := #[s, x], argTypes := #[t, t] })
 (base : Nat) (e : TypeId) (i0 : TypeInfo) (z : Value) (size bytes : Nat) (ht : P.underlying t = some (.slice e)) (hi : P.info? e = some i0) (hz : i0.zero = some z)
 (hsize : i0.size = size) (hby : i0.bytes = bytes) (hzs : z.cells.size = size) (hsz : 0 < size)
 (v : Value) (n : Nat) (xs : List Value) (hs : a.eval s = v) (hown : w.ownsRow base e size v n xs) (A : Option Addr) (m c : Nat) (cs : List Value) (hx : a.eval x = .slice A m c) (hl : cs.length = m * size) (hin : CellsIn w A cs) (h1 : ∀ u ∈ cs, u.oneCell' = true)
 (h63 : n + m ≤ maxLen) (hbytes : (n + m) * bytes ≤ 140737488355328) (hbase : base ≤ w.heap.size)
 (h : ∀ v' w', w'.ownsRow base e size v' (n + m) (xs ++ cs) → w.grownBy w' v.ownBlock → K (a.put o.dst v') w') :
 if Region.wanted o (yielded ops a.tmps) = true then Oper.wp P o a w K Q else E := by
 rw [if_pos hw]
 exact iw s x t ho base e i0 z size bytes ht hi hz hsize hby hzs hsz v n xs hs hown A m c cs hx hl hin h1 h63 hbytes hbase h
theorem own_base {w : World} {base b2 : Nat} {e : TypeId} {size : Nat} {v : Value} {n : Nat} {xs : List Value} (h : w.ownsRow base e size v n xs) (hb : b2 ≤ base) : w.ownsRow b2 e size v n xs := by
 rcases h.2 with hn | ⟨g, cap, cur, hv, hbs, rest⟩
 ·exact ⟨h.1, .inl hn⟩
 ·exact ⟨h.1, .inr ⟨g, cap, cur, hv, Nat.le_trans hb hbs, rest⟩⟩
/-- a slice of one struct, laid down -/
theorem ng {o : Oper} {a : Act} {w : World} {K : Act → World → Prop} {Q : Exit → Act → World → Prop} (t e : TypeId) (x : Operand) (ho : o.op = .buildSlice t 1 #[(0, x)])
 (c : Array Value) (n : Nat) (hx : a.eval x = .agg c) (hc : c.size = n) (hn : 0 < n) (hnn : n ≤ 16777216) (hu : P.underlying t = some (.slice e)) (hi : (P.info? e).map (·.size) = some n) (hz : ((P.info? e).bind (·.zero)).isSome = true)
 (h : K (a.put o.dst (.slice (some ⟨w.heap.size, 0, none⟩) 1 1)) (w.alloc (.cells c e))) : o.wp P a w K Q := by
 cases hie : P.info? e with
 | none => simp [hie] at hi
 | some ie =>
   simp only [hie, Option.map_some, Option.some.injEq, Option.bind_some] at hi hz
   obtain ⟨z, hzz⟩ := Option.isSome_iff_exists.1 hz
   refine wp_buildSlice t e 1 #[(0, x)] ho c ie z hu hie hzz (by rw [hi]; omega) (by rw [hi]; omega) ?_ h
   have hcs : (Value.agg c).cells.size = ie.size := by rw [hi]; exact hc
   have h2 := Great.fill_whole (s := ie.size) (by omega) [.agg c] ((Array.range (1 * ie.size)).map (z.cells[· % z.cells.size]!)) (by simp only [List.mem_singleton, forall_eq]; exact hcs) (by simp)
   have e1 : ((#[(0, x)] : Array (Nat × Operand)).map fun (i, x) => (i, a.eval x)).toList = (([Value.agg c].zipIdx 0).map fun x => (x.2, x.1)) := by simp [hx]
   rw [e1, h2]
   simp [Value.cells]
theorem dn {ops : Array Oper} {o : Oper} {a : Act} {w : World} {K : Act → World → Prop} {Q : Exit → Act → World → Prop} {E : Prop} (hw : Region.wanted o (yielded ops a.tmps) = true) (t e : TypeId) (x : Operand) (ho : o.op = .buildSlice t 1 #[(0, x)])
 (c : Array Value) (n : Nat) (hx : a.eval x = .agg c) (hc : c.size = n) (hn : 0 < n) (hnn : n ≤ 16777216) (hu : P.underlying t = some (.slice e)) (hi : (P.info? e).map (·.size) = some n) (hz : ((P.info? e).bind (·.zero)).isSome = true)
 (h : K (a.put o.dst (.slice (some ⟨w.heap.size, 0, none⟩) 1 1)) (w.alloc (.cells c e))) :
 if Region.wanted o (yielded ops a.tmps) = true then Oper.wp P o a w K Q else E := by
 rw [if_pos hw]
 exact ng t e x ho c n hx hc hn hnn hu hi hz h
/-- an empty slice, made in a region whose order is open -/
theorem dP {ops : Array Oper} {o : Oper} {a : Act} {w : World} {K : Act → World → Prop} {Q : Exit → Act → World → Prop} {E : Prop} (hw : Region.wanted o (yielded ops a.tmps) = true) (t e : TypeId)
 (ho : o.op = .buildSlice t 0 #[]) (i0 : TypeInfo) (z : Value) (size : Nat) (ht : P.underlying t = some (.slice e)) (hi : P.info? e = some i0) (hz : i0.zero = some z) (hsize : i0.size = size) (hsz : 0 < size)
 (h : ∀ v' w', w'.ownsRow w.heap.size e size v' 0 [] → Below w.heap.size w w' → K (a.put o.dst v') w') :
 if Region.wanted o (yielded ops a.tmps) = true then Oper.wp P o a w K Q else E := by
 rw [if_pos hw]
 have hrun : (Instr.buildSlice t 0 #[]).run P w = .ok (.slice (some ⟨w.heap.size, 0, none⟩) 0 0) (w.alloc (.cells #[] e)) := by
  simp [Instr.buildSlice, run_underlying ht, sizeOf, typeInfo, zeroValue, hi, hz, hsize, newRow, Instr.fill]
  rw [show (Array.map (fun _ => default) (Array.range 0) : Array Value) = #[] from Array.eq_empty_of_size_eq_zero (by simp)]
 unfold Oper.wp execOp
 simp only [ho, Sem.run_bind, Array.map_empty, hrun, Result.andThen_ok]
 exact h _ _ (World.ownsRow_made _ _ _ (Nat.le_refl _) (Nat.zero_le _) (by simp)) ((Below.refl _ _).alloc (Nat.le_refl _) _)
end
end Go.Proofs.YtlefejokpdjpgaaGreat
namespace Go.Proofs.YtlefejokpdjpgaaGreat
open Go.RowKit
section
variable {P : Program}
end
theorem cell1_new (w : World) (v : Value) (t : TypeId) : CellsIn (w.alloc (.cells #[v] t)) (some ⟨w.heap.size, 0, none⟩) [v] := by
 refine Or.inr ⟨_, _, rfl, fun j u hu => ?_⟩
 rw [Nat.zero_add, World.cell?_alloc_new]
 simpa using hu
end Go.Proofs.YtlefejokpdjpgaaGreat
namespace Go.Proofs.YtlefejokpdjpgaaGreat
open Go.RowKit
abbrev uO (g : RF) : Value := .agg #[.string g.f.name, .slice g.a g.f.b.length g.cap, .int .i64 g.f.safe]
abbrev az (l : List RF) : List DF := l.map (·.f)
theorem gZ (l m : List RF) : fcs (l ++ m) = fcs l ++ fcs m := by
 induction l with
 | nil => rfl
 | cons g l ih => simp only [List.cons_append, fcs, ih, List.append_assoc]
theorem pJ : ∀ (l : List RF) (k : Nat), (fcs l).take (k * 3) = fcs (l.take k)
 | l, 0 => by simp [fcs]
 | [], k + 1 => by simp [fcs]
 | g :: l, k + 1 => by
   rw [show (k + 1) * 3 = k * 3 + 3 by omega, List.take_succ_cons]
   simp only [fcs]
   rw [← pJ l k]
   simp
theorem di (l : List RF) : ∀ u ∈ fcs l, u.oneCell' = true := by
 induction l with
 | nil => intro u hu; cases hu
 | cons g l ih =>
   intro u hu
   rcases List.mem_append.1 hu with h | h
   ·simp only [List.mem_cons, List.not_mem_nil, or_false] at h
    rcases h with rfl | rfl | rfl <;> rfl
   ·exact ih u h
/-- a function's one result: new files -/
def xe (l : List RF) (w : World) (e : Ending) (w' : World) : Prop := ∃ a cap, e = .returned (.slice a l.length cap) ∧ RFsIn w' a l ∧ l.length ≤ cap ∧ Below w.heap.size w w'
theorem z36 {p : Prop} (h : p := by
 rw [Nat.zero_add]
 simp only [World.cell?, hg]
 simpa using hv) : p := h
/-- one result that is a struct in a block of its own, and another one -/
theorem dA {P : Program} {fn : Func} {R : Ending → World → Prop} {a : Act} {w : World} (p u : Tmp) (ty t : TypeId) (g : Nat) (c : Array Value) (d : TypeDesc) (v : Value) (hr : fn.results = #[.cell p ty, .tmp u])
 (hp : a.tmps.getD p undef = .pointer (some ⟨g, 0, none⟩)) (hv : a.tmps.getD u undef = v) (hg : w.heap[g]? = some (.cells c t (0, 0))) (hu : P.underlying ty = some d) (hd : d.isRow = true) (hi : (P.info? ty).map (·.size) = some c.size)
 (hde : a.defers = []) (hR : R (.returned (.tuple #[.agg c, v])) w) : bodyPost P fn R .ret a w := by
 have h1 : w.rangeAt g 0 c.toList := fun j v hv => by
  exact z36
 have h2 := run_loadVar_mid (P := P) w g 0 ty c.toList d h1 hu hd (by simpa using hi)
 refine bodyPost_ret ?_ hde hR
 rw [results_cell_tmp hr, hp, hv]
 simp [asAddr, h2, Result.andThen]
/-- the reference's disk as a value -/
abbrev aO (a : Option Addr) (n cap arm : Nat) (down : Bool) : Value := .agg #[.slice a n cap, .int .i64 arm, .bool down]
theorem z27 {p : Prop} (h : p := by
 clear hr
 cases down
 all_goals
  go_enter Tryz.func71, Tryz.ntmps71
  go_wp2
  refine dA 2 3 62 62 (w.heap.size + 1) _ _ _ rfl rfl rfl (bn _ _ _) Tryz.underlying62 rfl (by kernel_rfl) rfl ?_
  exact ⟨rfl, by go_grown⟩) : p := h
theorem dN (a : Option Addr) (n cap arm : Nat) (down : Bool) (w : World) (ha : arm ≤ 1048576) :
 Calls Tryz.prog 71 #[aO a n cap arm down] w fun e w' =>
  e = .returned (.tuple #[aO a n cap (arm - 1) (chg arm down), .int .i64 (if chg arm down then 12 else 0)]) ∧ Below w.heap.size w w' := by
 by_cases h0 : arm = 0
 case pos =>
  subst h0
  have hr : chg 0 down = down := by cases down <;> rfl
  simp only [hr]
  exact z27
 case neg =>
 obtain ⟨m, rfl⟩ : ∃ m, arm = m + 1 := ⟨arm - 1, by omega⟩
 by_cases hm : m = 0
 case pos =>
  subst hm
  have hr : chg 1 down = true := by cases down <;> rfl
  simp only [hr, if_true]
  exact z27
 case neg =>
 have hr : chg (m + 1) down = down := by cases down <;> simp [chg, hm]
 simp only [hr]
 clear hr
 have q : ((m : Int) + 1 == 1) = false := beq_eq_false_iff_ne.2 (by omega)
 have q' : decide ((0 : Int) < (m : Int) + 1) = true := decide_eq_true (by omega)
 cases down
 all_goals
  go_enter Tryz.func71, Tryz.ntmps71
  go_wp2
  refine dA 2 3 62 62 (w.heap.size + 1) _ _ _ rfl rfl rfl (bn _ _ _) Tryz.underlying62 rfl (by kernel_rfl) rfl ?_
  exact ⟨by simp, by go_grown⟩
end Go.Proofs.YtlefejokpdjpgaaGreat
namespace Go.Proofs.YtlefejokpdjpgaaGreat
open Go.RowKit
theorem fU (f : DF) (l : List DF) (s : ByteArray) : getF (f :: l) s = if f.name = s then some f else getF l s := by
 unfold getF
 rw [List.find?_cons]
 split <;> rename_i h
 ·rw [if_pos (by simpa using h)]
 ·rw [if_neg (by simpa using h)]
/-- where a file is -/
def kD : List DF → ByteArray → Option Nat
 | [], _ => none
 | f :: l, s => if f.name = s then some 0 else (kD l s).map (· + 1)
def eP (l : List DF) (s : ByteArray) : Int := match kD l s with | none => -1 | some k => k
def iT (k : Nat) (l : List DF) (s : ByteArray) : Int := match kD l s with | none => -1 | some j => k + j
theorem uq {k : Nat} {f : DF} {l : List DF} {s : ByteArray} (h : f.name = s) : iT k (f :: l) s = k := by simp [iT, kD, h]
theorem uo {k : Nat} {f : DF} {l : List DF} {s : ByteArray} (h : ¬ f.name = s) : iT k (f :: l) s = iT (k + 1) l s := by
 simp only [iT, kD, if_neg h]
 cases kD l s <;> simp
 omega
theorem pz : ∀ {l : List DF} {s : ByteArray} {k : Nat}, kD l s = some k → ∃ h : k < l.length, getF l s = some l[k]
 | [], _, _, h => by simp [kD] at h
 | f :: l, s, k, h => by
   unfold kD at h
   rw [fU]
   split at h
   ·rename_i e
    simp only [Option.some.injEq] at h
    subst h
    exact ⟨by simp, by rw [if_pos e]; rfl⟩
   ·rename_i e
    simp only [Option.map_eq_some_iff] at h
    obtain ⟨j, hj, rfl⟩ := h
    obtain ⟨h1, h2⟩ := pz hj
    exact ⟨by simp; omega, by rw [if_neg e, h2]; rfl⟩
theorem mQ : ∀ {l : List DF} {s : ByteArray}, kD l s = none → getF l s = none
 | [], _, _ => rfl
 | f :: l, s, h => by
   unfold kD at h
   rw [fU]
   split at h
   ·cases h
   ·rename_i e
    rw [if_neg e]
    exact mQ (by simpa using h)
theorem oO (l : List RF) (k : Nat) (h : k < l.length) : (az l).drop k = l[k].f :: (az l).drop (k + 1) := by
 rw [List.drop_eq_getElem_cons (by simpa using h)]
 simp
theorem z31 {p : Prop} (h : p := by
 generalize l[k] = x at *
 go_wp2
 go_round
 case rel => exact ⟨k + 1, by omega, by go_num, HE.out⟩
 case measure => simp [intOf]; omega) : p := h
theorem y32 {p q : Prop} (k : q) (h : PLift q → p := by
 intro kk
 have hq : (l[k].f.name.toList == s.toList) = false := by rw [str_beq]; exact decide_eq_false fun e => hc (bl_inj e)
 revert hq
 exact kk.down) : p := h ⟨k⟩
theorem jU (a : Option Addr) (cap : Nat) (l : List RF) (s : ByteArray) (w : World) (hl : l.length ≤ 1073741824) (h : RFsIn w a l) :
 Calls Tryz.prog 45 #[.slice a l.length cap, .string s] w fun e w' => e = .returned (.int .i64 (eP (az l) s)) ∧ w = w' := by
 go_enter Tryz.func45, Tryz.ntmps45
 go_wp2
 go_loop [5] (fun i => ∃ k : Nat, k ≤ l.length ∧ i = .int .i64 k ∧ eP (az l) s = iT k ((az l).drop k) s) (fun i => l.length - (intOf i).toNat)
 case atStart => exact ⟨0, Nat.zero_le _, rfl, by rw [List.drop_zero]; simp [eP, iT]⟩
 case round =>
  obtain ⟨k, hk, rfl, hpre⟩ := hrel
  have HP := Lib.hid hpre
  clear hpre
  by_cases hlt : k < l.length
  ·obtain ⟨A, off, rfl, hrows, hok⟩ := h.at hlt
   have c0 := hrows k hlt 0 _ rfl
   rw [Nat.add_zero] at c0
   have HD := Lib.hid (oO l k hlt)
   clear hrows hok
   by_cases hc : l[k].f.name = s
   ·have HE : Hid (eP (az l) s = k) := by rw [Hid, HP.out, HD.out]; exact uq hc
    have hq : (l[k].f.name.toList == s.toList) = true := by rw [hc]; simp
    clear HP HD
    generalize l[k] = x at *
    go_wp2
    go_ret
    exact ⟨ret_int HE.out.symm, rfl⟩
   ·have HE : Hid (eP (az l) s = iT (k + 1) ((az l).drop (k + 1)) s) := by rw [Hid, HP.out, HD.out]; exact uo hc
    refine y32 ?_
    intro hq
    clear HP HD hc
    exact z31
  ·have HE : Hid (eP (az l) s = -1) := by rw [Hid, HP.out, List.drop_of_length_le (by simpa using Nat.le_of_not_lt hlt)]; rfl
   go_wp2
   go_ret
   exact ⟨ret_int HE.out.symm, rfl⟩
def eu (l : List DF) (s : ByteArray) : DF × Int := if nameOk s then (match getF l s with | none => (⟨s, [], 0⟩, 10) | some f => (f, 0)) else (⟨s, [], 0⟩, 1)
def vP (l : List DF) (s : ByteArray) (w : World) (e : Ending) (w' : World) : Prop :=
 ∃ g : RF, e = .returned (.tuple #[uO g, .int .i64 (eu l s).2]) ∧ g.f = (eu l s).1 ∧ RFOk w' g ∧ Below w.heap.size w w'
theorem y22 {p q : Prop} (k : q) (h : PLift q → p := by
 intro kk
 refine dA 4 5 105 105 (w.heap.size) _ _ _ rfl rfl rfl (aF _ _) Tryz.underlying105 rfl (by kernel_rfl) rfl ?_
 exact kk.down) : p := h ⟨k⟩
theorem qE (a : Option Addr) (cap : Nat) (l : List RF) (s : ByteArray) (w : World) (hl : l.length ≤ 1073741824) (hs : s.size ≤ maxLen) (h : RFsIn w a l) :
 Calls Tryz.prog 70 #[.slice a l.length cap, .string s] w (vP (az l) s w) := by
 have HR := Lib.hid (fun W => kX s W hs)
 by_cases hok : nameOk s = true
 case neg =>
  rw [Bool.eq_false_iff.2 hok] at HR
  have HV : Hid (eu (az l) s = (⟨s, [], 0⟩, 1)) := by unfold Hid eu; rw [if_neg hok]
  clear hok
  go_enter Tryz.func70, Tryz.ntmps70
  go_wp2_with (go_at_call 105; (with_reducible refine (HR.out _).mono ?_); rintro e w1 ⟨rfl, rfl⟩)
  refine y22 ?_
  exact ⟨⟨⟨s, [], 0⟩, none, 0⟩, by rw [HV.out]; rfl, by rw [HV.out], .zero _ _, by go_grown⟩
 case pos =>
 rw [hok] at HR
 have hV : eu (az l) s = match getF (az l) s with | none => (⟨s, [], 0⟩, 10) | some f => (f, 0) := by unfold eu; rw [if_pos hok]
 have HV := Lib.hid hV
 clear hok hV
 go_enter Tryz.func70, Tryz.ntmps70
 go_wp2_with (go_at_call 105; (with_reducible refine (HR.out _).mono ?_); rintro e w1 ⟨rfl, rfl⟩)
 go_loop [6] (fun i => ∃ k : Nat, k ≤ l.length ∧ i = .int .i64 k ∧ getF (az l) s = getF ((az l).drop k) s) (fun i => l.length - (intOf i).toNat)
 case atStart => exact ⟨0, Nat.zero_le _, rfl, by rw [List.drop_zero]⟩
 case round =>
  obtain ⟨k, hk, rfl, hpre⟩ := hrel
  have HP := Lib.hid hpre
  clear hpre
  by_cases hlt : k < l.length
  ·obtain ⟨A, off, rfl, hrows, hok⟩ := h.at hlt
   have b0 := hrows k hlt 0 _ rfl
   rw [Nat.add_zero] at b0
   have c0 := fun o => kept ((Below.refl _ w).alloc (Nat.le_refl _) o) b0
   have c1 := fun o => kept ((Below.refl _ w).alloc (Nat.le_refl _) o) (hrows k hlt 1 _ rfl)
   have c2 := fun o => kept ((Below.refl _ w).alloc (Nat.le_refl _) o) (hrows k hlt 2 _ rfl)
   clear b0
   have HD := Lib.hid (oO l k hlt)
   have HK := Lib.hid hok
   clear hrows hok
   by_cases hc : l[k].f.name = s
   ·have HE : Hid (eu (az l) s = (l[k].f, 0)) := by rw [Hid, HV.out, HP.out, HD.out, fU, if_pos hc]
    have hq : (l[k].f.name.toList == s.toList) = true := by rw [hc]; simp
    clear HP HD HV hc
    generalize l[k] = x at *
    go_wp2
    refine y22 ?_
    exact ⟨x, by rw [HE.out]; rfl, by rw [HE.out], HK.out.kept (by go_grown), by go_grown⟩
   ·have HE : Hid (getF (az l) s = getF ((az l).drop (k + 1)) s) := by rw [Hid, HP.out, HD.out, fU, if_neg hc]
    refine y32 ?_
    intro hq
    clear HP HD hc HK
    exact z31
  ·have HE : Hid (eu (az l) s = (⟨s, [], 0⟩, 10)) := by rw [Hid, HV.out, HP.out, List.drop_of_length_le (by simpa using Nat.le_of_not_lt hlt)]; rfl
   go_wp2
   refine y22 ?_
   exact ⟨⟨⟨s, [], 0⟩, none, 0⟩, by rw [HE.out]; rfl, by rw [HE.out], .zero _ _, by go_grown⟩
end Go.Proofs.YtlefejokpdjpgaaGreat
namespace Go.Proofs.YtlefejokpdjpgaaGreat
open Go.RowKit
def dS (l : List RF) (s : ByteArray) : List RF := l.filter fun g => !decide (g.f.name = s)
theorem oP (l : List RF) (s : ByteArray) : az (dS l s) = delF (az l) s := by
 unfold dS delF az
 rw [List.filter_map]
 rfl
theorem mX (l : List RF) (s : ByteArray) : (dS l s).length ≤ l.length := List.length_filter_le _ _
theorem uu {l : List RF} {k : Nat} {s : ByteArray} (h : k < l.length) (he : l[k].f.name = s) : dS (l.take (k + 1)) s = dS (l.take k) s := by
 unfold dS; rw [List.take_succ_eq_append_getElem h, List.filter_append]; simp [he]
theorem vJ {l : List RF} {k : Nat} {s : ByteArray} (h : k < l.length) (he : ¬ l[k].f.name = s) : dS (l.take (k + 1)) s = dS (l.take k) s ++ [l[k]] := by
 unfold dS; rw [List.take_succ_eq_append_getElem h, List.filter_append]; simp [he]
theorem Tryz.infoRF : (Tryz.prog.info? 105).map (fun i => (i.zero, i.size, i.bytes)) = some (some (.agg #[.string ByteArray.empty, .slice none 0 0, .int .i64 0]), 3, 48) := by kernel_rfl
theorem iH (w : World) (g : RF) (t : TypeId) : CellsIn (w.alloc (.cells #[.string g.f.name, .slice g.a g.f.b.length g.cap, .int .i64 g.f.safe] t)) (some ⟨w.heap.size, 0, none⟩) (fcs [g]) := by
 refine Or.inr ⟨_, _, rfl, fun j v hv => ?_⟩
 rw [Nat.zero_add, World.cell?_alloc_new]
 simpa [fcs] using hv
theorem z39 {p : Prop} (h : p := by simp [intOf] <;> omega) : p := h
theorem y34 {p q : Prop} (k : q) (h : PLift q → p := by
 intro kk
 have c0 := hra k hlt 0 _ rfl
 have c1 := hra k hlt 1 _ rfl
 have c2 := hra k hlt 2 _ rfl
 revert c0 c1 c2
 exact kk.down) : p := h ⟨k⟩
theorem nK (a : Option Addr) (cap : Nat) (l : List RF) (s : ByteArray) (w : World) (hl : l.length ≤ 1073741824) (h : RFsIn w a l) :
 Calls Tryz.prog 106 #[.slice a l.length cap, .string s] w (xe (dS l s) w) := by
 obtain ⟨i0, hi, hz0, hz1, hz2⟩ := info_parts Tryz.infoRF
 go_enter Tryz.func106, Tryz.ntmps106
 go_wp2
 have hown0 : (w.alloc (Obj.cells #[] 105)).ownsRow w.heap.size 105 3 (.slice (some ⟨w.heap.size, 0, none⟩) 0 0) (dS (l.take 0) s).length (fcs (dS (l.take 0) s)) := World.ownsRow_made _ _ _ (Nat.le_refl _) (by decide) rfl
 have hb0 : Below w.heap.size w (w.alloc (Obj.cells #[] 105)) := (Below.refl _ _).alloc (Nat.le_refl _) _
 go_loopw [5, 6] (fun out i wr => ∃ k : Nat, i = .int .i64 k ∧ k ≤ l.length ∧ wr.ownsRow w.heap.size 105 3 out (dS (l.take k) s).length (fcs (dS (l.take k) s)) ∧ Below w.heap.size w wr) (fun _ i _ => l.length - (intOf i).toNat)
 case atStart => exact ⟨0, rfl, Nat.zero_le _, hown0, hb0⟩
 case round =>
  obtain ⟨k, rfl, hk, hown, hbw⟩ := hrel
  have hzw := hbw.size
  by_cases hlt : k < l.length
  ·obtain ⟨A, off, rfl, hra, hok⟩ := (h.kept hbw).at hlt
   refine y34 ?_
   intro c0 c1 c2
   rw [Nat.add_zero] at c0
   have hdl : (dS (l.take k) s).length ≤ l.length := Nat.le_trans (mX _ _) (by simp; omega)
   by_cases hc : l[k].f.name = s
   ·have HT := Lib.hid (uu hlt hc)
    have hq : (l[k].f.name.toList == s.toList) = true := by rw [hc]; simp
    clear hc hra hok
    generalize l[k] = x at c0 c1 c2 HT hq
    go_wp2
    go_roundw
    case rel => exact ⟨k + 1, by go_num, by omega, by rw [HT.out]; exact hown, hbw⟩
    case measure => exact z39
   ·have HT := Lib.hid (vJ hlt hc)
    refine y32 ?_
    intro hq
    clear hc hra hok
    generalize l[k] = x at c0 c1 c2 HT hq
    go_wp2_with (at_builtin; go_loud (refine df rfl _ _ 60 rfl w.heap.size 105 i0 _ 3 48 Tryz.underlying60 hi hz0 hz1 hz2 rfl (by decide) _ _ _ rfl (hown.alloc _) _ 1 1 (fcs [x]) rfl rfl (iH wr x _) (di _) (by unfold maxLen; omega) (by omega) (by simp; omega) ?_); intro v' w2 hown3 hgrow)
    have hb3 := (hbw.alloc hzw (Obj.cells #[.string x.f.name, .slice x.a x.f.b.length x.cap, .int .i64 x.f.safe] 105)).grown hgrow (by simp; omega) (fun k hk => (hown.lt k hk).1)
    have hown4 : w2.ownsRow w.heap.size 105 3 v' (dS (l.take (k + 1)) s).length (fcs (dS (l.take (k + 1)) s)) := by rw [HT.out, gZ, List.length_append]; exact hown3
    go_roundw
    case rel => exact ⟨k + 1, by go_num, by omega, hown4, hb3⟩
    case measure => exact z39
  ·have hke : k = l.length := by omega
   subst hke
   rw [List.take_length] at hown
   obtain ⟨a2, c2, rfl, hin, hc⟩ := RFsIn.own hown (fun g hg => (h.ok g (List.mem_filter.1 hg).1).kept hbw)
   go_wp2
   go_ret
   exact ⟨a2, c2, rfl, hin, hc, hbw⟩
def iy : List RF → RF → List RF
 | [], g => [g]
 | x :: r, g => if nameLt x.f.name g.f.name then x :: iy r g else g :: x :: r
def eU (l : List RF) (g : RF) : List RF := iy (dS l g.f.name) g
theorem jP (g : RF) : ∀ l : List RF, az (iy l g) = insF (az l) g.f
 | [] => rfl
 | x :: r => by
   simp only [iy, List.map_cons, insF]
   split
   ·simp [← jP g r]
   ·rfl
theorem iG (l : List RF) (g : RF) : az (eU l g) = putF (az l) g.f := by
 unfold eU putF; rw [jP, oP]
theorem iQ (g : RF) : ∀ l : List RF, iy l g = l.take (ahead l g) ++ g :: l.drop (ahead l g)
 | [] => rfl
 | x :: r => by
   unfold iy ahead
   cases h : nameLt x.f.name g.f.name
   ·simp [h]
   ·simp only [h, if_true, List.takeWhile_cons_of_pos, List.length_cons, List.take_succ_cons, List.drop_succ_cons, List.cons_append]
    rw [iQ g r]
    rfl
theorem vM (l : List RF) (g : RF) : ahead l g ≤ l.length := List.Sublist.length_le (List.takeWhile_sublist _)
theorem uA {l : List RF} {g : RF} {k : Nat} (h : k < l.length) (hp : nameLt l[k].f.name g.f.name = true) : ahead (l.drop k) g = ahead (l.drop (k + 1)) g + 1 := by
 unfold ahead
 rw [List.drop_eq_getElem_cons h, List.takeWhile_cons]
 simp only [hp, if_true, List.length_cons]
theorem vK {l : List RF} {g : RF} {k : Nat} (h : k < l.length) (hp : nameLt l[k].f.name g.f.name = false) : ahead (l.drop k) g = 0 := by
 unfold ahead
 rw [List.drop_eq_getElem_cons h, List.takeWhile_cons]
 simp only [hp, Bool.false_eq_true, if_false, List.length_nil]
theorem mO {l : List RF} {g x : RF} (h : x ∈ iy l g) : x = g ∨ x ∈ l := by
 rw [iQ] at h
 rcases List.mem_append.1 h with h | h
 ·exact Or.inr (List.mem_of_mem_take h)
 ·rcases List.mem_cons.1 h with h | h
  ·exact Or.inl h
  ·exact Or.inr (List.mem_of_mem_drop h)
theorem mP (l : List RF) (g : RF) : (iy l g).length = l.length + 1 := by
 rw [iQ]; simp; have := vM l g; omega
theorem oL (a b : ByteArray) : Op.bytesLess a.toList b.toList = nameLt a b := by
 rw [bytesLess_eq, ByteArray.toList_eq, ByteArray.toList_eq]; rfl
theorem z38 {p : Prop} (h : p := by exact hHeld.trans (hbel0.mono hHeld.size)) : p := h
theorem z37 {p : Prop} (h : p := by exact hHeld.alloc hHeld.size _) : p := h
theorem z24 {p : Prop} (h : p := by exact hHeld.grown hg2 hHeld.size (fun k hk => (hown1.lt k hk).1)) : p := h
theorem z23 {p : Prop} (h : p := by exact hHeld.grown hg1 hHeld.size (fun k hk => (hown0.lt k hk).1)) : p := h
theorem z14 {p : Prop} (h : p := by
 rw [Nat.zero_add]
 match j, hv with
 | 0, hv => simp only [List.getElem?_cons_zero, Option.some.injEq] at hv; subst hv; exact kept h f0
 | 1, hv => simp only [List.getElem?_cons_succ, List.getElem?_cons_zero, Option.some.injEq] at hv; subst hv; exact kept h f1
 | 2, hv => simp only [List.getElem?_cons_succ, List.getElem?_cons_zero, Option.some.injEq] at hv; subst hv; exact kept h f2
 | j + 3, hv => simp at hv) : p := h
theorem z2 {p : Prop} (h : p := by (intro w hSw; go_simp; try with_reducible rfl)) : p := h
theorem y29 {p q : Prop} (k : q) (h : PLift q → p := by
 intro kk
 have hka := Lib.hid wH
 refine wp_name (fun W hW => ?_)
 have hB : Below w1.heap.size w1 W.drew := by rw [hW.out]; exact (below_drewN hbw nq).drew
 have f0 := kept hB b0
 have f1 := kept hB b1
 have f2 := kept hB b2
 have vF := (hin.kept hB).rows
 have hgW := hg.kept hB
 revert hka W hW hB f0 f1 f2 vF hgW
 exact kk.down) : p := h ⟨k⟩
theorem y23 {p q : Prop} (k : q) (h : PLift q → p := by
 intro kk
 try simp only [pS]
 refine tH 10 36 rfl (Or.inl ⟨by rfl, fun W hSW => bu _ _ _ _ _ rfl _ (mV W)⟩) ?_
 try simp only [pS]
 refine wpAnyH_ready (rs := [0, 6]) (by kernel_rfl) (by simp) ?_
 exact kk.down) : p := h ⟨k⟩
theorem y16 {p q : Prop} (k : q) (h : PLift q → p := by
 intro kk
 try simp only [pS]
 refine tH 3 29 rfl (Or.inl ⟨by rfl, fun W hSW => bu _ _ _ _ _ rfl _ (hcut W)⟩) ?_
 try simp only [pS]
 refine tH 5 31 rfl (yieldsIf_load_mid (by rfl) 105 _ rfl w.heap.size 0 rfl (rfCells g) _ (fun X h => hF X h) Tryz.underlying105 rfl (by kernel_rfl)) ?_
 try simp only [pS]
 exact kk.down) : p := h ⟨k⟩
theorem y3 {p q : Prop} (k : q) (h : PLift q → p := by
 intro kk
 have hcut : ∀ X, (Instr.sliceAt 60 (.slice a1 m.length c1) none (some (.int .i64 (k : Nat))) none).run Tryz.prog X = .ok (.slice a1 k c1) X := fun X => dW X _ _ i0 a1 m.length c1 .i64 k Tryz.underlying60 hi (by omega)
 have mV : ∀ X, (Instr.sliceAt 60 (.slice a1 m.length c1) (some (.int .i64 (k : Nat))) none none).run Tryz.prog X = .ok (.slice (cutA a1 c1 k 3) (m.length - k) (c1 - k)) X := fun X => kN X _ _ i0 a1 m.length c1 .i64 k 3 Tryz.underlying60 hi hz1 (by omega)
 have hR1 : ∀ X, Below W.drew.heap.size W.drew X → CellsIn X a1 (fcs (m.take k)) := fun X h => by rw [← pJ]; exact (vF.kept h).take _
 have hR2 : ∀ X, Below W.drew.heap.size W.drew X → CellsIn X (cutA a1 c1 k 3) (fcs (m.drop k)) := fun X h => by rw [← fcs_drop]; exact (vF.kept h).cut (fcs_length m) hc1 k
 have l1 : (fcs (m.take k)).length = k * 3 := by rw [fcs_length, List.length_take, Nat.min_eq_left hk]
 have l2 : (fcs (m.drop k)).length = (m.length - k) * 3 := by rw [fcs_length, List.length_drop]
 revert hcut mV hR1 hR2 l1 l2
 exact kk.down) : p := h ⟨k⟩
theorem jm (a : Option Addr) (cap : Nat) (l : List RF) (g : RF) (w : World) (hl : l.length ≤ 16777216) (hlc : l.length ≤ cap) (h : RFsIn w a l) (hg : RFOk w g) :
 Calls Tryz.prog 72 #[.slice a l.length cap, uO g] w (xe (eU l g) w) := by
 obtain ⟨i0, hi, hz0, hz1, hz2⟩ := info_parts Tryz.infoRF
 have HW := Lib.hid (fun (W : World) (h : RFsIn W a l) => nK a cap l g.f.name W (by omega) h)
 have hml := mX l g.f.name
 unfold eU
 generalize dS l g.f.name = m at *
 go_enter Tryz.func72, Tryz.ntmps72
 go_upto_region 1 with fail
 refine wp_name (fun W hW => ?_)
 have hb0 : Below w.heap.size w W := by rw [hW.out]; go_grown
 have b0 : W.cell? ⟨w.heap.size, 0, none⟩ = some (.string g.f.name) := by rw [hW.out]; go_simp
 have b1 : W.cell? ⟨w.heap.size, 1, none⟩ = some (.slice g.a g.f.b.length g.cap) := by rw [hW.out]; go_simp
 have b2 : W.cell? ⟨w.heap.size, 2, none⟩ = some (.int .i64 g.f.safe) := by rw [hW.out]; go_simp
 have hz : w.heap.size < W.heap.size := by rw [hW.out]; simp
 replace h := h.kept hb0
 replace hg := hg.kept hb0
 clear hW
 go_wp2_with (go_at_call 106; (with_reducible refine (HW.out _ h).mono ?_); rintro e w1 ⟨a1, c1, rfl, hin, hc1, hb1⟩)
 replace hb0 := below2 hb0 hb1
 replace b0 := kept hb1 b0
 replace b1 := kept hb1 b1
 replace b2 := kept hb1 b2
 replace hg := hg.kept hb1
 replace hz := Nat.lt_of_lt_of_le hz hb1.size
 clear hb1 h HW
 go_loopw [5] (fun i wr => ∃ k : Nat, i = .int .i64 k ∧ k ≤ m.length ∧ ahead m g = k + ahead (m.drop k) g ∧ Below w1.heap.size w1 wr) (fun i _ => m.length - (intOf i).toNat)
 case atStart => exact ⟨0, rfl, Nat.zero_le _, by simp, Below.refl _ _⟩
 case round =>
  obtain ⟨k, rfl, hk, hpre, hbw⟩ := hrel
  have HP := Lib.hid hpre
  clear hpre
  by_cases hlt : k < m.length
  ·obtain ⟨A, off, rfl, hra, hok⟩ := (hin.kept hbw).at hlt
   have c0 := hra k hlt 0 _ rfl
   rw [Nat.add_zero] at c0
   have d0 := kept hbw b0
   by_cases hp : nameLt m[k].f.name g.f.name = true
   ·have HE : Hid (ahead m g = (k + 1) + ahead (m.drop (k + 1)) g) := by rw [Hid, HP.out, uA hlt hp]; omega
    have hq := (oL m[k].f.name g.f.name).trans hp
    clear hra hok HP hp
    generalize m[k] = x at c0 hq
    go_wp2
    go_quiet (fail)
    go_wp2
    go_roundw
    case rel => exact ⟨k + 1, by go_num, by omega, HE.out, below_drewN hbw nq⟩
    case measure => exact z39
   ·have wH : ahead m g = k := by rw [HP.out, vK hlt (Bool.eq_false_iff.2 hp)]; rfl
    have hq := (oL m[k].f.name g.f.name).trans (Bool.eq_false_iff.2 hp)
    clear hra hok HP hp
    generalize m[k] = x at c0 hq
    go_wp2
    go_quiet (fail)
    go_wp2
    obtain ⟨a1, ha1⟩ : ∃ a1, a1 = some (⟨A, off, none⟩ : Addr) := ⟨_, rfl⟩
    rw [← ha1] at hin ⊢
    clear ha1 c0
    refine y29 ?_
    clear wH
    intro hka W hW hB f0 f1 f2 vF hgW
    clear hW d0 hbw
    refine y3 ?_
    intro hcut mV hR1 hR2 l1 l2
    have hF : ∀ X, Below W.drew.heap.size W.drew X → X.rangeAt w.heap.size 0 (rfCells g) := fun X h j v hv => by
     exact z14
    go_wp2_with fail
    refine wp_region_noPanic ?_
    refine wp_region_held_drew (S := fun W' => Below W.drew.heap.size W.drew W') (by kernel_rfl) (Below.refl _ _) (fun hHeld => ?_)
    refine tH (v := ?_) 1 27 rfl (Or.inl ⟨by rfl, ?_⟩) ?_
    case refine_2 => exact z2
    try simp only [pS]
    refine tH (v := ?_) 2 28 rfl (Or.inl ⟨by rfl, ?_⟩) ?_
    case refine_2 => exact z2
    refine y16 ?_
    refine tH (v := ?_) 8 34 rfl (Or.inl ⟨by rfl, ?_⟩) ?_
    case refine_2 => exact z2
    try simp only [pS]
    refine tH (v := ?_) 9 35 rfl (Or.inl ⟨by rfl, ?_⟩) ?_
    case refine_2 => exact z2
    refine y23 ?_
    refine AllReadyH.cons (o := ⟨some 26, _, _, _, _, _⟩) rfl (fun K hK => ?_) (AllReadyH.cons (o := ⟨some 32, _, _, _, _, _⟩) rfl (fun K hK => ?_) AllReadyH.nil)
    focus
     refine dP (by rfl) 60 105 rfl i0 _ 3 Tryz.underlying60 hi hz0 hz1 (by decide) ?_
     intro v0 X0 hown0 hbel0
     refine hK.out _ _ ?_ (fun ai => ?_)
     ·exact z38
     clear hK K hHeld
     have hHeld := ai
     clear ai
     try simp only [pS]
     refine wpAnyH_ready (rs := [4, 6]) (by kernel_rfl) (by simp) ?_
     refine AllReadyH.cons (o := ⟨some 30, _, _, _, _, _⟩) rfl (fun K hK => ?_) (AllReadyH.cons (o := ⟨some 32, _, _, _, _, _⟩) rfl (fun K hK => ?_) AllReadyH.nil)
     focus
      refine aI (by rfl) (.tmp 26) (.tmp 29) 60 rfl W.drew.heap.size 105 i0 _ 3 48 Tryz.underlying60 hi hz0 hz1 hz2 rfl (by decide) _ 0 _ rfl hown0 a1 k c1 (fcs (m.take k)) rfl l1 (hR1 _ hHeld) (di _) (by first | omega | (unfold maxLen; omega)) (by first | omega | (unfold maxLen; omega)) hHeld.size ?_
      intro v1 X1 hown1 hg1
      refine hK.out _ _ ?_ (fun ai => ?_)
      ·exact z23
      clear hK K hHeld
      have hHeld := ai
      clear ai
      try simp only [pS]
      refine rH 6 32 rfl fun K hK => ?_
      refine dn (by rfl) 60 105 _ rfl #[.string g.f.name, .slice g.a g.f.b.length g.cap, .int .i64 g.f.safe] 3 rfl rfl (by decide) (by decide) Tryz.underlying60 (by kernel_rfl) (by kernel_rfl) ?_
      refine hK.out _ _ ?_ (fun ai => ?_)
      ·exact z37
      clear hK K hHeld
      have hHeld := ai
      clear ai
      try simp only [pS]
      have hN := (fun X => iH X g 105) X1
      refine rH 7 33 rfl fun K hK => ?_
      refine aI (by rfl) (.tmp 30) (.tmp 32) 60 rfl W.drew.heap.size 105 i0 _ 3 48 Tryz.underlying60 hi hz0 hz1 hz2 rfl (by decide) _ (0 + k) _ rfl (hown1.alloc _) (some ⟨X1.heap.size, 0, none⟩) 1 1 (fcs [g]) rfl rfl hN (di _) (by first | omega | (unfold maxLen; omega)) (by first | omega | (unfold maxLen; omega)) hHeld.size ?_
      intro v2 X2 hown2 hg2
      refine hK.out _ _ ?_ (fun ai => ?_)
      ·exact z24
      clear hK K hHeld
      have hHeld := ai
      clear ai
      try simp only [pS]
     rotate_left 1
     focus
      refine dn (by rfl) 60 105 _ rfl #[.string g.f.name, .slice g.a g.f.b.length g.cap, .int .i64 g.f.safe] 3 rfl rfl (by decide) (by decide) Tryz.underlying60 (by kernel_rfl) (by kernel_rfl) ?_
      refine hK.out _ _ ?_ (fun ai => ?_)
      ·exact z37
      clear hK K hHeld
      have hHeld := ai
      clear ai
      try simp only [pS]
      have hN := (fun X => iH X g 105) X0
      refine rH 4 30 rfl fun K hK => ?_
      refine aI (by rfl) (.tmp 26) (.tmp 29) 60 rfl W.drew.heap.size 105 i0 _ 3 48 Tryz.underlying60 hi hz0 hz1 hz2 rfl (by decide) _ 0 _ rfl (hown0.alloc _) a1 k c1 (fcs (m.take k)) rfl l1 (hR1 _ hHeld) (di _) (by first | omega | (unfold maxLen; omega)) (by first | omega | (unfold maxLen; omega)) hHeld.size ?_
      intro v1 X1 hown1 hg1
      refine hK.out _ _ ?_ (fun ai => ?_)
      ·exact z23
      clear hK K hHeld
      have hHeld := ai
      clear ai
      try simp only [pS]
      replace hN := hN.grown hg1 (fun q hq e => by have := (hown0.lt _ e).2; simp only [Option.some.injEq] at hq; subst hq; simp only at this; omega)
      refine rH 7 33 rfl fun K hK => ?_
      refine aI (by rfl) (.tmp 30) (.tmp 32) 60 rfl W.drew.heap.size 105 i0 _ 3 48 Tryz.underlying60 hi hz0 hz1 hz2 rfl (by decide) _ (0 + k) _ rfl hown1 (some ⟨X0.heap.size, 0, none⟩) 1 1 (fcs [g]) rfl rfl hN (di _) (by first | omega | (unfold maxLen; omega)) (by first | omega | (unfold maxLen; omega)) hHeld.size ?_
      intro v2 X2 hown2 hg2
      refine hK.out _ _ ?_ (fun ai => ?_)
      ·exact z24
      clear hK K hHeld
      have hHeld := ai
      clear ai
      try simp only [pS]
    rotate_left 2
    focus
     refine dn (by rfl) 60 105 _ rfl #[.string g.f.name, .slice g.a g.f.b.length g.cap, .int .i64 g.f.safe] 3 rfl rfl (by decide) (by decide) Tryz.underlying60 (by kernel_rfl) (by kernel_rfl) ?_
     refine hK.out _ _ ?_ (fun ai => ?_)
     ·exact z37
     clear hK K hHeld
     have hHeld := ai
     clear ai
     try simp only [pS]
     have hN := (fun X => iH X g 105) W.drew
     refine rH 0 26 rfl fun K hK => ?_
     refine dP (by rfl) 60 105 rfl i0 _ 3 Tryz.underlying60 hi hz0 hz1 (by decide) ?_
     intro v0 X0 hown0 hbel0
     refine hK.out _ _ ?_ (fun ai => ?_)
     ·exact z38
     clear hK K hHeld
     have hHeld := ai
     clear ai
     try simp only [pS]
     replace hN := hN.kept hbel0
     have vg := hown0
     replace hown0 := own_base hown0 (b2 := W.drew.heap.size) (by first | exact Nat.le_refl _ | simp)
     refine rH 4 30 rfl fun K hK => ?_
     refine aI (by rfl) (.tmp 26) (.tmp 29) 60 rfl W.drew.heap.size 105 i0 _ 3 48 Tryz.underlying60 hi hz0 hz1 hz2 rfl (by decide) _ 0 _ rfl hown0 a1 k c1 (fcs (m.take k)) rfl l1 (hR1 _ hHeld) (di _) (by first | omega | (unfold maxLen; omega)) (by first | omega | (unfold maxLen; omega)) hHeld.size ?_
     intro v1 X1 hown1 hg1
     refine hK.out _ _ ?_ (fun ai => ?_)
     ·exact z23
     clear hK K hHeld
     have hHeld := ai
     clear ai
     try simp only [pS]
     replace hN := hN.grown hg1 (fun q hq e => by have := (vg.lt _ e).1; simp only [Option.some.injEq] at hq; subst hq; simp at this; omega)
     refine rH 7 33 rfl fun K hK => ?_
     refine aI (by rfl) (.tmp 30) (.tmp 32) 60 rfl W.drew.heap.size 105 i0 _ 3 48 Tryz.underlying60 hi hz0 hz1 hz2 rfl (by decide) _ (0 + k) _ rfl hown1 (some ⟨W.drew.heap.size, 0, none⟩) 1 1 (fcs [g]) rfl rfl hN (di _) (by first | omega | (unfold maxLen; omega)) (by first | omega | (unfold maxLen; omega)) hHeld.size ?_
     intro v2 X2 hown2 hg2
     refine hK.out _ _ ?_ (fun ai => ?_)
     ·exact z24
     clear hK K hHeld
     have hHeld := ai
     clear ai
     try simp only [pS]
    all_goals
     refine rH 11 37 rfl fun K hK => ?_
     refine aI (by rfl) (.tmp 33) (.tmp 36) 60 rfl W.drew.heap.size 105 i0 _ 3 48 Tryz.underlying60 hi hz0 hz1 hz2 rfl (by decide) _ (0 + k + 1) _ rfl hown2 (cutA a1 c1 k 3) (m.length - k) (c1 - k) (fcs (m.drop k)) rfl l2 (hR2 _ hHeld) (di _) (by first | omega | (unfold maxLen; omega)) (by first | omega | (unfold maxLen; omega)) hHeld.size ?_
     intro v3 X3 hown3 hg3
     refine hK.out _ _ ?_ (fun ai => ?_)
     ·exact hHeld.grown hg3 hHeld.size (fun k hk => (hown2.lt k hk).1)
     clear hK K hHeld
     have hHeld := ai
     clear ai
     try simp only [pS]
     refine tH (v := ?_) 12 4 rfl (Or.inl ⟨by rfl, ?_⟩) ?_
     case refine_2 => exact z2
     try simp only [pS]
     refine wpAnyH_done (by kernel_rfl) ?_ _
     refine NoPanic.normal ?_
     have e1 : [] ++ fcs (m.take k) ++ fcs [g] ++ fcs (m.drop k) = fcs (iy m g) := by rw [iQ, hka.out, gZ]; simp [fcs, List.append_assoc]
     have e2 : 0 + k + 1 + (m.length - k) = (iy m g).length := by rw [mP]; omega
     rw [e1, e2] at hown3
     clear e1 e2 hR1 hR2 l1 l2 hF hcut mV
     obtain ⟨a2, c2, rfl, hin2, hc2⟩ := RFsIn.own hown3 (fun x hx => by
      rcases mO hx with rfl | h
      ·exact hgW.kept hHeld
      ·exact (hin.ok x h).kept (below2 hB hHeld))
     clear hown3
     go_wp2
     go_ret
     exact ⟨a2, c2, rfl, hin2, hc2, below2 (below2 hb0 hB) hHeld⟩
  ·have wH : ahead m g = k := by
        have : k = m.length := by omega
        rw [HP.out, this, List.drop_length]; rfl
   go_wp2
   go_quiet (fail)
   go_wp2
   refine y29 ?_
   clear wH
   intro hka W hW hB f0 f1 f2 vF hgW
   clear hW hbw
   refine y3 ?_
   intro hcut mV hR1 hR2 l1 l2
   have hF : ∀ X, Below W.drew.heap.size W.drew X → X.rangeAt w.heap.size 0 (rfCells g) := fun X h j v hv => by
        exact z14
   go_wp2_with fail
   refine wp_region_noPanic ?_
   refine wp_region_held_drew (S := fun W' => Below W.drew.heap.size W.drew W') (by kernel_rfl) (Below.refl _ _) (fun hHeld => ?_)
   refine tH (v := ?_) 1 27 rfl (Or.inl ⟨by rfl, ?_⟩) ?_
   case refine_2 => exact z2
   try simp only [pS]
   refine tH (v := ?_) 2 28 rfl (Or.inl ⟨by rfl, ?_⟩) ?_
   case refine_2 => exact z2
   refine y16 ?_
   refine tH (v := ?_) 8 34 rfl (Or.inl ⟨by rfl, ?_⟩) ?_
   case refine_2 => exact z2
   try simp only [pS]
   refine tH (v := ?_) 9 35 rfl (Or.inl ⟨by rfl, ?_⟩) ?_
   case refine_2 => exact z2
   refine y23 ?_
   refine AllReadyH.cons (o := ⟨some 26, _, _, _, _, _⟩) rfl (fun K hK => ?_) (AllReadyH.cons (o := ⟨some 32, _, _, _, _, _⟩) rfl (fun K hK => ?_) AllReadyH.nil)
   focus
        refine dP (by rfl) 60 105 rfl i0 _ 3 Tryz.underlying60 hi hz0 hz1 (by decide) ?_
        intro v0 X0 hown0 hbel0
        refine hK.out _ _ ?_ (fun ai => ?_)
        ·exact z38
        clear hK K hHeld
        have hHeld := ai
        clear ai
        try simp only [pS]
        refine wpAnyH_ready (rs := [4, 6]) (by kernel_rfl) (by simp) ?_
        refine AllReadyH.cons (o := ⟨some 30, _, _, _, _, _⟩) rfl (fun K hK => ?_) (AllReadyH.cons (o := ⟨some 32, _, _, _, _, _⟩) rfl (fun K hK => ?_) AllReadyH.nil)
        focus
         refine aI (by rfl) (.tmp 26) (.tmp 29) 60 rfl W.drew.heap.size 105 i0 _ 3 48 Tryz.underlying60 hi hz0 hz1 hz2 rfl (by decide) _ 0 _ rfl hown0 a1 k c1 (fcs (m.take k)) rfl l1 (hR1 _ hHeld) (di _) (by first | omega | (unfold maxLen; omega)) (by first | omega | (unfold maxLen; omega)) hHeld.size ?_
         intro v1 X1 hown1 hg1
         refine hK.out _ _ ?_ (fun ai => ?_)
         ·exact z23
         clear hK K hHeld
         have hHeld := ai
         clear ai
         try simp only [pS]
         refine rH 6 32 rfl fun K hK => ?_
         refine dn (by rfl) 60 105 _ rfl #[.string g.f.name, .slice g.a g.f.b.length g.cap, .int .i64 g.f.safe] 3 rfl rfl (by decide) (by decide) Tryz.underlying60 (by kernel_rfl) (by kernel_rfl) ?_
         refine hK.out _ _ ?_ (fun ai => ?_)
         ·exact z37
         clear hK K hHeld
         have hHeld := ai
         clear ai
         try simp only [pS]
         have hN := (fun X => iH X g 105) X1
         refine rH 7 33 rfl fun K hK => ?_
         refine aI (by rfl) (.tmp 30) (.tmp 32) 60 rfl W.drew.heap.size 105 i0 _ 3 48 Tryz.underlying60 hi hz0 hz1 hz2 rfl (by decide) _ (0 + k) _ rfl (hown1.alloc _) (some ⟨X1.heap.size, 0, none⟩) 1 1 (fcs [g]) rfl rfl hN (di _) (by first | omega | (unfold maxLen; omega)) (by first | omega | (unfold maxLen; omega)) hHeld.size ?_
         intro v2 X2 hown2 hg2
         refine hK.out _ _ ?_ (fun ai => ?_)
         ·exact z24
         clear hK K hHeld
         have hHeld := ai
         clear ai
         try simp only [pS]
        rotate_left 1
        focus
         refine dn (by rfl) 60 105 _ rfl #[.string g.f.name, .slice g.a g.f.b.length g.cap, .int .i64 g.f.safe] 3 rfl rfl (by decide) (by decide) Tryz.underlying60 (by kernel_rfl) (by kernel_rfl) ?_
         refine hK.out _ _ ?_ (fun ai => ?_)
         ·exact z37
         clear hK K hHeld
         have hHeld := ai
         clear ai
         try simp only [pS]
         have hN := (fun X => iH X g 105) X0
         refine rH 4 30 rfl fun K hK => ?_
         refine aI (by rfl) (.tmp 26) (.tmp 29) 60 rfl W.drew.heap.size 105 i0 _ 3 48 Tryz.underlying60 hi hz0 hz1 hz2 rfl (by decide) _ 0 _ rfl (hown0.alloc _) a1 k c1 (fcs (m.take k)) rfl l1 (hR1 _ hHeld) (di _) (by first | omega | (unfold maxLen; omega)) (by first | omega | (unfold maxLen; omega)) hHeld.size ?_
         intro v1 X1 hown1 hg1
         refine hK.out _ _ ?_ (fun ai => ?_)
         ·exact z23
         clear hK K hHeld
         have hHeld := ai
         clear ai
         try simp only [pS]
         replace hN := hN.grown hg1 (fun q hq e => by have := (hown0.lt _ e).2; simp only [Option.some.injEq] at hq; subst hq; simp only at this; omega)
         refine rH 7 33 rfl fun K hK => ?_
         refine aI (by rfl) (.tmp 30) (.tmp 32) 60 rfl W.drew.heap.size 105 i0 _ 3 48 Tryz.underlying60 hi hz0 hz1 hz2 rfl (by decide) _ (0 + k) _ rfl hown1 (some ⟨X0.heap.size, 0, none⟩) 1 1 (fcs [g]) rfl rfl hN (di _) (by first | omega | (unfold maxLen; omega)) (by first | omega | (unfold maxLen; omega)) hHeld.size ?_
         intro v2 X2 hown2 hg2
         refine hK.out _ _ ?_ (fun ai => ?_)
         ·exact z24
         clear hK K hHeld
         have hHeld := ai
         clear ai
         try simp only [pS]
   rotate_left 2
   focus
        refine dn (by rfl) 60 105 _ rfl #[.string g.f.name, .slice g.a g.f.b.length g.cap, .int .i64 g.f.safe] 3 rfl rfl (by decide) (by decide) Tryz.underlying60 (by kernel_rfl) (by kernel_rfl) ?_
        refine hK.out _ _ ?_ (fun ai => ?_)
        ·exact z37
        clear hK K hHeld
        have hHeld := ai
        clear ai
        try simp only [pS]
        have hN := (fun X => iH X g 105) W.drew
        refine rH 0 26 rfl fun K hK => ?_
        refine dP (by rfl) 60 105 rfl i0 _ 3 Tryz.underlying60 hi hz0 hz1 (by decide) ?_
        intro v0 X0 hown0 hbel0
        refine hK.out _ _ ?_ (fun ai => ?_)
        ·exact z38
        clear hK K hHeld
        have hHeld := ai
        clear ai
        try simp only [pS]
        replace hN := hN.kept hbel0
        have vg := hown0
        replace hown0 := own_base hown0 (b2 := W.drew.heap.size) (by first | exact Nat.le_refl _ | simp)
        refine rH 4 30 rfl fun K hK => ?_
        refine aI (by rfl) (.tmp 26) (.tmp 29) 60 rfl W.drew.heap.size 105 i0 _ 3 48 Tryz.underlying60 hi hz0 hz1 hz2 rfl (by decide) _ 0 _ rfl hown0 a1 k c1 (fcs (m.take k)) rfl l1 (hR1 _ hHeld) (di _) (by first | omega | (unfold maxLen; omega)) (by first | omega | (unfold maxLen; omega)) hHeld.size ?_
        intro v1 X1 hown1 hg1
        refine hK.out _ _ ?_ (fun ai => ?_)
        ·exact z23
        clear hK K hHeld
        have hHeld := ai
        clear ai
        try simp only [pS]
        replace hN := hN.grown hg1 (fun q hq e => by have := (vg.lt _ e).1; simp only [Option.some.injEq] at hq; subst hq; simp at this; omega)
        refine rH 7 33 rfl fun K hK => ?_
        refine aI (by rfl) (.tmp 30) (.tmp 32) 60 rfl W.drew.heap.size 105 i0 _ 3 48 Tryz.underlying60 hi hz0 hz1 hz2 rfl (by decide) _ (0 + k) _ rfl hown1 (some ⟨W.drew.heap.size, 0, none⟩) 1 1 (fcs [g]) rfl rfl hN (di _) (by first | omega | (unfold maxLen; omega)) (by first | omega | (unfold maxLen; omega)) hHeld.size ?_
        intro v2 X2 hown2 hg2
        refine hK.out _ _ ?_ (fun ai => ?_)
        ·exact z24
        clear hK K hHeld
        have hHeld := ai
        clear ai
        try simp only [pS]
   all_goals
        refine rH 11 37 rfl fun K hK => ?_
        refine aI (by rfl) (.tmp 33) (.tmp 36) 60 rfl W.drew.heap.size 105 i0 _ 3 48 Tryz.underlying60 hi hz0 hz1 hz2 rfl (by decide) _ (0 + k + 1) _ rfl hown2 (cutA a1 c1 k 3) (m.length - k) (c1 - k) (fcs (m.drop k)) rfl l2 (hR2 _ hHeld) (di _) (by first | omega | (unfold maxLen; omega)) (by first | omega | (unfold maxLen; omega)) hHeld.size ?_
        intro v3 X3 hown3 hg3
        refine hK.out _ _ ?_ (fun ai => ?_)
        ·exact hHeld.grown hg3 hHeld.size (fun k hk => (hown2.lt k hk).1)
        clear hK K hHeld
        have hHeld := ai
        clear ai
        try simp only [pS]
        refine tH (v := ?_) 12 4 rfl (Or.inl ⟨by rfl, ?_⟩) ?_
        case refine_2 => exact z2
        try simp only [pS]
        refine wpAnyH_done (by kernel_rfl) ?_ _
        refine NoPanic.normal ?_
        have e1 : [] ++ fcs (m.take k) ++ fcs [g] ++ fcs (m.drop k) = fcs (iy m g) := by rw [iQ, hka.out, gZ]; simp [fcs, List.append_assoc]
        have e2 : 0 + k + 1 + (m.length - k) = (iy m g).length := by rw [mP]; omega
        rw [e1, e2] at hown3
        clear e1 e2 hR1 hR2 l1 l2 hF hcut mV
        obtain ⟨a2, c2, rfl, hin2, hc2⟩ := RFsIn.own hown3 (fun x hx => by
         rcases mO hx with rfl | h
         ·exact hgW.kept hHeld
         ·exact (hin.ok x h).kept (below2 hB hHeld))
        clear hown3
        go_wp2
        go_ret
        exact ⟨a2, c2, rfl, hin2, hc2, below2 (below2 hb0 hB) hHeld⟩
end Go.Proofs.YtlefejokpdjpgaaGreat
namespace Go.Proofs.YtlefejokpdjpgaaGreat
open Go.RowKit
/-- what a change of the reference's disk hands back -/
def eG (S : DS) (c : Int) (w : World) (e : Ending) (w' : World) : Prop :=
 ∃ (a : Option Addr) (l : List RF) (cap : Nat), e = .returned (.tuple #[aO a l.length cap S.arm S.down, .int .i64 c]) ∧ RFsIn w' a l ∧ l.length ≤ cap ∧ az l = S.f ∧ Below w.heap.size w w'
def yT (f : DF) (c : Int) (w : World) (e : Ending) (w' : World) : Prop :=
 ∃ (ag : Option Addr) (cg : Nat), e = .returned (.tuple #[uO ⟨f, ag, cg⟩, .int .i64 c]) ∧ RFOk w' ⟨f, ag, cg⟩ ∧ Below w.heap.size w w'
theorem nV {a : Option Addr} {cap : Nat} {l : List RF} {s : ByteArray} {f : DF} {c : Int} {w : World} (hE : eu (az l) s = (f, c)) (hl : l.length ≤ 1073741824) (hs : s.size ≤ maxLen) (h : RFsIn w a l) :
 Calls Tryz.prog 70 #[.slice a l.length cap, .string s] w (yT f c w) := by
 have := qE a cap l s w hl hs h
 unfold vP at this
 rw [hE] at this
 refine this.mono ?_
 rintro e w1 ⟨⟨f', ag, cg⟩, rfl, h1, h2, h3⟩
 simp only at h1
 subst h1
 exact ⟨ag, cg, rfl, h2, h3⟩
theorem mW {l : List DF} {s : ByteArray} {f : DF} (h : eu l s = (f, 0)) : nameOk s = true ∧ getF l s = some f := by
 unfold eu at h
 by_cases hok : nameOk s = true
 ·rw [if_pos hok] at h
  cases hg : getF l s with
  | none => rw [hg] at h; simp at h
  | some f' => rw [hg] at h; simp only [Prod.mk.injEq, and_true] at h; exact ⟨hok, by rw [h]⟩
 ·rw [if_neg hok] at h; simp at h
theorem B3.set0 {w : World} {R : Nat} {t : TypeId} {x y z : Value} (h : B3 w R t x y z) (v : Value) : B3 (w.setCell ⟨R, 0, none⟩ v) R t v y z := by
 simp [B3, World.setCell, Array.getElem?_modify, show w.heap[R]? = _ from h]
theorem B3.set1 {w : World} {R : Nat} {t : TypeId} {x y z : Value} (h : B3 w R t x y z) (v : Value) : B3 (w.setCell ⟨R, 1, none⟩ v) R t x v z := three_set1 h v
theorem B3.set2 {w : World} {R : Nat} {t : TypeId} {x y z : Value} (h : B3 w R t x y z) (v : Value) : B3 (w.setCell ⟨R, 2, none⟩ v) R t x y v := three_set2 h v
theorem dw (w : World) (R : Nat) (cs : Array Value) : Fr (isR R) w (w.setRow R cs) := ⟨rfl, rfl, rfl, by simp [World.setRow], fun k _ hk => heap_setRow_other _ _ _ _ (fun e => hk e.symm)⟩
/-- what lies below is as it was, whatever is set above -/
theorem dO {B : Nat} {w w' : World} (h : Below B w w') {A : Addr} (hA : B ≤ A.block) (v : Value) : Below B w (w'.setCell A v) := h.setCell hA v
theorem aJ {B : Nat} {W w : World} (h : Below B W w) {g : Nat} (hg : B ≤ g) (cs : Array Value) : Below B W (w.setRow g cs) :=
 h.trans ⟨rfl, rfl, rfl, by simp [World.setRow], fun k hk => by simp [World.setRow, Array.getElem?_modify]; omega⟩
def DS.rsync (S : DS) (s : ByteArray) : DS × Int :=
 if nameOk s then (match getF S.f s with
    | none => (S, 10)
    | some f => if S.change.down then (S.change, 12) else ({ S.change with f := putF S.f { f with safe := f.b.length } }, 0)) else (S, 1)
theorem z28 {p : Prop} (h : p := by
 refine dA 4 5 62 62 (w.heap.size + 1) _ _ _ rfl rfl rfl (hZ.row _ _ _) Tryz.underlying62 rfl (by kernel_rfl) rfl ?_
 exact ⟨a, l, cap, rfl, H0.out.kept (aJ hb0 (Nat.le_succ _) _), hlc, rfl, aJ hb0 (Nat.le_succ _) _⟩) : p := h
theorem z22 {p : Prop} (h : p := by
 by_cases hok : nameOk s = true
 ·rw [if_pos hok] at hE ⊢
  cases hg : getF (az l) s with
  | none => rw [hg] at hE; simp only [Prod.mk.injEq] at hE ⊢; exact ⟨trivial, hE.2⟩
  | some f' => rw [hg] at hE; simp only [Prod.mk.injEq] at hE; exact absurd hE.2.symm hc
 ·rw [if_neg hok] at hE ⊢
  simp only [Prod.mk.injEq] at hE ⊢
  exact ⟨trivial, hE.2⟩) : p := h
theorem z4 {p : Prop} (h : p := by rw [hW.out]; exact (Below.refl (w.heap.size + 1) _).alloc (by simp) _ |>.block _ (by simp) |>.trans (aF w _)) : p := h
theorem y18 {p q : Prop} (k : q) (h : PLift q → p := by
 intro kk
 have hY3 : B3 W3 w2.heap.size 62 (.slice a l.length cap) (.int .i64 ((arm - 1 : Nat) : Int)) (.bool false) := by rw [hW3.out]; exact hY.other _ (Nat.ne_of_lt hz2)
 have hZ3 : B3 W3 (w.heap.size + 1) 62 (.slice none 0 0) (.int .i64 0) (.bool false) := by rw [hW3.out]; exact hZ.other _ (Nat.ne_of_gt hz1)
 revert hY3 hZ3
 exact kk.down) : p := h ⟨k⟩
theorem y11 {p q : Prop} (k : q) (h : PLift q → p := by
 intro kk
 have hZ5 : B3 W5 (w.heap.size + 1) 62 (.slice none 0 0) (.int .i64 0) (.bool false) := by rw [hW5.out]; exact hZ3.other _ (by simp only; omega)
 have hb5 : Below w.heap.size w W5 := by rw [hW5.out]; exact dO hb3 (by simp only; omega) _
 revert hZ5 hb5
 exact kk.down) : p := h ⟨k⟩
theorem y4 {p q : Prop} (k : q) (h : PLift q → p := by
 intro kk
 have hbw : Below W1.heap.size W1 W2 := by rw [hW2.out]; exact hb1.alloc hb1.size _
 have hz2 : w1.heap.size < w2.heap.size := Nat.lt_of_lt_of_le hX.lt hb1.size
 replace hgo := hgo.kept hbw
 replace hb0 := below2 hb0 hbw
 replace hD := hD.below hbw
 replace hZ := hZ.below hbw
 replace hX := hX.below hbw
 replace h := h.kept hbw
 clear hbw hD
 obtain ⟨d0, d1, d2, e0, e1, e2⟩ := hY.cells
 obtain ⟨x0, x1, x2, y0, y1, y2⟩ := hX.cells
 revert hz2 hgo hb0 hZ hX h d0 d1 d2 e0 e1 e2 x0 x1 x2 y0 y1 y2
 exact kk.down) : p := h ⟨k⟩
theorem y39 {p q : Prop} (k : q) (h : PLift q → p := by
 intro kk
 have hZ : B3 W (w.heap.size + 1) 62 (.slice none 0 0) (.int .i64 0) (.bool false) := by rw [hW.out]; exact bn w _ _
 revert hZ
 exact kk.down) : p := h ⟨k⟩
theorem y38 {p q : Prop} (k : q) (h : PLift q → p := by
 intro kk
 refine wp_name (fun W hW => ?_)
 have hb0 : Below w.heap.size w W := by rw [hW.out]; go_grown
 revert W hW hb0
 exact kk.down) : p := h ⟨k⟩
theorem y2 {p q : Prop} (k : q) (h : PLift q → p := by
 intro kk
 refine y38 ?_
 intro W hW hb0
 have hD : B3 W w.heap.size 62 (.slice a l.length cap) (.int .i64 arm) (.bool down) := by
  exact z4
 refine y39 ?_
 intro hZ
 have H0 := Lib.hid h
 replace h := h.kept hb0
 clear hW
 obtain ⟨d0, d1, d2, e0, e1, e2⟩ := hD.cells
 revert W hb0 hD hZ H0 h d0 d1 d2 e0 e1 e2
 exact kk.down) : p := h ⟨k⟩
theorem y1 {p q : Prop} (k : q) (h : PLift q → p := by
 intro kk
 refine wp_name (fun W1 hW1 => ?_)
 have hX : B3 W1 w1.heap.size 105 (.string f.name) (.slice ag f.b.length cg) (.int .i64 f.safe) := by rw [hW1.out]; exact aF w1 _
 have hbw : Below W.heap.size W W1 := by rw [hW1.out]; exact hb1.alloc hb1.size _
 have hb2 : Below w1.heap.size w1 W1 := by rw [hW1.out]; exact (Below.refl _ _).alloc (Nat.le_refl _) _
 have hz1 : w.heap.size + 1 < w1.heap.size := Nat.lt_of_lt_of_le hZ.lt hb1.size
 replace hgo := hgo.kept hb2
 replace hb0 := below2 hb0 hbw
 replace hD := hD.below hbw
 replace hZ := hZ.below hbw
 replace h := h.kept hbw
 clear hW1 hb2 hbw
 obtain ⟨d0, d1, d2, e0, e1, e2⟩ := hD.cells
 revert W1 hX hz1 hgo hb0 hD hZ h d0 d1 d2 e0 e1 e2
 exact kk.down) : p := h ⟨k⟩
theorem y41 {p q : Prop} (k : q) (h : PLift q → p := by
 intro kk
 refine wp_name (fun W2 hW2 => ?_)
 have hY : B3 W2 w2.heap.size 62 (.slice a l.length cap) (.int .i64 ((arm - 1 : Nat) : Int)) (.bool true) := by rw [hW2.out]; exact aF w2 _
 refine y4 ?_
 revert W2 hW2 hY
 exact kk.down) : p := h ⟨k⟩
theorem y40 {p q : Prop} (k : q) (h : PLift q → p := by
 intro kk
 refine wp_name (fun W2 hW2 => ?_)
 have hY : B3 W2 w2.heap.size 62 (.slice a l.length cap) (.int .i64 ((arm - 1 : Nat) : Int)) (.bool false) := by rw [hW2.out]; exact aF w2 _
 refine y4 ?_
 revert W2 hW2 hY
 exact kk.down) : p := h ⟨k⟩
theorem tJ (a : Option Addr) (cap arm : Nat) (down : Bool) (l : List RF) (s : ByteArray) (w : World) (hl : l.length ≤ 16777216) (hlc : l.length ≤ cap) (ha : arm ≤ 1048576) (hs : s.size ≤ maxLen) (h : RFsIn w a l) :
 Calls Tryz.prog 66 #[aO a l.length cap arm down, .string s] w (eG (DS.rsync ⟨az l, arm, down⟩ s).1 (DS.rsync ⟨az l, arm, down⟩ s).2 w) := by
 obtain ⟨f, c, hE⟩ : ∃ f c, eu (az l) s = (f, c) := ⟨_, _, rfl⟩
 have HG := Lib.hid (fun (X : World) (h : RFsIn X a l) => nV (cap := cap) hE (by omega) hs h)
 by_cases hc : c = 0
 case neg =>
  have hq : (c == 0) = false := beq_eq_false_iff_ne.2 hc
  have hr : DS.rsync ⟨az l, arm, down⟩ s = (⟨az l, arm, down⟩, c) := by
   unfold eu at hE
   unfold DS.rsync
   exact z22
  rw [hr]
  clear hE hc hr
  go_enter Tryz.func66, Tryz.ntmps66
  go_upto_region 1 with fail
  refine y2 ?_
  clear h
  intro W hb0 hD hZ H0 h d0 d1 d2 e0 e1 e2
  go_upto_region 2 with (go_at_call 70; (with_reducible refine (HG.out _ h).mono ?_); rintro e w1 ⟨ag, cg, rfl, hgo, hb1⟩)
  refine y1 ?_
  clear hgo hb0 hD hZ h hb1 d0 d1 d2 e0 e1 e2
  intro W1 hX hz1 hgo hb0 hD hZ h d0 d1 d2 e0 e1 e2
  go_wp2_with (refine wpList_store_row rfl 62 _ _ rfl (w.heap.size + 1) #[.slice a l.length cap, .int .i64 arm, .bool down] rfl rfl 62 _ hZ (by kernel_rfl) rfl (by kernel_rfl) ?_)
  exact z28
 case pos =>
 subst hc
 obtain ⟨hok, hg⟩ := mW hE
 by_cases hch : chg arm down = true
 case pos =>
  have HC := Lib.hid hch
  have hr : DS.rsync ⟨az l, arm, down⟩ s = (⟨az l, arm - 1, true⟩, 12) := by
   unfold DS.rsync; rw [if_pos hok, hg]; unfold DS.change; unfold chg at hch; simp only [hch]; rfl
  rw [hr]
  clear hE hr hg hch
  go_enter Tryz.func66, Tryz.ntmps66
  go_upto_region 1 with fail
  refine y2 ?_
  clear h
  intro W hb0 hD hZ H0 h d0 d1 d2 e0 e1 e2
  go_upto_region 4 with (go_at_call 70; (with_reducible refine (HG.out _ h).mono ?_); rintro e w1 ⟨ag, cg, rfl, hgo, hb1⟩)
  refine y1 ?_
  clear hgo hb0 hD hZ h hb1 d0 d1 d2 e0 e1 e2
  intro W1 hX hz1 hgo hb0 hD hZ h d0 d1 d2 e0 e1 e2
  go_upto_region 5 with (go_at_call 71; (with_reducible refine (dN _ _ _ _ _ _ ha).mono ?_); rw [HC.out]; rintro e w2 ⟨rfl, hb1⟩)
  refine y41 ?_
  intro W2 hW2 hY
  clear hgo hb0 hD hZ hX h hW2 hb1 d0 d1 d2 e0 e1 e2
  intro hz2 hgo hb0 hZ hX h d0 d1 d2 e0 e1 e2 x0 x1 x2 y0 y1 y2
  go_wp2_with (refine wpList_store_row rfl 62 _ _ rfl (w.heap.size + 1) #[.slice a l.length cap, .int .i64 ((arm - 1 : Nat) : Int), .bool true] rfl rfl 62 _ hZ (by kernel_rfl) rfl (by kernel_rfl) ?_)
  exact z28
 case neg =>
  have hch' := Bool.eq_false_iff.2 hch
  have HC := Lib.hid hch'
  have hr : DS.rsync ⟨az l, arm, down⟩ s = (⟨putF (az l) { f with safe := f.b.length }, arm - 1, false⟩, 0) := by
   unfold DS.rsync; rw [if_pos hok, hg]; unfold DS.change; unfold chg at hch'; simp only [hch']; rfl
  rw [hr]
  clear hE hr hg hch hch'
  go_enter Tryz.func66, Tryz.ntmps66
  go_upto_region 1 with fail
  refine y2 ?_
  clear h
  intro W hb0 hD hZ H0 h d0 d1 d2 e0 e1 e2
  go_upto_region 4 with (go_at_call 70; (with_reducible refine (HG.out _ h).mono ?_); rintro e w1 ⟨ag, cg, rfl, hgo, hb1⟩)
  refine y1 ?_
  clear hgo hb0 hD hZ h hb1 d0 d1 d2 e0 e1 e2
  intro W1 hX hz1 hgo hb0 hD hZ h d0 d1 d2 e0 e1 e2
  go_upto_region 5 with (go_at_call 71; (with_reducible refine (dN _ _ _ _ _ _ ha).mono ?_); rw [HC.out]; rintro e w2 ⟨rfl, hb1⟩)
  refine y40 ?_
  intro W2 hW2 hY
  clear hgo hb0 hD hZ hX h hW2 hb1 d0 d1 d2 e0 e1 e2
  intro hz2 hgo hb0 hZ hX h d0 d1 d2 e0 e1 e2 x0 x1 x2 y0 y1 y2
  go_upto_region 8 with fail
  refine wp_name (fun W3 hW3 => ?_)
  have hX3 : B3 W3 w1.heap.size 105 (.string f.name) (.slice ag f.b.length cg) (.int .i64 f.b.length) := by rw [hW3.out]; exact hX.set2 _
  refine y18 ?_
  intro hY3 hZ3
  have uj : RFOk W3 ⟨{ f with safe := f.b.length }, ag, cg⟩ := ⟨by rw [hW3.out]; exact hgo.bytes.fr (S := isR w1.heap.size) (fr_set _) (fun k hk => by subst hk; exact hX.noByte ⟨trivial, trivial, trivial⟩), hgo.cap⟩
  have hb3 : Below w.heap.size w W3 := by rw [hW3.out]; exact dO hb0 (by simp only; omega) _
  have h3 := H0.out.kept hb3
  clear hW3 hX hY hZ hgo hb0 h d0 d1 d2 e0 e1 e2 x0 x1 x2 y0 y1 y2
  obtain ⟨d0, d1, d2, e0, e1, e2⟩ := hY3.cells
  obtain ⟨x0, x1, x2, y0, y1, y2⟩ := hX3.cells
  go_upto_region 9 with (go_at_call 72; (with_reducible refine (jm a cap l ⟨{ f with safe := f.b.length }, ag, cg⟩ _ (by omega) hlc h3 uj).mono ?_); rintro e w4 ⟨a4, c4, rfl, dR, hc4, hb4⟩; replace hY3 := hY3.below hb4; replace hZ3 := hZ3.below hb4; replace hb3 := below2 hb3 hb4; clear d0 d1 d2 e0 e1 e2 x0 x1 x2 y0 y1 y2; obtain ⟨d0, d1, d2, e0, e1, e2⟩ := hY3.cells)
  refine wp_name (fun W5 hW5 => ?_)
  have hY5 : B3 W5 w2.heap.size 62 (.slice a4 (eU l ⟨{ f with safe := f.b.length }, ag, cg⟩).length c4) (.int .i64 ((arm - 1 : Nat) : Int)) (.bool false) := by rw [hW5.out]; exact hY3.set0 _
  refine y11 ?_
  intro hZ5 hb5
  have l7 : RFsIn W5 a4 (eU l ⟨{ f with safe := f.b.length }, ag, cg⟩) := by rw [hW5.out]; exact dR.fr (T := isR w2.heap.size) (fr_set _) (fun k hk => by subst hk; exact ⟨hY3.noByte ⟨trivial, trivial, trivial⟩, hY3.noStr ⟨trivial, trivial, trivial⟩⟩)
  clear hW5 hY3 hZ3 hb3 dR d0 d1 d2 e0 e1 e2
  obtain ⟨d0, d1, d2, e0, e1, e2⟩ := hY5.cells
  go_wp2_with (refine wpList_store_row rfl 62 _ _ rfl (w.heap.size + 1) #[.slice a4 (eU l ⟨{ f with safe := f.b.length }, ag, cg⟩).length c4, .int .i64 ((arm - 1 : Nat) : Int), .bool false] rfl rfl 62 _ hZ5 (by kernel_rfl) rfl (by kernel_rfl) ?_)
  refine dA 4 5 62 62 (w.heap.size + 1) _ _ _ rfl rfl rfl (hZ5.row _ _ _) Tryz.underlying62 rfl (by kernel_rfl) rfl ?_
  refine ⟨a4, _, c4, rfl, ?_, hc4, iG _ _, aJ hb5 (Nat.le_succ _) _⟩
  exact l7.fr (T := isR (w.heap.size + 1)) (dw _ _ _) (fun k hk => by subst hk; exact ⟨hZ5.noByte ⟨trivial, trivial, trivial⟩, hZ5.noStr ⟨trivial, trivial, trivial⟩⟩)
end Go.Proofs.YtlefejokpdjpgaaGreat
namespace Go.Proofs.YtlefejokpdjpgaaGreat
open Go.RowKit
def DS.rtrunc (S : DS) (s : ByteArray) (n : Int) : DS × Int :=
 if nameOk s then (match getF S.f s with
    | none => (S, 10)
    | some f => if n < 0 ∨ (f.b.length : Int) < n then (S, 4) else if S.change.down then (S.change, 12) else ({ S.change with f := putF S.f { f with b := f.b.take n.toNat, safe := min f.safe n.toNat } }, 0)) else (S, 1)
theorem rD {w : World} {a : Option Addr} {l : Bytes} (h : BytesIn w a l) (n : Nat) : BytesIn w a (l.take n) := h.take n
theorem Tryz.infoU8 : (Tryz.prog.info? 5).map (fun i => (i.zero, i.size, i.bytes)) = some (some (.int .u8 0), 1, 1) := by kernel_rfl
theorem z21 {p : Prop} (h : p := by
 refine dA 6 7 62 62 (w.heap.size + 1) _ _ _ rfl rfl rfl (hZ5.row _ _ _) Tryz.underlying62 rfl (by kernel_rfl) rfl ?_
 refine ⟨a4, _, c4, rfl, ?_, hc4, (by rw [HM.out]; exact iG _ _), aJ hb5 (Nat.le_succ _) _⟩
 exact l7.fr (T := isR (w.heap.size + 1)) (dw _ _ _) (fun k hk => by subst hk; exact ⟨hZ5.noByte ⟨trivial, trivial, trivial⟩, hZ5.noStr ⟨trivial, trivial, trivial⟩⟩)) : p := h
theorem z41 {p : Prop} (h : p := by
 refine dA 6 7 62 62 (w.heap.size + 1) _ _ _ rfl rfl rfl (hZ.row _ _ _) Tryz.underlying62 rfl (by kernel_rfl) rfl ?_
 exact ⟨a, l, cap, rfl, H0.out.kept (aJ hb0 (Nat.le_succ _) _), hlc, rfl, aJ hb0 (Nat.le_succ _) _⟩) : p := h
theorem kV (a : Option Addr) (cap arm : Nat) (down : Bool) (l : List RF) (s : ByteArray) (n : Int) (w : World) (hl : l.length ≤ 16777216) (hlc : l.length ≤ cap) (ha : arm ≤ 1048576) (hs : s.size ≤ maxLen) (hb : ∀ g ∈ l, g.f.b.length ≤ 16777216) (h : RFsIn w a l) :
 Calls Tryz.prog 69 #[aO a l.length cap arm down, .string s, .int .i64 n] w (eG (DS.rtrunc ⟨az l, arm, down⟩ s n).1 (DS.rtrunc ⟨az l, arm, down⟩ s n).2 w) := by
 obtain ⟨f, c, hE⟩ : ∃ f c, eu (az l) s = (f, c) := ⟨_, _, rfl⟩
 have HG := Lib.hid (fun (X : World) (h : RFsIn X a l) => nV (cap := cap) hE (by omega) hs h)
 by_cases hc : c = 0
 case neg =>
  have hq : (c == 0) = false := beq_eq_false_iff_ne.2 hc
  have hr : DS.rtrunc ⟨az l, arm, down⟩ s n = (⟨az l, arm, down⟩, c) := by
   unfold eu at hE
   unfold DS.rtrunc
   exact z22
  rw [hr]
  clear hE hc hr hb
  go_enter Tryz.func69, Tryz.ntmps69
  go_upto_region 1 with fail
  refine y2 ?_
  clear h
  intro W hb0 hD hZ H0 h d0 d1 d2 e0 e1 e2
  go_upto_region 2 with (go_at_call 70; (with_reducible refine (HG.out _ h).mono ?_); rintro e w1 ⟨ag, cg, rfl, hgo, hb1⟩)
  refine y1 ?_
  clear hgo hb0 hD hZ h hb1 d0 d1 d2 e0 e1 e2
  intro W1 hX hz1 hgo hb0 hD hZ h d0 d1 d2 e0 e1 e2
  go_wp2_with (refine wpList_store_row rfl 62 _ _ rfl (w.heap.size + 1) #[.slice a l.length cap, .int .i64 arm, .bool down] rfl rfl 62 _ hZ (by kernel_rfl) rfl (by kernel_rfl) ?_)
  exact z41
 case pos =>
 subst hc
 obtain ⟨hok, hg⟩ := mW hE
 by_cases hn : n < 0 ∨ (f.b.length : Int) < n
 case pos =>
  have hr : DS.rtrunc ⟨az l, arm, down⟩ s n = (⟨az l, arm, down⟩, 4) := by unfold DS.rtrunc; rw [if_pos hok, hg]; exact if_pos hn
  rw [hr]
  clear hE hr hg hb
  by_cases hn0 : n < 0
  case' neg =>
   have hn1 : (f.b.length : Int) < n := by omega
  all_goals
   clear hn
   go_enter Tryz.func69, Tryz.ntmps69
   go_upto_region 1 with fail
   refine wp_name (fun W hW => ?_)
   have hb0 : Below w.heap.size w W := by rw [hW.out]; go_grown
   have hD : B3 W w.heap.size 62 (.slice a l.length cap) (.int .i64 arm) (.bool down) := by
        exact z4
   have hZ : B3 W (w.heap.size + 1) 62 (.slice none 0 0) (.int .i64 0) (.bool false) := by rw [hW.out]; exact bn w _ _
   have H0 := Lib.hid h
   replace h := h.kept hb0
   clear hW
   obtain ⟨d0, d1, d2, e0, e1, e2⟩ := hD.cells
   go_upto_region 4 with (go_at_call 70; (with_reducible refine (HG.out _ h).mono ?_); rintro e w1 ⟨ag, cg, rfl, hgo, hb1⟩)
   refine wp_name (fun W1 hW1 => ?_)
   have hX : B3 W1 w1.heap.size 105 (.string f.name) (.slice ag f.b.length cg) (.int .i64 f.safe) := by rw [hW1.out]; exact aF w1 _
   have hbw : Below W.heap.size W W1 := by rw [hW1.out]; exact hb1.alloc hb1.size _
   have hb2 : Below w1.heap.size w1 W1 := by rw [hW1.out]; exact (Below.refl _ _).alloc (Nat.le_refl _) _
   have hz1 : w.heap.size + 1 < w1.heap.size := Nat.lt_of_lt_of_le hZ.lt hb1.size
   replace hgo := hgo.kept hb2
   replace hb0 := below2 hb0 hbw
   replace hD := hD.below hbw
   replace hZ := hZ.below hbw
   replace h := h.kept hbw
   clear hW1 hb1 hb2 hbw d0 d1 d2 e0 e1 e2
   obtain ⟨d0, d1, d2, e0, e1, e2⟩ := hD.cells
   obtain ⟨x0, x1, x2, y0, y1, y2⟩ := hX.cells
   go_wp2_with (refine wpList_store_row rfl 62 _ _ rfl (w.heap.size + 1) #[.slice a l.length cap, .int .i64 arm, .bool down] rfl rfl 62 _ hZ (by kernel_rfl) rfl (by kernel_rfl) ?_)
   refine dA 6 7 62 62 (w.heap.size + 1) _ _ _ rfl rfl rfl (hZ.row _ _ _) Tryz.underlying62 rfl (by kernel_rfl) rfl ?_
   exact ⟨a, l, cap, rfl, H0.out.kept (aJ hb0 (Nat.le_succ _) _), hlc, rfl, aJ hb0 (Nat.le_succ _) _⟩
 case neg =>
 obtain ⟨k, rfl⟩ : ∃ k : Nat, n = k := ⟨n.toNat, by omega⟩
 have hk : k ≤ f.b.length := by omega
 have hn0 : ¬ ((k : Int) < 0) := by omega
 have hn1 : ¬ ((f.b.length : Int) < (k : Int)) := by omega
 by_cases hch : chg arm down = true
 case pos =>
  have HC := Lib.hid hch
  have hr : DS.rtrunc ⟨az l, arm, down⟩ s k = (⟨az l, arm - 1, true⟩, 12) := by
   unfold DS.rtrunc; rw [if_pos hok, hg]; unfold DS.change; unfold chg at hch; simp only [if_neg hn, hch]; rfl
  rw [hr]
  clear hE hr hg hch hn hb
  go_enter Tryz.func69, Tryz.ntmps69
  go_upto_region 1 with fail
  refine y2 ?_
  clear h
  intro W hb0 hD hZ H0 h d0 d1 d2 e0 e1 e2
  go_upto_region 4 with (go_at_call 70; (with_reducible refine (HG.out _ h).mono ?_); rintro e w1 ⟨ag, cg, rfl, hgo, hb1⟩)
  refine y1 ?_
  clear hgo hb0 hD hZ h hb1 d0 d1 d2 e0 e1 e2
  intro W1 hX hz1 hgo hb0 hD hZ h d0 d1 d2 e0 e1 e2
  obtain ⟨x0, x1, x2, y0, y1, y2⟩ := hX.cells
  go_upto_region 6 with fail
  clear x0 x1 x2 y0 y1 y2
  go_upto_region 7 with (go_at_call 71; (with_reducible refine (dN _ _ _ _ _ _ ha).mono ?_); rw [HC.out]; rintro e w2 ⟨rfl, hb1⟩)
  refine y41 ?_
  intro W2 hW2 hY
  clear hgo hb0 hD hZ hX h hW2 hb1 d0 d1 d2 e0 e1 e2
  intro hz2 hgo hb0 hZ hX h d0 d1 d2 e0 e1 e2 x0 x1 x2 y0 y1 y2
  go_wp2_with (refine wpList_store_row rfl 62 _ _ rfl (w.heap.size + 1) #[.slice a l.length cap, .int .i64 ((arm - 1 : Nat) : Int), .bool true] rfl rfl 62 _ hZ (by kernel_rfl) rfl (by kernel_rfl) ?_)
  exact z41
 case neg =>
  have hch' := Bool.eq_false_iff.2 hch
  have HC := Lib.hid hch'
  obtain ⟨fb, hfb⟩ : ∃ fb, f.b.take k = fb := ⟨_, rfl⟩
  have hr : DS.rtrunc ⟨az l, arm, down⟩ s k = (⟨putF (az l) ⟨f.name, fb, min f.safe k⟩, arm - 1, false⟩, 0) := by
   rw [← hfb]
   unfold DS.rtrunc; rw [if_pos hok, hg]; unfold DS.change; unfold chg at hch'; simp only [if_neg hn, hch']; rfl
  rw [hr]
  obtain ⟨iu, hiu, wE, wC, wB⟩ := info_parts Tryz.infoU8
  clear hE hr hg hch hch' hn hb
  have HTL : Hid (fb.length = k) := Lib.hid (by rw [← hfb]; simp; omega)
  have HFB := Lib.hid hfb
  clear hfb
  go_enter Tryz.func69, Tryz.ntmps69
  go_upto_region 1 with fail
  refine y2 ?_
  clear h
  intro W hb0 hD hZ H0 h d0 d1 d2 e0 e1 e2
  go_upto_region 4 with (go_at_call 70; (with_reducible refine (HG.out _ h).mono ?_); rintro e w1 ⟨ag, cg, rfl, hgo, hb1⟩)
  refine y1 ?_
  clear hgo hb0 hD hZ h hb1 d0 d1 d2 e0 e1 e2
  intro W1 hX hz1 hgo hb0 hD hZ h d0 d1 d2 e0 e1 e2
  have hkc : k ≤ cg := Nat.le_trans hk hgo.cap
  have hcut : ∀ X, (Instr.sliceAt 65 (.slice ag f.b.length cg) none (some (.int .i64 (k : Nat))) none).run Tryz.prog X = .ok (.slice ag k cg) X := fun X => dW X _ _ iu ag f.b.length cg .i64 k Tryz.underlying65 hiu hkc
  obtain ⟨x0, x1, x2, y0, y1, y2⟩ := hX.cells
  go_upto_region 6 with fail
  clear x0 x1 x2 y0 y1 y2
  go_upto_region 7 with (go_at_call 71; (with_reducible refine (dN _ _ _ _ _ _ ha).mono ?_); rw [HC.out]; rintro e w2 ⟨rfl, hb1⟩)
  refine y40 ?_
  intro W2 hW2 hY
  clear hgo hb0 hD hZ hX h hW2 hb1 d0 d1 d2 e0 e1 e2
  intro hz2 hgo hb0 hZ hX h d0 d1 d2 e0 e1 e2 x0 x1 x2 y0 y1 y2
  go_upto_region 10 with (refine dm rfl _ (bu _ _ _ _ _ rfl _ (hcut _)) ?_)
  refine wp_name (fun W3 hW3 => ?_)
  have hX3 : B3 W3 w1.heap.size 105 (.string f.name) (.slice ag fb.length cg) (.int .i64 f.safe) := by rw [hW3.out, HTL.out]; exact hX.set1 _
  refine y18 ?_
  intro hY3 hZ3
  have uj : BytesIn W3 ag fb := by rw [hW3.out, ← HFB.out]; exact (rD hgo.bytes k).fr (S := isR w1.heap.size) (fr_set _) (fun k hk => by subst hk; exact hX.noByte ⟨trivial, trivial, trivial⟩)
  have hcap := hgo.cap
  have hb3 : Below w.heap.size w W3 := by rw [hW3.out]; exact dO hb0 (by simp only; omega) _
  clear hW3 hX hY hZ hgo hb0 h d0 d1 d2 e0 e1 e2 x0 x1 x2 y0 y1 y2
  obtain ⟨d0, d1, d2, e0, e1, e2⟩ := hY3.cells
  obtain ⟨x0, x1, x2, y0, y1, y2⟩ := hX3.cells
  have yf : fb.length ≤ cg := by rw [HTL.out]; exact hkc
  by_cases hsk : (k : Int) < (f.safe : Int)
  case pos =>
   have hmin : min f.safe k = k := by omega
   have HM := Lib.hid hmin
   clear hmin
   go_upto_region 12 with fail
   refine wp_name (fun W4 hW4 => ?_)
   have hX4 : B3 W4 w1.heap.size 105 (.string f.name) (.slice ag fb.length cg) (.int .i64 k) := by rw [hW4.out]; exact hX3.set2 _
   have hY4 : B3 W4 w2.heap.size 62 (.slice a l.length cap) (.int .i64 ((arm - 1 : Nat) : Int)) (.bool false) := by rw [hW4.out]; exact hY3.other _ (Nat.ne_of_lt hz2)
   have hZ4 : B3 W4 (w.heap.size + 1) 62 (.slice none 0 0) (.int .i64 0) (.bool false) := by rw [hW4.out]; exact hZ3.other _ (Nat.ne_of_gt hz1)
   have vG : RFOk W4 ⟨⟨f.name, fb, k⟩, ag, cg⟩ := ⟨by rw [hW4.out]; exact uj.fr (S := isR w1.heap.size) (fr_set _) (fun k hk => by subst hk; exact hX3.noByte ⟨trivial, trivial, trivial⟩), yf⟩
   have hb4 : Below w.heap.size w W4 := by rw [hW4.out]; exact dO hb3 (by simp only; omega) _
   clear hW4 hX3 hY3 hZ3 uj hb3 d0 d1 d2 e0 e1 e2 x0 x1 x2 y0 y1 y2
   have h4 := H0.out.kept hb4
   obtain ⟨d0, d1, d2, e0, e1, e2⟩ := hY4.cells
   obtain ⟨x0, x1, x2, y0, y1, y2⟩ := hX4.cells
   go_upto_region 13 with (go_at_call 72; (with_reducible refine (jm a cap l ⟨⟨f.name, fb, k⟩, ag, cg⟩ _ (by omega) hlc h4 vG).mono ?_); rintro e w4 ⟨a4, c4, rfl, dR, hc4, hb5⟩; have hY3 := hY4.below hb5; have hZ3 := hZ4.below hb5; have hb3 := below2 hb4 hb5; clear d0 d1 d2 e0 e1 e2 x0 x1 x2 y0 y1 y2 hY4 hZ4 hb4; obtain ⟨d0, d1, d2, e0, e1, e2⟩ := hY3.cells)
   refine wp_name (fun W5 hW5 => ?_)
   have hY5 : B3 W5 w2.heap.size 62 (.slice a4 (eU l ⟨⟨f.name, fb, k⟩, ag, cg⟩).length c4) (.int .i64 ((arm - 1 : Nat) : Int)) (.bool false) := by rw [hW5.out]; exact hY3.set0 _
   refine y11 ?_
   intro hZ5 hb5
   have l7 : RFsIn W5 a4 (eU l ⟨⟨f.name, fb, k⟩, ag, cg⟩) := by rw [hW5.out]; exact dR.fr (T := isR w2.heap.size) (fr_set _) (fun k hk => by subst hk; exact ⟨hY3.noByte ⟨trivial, trivial, trivial⟩, hY3.noStr ⟨trivial, trivial, trivial⟩⟩)
   clear hW5 hY3 hZ3 hb3 dR d0 d1 d2 e0 e1 e2
   obtain ⟨d0, d1, d2, e0, e1, e2⟩ := hY5.cells
   go_wp2_with (refine wpList_store_row rfl 62 _ _ rfl (w.heap.size + 1) #[.slice a4 (eU l ⟨⟨f.name, fb, k⟩, ag, cg⟩).length c4, .int .i64 ((arm - 1 : Nat) : Int), .bool false] rfl rfl 62 _ hZ5 (by kernel_rfl) rfl (by kernel_rfl) ?_)
   exact z21
  case neg =>
   have hmin : min f.safe k = f.safe := by omega
   have HM := Lib.hid hmin
   clear hmin
   go_upto_region 12 with fail
   have hX4 := hX3
   have hY4 := hY3
   have hZ4 := hZ3
   have vG : RFOk W3 ⟨⟨f.name, fb, f.safe⟩, ag, cg⟩ := ⟨uj, yf⟩
   have hb4 := hb3
   clear hX3 hY3 hZ3 uj hb3 d0 d1 d2 e0 e1 e2 x0 x1 x2 y0 y1 y2
   have h4 := H0.out.kept hb4
   obtain ⟨d0, d1, d2, e0, e1, e2⟩ := hY4.cells
   obtain ⟨x0, x1, x2, y0, y1, y2⟩ := hX4.cells
   go_upto_region 13 with (go_at_call 72; (with_reducible refine (jm a cap l ⟨⟨f.name, fb, f.safe⟩, ag, cg⟩ _ (by omega) hlc h4 vG).mono ?_); rintro e w4 ⟨a4, c4, rfl, dR, hc4, hb5⟩; have hY3 := hY4.below hb5; have hZ3 := hZ4.below hb5; have hb3 := below2 hb4 hb5; clear d0 d1 d2 e0 e1 e2 x0 x1 x2 y0 y1 y2 hY4 hZ4 hb4; obtain ⟨d0, d1, d2, e0, e1, e2⟩ := hY3.cells)
   refine wp_name (fun W5 hW5 => ?_)
   have hY5 : B3 W5 w2.heap.size 62 (.slice a4 (eU l ⟨⟨f.name, fb, f.safe⟩, ag, cg⟩).length c4) (.int .i64 ((arm - 1 : Nat) : Int)) (.bool false) := by rw [hW5.out]; exact hY3.set0 _
   refine y11 ?_
   intro hZ5 hb5
   have l7 : RFsIn W5 a4 (eU l ⟨⟨f.name, fb, f.safe⟩, ag, cg⟩) := by rw [hW5.out]; exact dR.fr (T := isR w2.heap.size) (fr_set _) (fun k hk => by subst hk; exact ⟨hY3.noByte ⟨trivial, trivial, trivial⟩, hY3.noStr ⟨trivial, trivial, trivial⟩⟩)
   clear hW5 hY3 hZ3 hb3 dR d0 d1 d2 e0 e1 e2
   obtain ⟨d0, d1, d2, e0, e1, e2⟩ := hY5.cells
   go_wp2_with (refine wpList_store_row rfl 62 _ _ rfl (w.heap.size + 1) #[.slice a4 (eU l ⟨⟨f.name, fb, f.safe⟩, ag, cg⟩).length c4, .int .i64 ((arm - 1 : Nat) : Int), .bool false] rfl rfl 62 _ hZ5 (by kernel_rfl) rfl (by kernel_rfl) ?_)
   exact z21
end Go.Proofs.YtlefejokpdjpgaaGreat
namespace Go.Proofs.YtlefejokpdjpgaaGreat
open Go.RowKit
def jF (ks : Ks) : List Value := ks.map fun p => .string p.1
def jG (ks : Ks) : List Value := ks.map fun p => .int .i64 p.2
theorem ru (ks : Ks) (l : List RF) (k : Nat) (h : k < l.length) (ls : List RF) (g : RF) (hl : az ls = ((az l).take k).map (crashF ks)) (hg : g.f = crashF ks l[k].f) :
 az (ls ++ [g]) = ((az l).take (k + 1)).map (crashF ks) := by
 rw [List.take_succ_eq_append_getElem (by simpa using h), List.map_append, ← hl]
 simp [hg]
/-- a function whose one result is a struct that lies in a block of its own hands back that block's cells -/
theorem qy {P : Program} {fn : Func} {R : Ending → World → Prop} {a : Act} {w : World} (p : Tmp) (ty t : TypeId) (g : Nat) (c : Array Value) (d : TypeDesc) (hr : fn.results = #[.cell p ty])
 (hp : a.tmps.getD p undef = .pointer (some ⟨g, 0, none⟩)) (hg : w.heap[g]? = some (.cells c t (0, 0))) (hu : P.underlying ty = some d) (hd : d.isRow = true) (hi : (P.info? ty).map (·.size) = some c.size)
 (hde : a.defers = []) (hR : R (.returned (.agg c)) w) : bodyPost P fn R .ret a w := by
 have h1 : w.rangeAt g 0 c.toList := fun j v hv => by
  exact z36
 have h2 := run_loadVar_mid (P := P) w g 0 ty c.toList d h1 hu hd (by simpa using hi)
 refine bodyPost_ret ?_ hde hR
 have hp' : a.tmps[p]?.getD undef = .pointer (some ⟨g, 0, none⟩) := by simpa using hp
 simp [results, hr, hp', asAddr, h2, Sem.run_bind, Result.andThen]
theorem z26 {p : Prop} (h : p := by
 go_wp2
 go_quiet (fail)
 go_wp2
 go_roundw
 case rel => exact ⟨j + 1, by go_num, by omega, by rw [HK.out], below_drewN hbi nq⟩
 case measure => simp [intOf] <;> omega) : p := h
theorem z1 {p : Prop} (h : p := by
 have HR := Lib.hid hr
 clear hm0 hM
 have hcg : f.b.length ≤ cg := ui.cap
 go_upto_region 17 with fail
 go_upto_region 18 with fail
 clear hr hsub hsf hcg
 go_upto_region 19 with fail
 refine wp_name (fun W3 hW3 => ?_)
 have hX3 : B3 W3 wo.heap.size 105 (.string f.name) (.slice ag tb.length cg) (.int .i64 tb.length) := by rw [hW3.out]; exact (hXi.set1 _).set2 _
 have hf3 : Fr (isR wo.heap.size) wi W3 := by rw [hW3.out]; exact (fr_set _).again (fr_set _)
 have hown3 := own_fr30 wV hf3 (fun k hk e => by have := (yD k hk).2; simp only [isR] at e; omega)
 have hb3 : Below wo.heap.size wo W3 := by rw [hW3.out]; exact dO (dO xE (by simp only; omega) _) (by simp only; omega) _
 have hg3 : RFOk W ⟨⟨f.name, tb, tb.length⟩, ag, cg⟩ := ⟨by rw [HTB.out]; exact ui.bytes.take _, by have := ui.cap; simp only at this ⊢; rw [HTL.out]; have := HR.out; omega⟩
 have hz3 := hb3.size
 clear hW3 hXi hbi xE wV hf3 x0 x1 x2 y0 y1 y2 hcut
 obtain ⟨x0, x1, x2, y0, y1, y2⟩ := hX3.cells
 go_wp2_with (at_builtin; go_loud (refine df rfl _ _ 60 rfl W.heap.size 105 i0 _ 3 48 Tryz.underlying60 hi hz0 hz1 hz2 rfl (by decide) _ _ _ rfl (hown3.alloc _) _ 1 1 (fcs [⟨⟨f.name, tb, tb.length⟩, ag, cg⟩]) rfl rfl (iH W3 ⟨⟨f.name, tb, tb.length⟩, ag, cg⟩ _) (di _) (by have := HLEN.out; unfold maxLen; omega) (by have := HLEN.out; omega) (by simp; omega) ?_); intro v' w4 hown4 hgrow)
 have hb4 : Below W.heap.size W w4 := ((hbw.trans (hb3.mono hzw)).alloc (by omega) _).grown hgrow (by simp; omega) (fun k hk => (hown3.lt k hk).1)
 go_roundw
 case rel =>
  refine ⟨k + 1, ls ++ [⟨⟨f.name, tb, tb.length⟩, ag, cg⟩], by go_num, by omega, by simp [HLEN.out], HSN.out _ _ HLS.out HCR.out.symm, ?_, ?_, hb4⟩
  ·rw [gZ, List.length_append]; exact hown4
  ·intro g hg
   rcases List.mem_append.1 hg with hg | hg
   ·exact hok g hg
   ·simp only [List.mem_singleton] at hg; subst hg; exact hg3
 case measure => simp [intOf] <;> omega) : p := h
theorem qN (a an ak : Option Addr) (cap cn ck arm : Nat) (down : Bool) (l : List RF) (ks : Ks) (w : World) (hl : l.length ≤ 16777216) (hkl : ks.length ≤ 1073741824) (hb : ∀ g ∈ l, g.f.safe ≤ g.f.b.length ∧ g.f.b.length ≤ 1073741824)
 (h : RFsIn w a l) (hn : CellsIn w an (jF ks)) (hk : CellsIn w ak (jG ks)) :
 Calls Tryz.prog 38 #[aO a l.length cap arm down, .slice an ks.length cn, .slice ak ks.length ck] w fun e w' => ∃ (a' : Option Addr) (l' : List RF) (cap' : Nat), e = .returned (aO a' l'.length cap' 0 false) ∧
  RFsIn w' a' l' ∧ l'.length ≤ cap' ∧ az l' = (az l).map (crashF ks) ∧ Below w.heap.size w w' := by
 obtain ⟨i0, hi, hz0, hz1, hz2⟩ := info_parts Tryz.infoRF
 obtain ⟨iu, hiu, wE, wC, wB⟩ := info_parts Tryz.infoByte
 go_enter Tryz.func38, Tryz.ntmps38
 go_upto_region 1 with fail
 refine wp_name (fun W hW => ?_)
 have hb0 : Below w.heap.size w W := by rw [hW.out]; go_grown
 have hD : B3 W w.heap.size 62 (.slice a l.length cap) (.int .i64 arm) (.bool down) := by
  exact z4
 have hZ : B3 W (w.heap.size + 1) 62 (.slice none 0 0) (.int .i64 0) (.bool false) := by rw [hW.out]; exact bn w _ _
 have H0 := Lib.hid h
 replace h := h.kept hb0
 clear hW
 obtain ⟨d0, d1, d2, e0, e1, e2⟩ := hD.cells
 replace hn := hn.kept hb0
 replace hk := hk.kept hb0
 have hown0 : (W.alloc (Obj.cells #[] 105)).ownsRow W.heap.size 105 3 (.slice (some ⟨W.heap.size, 0, none⟩) 0 0) ([] : List RF).length (fcs []) := World.ownsRow_made _ _ _ (Nat.le_refl _) (by decide) rfl
 go_wp2
 go_loopw [8, 9] (fun out i wr => ∃ (k : Nat) (ls : List RF), i = .int .i64 k ∧ k ≤ l.length ∧ ls.length = k ∧ az ls = ((az l).take k).map (crashF ks) ∧ wr.ownsRow W.heap.size 105 3 out ls.length (fcs ls) ∧ (∀ g ∈ ls, RFOk W g) ∧ Below W.heap.size W wr) (fun _ i _ => l.length - (intOf i).toNat)
 case atStart => exact ⟨0, [], rfl, Nat.zero_le _, rfl, rfl, hown0, fun g hg => (nomatch hg), (Below.refl _ _).alloc (Nat.le_refl _) _⟩
 case round =>
  obtain ⟨wo, hwo⟩ : ∃ wo, wo = wr := ⟨_, rfl⟩
  subst hwo
  obtain ⟨k, ls, rfl, hk1, hlen, hls, hown, hok, hbw⟩ := hrel
  have HLS := Lib.hid hls
  have HLEN := Lib.hid hlen
  clear hls hlen
  have hzw := hbw.size
  by_cases hlt : k < l.length
  ·obtain ⟨A, off, rfl, hra, hgo⟩ := (h.kept hbw).at hlt
   refine y34 ?_
   intro c0 c1 c2
   rw [Nat.add_zero] at c0
   have HSN := Lib.hid (fun ls g => ru ks l k hlt ls g)
   have hgW := h.ok _ (List.getElem_mem hlt)
   obtain ⟨hsf, hbl⟩ := hb _ (List.getElem_mem hlt)
   clear hra
   generalize l[k] = x at c0 c1 c2 HSN hgo hsf hbl hgW
   obtain ⟨f, ag, cg⟩ := x
   simp only at c0 c1 c2 HSN hsf hbl
   go_upto_region 8 with fail
   refine wp_name (fun Wf hWf => ?_)
   have hX : B3 Wf wo.heap.size 105 (.string f.name) (.slice ag f.b.length cg) (.int .i64 f.safe) := by rw [hWf.out]; exact aF wo _
   have hbf : Below wo.heap.size wo Wf := by rw [hWf.out]; exact (Below.refl _ _).alloc (Nat.le_refl _) _
   have hownf : Wf.ownsRow W.heap.size 105 3 u8 ls.length (fcs ls) := by rw [hWf.out]; exact hown.alloc _
   have hnf := (hn.kept hbw).kept hbf
   have hkf := (hk.kept hbw).kept hbf
   clear hWf c0 c1 c2
   obtain ⟨x0, x1, x2, y0, y1, y2⟩ := hX.cells
   go_wp2
   go_loopw [11, 12] (fun n k wi => ∃ j : Nat, k = .int .i64 j ∧ j ≤ ks.length ∧ n = .int .i64 (keepOf (ks.take j) f.name) ∧ Below Wf.heap.size Wf wi) (fun _ k _ => ks.length - (intOf k).toNat)
   case atStart => exact ⟨0, rfl, Nat.zero_le _, rfl, Below.refl _ _⟩
   case round =>
        obtain ⟨j, rfl, hj, rfl, hbi⟩ := hrel
        have x0i := kept hbi x0
        by_cases hjl : j < ks.length
        ·obtain ⟨AN, ofn, rfl, n0⟩ := cells_at (hnf.kept hbi) (k := j) (by simpa [jF] using hjl)
         obtain ⟨AK, ofk, rfl, k0⟩ := cells_at (hkf.kept hbi) (k := j) (by simpa [jG] using hjl)
         simp only [jF, jG, List.getElem_map] at n0 k0
         have HK := Lib.hid (keepOf_snoc ks j hjl f.name)
         by_cases he : ks[j].1 = f.name
         ·rw [if_pos he] at HK
          have hq : (ks[j].1.toList == f.name.toList) = true := by rw [he]; simp
          clear he
          generalize ks[j] = p at n0 k0 HK hq
          obtain ⟨pn, pk⟩ := p
          simp only at n0 k0 HK hq
          exact z26
         ·rw [if_neg he] at HK
          have hq : (ks[j].1.toList == f.name.toList) = false := by rw [str_beq]; exact decide_eq_false fun e => he (bl_inj e)
          clear he
          generalize ks[j] = p at n0 k0 hq
          obtain ⟨pn, pk⟩ := p
          simp only at n0 k0 hq
          exact z26
        ·obtain ⟨wi, hwi⟩ : ∃ wi, wi = wr := ⟨_, rfl⟩
         subst hwi
         have hje : j = ks.length := by omega
         subst hje
         rw [List.take_length]
         have hjl' : ¬ ((ks.length : Int) < (ks.length : Int)) := by omega
         obtain ⟨r, hr⟩ : ∃ r, f.safe + r = f.b.length := ⟨f.b.length - f.safe, by omega⟩
         obtain ⟨m, hm⟩ : ∃ m, m = clampK (keepOf ks f.name) r := ⟨_, rfl⟩
         have hmr : m ≤ r := by rw [hm]; exact clampK_le _ _
         have hrr : f.b.length - f.safe = r := by omega
         have hsub : (f.b.length : Int) - (f.safe : Int) = (r : Int) := by omega
         obtain ⟨tb, htb⟩ : ∃ tb, tb = f.b.take (f.safe + m) := ⟨_, rfl⟩
         have htl : tb.length = f.safe + m := by rw [htb]; simp; omega
         have HCR : Hid (crashF ks f = ⟨f.name, tb, tb.length⟩) := Lib.hid (by unfold crashF; rw [hrr, ← hm, htl, htb])
         have HTB := Lib.hid htb
         have HTL := Lib.hid htl
         have hXi := hX.below hbi
         have xE := hbf.trans (hbi.mono hbf.size)
         have ui := hgW
         have wV := ownsRow_below hownf hbi
         have yD := hown.lt
         have hzi := xE.size
         clear hX x0 x1 x2 y0 y1 y2 x0i htb htl hrr hown hgo hnf hkf hownf hgW
         obtain ⟨x0, x1, x2, y0, y1, y2⟩ := hXi.cells
         generalize keepOf ks f.name = N at *
         have hM := Lib.hid hm
         clear hm
         by_cases hN : N < 0
         ·have hm0 : m = 0 := by rw [hM.out]; unfold clampK; rw [if_pos hN]
          have hcut : ∀ X, (Instr.sliceAt 65 (.slice ag f.b.length cg) none (some (.int .i64 (f.safe : Int))) none).run Tryz.prog X = .ok (.slice ag tb.length cg) X := fun X => by
           rw [HTL.out, hm0]
           exact dW X _ _ iu ag f.b.length cg .i64 (f.safe + 0) Tryz.underlying65 hiu (by have := ui.cap; simp only at this; omega)
          have hN0 : ¬ ((r : Int) < 0) := by omega
          exact z1
         ·by_cases hN2 : (r : Int) < N
          ·have hm0 : m = r := by rw [hM.out]; unfold clampK; rw [if_neg hN]; omega
           have hcut : ∀ X, (Instr.sliceAt 65 (.slice ag f.b.length cg) none (some (.int .i64 ((f.safe : Int) + (r : Int)))) none).run Tryz.prog X = .ok (.slice ag tb.length cg) X := fun X => by
            rw [HTL.out, hm0]
            exact dW X _ _ iu ag f.b.length cg .i64 (f.safe + r) Tryz.underlying65 hiu (by have := ui.cap; simp only at this; omega)
           exact z1
          ·have hm0 : m = N.toNat := by rw [hM.out]; unfold clampK; rw [if_neg hN]; omega
           obtain ⟨q, rfl⟩ : ∃ q : Nat, N = q := ⟨N.toNat, by omega⟩
           have hcut : ∀ X, (Instr.sliceAt 65 (.slice ag f.b.length cg) none (some (.int .i64 ((f.safe : Int) + (q : Int)))) none).run Tryz.prog X = .ok (.slice ag tb.length cg) X := fun X => by
            rw [HTL.out, hm0]
            exact dW X _ _ iu ag f.b.length cg .i64 (f.safe + q) Tryz.underlying65 hiu (by have := ui.cap; simp only at this; omega)
           exact z1
  ·have hke : k = l.length := by omega
   subst hke
   rw [List.take_of_length_le (by simp)] at HLS
   obtain ⟨a2, c2, rfl, hin2, hc2⟩ := RFsIn.own hown (fun g hg => (hok g hg).kept hbw)
   replace hZ := hZ.below hbw
   go_wp2_with (refine wpList_store_row rfl 62 _ _ rfl (w.heap.size + 1) #[.slice a2 ls.length c2, .int .i64 0, .bool false] rfl rfl 62 _ hZ (by kernel_rfl) rfl (by kernel_rfl) ?_)
   refine qy 6 62 62 (w.heap.size + 1) _ _ rfl rfl (hZ.row _ _ _) Tryz.underlying62 rfl (by kernel_rfl) rfl ?_
   refine ⟨a2, ls, c2, rfl, ?_, hc2, HLS.out, aJ (below2 hb0 hbw) (Nat.le_succ _) _⟩
   exact hin2.fr (T := isR (w.heap.size + 1)) (dw _ _ _) (fun k hk => by subst hk; exact ⟨hZ.noByte ⟨trivial, trivial, trivial⟩, hZ.noStr ⟨trivial, trivial, trivial⟩⟩)
end Go.Proofs.YtlefejokpdjpgaaGreat
namespace Go.Proofs.YtlefejokpdjpgaaGreat
open Go.RowKit
theorem z29 {p : Prop} (h : p := by
 clear hr
 go_enter Tryz.func39, Tryz.ntmps39
 go_wp2
 refine dA 4 5 62 62 (w.heap.size + 1) _ _ _ rfl rfl rfl (bn _ _ _) Tryz.underlying62 rfl (by kernel_rfl) rfl ?_
 exact ⟨rfl, by go_grown⟩) : p := h
theorem uS (a : Option Addr) (n cap arm : Nat) (down : Bool) (N : Int) (w : World) :
 Calls Tryz.prog 39 #[aO a n cap arm down, .int .i64 N] w fun e w' =>
  e = .returned (.tuple #[aO a n cap (if armOk N then N.toNat else arm) down, .int .i64 (if armOk N then 0 else 4)]) ∧ Below w.heap.size w w' := by
 by_cases h1 : 1 ≤ N
 case neg =>
  have hr : armOk N = false := by unfold armOk; rw [decide_eq_false h1]; rfl
  simp only [hr, Bool.false_eq_true, if_false]
  have h1' : N < 1 := by omega
  exact z29
 case pos =>
 by_cases h2 : N ≤ 1048576
 case neg =>
  have hr : armOk N = false := by unfold armOk; rw [decide_eq_false h2]; simp
  simp only [hr, Bool.false_eq_true, if_false]
  exact z29
 case pos =>
 have hr : armOk N = true := by unfold armOk; rw [decide_eq_true h1, decide_eq_true h2]; rfl
 simp only [hr, if_true]
 obtain ⟨m, rfl⟩ : ∃ m : Nat, N = m := ⟨N.toNat, by omega⟩
 clear hr
 go_enter Tryz.func39, Tryz.ntmps39
 go_wp2
 refine dA 4 5 62 62 (w.heap.size + 1) _ _ _ rfl rfl rfl (bn _ _ _) Tryz.underlying62 rfl (by kernel_rfl) rfl ?_
 exact ⟨rfl, by go_grown⟩
end Go.Proofs.YtlefejokpdjpgaaGreat
namespace Go.Proofs.YtlefejokpdjpgaaGreat
open Go.RowKit
theorem gB {f : DF} : ∀ {l : List DF}, Srt l → (getF l f.name).isSome = true → setF l f = putF l f
 | [], _, h => by simp [getF] at h
 | g :: r, h, hs => by
   obtain ⟨h1, h2⟩ := List.pairwise_cons.1 h
   by_cases hg : g.name = f.name
   ·have hr : ∀ x ∈ r, x.name ≠ f.name := fun x hx e => by have := h1 x hx; rw [e, ← hg, nameLt_irrefl] at this; cases this
    have e1 : delF (g :: r) f.name = r := by
        unfold delF
        rw [List.filter_cons, if_neg (by simp [hg]), List.filter_eq_self]
        intro x hx
        simpa using hr x hx
    have e2 : setF (g :: r) f = f :: r := by
        unfold setF
        rw [List.map_cons, if_pos hg]
        congr 1
        conv => rhs; rw [← List.map_id r]
        exact List.map_congr_left fun x hx => if_neg (hr x hx)
    rw [e2]
    unfold putF
    rw [e1]
    cases r with
    | nil => rfl
    | cons y r =>
      unfold insF
      rw [if_neg]
      intro hl
      have := nameLt_trans (h1 y (by simp)) hl
      rw [hg, nameLt_irrefl] at this
      cases this
   ·have hs2 : (getF r f.name).isSome = true := by rw [fU, if_neg hg] at hs; exact hs
    have hlt : nameLt g.name f.name = true := by
        obtain ⟨x, hx⟩ := Option.isSome_iff_exists.1 hs2
        have hm := List.mem_of_find?_eq_some hx
        have := h1 x hm
        rwa [getF_name hx] at this
    have e1 : delF (g :: r) f.name = g :: delF r f.name := by
        unfold delF
        rw [List.filter_cons, if_pos (by simp [hg])]
    have e2 : setF (g :: r) f = g :: setF r f := by
        unfold setF
        rw [List.map_cons, if_neg hg]
    unfold putF
    rw [e1, e2, insF, if_pos hlt, gB h2 hs2]
    rfl
theorem vZ {S : DS} (h : Srt S.f) (s : ByteArray) : S.rsync s = S.sync s := by
 unfold DS.rsync DS.sync
 cases hg : getF S.f s with
 | none => rfl
 | some f => simp only [gB h (f := { f with safe := f.b.length }) (by simp only [getF_name hg, hg, Option.isSome_some])]
theorem oK {S : DS} (h : Srt S.f) (s : ByteArray) (n : Int) : S.rtrunc s n = S.trunc s n := by
 unfold DS.rtrunc DS.trunc
 cases hg : getF S.f s with
 | none => rfl
 | some f => simp only [gB h (f := { f with b := f.b.take n.toNat, safe := min f.safe n.toNat }) (by simp only [getF_name hg, hg, Option.isSome_some])]
end Go.Proofs.YtlefejokpdjpgaaGreat
namespace Go.Proofs.YtlefejokpdjpgaaGreat
open Go.RowKit
theorem vI {l : List DF} {s : ByteArray} {f : DF} {c : Int} (hE : eu l s = (f, c)) (hlb : ∀ f, getF l s = some f → f.b.length ≤ 16777216) : f.b.length ≤ 16777216 := by
 unfold eu at hE
 by_cases hok : nameOk s = true
 ·rw [if_pos hok] at hE
  cases hg : getF l s with
  | none => rw [hg] at hE; simp only [Prod.mk.injEq] at hE; rw [← hE.1]; simp
  | some f' => rw [hg] at hE; simp only [Prod.mk.injEq] at hE; rw [← hE.1]; exact hlb f' hg
 ·rw [if_neg hok] at hE; simp only [Prod.mk.injEq] at hE; rw [← hE.1]; simp
theorem qX {l : List DF} {s : ByteArray} {f : DF} {c : Int} (hE : eu l s = (f, c)) : c = 0 ∨ c = 1 ∨ c = 10 := by
 unfold eu at hE
 by_cases hok : nameOk s = true
 ·rw [if_pos hok] at hE
  cases hg : getF l s with
  | none => rw [hg] at hE; simp only [Prod.mk.injEq] at hE; omega
  | some f' => rw [hg] at hE; simp only [Prod.mk.injEq] at hE; omega
 ·rw [if_neg hok] at hE; simp only [Prod.mk.injEq] at hE; omega
theorem pR {l : List DF} {arm : Nat} {down : Bool} {s : ByteArray} {f : DF} {b : Bytes} (hE : eu l s = (f, 1)) : DS.append ⟨l, arm, down⟩ s b = (⟨l, arm, down⟩, 1) := by
 unfold eu at hE
 unfold DS.append
 by_cases hok : nameOk s = true
 ·rw [if_pos hok] at hE
  cases hg : getF l s with
  | none => rw [hg] at hE; simp at hE
  | some f' => rw [hg] at hE; simp at hE
 ·rw [if_neg hok]
theorem pO {l : List DF} {arm : Nat} {down : Bool} {s : ByteArray} {f : DF} {b : Bytes} (hE : eu l s = (f, 10)) (h8 : 8 ≤ l.length) : DS.append ⟨l, arm, down⟩ s b = (⟨l, arm, down⟩, 9) := by
 unfold eu at hE
 unfold DS.append
 by_cases hok : nameOk s = true
 ·rw [if_pos hok] at hE ⊢
  cases hg : getF l s with
  | none => simp only [if_pos h8]
  | some f' => rw [hg] at hE; simp at hE
 ·rw [if_neg hok] at hE; simp at hE
theorem uz {l : List DF} {arm : Nat} {down : Bool} {s : ByteArray} {f : DF} {c : Int} {b : Bytes} (hE : eu l s = (f, c)) (hc : (c = 10 ∧ l.length < 8) ∨ c = 0) :
 DS.append ⟨l, arm, down⟩ s b = if 16777216 < f.b.length + b.length then (⟨l, arm, down⟩, 9) else if chg arm down then (⟨l, arm - 1, true⟩, 12) else (⟨putF l { f with b := f.b ++ b }, arm - 1, false⟩, 0) := by
 unfold eu at hE
 unfold DS.append
 have hch : ∀ (x y : DS × Int), (if (DS.change ⟨l, arm, down⟩).down then ((DS.change ⟨l, arm, down⟩), (12 : Int)) else x) = if chg arm down then (⟨l, arm - 1, true⟩, 12) else x := fun x y => by
  unfold DS.change chg
  cases h : (down || decide (arm = 1)) <;> simp [h]
 have yP : ∀ (x : List DF), chg arm down = false → ({ DS.change ⟨l, arm, down⟩ with f := x } : DS) = ⟨x, arm - 1, false⟩ := fun x h => by
  unfold DS.change; unfold chg at h; simp [h]
 have key : ∀ (x : List DF), (if chg arm down then ((⟨l, arm - 1, true⟩ : DS), (12 : Int)) else ({ DS.change ⟨l, arm, down⟩ with f := x }, 0)) = if chg arm down then (⟨l, arm - 1, true⟩, 12) else (⟨x, arm - 1, false⟩, 0) := fun x => by
  by_cases h : chg arm down = true
  ·rw [if_pos h, if_pos h]
  ·rw [if_neg h, if_neg h, yP x (Bool.eq_false_iff.2 h)]
 by_cases hok : nameOk s = true
 ·rw [if_pos hok] at hE ⊢
  cases hg : getF l s with
  | none =>
    rw [hg] at hE
    simp only [Prod.mk.injEq] at hE
    obtain ⟨rfl, rfl⟩ := hE
    have h8 : ¬ 8 ≤ l.length := by omega
    simp only [if_neg h8, List.length_nil, Nat.zero_add, List.nil_append]
    rw [hch _ (⟨[], 0, false⟩, 0), key]
  | some f' =>
    rw [hg] at hE
    simp only [Prod.mk.injEq] at hE
    obtain ⟨rfl, rfl⟩ := hE
    simp only
    rw [hch _ (⟨[], 0, false⟩, 0), key]
 ·rw [if_neg hok] at hE
  simp only [Prod.mk.injEq] at hE
  omega
theorem z6 {p : Prop} (h : p := by
 refine y39 ?_
 intro hZ
 have H0 := Lib.hid h
 replace h := h.kept hb0
 clear hW
 obtain ⟨d0, d1, d2, e0, e1, e2⟩ := hD.cells
 go_upto_region 2 with (go_at_call 70; (with_reducible refine (HG.out _ h).mono ?_); rintro e w1 ⟨ag, cg, rfl, hgo, hb1⟩)
 refine y1 ?_
 clear hgo hb0 hD hZ h hb1 d0 d1 d2 e0 e1 e2
 intro W1 hX hz1 hgo hb0 hD hZ h d0 d1 d2 e0 e1 e2
 obtain ⟨x0, x1, x2, y0, y1, y2⟩ := hX.cells
 go_wp2_with (refine wpList_store_row rfl 62 _ _ rfl (w.heap.size + 1) #[.slice a l.length cap, .int .i64 arm, .bool down] rfl rfl 62 _ hZ (by kernel_rfl) rfl (by kernel_rfl) ?_)
 refine dA 6 7 62 62 (w.heap.size + 1) _ _ _ rfl rfl rfl (hZ.row _ _ _) Tryz.underlying62 rfl (by kernel_rfl) rfl ?_
 exact ⟨a, l, cap, rfl, H0.out.kept (aJ hb0 (Nat.le_succ _) _), hlc, rfl, aJ hb0 (Nat.le_succ _) _⟩) : p := h
theorem z40 {p : Prop} (h : p := by
 clear hE
 go_enter Tryz.func41, Tryz.ntmps41
 go_upto_region 1 with fail
 refine y38 ?_
 intro W hW hb0
 have hD : B3 W w.heap.size 62 (.slice a l.length cap) (.int .i64 arm) (.bool down) := by
  exact z4
 exact z6) : p := h
theorem jW (a a2 : Option Addr) (cap cap2 arm : Nat) (down : Bool) (l : List RF) (s : ByteArray) (b : Bytes) (w : World) (hl : l.length ≤ 16777216) (hlc : l.length ≤ cap) (ha : arm ≤ 1048576) (hs : s.size ≤ maxLen)
 (hlb : ∀ f, getF (az l) s = some f → f.b.length ≤ 16777216) (hbl : b.length ≤ 1073741824) (h : RFsIn w a l) (hin : BytesIn w a2 b) :
 Calls Tryz.prog 41 #[aO a l.length cap arm down, .string s, .slice a2 b.length cap2] w (eG (DS.append ⟨az l, arm, down⟩ s b).1 (DS.append ⟨az l, arm, down⟩ s b).2 w) := by
 obtain ⟨f, c, hE⟩ : ∃ f c, eu (az l) s = (f, c) := ⟨_, _, rfl⟩
 have HG := Lib.hid (fun (X : World) (h : RFsIn X a l) => nV (cap := cap) hE (by omega) hs h)
 have hfl : f.b.length ≤ 16777216 := vI hE hlb
 have hcs := qX hE
 clear hlb
 by_cases hc1 : c = 1
 case pos =>
  subst hc1
  rw [pR hE]
  exact z40
 case neg =>
 by_cases hc8 : c = 10 ∧ 8 ≤ l.length
 case pos =>
  obtain ⟨rfl, h8⟩ := hc8
  rw [pO hE (by rw [List.length_map]; exact h8)]
  have h8i : (8 : Int) ≤ (l.length : Int) := by omega
  exact z40
 case neg =>
 have hgo0 : (c = 10 ∧ (az l).length < 8) ∨ c = 0 := by
  rw [List.length_map]
  by_cases h10 : c = 10
  ·exact Or.inl ⟨h10, by omega⟩
  ·exact Or.inr (by omega)
 rw [uz hE hgo0]
 have hcase : (c = 10 ∧ l.length < 8) ∨ c = 0 := by rw [List.length_map] at hgo0; exact hgo0
 clear hgo0 hc8 hc1 hE hcs
 by_cases hbig : 16777216 < f.b.length + b.length
 case pos =>
  rw [if_pos hbig]
  have hbi : (16777216 : Int) < (f.b.length : Int) + (b.length : Int) := by omega
  rcases hcase with ⟨rfl, h8⟩ | rfl
  case' inl => have h8i : ¬ ((8 : Int) ≤ (l.length : Int)) := by omega
  all_goals
   go_enter Tryz.func41, Tryz.ntmps41
   go_upto_region 1 with fail
   refine wp_name (fun W hW => ?_)
   have hb0 : Below w.heap.size w W := by rw [hW.out]; go_grown
   have hD : B3 W w.heap.size 62 (.slice a l.length cap) (.int .i64 arm) (.bool down) := by
        exact z4
   have hZ : B3 W (w.heap.size + 1) 62 (.slice none 0 0) (.int .i64 0) (.bool false) := by rw [hW.out]; exact bn w _ _
   have H0 := Lib.hid h
   replace h := h.kept hb0
   clear hW
   obtain ⟨d0, d1, d2, e0, e1, e2⟩ := hD.cells
   go_upto_region 4 with (go_at_call 70; (with_reducible refine (HG.out _ h).mono ?_); rintro e w1 ⟨ag, cg, rfl, hgo, hb1⟩)
   refine wp_name (fun W1 hW1 => ?_)
   have hX : B3 W1 w1.heap.size 105 (.string f.name) (.slice ag f.b.length cg) (.int .i64 f.safe) := by rw [hW1.out]; exact aF w1 _
   have hbw : Below W.heap.size W W1 := by rw [hW1.out]; exact hb1.alloc hb1.size _
   have hb2 : Below w1.heap.size w1 W1 := by rw [hW1.out]; exact (Below.refl _ _).alloc (Nat.le_refl _) _
   have hz1 : w.heap.size + 1 < w1.heap.size := Nat.lt_of_lt_of_le hZ.lt hb1.size
   replace hgo := hgo.kept hb2
   replace hb0 := below2 hb0 hbw
   replace hD := hD.below hbw
   replace hZ := hZ.below hbw
   replace h := h.kept hbw
   clear hW1 hb1 hb2 hbw d0 d1 d2 e0 e1 e2
   obtain ⟨d0, d1, d2, e0, e1, e2⟩ := hD.cells
   obtain ⟨x0, x1, x2, y0, y1, y2⟩ := hX.cells
   go_wp2_with (refine wpList_store_row rfl 62 _ _ rfl (w.heap.size + 1) #[.slice a l.length cap, .int .i64 arm, .bool down] rfl rfl 62 _ hZ (by kernel_rfl) rfl (by kernel_rfl) ?_)
   refine dA 6 7 62 62 (w.heap.size + 1) _ _ _ rfl rfl rfl (hZ.row _ _ _) Tryz.underlying62 rfl (by kernel_rfl) rfl ?_
   exact ⟨a, l, cap, rfl, H0.out.kept (aJ hb0 (Nat.le_succ _) _), hlc, rfl, aJ hb0 (Nat.le_succ _) _⟩
 case neg =>
 rw [if_neg hbig]
 have hbi : ¬ ((16777216 : Int) < (f.b.length : Int) + (b.length : Int)) := by omega
 by_cases hch : chg arm down = true
 case pos =>
  rw [if_pos hch]
  have HC := Lib.hid hch
  clear hch
  rcases hcase with ⟨rfl, h8⟩ | rfl
  case' inl => have h8i : ¬ ((8 : Int) ≤ (l.length : Int)) := by omega
  all_goals
   go_enter Tryz.func41, Tryz.ntmps41
   go_upto_region 1 with fail
   refine wp_name (fun W hW => ?_)
   have hb0 : Below w.heap.size w W := by rw [hW.out]; go_grown
   have hD : B3 W w.heap.size 62 (.slice a l.length cap) (.int .i64 arm) (.bool down) := by
        exact z4
   have hZ : B3 W (w.heap.size + 1) 62 (.slice none 0 0) (.int .i64 0) (.bool false) := by rw [hW.out]; exact bn w _ _
   have H0 := Lib.hid h
   replace h := h.kept hb0
   clear hW
   obtain ⟨d0, d1, d2, e0, e1, e2⟩ := hD.cells
   go_upto_region 4 with (go_at_call 70; (with_reducible refine (HG.out _ h).mono ?_); rintro e w1 ⟨ag, cg, rfl, hgo, hb1⟩)
   refine wp_name (fun W1 hW1 => ?_)
   have hX : B3 W1 w1.heap.size 105 (.string f.name) (.slice ag f.b.length cg) (.int .i64 f.safe) := by rw [hW1.out]; exact aF w1 _
   have hbw : Below W.heap.size W W1 := by rw [hW1.out]; exact hb1.alloc hb1.size _
   have hb2 : Below w1.heap.size w1 W1 := by rw [hW1.out]; exact (Below.refl _ _).alloc (Nat.le_refl _) _
   have hz1 : w.heap.size + 1 < w1.heap.size := Nat.lt_of_lt_of_le hZ.lt hb1.size
   replace hgo := hgo.kept hb2
   replace hb0 := below2 hb0 hbw
   replace hD := hD.below hbw
   replace hZ := hZ.below hbw
   replace h := h.kept hbw
   clear hW1 hb1 hb2 hbw d0 d1 d2 e0 e1 e2
   obtain ⟨d0, d1, d2, e0, e1, e2⟩ := hD.cells
   obtain ⟨x0, x1, x2, y0, y1, y2⟩ := hX.cells
   go_upto_region 8 with fail
   clear x0 x1 x2 y0 y1 y2
   go_upto_region 9 with (go_at_call 71; (with_reducible refine (dN _ _ _ _ _ _ ha).mono ?_); rw [HC.out]; rintro e w2 ⟨rfl, hb1⟩)
   refine wp_name (fun W2 hW2 => ?_)
   have hY : B3 W2 w2.heap.size 62 (.slice a l.length cap) (.int .i64 ((arm - 1 : Nat) : Int)) (.bool true) := by rw [hW2.out]; exact aF w2 _
   have hbw : Below W1.heap.size W1 W2 := by rw [hW2.out]; exact hb1.alloc hb1.size _
   have hz2 : w1.heap.size < w2.heap.size := Nat.lt_of_lt_of_le hX.lt hb1.size
   replace hgo := hgo.kept hbw
   replace hb0 := below2 hb0 hbw
   replace hD := hD.below hbw
   replace hZ := hZ.below hbw
   replace hX := hX.below hbw
   replace h := h.kept hbw
   clear hW2 hb1 hbw d0 d1 d2 e0 e1 e2 hD
   obtain ⟨d0, d1, d2, e0, e1, e2⟩ := hY.cells
   obtain ⟨x0, x1, x2, y0, y1, y2⟩ := hX.cells
   go_wp2_with (refine wpList_store_row rfl 62 _ _ rfl (w.heap.size + 1) #[.slice a l.length cap, .int .i64 ((arm - 1 : Nat) : Int), .bool true] rfl rfl 62 _ hZ (by kernel_rfl) rfl (by kernel_rfl) ?_)
   refine dA 6 7 62 62 (w.heap.size + 1) _ _ _ rfl rfl rfl (hZ.row _ _ _) Tryz.underlying62 rfl (by kernel_rfl) rfl ?_
   exact ⟨a, l, cap, rfl, H0.out.kept (aJ hb0 (Nat.le_succ _) _), hlc, rfl, aJ hb0 (Nat.le_succ _) _⟩
 case neg =>
  rw [if_neg hch]
  have HC := Lib.hid (Bool.eq_false_iff.2 hch)
  clear hch
  obtain ⟨iu, hiu, wE, wC, wB⟩ := info_parts Tryz.infoByte
  obtain ⟨fb, hfb⟩ : ∃ fb, f.b ++ b = fb := ⟨_, rfl⟩
  rw [hfb]
  have HFB := Lib.hid hfb
  clear hfb
  have H1 := Lib.hid hin
  rcases hcase with ⟨rfl, h8⟩ | rfl
  case' inl => have h8i : ¬ ((8 : Int) ≤ (l.length : Int)) := by omega
  all_goals
   go_enter Tryz.func41, Tryz.ntmps41
   go_upto_region 1 with fail
   refine wp_name (fun W hW => ?_)
   have hb0 : Below w.heap.size w W := by rw [hW.out]; go_grown
   have hD : B3 W w.heap.size 62 (.slice a l.length cap) (.int .i64 arm) (.bool down) := by
        exact z4
   have hZ : B3 W (w.heap.size + 1) 62 (.slice none 0 0) (.int .i64 0) (.bool false) := by rw [hW.out]; exact bn w _ _
   have H0 := Lib.hid h
   replace h := h.kept hb0
   clear hW
   obtain ⟨d0, d1, d2, e0, e1, e2⟩ := hD.cells
   go_upto_region 4 with (go_at_call 70; (with_reducible refine (HG.out _ h).mono ?_); rintro e w1 ⟨ag, cg, rfl, hgo, hb1⟩)
   refine wp_name (fun W1 hW1 => ?_)
   have hX : B3 W1 w1.heap.size 105 (.string f.name) (.slice ag f.b.length cg) (.int .i64 f.safe) := by rw [hW1.out]; exact aF w1 _
   have hbw : Below W.heap.size W W1 := by rw [hW1.out]; exact hb1.alloc hb1.size _
   have hb2 : Below w1.heap.size w1 W1 := by rw [hW1.out]; exact (Below.refl _ _).alloc (Nat.le_refl _) _
   have hz1 : w.heap.size + 1 < w1.heap.size := Nat.lt_of_lt_of_le hZ.lt hb1.size
   replace hgo := hgo.kept hb2
   replace hb0 := below2 hb0 hbw
   replace hD := hD.below hbw
   replace hZ := hZ.below hbw
   replace h := h.kept hbw
   clear hW1 hb1 hb2 hbw d0 d1 d2 e0 e1 e2
   obtain ⟨d0, d1, d2, e0, e1, e2⟩ := hD.cells
   obtain ⟨x0, x1, x2, y0, y1, y2⟩ := hX.cells
   go_upto_region 8 with fail
   clear x0 x1 x2 y0 y1 y2
   go_upto_region 9 with (go_at_call 71; (with_reducible refine (dN _ _ _ _ _ _ ha).mono ?_); rw [HC.out]; rintro e w2 ⟨rfl, hb1⟩)
   refine wp_name (fun W2 hW2 => ?_)
   have hY : B3 W2 w2.heap.size 62 (.slice a l.length cap) (.int .i64 ((arm - 1 : Nat) : Int)) (.bool false) := by rw [hW2.out]; exact aF w2 _
   have hbw : Below W1.heap.size W1 W2 := by rw [hW2.out]; exact hb1.alloc hb1.size _
   have hz2 : w1.heap.size < w2.heap.size := Nat.lt_of_lt_of_le hX.lt hb1.size
   replace hgo := hgo.kept hbw
   replace hb0 := below2 hb0 hbw
   replace hD := hD.below hbw
   replace hZ := hZ.below hbw
   replace hX := hX.below hbw
   replace h := h.kept hbw
   clear hW2 hb1 hbw d0 d1 d2 e0 e1 e2 hD
   obtain ⟨d0, d1, d2, e0, e1, e2⟩ := hY.cells
   obtain ⟨x0, x1, x2, y0, y1, y2⟩ := hX.cells
   have yh := H1.out.kept hb0
   have hfin := hgo.bytes
   have hown0 : (W2.alloc (Obj.cells #[] 5)).ownsRow W2.heap.size 5 1 (.slice (some ⟨W2.heap.size, 0, none⟩) 0 0) 0 [] := World.ownsRow_made _ _ _ (Nat.le_refl _) (by decide) rfl
   have x1a := fun o => kept ((Below.refl _ W2).alloc (Nat.le_refl _) o) x1
   go_upto_region 12 with (first
        | (at_builtin; go_loud (refine df rfl (.tmp 48) (.tmp 50) 65 rfl W2.heap.size 5 iu _ 1 1 Tryz.underlying65 hiu wE wC wB rfl (by decide) _ 0 [] rfl hown0 ag f.b.length cg (byteVals f.b) rfl (by rw [byteVals_length]; omega) (hfin.kept ((Below.refl _ _).alloc (Nat.le_refl _) _)).cells (byteVals_one _) (by unfold maxLen; omega) (by omega) (by simp) ?_); intro v5 w5 hown5 hg5; have hq5 : Below W2.heap.size W2 w5 := (((Below.refl _ _).alloc (Nat.le_refl _) _).grown hg5 (by simp) (fun k hk => (hown0.lt k hk).1)))
        | (at_builtin; go_loud (refine df rfl (.tmp 51) (.tmp 52) 65 rfl W2.heap.size 5 iu _ 1 1 Tryz.underlying65 hiu wE wC wB rfl (by decide) _ (0 + f.b.length) _ rfl hown5 a2 b.length cap2 (byteVals b) rfl (by rw [byteVals_length]; omega) (yh.kept hq5).cells (byteVals_one _) (by unfold maxLen; omega) (by omega) hq5.size ?_); intro v6 w6 hown6 hg6; have hq6 : Below W2.heap.size W2 w6 := hq5.grown hg6 hq5.size (fun k hk => (hown5.lt k hk).1); replace hX := hX.below hq6; replace hY := hY.below hq6; replace hZ := hZ.below hq6; replace hb0 := below2 hb0 hq6; clear d0 d1 d2 e0 e1 e2 x0 x1 x2 y0 y1 y2 x1a; obtain ⟨x0, x1, x2, y0, y1, y2⟩ := hX.cells; have wW : w6.ownsRow W2.heap.size 5 1 v6 _ (byteVals fb) := (by rw [← HFB.out, byteVals_append]; exact hown6); obtain ⟨a6, c6, rfl, hb6, hc6⟩ := own_bytesIn wW; clear wW))
   refine wp_name (fun W3 hW3 => ?_)
   have hX4 : B3 W3 w1.heap.size 105 (.string f.name) (.slice a6 fb.length c6) (.int .i64 f.safe) := by rw [hW3.out]; exact hX.set1 _
   have hY4 : B3 W3 w2.heap.size 62 (.slice a l.length cap) (.int .i64 ((arm - 1 : Nat) : Int)) (.bool false) := by rw [hW3.out]; exact hY.other _ (Nat.ne_of_lt hz2)
   have hZ4 : B3 W3 (w.heap.size + 1) 62 (.slice none 0 0) (.int .i64 0) (.bool false) := by rw [hW3.out]; exact hZ.other _ (Nat.ne_of_gt hz1)
   have vG : RFOk W3 ⟨⟨f.name, fb, f.safe⟩, a6, c6⟩ := ⟨by rw [hW3.out]; exact hb6.fr (S := isR w1.heap.size) (fr_set _) (fun k hk => by subst hk; exact hX.noByte ⟨trivial, trivial, trivial⟩), hc6⟩
   have hb4 : Below w.heap.size w W3 := by rw [hW3.out]; exact dO hb0 (by simp only; omega) _
   clear hW3 hX hY hZ hgo hb0 h x0 x1 x2 y0 y1 y2 hown6 hg6 hown5 hg5 hown0 yh hfin hq5 hq6 hb6
   have h4 := H0.out.kept hb4
   obtain ⟨d0, d1, d2, e0, e1, e2⟩ := hY4.cells
   obtain ⟨x0, x1, x2, y0, y1, y2⟩ := hX4.cells
   go_upto_region 13 with (go_at_call 72; (with_reducible refine (jm a cap l ⟨⟨f.name, fb, f.safe⟩, a6, c6⟩ _ (by omega) hlc h4 vG).mono ?_); rintro e w4 ⟨a4, c4, rfl, dR, hc4, hb5⟩; have hY3 := hY4.below hb5; have hZ3 := hZ4.below hb5; have hb3 := below2 hb4 hb5; clear d0 d1 d2 e0 e1 e2 x0 x1 x2 y0 y1 y2 hY4 hZ4 hb4; obtain ⟨d0, d1, d2, e0, e1, e2⟩ := hY3.cells)
   refine wp_name (fun W5 hW5 => ?_)
   have hY5 : B3 W5 w2.heap.size 62 (.slice a4 (eU l ⟨⟨f.name, fb, f.safe⟩, a6, c6⟩).length c4) (.int .i64 ((arm - 1 : Nat) : Int)) (.bool false) := by rw [hW5.out]; exact hY3.set0 _
   have hZ5 : B3 W5 (w.heap.size + 1) 62 (.slice none 0 0) (.int .i64 0) (.bool false) := by rw [hW5.out]; exact hZ3.other _ (by simp only; omega)
   have hb5 : Below w.heap.size w W5 := by rw [hW5.out]; exact dO hb3 (by simp only; omega) _
   have l7 : RFsIn W5 a4 (eU l ⟨⟨f.name, fb, f.safe⟩, a6, c6⟩) := by rw [hW5.out]; exact dR.fr (T := isR w2.heap.size) (fr_set _) (fun k hk => by subst hk; exact ⟨hY3.noByte ⟨trivial, trivial, trivial⟩, hY3.noStr ⟨trivial, trivial, trivial⟩⟩)
   clear hW5 hY3 hZ3 hb3 dR d0 d1 d2 e0 e1 e2
   obtain ⟨d0, d1, d2, e0, e1, e2⟩ := hY5.cells
   go_wp2_with (refine wpList_store_row rfl 62 _ _ rfl (w.heap.size + 1) #[.slice a4 (eU l ⟨⟨f.name, fb, f.safe⟩, a6, c6⟩).length c4, .int .i64 ((arm - 1 : Nat) : Int), .bool false] rfl rfl 62 _ hZ5 (by kernel_rfl) rfl (by kernel_rfl) ?_)
   refine dA 6 7 62 62 (w.heap.size + 1) _ _ _ rfl rfl rfl (hZ5.row _ _ _) Tryz.underlying62 rfl (by kernel_rfl) rfl ?_
   refine ⟨a4, _, c4, rfl, ?_, hc4, iG _ _, aJ hb5 (Nat.le_succ _) _⟩
   exact l7.fr (T := isR (w.heap.size + 1)) (dw _ _ _) (fun k hk => by subst hk; exact ⟨hZ5.noByte ⟨trivial, trivial, trivial⟩, hZ5.noStr ⟨trivial, trivial, trivial⟩⟩)
end Go.Proofs.YtlefejokpdjpgaaGreat
namespace Go.Proofs.YtlefejokpdjpgaaGreat
open Go.RowKit
variable {F : Nat → Prop} {d : Nat} {S : DS} {b : Nat} {D : DataW Unit} {w w' : World}
theorem nZ {l : List DF} {k : Nat} (hs : Srt l) (h : k < l.length) : getF l l[k].name = some l[k] := by
 obtain ⟨f, hf⟩ := Option.isSome_iff_exists.1 (getF_some_iff.2 ⟨l[k], List.getElem_mem h, rfl⟩)
 rw [hf]
 congr 1
 exact srt_eq hs (getF_mem hf) (List.getElem_mem h) (getF_name hf)
end Go.Proofs.YtlefejokpdjpgaaGreat
namespace Go.Proofs.YtlefejokpdjpgaaGreat
open Go.RowKit
variable {F : Nat → Prop} {d : Nat} {S : DS} {b : Nat} {D : DataW Unit} {s : ByteArray} {w w' : World}
end Go.Proofs.YtlefejokpdjpgaaGreat
namespace Go.Proofs.YtlefejokpdjpgaaGreat
open Go.RowKit
end Go.Proofs.YtlefejokpdjpgaaGreat
namespace Go.Proofs.YtlefejokpdjpgaaGreat
open Go.RowKit
end Go.Proofs.YtlefejokpdjpgaaGreat
namespace Go.Proofs.YtlefejokpdjpgaaGreat
open Go.RowKit
/-- append of bytes to a row of bytes of one's own, whatever the source is -/
theorem jB (w : World) (base : Nat) (v : Value) (d : Bytes) (hown : w.ownsRow base 5 1 v d.length (byteVals d)) (A : Option Addr) (m : Bytes) (c : Nat) (hin : BytesIn w A m)
 (hb : d.length + m.length ≤ 1073741824) (hbase : base ≤ w.heap.size) :
 ∃ v' w', (Builtin.append_ #[65, 65] 65 #[v, .slice A m.length c]).run Tryz.prog w = .ok v' w' ∧ w'.ownsRow base 5 1 v' (d ++ m).length (byteVals (d ++ m)) ∧ w.grownBy w' v.ownBlock := by
 obtain ⟨i0, hi, hz0, hz1, hz2⟩ := info_parts Tryz.infoByte
 have key : ∀ (ad : Addr), A = some ad → (∀ j u, (byteVals m)[j]? = some u → w.cell? (ad.add j) = some u) → ∃ v' w', (Builtin.append_ #[65, 65] 65 #[v, .slice A m.length c]).run Tryz.prog w = .ok v' w' ∧ w'.ownsRow base 5 1 v' (d ++ m).length (byteVals (d ++ m)) ∧ w.grownBy w' v.ownBlock := fun ad hA hn => by
  obtain ⟨v', w', hrun, h2, h3, _, _⟩ := run_append_own_at (P := Tryz.prog) w base 65 65 5 i0 (.int .u8 0) 1 1 Tryz.underlying65 hi hz0 hz1 hz2 rfl (by decide) v d.length (byteVals d) hown ad m.length c (byteVals m) (by simp [byteVals_length]) hn (byteVals_one m) (by unfold maxLen; omega) (by omega) hbase
  exact ⟨v', w', by rw [hA]; exact hrun, by rw [byteVals_append, List.length_append]; exact h2, h3⟩
 rcases hin with h0 | ⟨B, off, rfl, hb2⟩
 ·subst h0
  rcases A with _ | ad
  ·refine ⟨v, w, ?_, by simpa using hown, World.grownBy.refl w _⟩
   rcases hown.2 with ⟨rfl, h0⟩ | ⟨g, cap, cur, rfl, _, _, hnc, _⟩
   ·simp [Builtin.append_, run_underlying Tryz.underlying65, sizeOf, typeInfo, hi, Builtin.lenOf, Builtin.firstCells]
   ·simp [Builtin.append_, run_underlying Tryz.underlying65, sizeOf, typeInfo, hi, Builtin.lenOf, Builtin.firstCells, hnc, storeCells]
  ·exact key ad rfl (fun j u hu => by simp [byteVals] at hu)
 ·exact key _ rfl hb2.news
theorem kw {o : Oper} {a : Act} {w : World} {K : Act → World → Prop} {Q : Exit → Act → World → Prop} (s x : Operand)
 (ho : o.op = .call { callee := .builtin .append, args := #[s, x], argTypes := #[65, 65] }) (hty : o.type = 65)
 (base : Nat) (v : Value) (d : Bytes) (hs : a.eval s = v) (hown : w.ownsRow base 5 1 v d.length (byteVals d)) (A : Option Addr) (m : Bytes) (c : Nat) (hx : a.eval x = .slice A m.length c) (hin : BytesIn w A m)
 (hb : d.length + m.length ≤ 1073741824) (hbase : base ≤ w.heap.size)
 (h : ∀ v' w', w'.ownsRow base 5 1 v' (d ++ m).length (byteVals (d ++ m)) → w.grownBy w' v.ownBlock → K (a.put o.dst v') w') : o.wp Tryz.prog a w K Q := by
 obtain ⟨v', w', hrun, h2, h3⟩ := jB w base v d hown A m c hin hb hbase
 unfold Oper.wp execOp
 simp only [ho, hty, resolve, invoke, builtin, Sem.run_bind, Sem.run_pure, Result.andThen_ok, List.map_toArray, List.map_cons, List.map_nil, hs, hx, hrun]
 exact h v' w' h2 h3
theorem iW {ops : Array Oper} {rest : List Oper} {o : Oper} {a : Act} {w : World} {Q : Exit → Act → World → Prop} (hgd : o.guard = none) (s x : Operand)
 (ho : o.op = .call { callee := .builtin .append, args := #[s, x], argTypes := #[65, 65] }) (hty : o.type = 65)
 (base : Nat) (v : Value) (d : Bytes) (hs : a.eval s = v) (hown : w.ownsRow base 5 1 v d.length (byteVals d)) (A : Option Addr) (m : Bytes) (c : Nat) (hx : a.eval x = .slice A m.length c) (hin : BytesIn w A m)
 (hb : d.length + m.length ≤ 1073741824) (hbase : base ≤ w.heap.size)
 (h : ∀ v' w', w'.ownsRow base 5 1 v' (d ++ m).length (byteVals (d ++ m)) → w.grownBy w' v.ownBlock → wpList Tryz.prog ops Q rest (a.put o.dst v') w') : wpList Tryz.prog ops Q (o :: rest) a w :=
 wpList_plain hgd fun _ hK => kw s x ho hty base v d hs hown A m c hx hin hb hbase fun v' w' h2 h3 => hK _ _ (h v' w' h2 h3)
end Go.Proofs.YtlefejokpdjpgaaGreat
namespace Go.Proofs.YtlefejokpdjpgaaGreat
open Go.RowKit
theorem y21 {p q : Prop} (k : q) (h : PLift q → p := by
 intro kk
 have hb1 : ((l.length : Nat) != (m.length : Nat)) = false := by rw [bne_eq_false_iff_eq]; exact hlen
 have hb2 : ((l.length : Int) != (m.length : Int)) = false := by rw [bne_eq_false_iff_eq]; omega
 have hl1 : l.length ≤ m.length := by omega
 have hl2 : m.length ≤ l.length := by omega
 revert hb1 hb2 hl1 hl2
 exact kk.down) : p := h ⟨k⟩
theorem kW (a b : Option Addr) (ca cb : Nat) (l m : Bytes) (w : World) (hl : l.length ≤ 1073741824) (hm : m.length ≤ 1073741824) (ha : BytesIn w a l) (hb : BytesIn w b m) :
 Calls Tryz.prog 44 #[.slice a l.length ca, .slice b m.length cb] w fun x w' => x = .returned (.bool (decide (l = m))) ∧ Below w.heap.size w w' := by
 by_cases hlen : l.length = m.length
 ·refine y21 ?_
  intro hb1 hb2 hl1 hl2
  clear hlen
  go_enter Tryz.func44, Tryz.ntmps44
  go_wp2
  go_loopw [5] (fun i wr => ∃ k : Nat, k ≤ l.length ∧ i = .int .i64 k ∧ l.take k = m.take k ∧ Below w.heap.size w wr) (fun i _ => l.length - (intOf i).toNat)
  case atStart => exact ⟨0, Nat.zero_le _, rfl, rfl, by go_grown⟩
  case round =>
        obtain ⟨k, hk, rfl, hpre, hbw⟩ := hrel
        have HP := Lib.hid hpre
        clear hpre
        by_cases hlt : k < l.length
        ·have hlm : k < m.length := by omega
         rcases ha with h | ⟨A, off, rfl, hda⟩
         ·rw [h] at hlt; simp at hlt
         rcases hb with h | ⟨B, ofb, rfl, hdb⟩
         ·rw [h] at hlm; simp at hlm
         have x0 := (hda.below hbw).cell hlt
         have y0 := (hdb.below hbw).cell hlm
         by_cases he : l[k] = m[k]
         ·have hq : ((l[k].toNat : Int) != (m[k].toNat : Int)) = false := by rw [bne_eq_false_iff_eq, he]
          have HS := Lib.hid (take_next hlt hlm HP.out he)
          clear he
          generalize l[k] = x at *
          generalize m[k] = y at *
          go_wp2
          go_quiet (fail)
          go_wp2
          go_roundw
          case rel => exact ⟨k + 1, by omega, by go_num, HS.out, below_drewN hbw nq⟩
          case measure => exact z39
         ·have HE : Hid (decide (l = m) = false) := decide_eq_false (take_ne hlt hlm he)
          have hq : ((l[k].toNat : Int) != (m[k].toNat : Int)) = true := by rw [bne_iff_ne]; exact fun e => he (UInt8.toNat_inj.1 (by omega))
          clear he
          generalize l[k] = x at *
          generalize m[k] = y at *
          go_wp2
          go_quiet (fail)
          go_wp2
          go_ret
          exact ⟨ret_bool HE.out.symm, below_drewN hbw nq⟩
        ·have hlm : ¬ k < m.length := by omega
         have HE : Hid (decide (l = m) = true) := decide_eq_true (take_all hlt hlm HP.out)
         go_wp2
         go_ret
         exact ⟨ret_bool HE.out.symm, hbw⟩
 ·have HE : Hid (decide (l = m) = false) := decide_eq_false (len_ne hlen)
  have hb1 : ((l.length : Nat) != (m.length : Nat)) = true := by rw [bne_iff_ne]; exact hlen
  have hb2 : ((l.length : Int) != (m.length : Int)) = true := by rw [bne_iff_ne]; omega
  clear hlen
  go_enter Tryz.func44, Tryz.ntmps44
  go_wp2
  go_ret
  exact ⟨ret_bool HE.out.symm, by go_grown⟩
end Go.Proofs.YtlefejokpdjpgaaGreat
namespace Go.Proofs.YtlefejokpdjpgaaGreat
open Go.RowKit
end Go.Proofs.YtlefejokpdjpgaaGreat
namespace Go.Proofs.YtlefejokpdjpgaaGreat
open Go.RowKit
end Go.Proofs.YtlefejokpdjpgaaGreat
namespace Go.Proofs.YtlefejokpdjpgaaGreat
open Go.RowKit
end Go.Proofs.YtlefejokpdjpgaaGreat
namespace Go.Proofs.YtlefejokpdjpgaaGreat
open Go.RowKit
end Go.Proofs.YtlefejokpdjpgaaGreat
namespace Go.Proofs.YtlefejokpdjpgaaGreat
open Go.RowKit
end Go.Proofs.YtlefejokpdjpgaaGreat
namespace Go.Proofs.YtlefejokpdjpgaaGreat
open Go.RowKit
end Go.Proofs.YtlefejokpdjpgaaGreat
namespace Go.Proofs.YtlefejokpdjpgaaGreat
open Go.RowKit
end Go.Proofs.YtlefejokpdjpgaaGreat
namespace Go.Proofs.YtlefejokpdjpgaaGreat
open Go.RowKit
end Go.Proofs.YtlefejokpdjpgaaGreat
namespace Go.Proofs.YtlefejokpdjpgaaGreat
open Go.RowKit
end Go.Proofs.YtlefejokpdjpgaaGreat
namespace Go.Proofs.YtlefejokpdjpgaaGreat
open Go.RowKit
theorem jE {w w' : World} {base : Nat} {e : TypeId} {size : Nat} {v : Value} {n : Nat} {xs : List Value} (h : w.ownsRow base e size v n xs) (hk : ∀ k, base ≤ k → w'.heap[k]? = w.heap[k]?) : w'.ownsRow base e size v n xs := by
 refine ⟨h.1, ?_⟩
 rcases h.2 with hn | ⟨g, cap, cur, hv, hbs, hg, rest⟩
 ·exact .inl hn
 ·exact .inr ⟨g, cap, cur, hv, hbs, by rw [hk g hbs]; exact hg, rest⟩
end Go.Proofs.YtlefejokpdjpgaaGreat
namespace Go.Proofs.YtlefejokpdjpgaaGreat
open Go.RowKit
end Go.Proofs.YtlefejokpdjpgaaGreat
namespace Go.Proofs.YtlefejokpdjpgaaGreat
open Go.RowKit
end Go.Proofs.YtlefejokpdjpgaaGreat
namespace Go.Proofs.YtlefejokpdjpgaaGreat
open Go.RowKit
end Go.Proofs.YtlefejokpdjpgaaGreat
namespace Go.Proofs.YtlefejokpdjpgaaGreat
open Go.RowKit
end Go.Proofs.YtlefejokpdjpgaaGreat
namespace Go.Proofs.YtlefejokpdjpgaaGreat
open Go.RowKit
end Go.Proofs.YtlefejokpdjpgaaGreat
namespace Go.Proofs.YtlefejokpdjpgaaGreat
open Go.RowKit
end Go.Proofs.YtlefejokpdjpgaaGreat
namespace Go.Proofs.YtlefejokpdjpgaaGreat
open Go.RowKit
end Go.Proofs.YtlefejokpdjpgaaGreat
namespace Go.Proofs.YtlefejokpdjpgaaGreat
open Go.RowKit
end Go.Proofs.YtlefejokpdjpgaaGreat
namespace Go.Proofs.YtlefejokpdjpgaaGreat
open Go.RowKit
end Go.Proofs.YtlefejokpdjpgaaGreat
namespace Go.Proofs.YtlefejokpdjpgaaGreat
open Go.RowKit
theorem mG {m : Nat} {r : Rd} (h : r.e ≠ 0) : rDots m r = (r, []) := by
 cases m with
 | zero => rfl
 | succ m => unfold rDots; rw [if_neg h]
theorem qL {m : Nat} {r : Rd} (h : r.e = 0) : rDots (m + 1) r = ((rDots m (rDot r).1).1, (rDot r).2 :: (rDots m (rDot r).1).2) := by
 rw [rDots, if_pos h]
theorem Fr.grown2 {S : Nat → Prop} {W w w2 : World} {g : Option Nat} (h : Fr S W w) (hg : w.grownBy w2 g) (hgb : ∀ k, g = some k → W.heap.size ≤ k) : Fr S W w2 :=
 ⟨hg.os.trans h.os, hg.tape.trans h.tape, hg.output.trans h.output, Nat.le_trans h.size hg.size, fun k hk hs => (hg.block k (Nat.lt_of_lt_of_le hk h.size) (fun e => by have := hgb k e.symm; omega)).trans (h.block k hk hs)⟩
end Go.Proofs.YtlefejokpdjpgaaGreat
