/- A whole struct loaded out of a block, at once; which cells an event has. Conditions: none. -/
import Derived.Test.YtohcmljigcdmbaaGreatKeys
import Derived.Deep.MidRow
import Derived.Test.YtohcmljigcdmbaaGreatCel
import Derived.Maps.AppendAt
import Derived.Deep.AppendLies
import Derived.Test.YtohcmljigcdmbaaGreatDot
import Derived.WalkSmall
set_option linter.unusedSimpArgs false
set_option linter.unusedVariables false
set_option linter.unnecessarySimpa false
set_option maxHeartbeats 16000000
set_option maxRecDepth 100000
namespace Go.Proofs.YtohcmljigcdmbaaGreat
open Go.RowKit
theorem wpList_load_at {P : Program} {ops : Array Oper} {rest : List Oper} {a : Act} {w : World} {Q : Exit → Act → World → Prop} {dst : Option Tmp} {type : TypeId} {pos : String} {after : Array Edge} {guard : Option (Nat × Bool)} (ty : TypeId) (x : Operand)
 (b o : Nat) (cs : List Value) (d : TypeDesc) (hu : P.underlying ty = some d) (hd : d.isRow = true) (hi : (P.info? ty).map (·.size) = some cs.length)
 (hc : w.rangeAt b o cs)
 (hw : Region.wanted ⟨dst, .load ty x, type, pos, after, guard⟩ (yielded ops a.tmps) = true)
 (hx : a.eval x = .pointer (some ⟨b, o, none⟩))
 (h : wpList P ops Q rest (a.put dst (.agg cs.toArray)) w) : wpList P ops Q (⟨dst, .load ty x, type, pos, after, guard⟩ :: rest) a w :=
 BigFrame.wpList_want hw fun _ hK => wp_load_mid ty x rfl b o hx cs d hc hu hd hi (hK _ _ h)
theorem rangeAt_kept {w w' : World} {b o : Nat} {cs : List Value} (h : w.rangeAt b o cs) (hb : Below w.heap.size w w') : w'.rangeAt b o cs := fun j v hv => kept hb (h j v hv)
def evCells (e : Ev) (a : Option Addr) (cap : Nat) : List Value :=
 [.int .i64 e.dot.a.dev, .int .i64 e.dot.a.inc, .int .i64 e.dot.seq, .int .i64 e.stamp.wall, .int .i64 e.stamp.count, .int .i64 e.stamp.dev, .int .i64 e.kind, .string e.key.name, .string e.key.domain, .string e.key.path, .string e.ck.value, .bool e.ck.hostOnly, .bool e.ck.secure, .bool e.ck.httpOnly, .bool e.ck.persistent, .int .i64 e.ck.expiry, .int .i64 e.ck.creation, .int .i64 e.ck.access, .slice a e.over.length cap]
theorem evCells_box (e : Ev) (a : Option Addr) (cap : Nat) (w : World) (t : TypeId) : (w.alloc (Obj.cells #[.int .i64 e.dot.a.dev, .int .i64 e.dot.a.inc, .int .i64 e.dot.seq, .int .i64 e.stamp.wall, .int .i64 e.stamp.count, .int .i64 e.stamp.dev, .int .i64 e.kind, .string e.key.name, .string e.key.domain, .string e.key.path, .string e.ck.value, .bool e.ck.hostOnly, .bool e.ck.secure, .bool e.ck.httpOnly, .bool e.ck.persistent, .int .i64 e.ck.expiry, .int .i64 e.ck.creation, .int .i64 e.ck.access, .slice a e.over.length cap] t)).rangeAt w.heap.size 0 (evCells e a cap) := by
 intro j v hv
 rw [Nat.zero_add, World.cell?_alloc_new]
 exact (by simpa [evCells] using hv)
/-- the load of an event that lies in block b -/
theorem wpList_load_ev {ops : Array Oper} {rest : List Oper} {a : Act} {w : World} {Q : Exit → Act → World → Prop} {dst : Option Tmp} {type : TypeId} {pos : String} {after : Array Edge} {guard : Option (Nat × Bool)} (x : Operand)
 (b : Nat) (e : Ev) (ad : Option Addr) (cap : Nat) (hc : w.rangeAt b 0 (evCells e ad cap))
 (hw : Region.wanted ⟨dst, .load 34 x, type, pos, after, guard⟩ (yielded ops a.tmps) = true)
 (hx : a.eval x = .pointer (some ⟨b, 0, none⟩))
 (h : wpList Tryz.prog ops Q rest (a.put dst (evVal e ad cap)) w) : wpList Tryz.prog ops Q (⟨dst, .load 34 x, type, pos, after, guard⟩ :: rest) a w :=
 wpList_load_at 34 x b 0 (evCells e ad cap) _ Tryz.underlying34 rfl (by kernel_rfl) hc hw hx h
theorem wpQuiet_load_at {P : Program} {ops : Array Oper} {rest : List Oper} {a : Act} {C : World → Prop} {Q : Act → Prop} {dst : Option Tmp} {type : TypeId} {pos : String} {after : Array Edge} {guard : Option (Nat × Bool)} (ty : TypeId) (x : Operand)
 (b o : Nat) (cs : List Value) (d : TypeDesc) (hu : P.underlying ty = some d) (hd : d.isRow = true) (hi : (P.info? ty).map (·.size) = some cs.length)
 (hc : ∀ w, C w → w.rangeAt b o cs)
 (hw : Region.wanted ⟨dst, .load ty x, type, pos, after, guard⟩ (yielded ops a.tmps) = true)
 (hx : a.eval x = .pointer (some ⟨b, o, none⟩))
 (h : wpQuiet P ops C Q rest (a.put dst (.agg cs.toArray))) : wpQuiet P ops C Q (⟨dst, .load ty x, type, pos, after, guard⟩ :: rest) a :=
 BigFrame.wpQuiet_want hw fun K hK => ⟨.agg cs.toArray, fun w hw' => by
  unfold Oper.quietAt execOp
  simp only [hx, Instr.loadAt, Instr.sureAddr, Sem.run_bind, Sem.run_pure, Result.andThen_ok, run_loadVar_mid w b o ty cs d (hc w hw') hu hd hi]
  exact ⟨rfl, rfl⟩, hK _ h⟩
/-- the load of an event out of block b, in a region whose order is open -/
theorem wpQuiet_load_ev {ops : Array Oper} {rest : List Oper} {a : Act} {W : World} {Q : Act → Prop} {dst : Option Tmp} {type : TypeId} {pos : String} {after : Array Edge} {guard : Option (Nat × Bool)} (x : Operand)
 (b : Nat) (e : Ev) (ad : Option Addr) (cap : Nat) (hc : W.rangeAt b 0 (evCells e ad cap))
 (hw : Region.wanted ⟨dst, .load 34 x, type, pos, after, guard⟩ (yielded ops a.tmps) = true)
 (hx : a.eval x = .pointer (some ⟨b, 0, none⟩))
 (h : wpQuiet Tryz.prog ops (fun w' => ∃ i : After W, w' = i.w) Q rest (a.put dst (evVal e ad cap))) : wpQuiet Tryz.prog ops (fun w' => ∃ i : After W, w' = i.w) Q (⟨dst, .load 34 x, type, pos, after, guard⟩ :: rest) a :=
 wpQuiet_load_at 34 x b 0 (evCells e ad cap) _ Tryz.underlying34 rfl (by kernel_rfl) (fun _ hw' => by obtain ⟨i, rfl⟩ := hw'; exact rangeAt_kept hc i.h) hw hx h
theorem wpList_load_to {P : Program} {ops : Array Oper} {rest : List Oper} {a : Act} {w : World} {Q : Exit → Act → World → Prop} {dst : Option Tmp} {type : TypeId} {pos : String} {after : Array Edge} {guard : Option (Nat × Bool)} (ty : TypeId) (x : Operand)
 (b o : Nat) (cs : List Value) (v : Value) (hv : Value.agg cs.toArray = v) (d : TypeDesc) (hu : P.underlying ty = some d) (hd : d.isRow = true) (hi : (P.info? ty).map (·.size) = some cs.length)
 (hc : w.rangeAt b o cs)
 (hw : Region.wanted ⟨dst, .load ty x, type, pos, after, guard⟩ (yielded ops a.tmps) = true)
 (hx : a.eval x = .pointer (some ⟨b, o, none⟩))
 (h : wpList P ops Q rest (a.put dst v) w) : wpList P ops Q (⟨dst, .load ty x, type, pos, after, guard⟩ :: rest) a w :=
 wpList_load_at ty x b o cs d hu hd hi hc hw hx (by rw [hv]; exact h)
/-- an event out of block b, place o -/
theorem wpList_load_evo {ops : Array Oper} {rest : List Oper} {a : Act} {w : World} {Q : Exit → Act → World → Prop} {dst : Option Tmp} {type : TypeId} {pos : String} {after : Array Edge} {guard : Option (Nat × Bool)} (x : Operand)
 (b o : Nat) (e : Ev) (ad : Option Addr) (cap : Nat) (hc : w.rangeAt b o (evCells e ad cap))
 (hw : Region.wanted ⟨dst, .load 34 x, type, pos, after, guard⟩ (yielded ops a.tmps) = true)
 (hx : a.eval x = .pointer (some ⟨b, o, none⟩))
 (h : wpList Tryz.prog ops Q rest (a.put dst (evVal e ad cap)) w) : wpList Tryz.prog ops Q (⟨dst, .load 34 x, type, pos, after, guard⟩ :: rest) a w :=
 wpList_load_at 34 x b o (evCells e ad cap) _ Tryz.underlying34 rfl (by kernel_rfl) hc hw hx h
theorem take_ne {α : Type} {l m : List α} {k : Nat} (h1 : k < l.length) (h2 : k < m.length) (h : l[k] ≠ m[k]) : l ≠ m := fun e => h (by subst e; rfl)
theorem take_next {α : Type} {l m : List α} {k : Nat} (h1 : k < l.length) (h2 : k < m.length) (hp : l.take k = m.take k) (h : l[k] = m[k]) : l.take (k + 1) = m.take (k + 1) := by
 rw [List.take_succ_eq_append_getElem h1, List.take_succ_eq_append_getElem h2, hp, h]
theorem take_all {α : Type} {l m : List α} {k : Nat} (h1 : ¬ k < l.length) (h2 : ¬ k < m.length) (hp : l.take k = m.take k) : l = m := by
 rwa [List.take_of_length_le (by omega), List.take_of_length_le (by omega)] at hp
theorem len_ne {α : Type} {l m : List α} (h : ¬ l.length = m.length) : ¬ l = m := fun e => h (by rw [e])
theorem equalDots_any (a b : Option Addr) (ca cb : Nat) (l m : List Dot) (w : World) (hl : l.length ≤ 1073741824) (hm : m.length ≤ 1073741824) (ha : DotsIn w a l) (hb : DotsIn w b m) :
 Calls Tryz.prog 150 #[.slice a l.length ca, .slice b m.length cb] w fun x w' => x = .returned (.bool (decide (l = m))) ∧ Below w.heap.size w w' := by
 by_cases hlen : l.length = m.length
 ·have hb1 : ((l.length : Nat) != (m.length : Nat)) = false := by rw [bne_eq_false_iff_eq]; exact hlen
  have hb2 : ((l.length : Int) != (m.length : Int)) = false := by rw [bne_eq_false_iff_eq]; omega
  have hl1 : l.length ≤ m.length := by omega
  have hl2 : m.length ≤ l.length := by omega
  clear hlen
  go_enter Tryz.func150, Tryz.ntmps150
  go_wp2
  go_loopw [13] (fun i wr => ∃ k : Nat, k ≤ l.length ∧ i = .int .i64 k ∧ l.take k = m.take k ∧ Below w.heap.size w wr) (fun i _ => l.length - (intOf i).toNat)
  case atStart => exact ⟨0, Nat.zero_le _, rfl, rfl, by go_grown⟩
  case round =>
        obtain ⟨k, hk, rfl, hpre, hbw⟩ := hrel
        have HP := Lib.hid hpre
        clear hpre
        by_cases hlt : k < l.length
        ·have hlm : k < m.length := by omega
         rcases ha with h | ⟨A, off, rfl, hda⟩
         ·rw [h] at hlt; simp at hlt
         rcases hb with h | ⟨B, ofb, rfl, hdb⟩
         ·rw [h] at hlm; simp at hlm
         have x0 := (hda.kept hbw).dev k hlt
         have x1 := (hda.kept hbw).inc k hlt
         have x2 := (hda.kept hbw).seq k hlt
         have y0 := (hdb.kept hbw).dev k hlm
         have y1 := (hdb.kept hbw).inc k hlm
         have y2 := (hdb.kept hbw).seq k hlm
         have hEq := fun (W : World) => eqDot W 9997 l[k] m[k]
         have hm := noGuardDot
         by_cases he : l[k] = m[k]
         ·rw [decide_eq_true he] at hEq
          have HS := Lib.hid (take_next hlt hlm HP.out he)
          clear he
          generalize l[k] = x at *
          generalize m[k] = y at *
          go_wp2
          go_quiet (fail)
          go_wp2
          go_roundw
          case rel => exact ⟨k + 1, by omega, by go_num, HS.out, below_drewN hbw nq⟩
          case measure => simp [intOf] <;> omega
         ·have HE : Hid (decide (l = m) = false) := decide_eq_false (take_ne hlt hlm he)
          rw [decide_eq_false he] at hEq
          clear he
          generalize l[k] = x at *
          generalize m[k] = y at *
          go_wp2
          go_quiet (fail)
          go_wp2
          go_ret
          exact ⟨ret_bool HE.out.symm, below_drewN hbw nq⟩
        ·have hlm : ¬ k < m.length := by omega
         have HE : Hid (decide (l = m) = true) := decide_eq_true (take_all hlt hlm HP.out)
         go_wp2
         go_ret
         exact ⟨ret_bool HE.out.symm, hbw⟩
 ·have HE : Hid (decide (l = m) = false) := decide_eq_false (len_ne hlen)
  have hb1 : ((l.length : Nat) != (m.length : Nat)) = true := by rw [bne_iff_ne]; exact hlen
  have hb2 : ((l.length : Int) != (m.length : Int)) = true := by rw [bne_iff_ne]; omega
  clear hlen
  go_enter Tryz.func150, Tryz.ntmps150
  go_wp2
  go_ret
  exact ⟨ret_bool HE.out.symm, by go_grown⟩
theorem ev_iff (e f : Ev) : e = f ↔ e.dot = f.dot ∧ e.stamp = f.stamp ∧ e.kind = f.kind ∧ e.key = f.key ∧ e.ck = f.ck ∧ e.over = f.over := by
 cases e; cases f; simp
theorem sameEv_any (e f : Ev) (a b : Option Addr) (ca cb : Nat) (w : World) (hl : e.over.length ≤ 1073741824) (hm : f.over.length ≤ 1073741824) (ha : DotsIn w a e.over) (hb : DotsIn w b f.over) :
 Calls Tryz.prog 114 #[evVal e a ca, evVal f b cb] w fun x w' => x = .returned (.bool (decide (e = f))) ∧ Below w.heap.size w w' := by
 have HV := Lib.hid (ev_iff e f)
 have hq1 : ∀ W : World, (Op.equalIn 10000 25 (.agg #[.int .i64 e.dot.a.dev, .int .i64 e.dot.a.inc, .int .i64 e.dot.seq]) (.agg #[.int .i64 f.dot.a.dev, .int .i64 f.dot.a.inc, .int .i64 f.dot.seq])).run Tryz.prog W = .ok (decide (e.dot = f.dot)) W := fun W => eqDot W 9997 e.dot f.dot
 have hq2 : ∀ W : World, (Op.equalIn 10000 27 (.agg #[.int .i64 e.stamp.wall, .int .i64 e.stamp.count, .int .i64 e.stamp.dev]) (.agg #[.int .i64 f.stamp.wall, .int .i64 f.stamp.count, .int .i64 f.stamp.dev])).run Tryz.prog W = .ok (decide (e.stamp = f.stamp)) W := fun W => eqStamp W 9998 e.stamp f.stamp
 have hq4 : ∀ W : World, (Op.equalIn 10000 120 (.agg #[.string e.key.name, .string e.key.domain, .string e.key.path, .string e.ck.value, .bool e.ck.hostOnly, .bool e.ck.secure, .bool e.ck.httpOnly, .bool e.ck.persistent, .int .i64 e.ck.expiry, .int .i64 e.ck.creation, .int .i64 e.ck.access]) (.agg #[.string f.key.name, .string f.key.domain, .string f.key.path, .string f.ck.value, .bool f.ck.hostOnly, .bool f.ck.secure, .bool f.ck.httpOnly, .bool f.ck.persistent, .int .i64 f.ck.expiry, .int .i64 f.ck.creation, .int .i64 f.ck.access])).run Tryz.prog W = .ok (decide (e.key = f.key) && decide (e.ck = f.ck)) W := fun W => eqItem W 9997 e.key f.key e.ck f.ck
 have g1 := noGuardDot
 have g2 := noGuardStamp
 have g4 := noGuardItem
 have HO := Lib.hid (fun (W : World) (h1 : DotsIn W a e.over) (h2 : DotsIn W b f.over) => equalDots_any a b ca cb e.over f.over W hl hm h1 h2)
 have HI := Lib.hid (fun (W : World) => Item_any e a ca W)
 have HJ := Lib.hid (fun (W : World) => Item_any f b cb W)
 go_enter Tryz.func114, Tryz.ntmps114
 go_upto_region 1 with fail
 refine wp_region_after (by kernel_rfl) (by kernel_rfl) (fun W hW => ?_)
 have hbt : Below w.heap.size w W := by rw [hW.out]; go_grown
 have hR : W.rangeAt w.heap.size 0 (evCells e a ca) := by rw [hW.out]; exact World.rangeAt_alloc (evCells_box e a ca w _) _
 have hS : W.rangeAt (w.heap.size + 1) 0 (evCells f b cb) := by
  have h := evCells_box f b cb (w.alloc (Obj.cells #[.int .i64 e.dot.a.dev, .int .i64 e.dot.a.inc, .int .i64 e.dot.seq, .int .i64 e.stamp.wall, .int .i64 e.stamp.count, .int .i64 e.stamp.dev, .int .i64 e.kind, .string e.key.name, .string e.key.domain, .string e.key.path, .string e.ck.value, .bool e.ck.hostOnly, .bool e.ck.secure, .bool e.ck.httpOnly, .bool e.ck.persistent, .int .i64 e.ck.expiry, .int .i64 e.ck.creation, .int .i64 e.ck.access, .slice a e.over.length ca] 34)) 34
  rw [hW.out]; simpa using h
 have ha1 : ∀ i : After W, DotsIn i.w a e.over := fun i => (ha.kept hbt).kept i.h
 have hb1 : ∀ i : After W, DotsIn i.w b f.over := fun i => (hb.kept hbt).kept i.h
 have q0 : ∀ i : After W, i.w.cell? ⟨w.heap.size, 0, none⟩ = some (.int .i64 e.dot.a.dev) := fun i => by have := rangeAt_kept hR i.h 0 _ rfl; rwa [Nat.zero_add] at this
 have q1 : ∀ i : After W, i.w.cell? ⟨w.heap.size, 1, none⟩ = some (.int .i64 e.dot.a.inc) := fun i => by have := rangeAt_kept hR i.h 1 _ rfl; rwa [Nat.zero_add] at this
 have q2 : ∀ i : After W, i.w.cell? ⟨w.heap.size, 2, none⟩ = some (.int .i64 e.dot.seq) := fun i => by have := rangeAt_kept hR i.h 2 _ rfl; rwa [Nat.zero_add] at this
 have q3 : ∀ i : After W, i.w.cell? ⟨w.heap.size, 3, none⟩ = some (.int .i64 e.stamp.wall) := fun i => by have := rangeAt_kept hR i.h 3 _ rfl; rwa [Nat.zero_add] at this
 have q4 : ∀ i : After W, i.w.cell? ⟨w.heap.size, 4, none⟩ = some (.int .i64 e.stamp.count) := fun i => by have := rangeAt_kept hR i.h 4 _ rfl; rwa [Nat.zero_add] at this
 have q5 : ∀ i : After W, i.w.cell? ⟨w.heap.size, 5, none⟩ = some (.int .i64 e.stamp.dev) := fun i => by have := rangeAt_kept hR i.h 5 _ rfl; rwa [Nat.zero_add] at this
 have q6 : ∀ i : After W, i.w.cell? ⟨w.heap.size, 6, none⟩ = some (.int .i64 e.kind) := fun i => by have := rangeAt_kept hR i.h 6 _ rfl; rwa [Nat.zero_add] at this
 have q18 : ∀ i : After W, i.w.cell? ⟨w.heap.size, 18, none⟩ = some (.slice a e.over.length ca) := fun i => by have := rangeAt_kept hR i.h 18 _ rfl; rwa [Nat.zero_add] at this
 have r0 : ∀ i : After W, i.w.cell? ⟨w.heap.size + 1, 0, none⟩ = some (.int .i64 f.dot.a.dev) := fun i => by have := rangeAt_kept hS i.h 0 _ rfl; rwa [Nat.zero_add] at this
 have r1 : ∀ i : After W, i.w.cell? ⟨w.heap.size + 1, 1, none⟩ = some (.int .i64 f.dot.a.inc) := fun i => by have := rangeAt_kept hS i.h 1 _ rfl; rwa [Nat.zero_add] at this
 have r2 : ∀ i : After W, i.w.cell? ⟨w.heap.size + 1, 2, none⟩ = some (.int .i64 f.dot.seq) := fun i => by have := rangeAt_kept hS i.h 2 _ rfl; rwa [Nat.zero_add] at this
 have r3 : ∀ i : After W, i.w.cell? ⟨w.heap.size + 1, 3, none⟩ = some (.int .i64 f.stamp.wall) := fun i => by have := rangeAt_kept hS i.h 3 _ rfl; rwa [Nat.zero_add] at this
 have r4 : ∀ i : After W, i.w.cell? ⟨w.heap.size + 1, 4, none⟩ = some (.int .i64 f.stamp.count) := fun i => by have := rangeAt_kept hS i.h 4 _ rfl; rwa [Nat.zero_add] at this
 have r5 : ∀ i : After W, i.w.cell? ⟨w.heap.size + 1, 5, none⟩ = some (.int .i64 f.stamp.dev) := fun i => by have := rangeAt_kept hS i.h 5 _ rfl; rwa [Nat.zero_add] at this
 have r6 : ∀ i : After W, i.w.cell? ⟨w.heap.size + 1, 6, none⟩ = some (.int .i64 f.kind) := fun i => by have := rangeAt_kept hS i.h 6 _ rfl; rwa [Nat.zero_add] at this
 have r18 : ∀ i : After W, i.w.cell? ⟨w.heap.size + 1, 18, none⟩ = some (.slice b f.over.length cb) := fun i => by have := rangeAt_kept hS i.h 18 _ rfl; rwa [Nat.zero_add] at this
 clear hW ha hb
 by_cases t0 : e.dot = f.dot
 ·rw [decide_eq_true t0] at hq1
  by_cases t1 : e.stamp = f.stamp
  ·rw [decide_eq_true t1] at hq2
   by_cases t2 : e.kind = f.kind
   ·have u2 : (e.kind == f.kind) = true := beq_iff_eq.2 t2
    by_cases t3 : e.key = f.key ∧ e.ck = f.ck
    ·rw [decide_eq_true t3.1, decide_eq_true t3.2] at hq4
     have HE : Hid (decide (e = f) = decide (e.over = f.over)) := by rw [Hid, Bool.eq_iff_iff, decide_eq_true_eq, decide_eq_true_eq, HV.out]; simp [t0, t1, t2, t3.1, t3.2]
     clear t0 t1 t2 t3
     iterate 20 go_big_quiet_step (fail)
     first | go_big_quiet_skip | ((with_reducible refine wpQuiet_load_ev _ w.heap.size e a ca hR ?_ rfl ?_); exact rfl; go_simp)
     go_big_quiet_step (exact Calls.after (HI.out _))
     first | go_big_quiet_skip | ((with_reducible refine wpQuiet_load_ev _ (w.heap.size + 1) f b cb hS ?_ rfl ?_); exact rfl; go_simp)
     go_big_quiet_step (exact Calls.after (HJ.out _))
     iterate 7 go_big_quiet_step (fail)
     go_big_quiet_step (exact Calls.after (HO.out _ (ha1 _) (hb1 _)))
     iterate 2 go_big_quiet_step (fail)
     refine wpQuiet_nil ?_
     first | (intro _ hi; obtain ⟨i, rfl⟩ := hi) | intro i
     have hib := i.h
     clear q0 q1 q2 q3 q4 q5 q6 q18 r0 r1 r2 r3 r4 r5 r6 r18 ha1 hb1
     generalize i.w = wi at hib ⊢
     replace hbt := below2 hbt hib
     go_wp2
     go_ret
     exact ⟨ret_bool HE.out.symm, hbt⟩
    ·have t4 : (decide (e.key = f.key) && decide (e.ck = f.ck)) = false := by rw [Bool.eq_false_iff]; intro h; rw [Bool.and_eq_true, decide_eq_true_eq, decide_eq_true_eq] at h; exact t3 h
     rw [t4] at hq4
     have HE : Hid (decide (e = f) = false) := by rw [Hid, decide_eq_false_iff_not, HV.out]; intro h; exact t3 ⟨h.2.2.2.1, h.2.2.2.2.1⟩
     clear t0 t1 t2 t3 t4
     iterate 20 go_big_quiet_step (fail)
     first | go_big_quiet_skip | ((with_reducible refine wpQuiet_load_ev _ w.heap.size e a ca hR ?_ rfl ?_); exact rfl; go_simp)
     go_big_quiet_step (exact Calls.after (HI.out _))
     first | go_big_quiet_skip | ((with_reducible refine wpQuiet_load_ev _ (w.heap.size + 1) f b cb hS ?_ rfl ?_); exact rfl; go_simp)
     go_big_quiet_step (exact Calls.after (HJ.out _))
     iterate 7 go_big_quiet_step (fail)
     go_big_quiet_step (exact Calls.after (HO.out _ (ha1 _) (hb1 _)))
     iterate 2 go_big_quiet_step (fail)
     refine wpQuiet_nil ?_
     first | (intro _ hi; obtain ⟨i, rfl⟩ := hi) | intro i
     have hib := i.h
     clear q0 q1 q2 q3 q4 q5 q6 q18 r0 r1 r2 r3 r4 r5 r6 r18 ha1 hb1
     generalize i.w = wi at hib ⊢
     replace hbt := below2 hbt hib
     go_wp2
     go_ret
     exact ⟨ret_bool HE.out.symm, hbt⟩
   ·have u2 : (e.kind == f.kind) = false := beq_eq_false_iff_ne.2 t2
    have HE : Hid (decide (e = f) = false) := by rw [Hid, decide_eq_false_iff_not, HV.out]; intro h; exact t2 h.2.2.1
    clear t0 t1 t2
    iterate 20 go_big_quiet_step (fail)
    first | go_big_quiet_skip | ((with_reducible refine wpQuiet_load_ev _ w.heap.size e a ca hR ?_ rfl ?_); exact rfl; go_simp)
    go_big_quiet_step (exact Calls.after (HI.out _))
    first | go_big_quiet_skip | ((with_reducible refine wpQuiet_load_ev _ (w.heap.size + 1) f b cb hS ?_ rfl ?_); exact rfl; go_simp)
    go_big_quiet_step (exact Calls.after (HJ.out _))
    iterate 7 go_big_quiet_step (fail)
    go_big_quiet_step (exact Calls.after (HO.out _ (ha1 _) (hb1 _)))
    iterate 2 go_big_quiet_step (fail)
    refine wpQuiet_nil ?_
    first | (intro _ hi; obtain ⟨i, rfl⟩ := hi) | intro i
    have hib := i.h
    clear q0 q1 q2 q3 q4 q5 q6 q18 r0 r1 r2 r3 r4 r5 r6 r18 ha1 hb1
    generalize i.w = wi at hib ⊢
    replace hbt := below2 hbt hib
    go_wp2
    go_ret
    exact ⟨ret_bool HE.out.symm, hbt⟩
  ·rw [decide_eq_false t1] at hq2
   have HE : Hid (decide (e = f) = false) := by rw [Hid, decide_eq_false_iff_not, HV.out]; intro h; exact t1 h.2.1
   clear t0 t1
   iterate 20 go_big_quiet_step (fail)
   first | go_big_quiet_skip | ((with_reducible refine wpQuiet_load_ev _ w.heap.size e a ca hR ?_ rfl ?_); exact rfl; go_simp)
   go_big_quiet_step (exact Calls.after (HI.out _))
   first | go_big_quiet_skip | ((with_reducible refine wpQuiet_load_ev _ (w.heap.size + 1) f b cb hS ?_ rfl ?_); exact rfl; go_simp)
   go_big_quiet_step (exact Calls.after (HJ.out _))
   iterate 7 go_big_quiet_step (fail)
   go_big_quiet_step (exact Calls.after (HO.out _ (ha1 _) (hb1 _)))
   iterate 2 go_big_quiet_step (fail)
   refine wpQuiet_nil ?_
   first | (intro _ hi; obtain ⟨i, rfl⟩ := hi) | intro i
   have hib := i.h
   clear q0 q1 q2 q3 q4 q5 q6 q18 r0 r1 r2 r3 r4 r5 r6 r18 ha1 hb1
   generalize i.w = wi at hib ⊢
   replace hbt := below2 hbt hib
   go_wp2
   go_ret
   exact ⟨ret_bool HE.out.symm, hbt⟩
 ·rw [decide_eq_false t0] at hq1
  have HE : Hid (decide (e = f) = false) := by rw [Hid, decide_eq_false_iff_not, HV.out]; intro h; exact t0 h.1
  clear t0
  iterate 20 go_big_quiet_step (fail)
  first | go_big_quiet_skip | ((with_reducible refine wpQuiet_load_ev _ w.heap.size e a ca hR ?_ rfl ?_); exact rfl; go_simp)
  go_big_quiet_step (exact Calls.after (HI.out _))
  first | go_big_quiet_skip | ((with_reducible refine wpQuiet_load_ev _ (w.heap.size + 1) f b cb hS ?_ rfl ?_); exact rfl; go_simp)
  go_big_quiet_step (exact Calls.after (HJ.out _))
  iterate 7 go_big_quiet_step (fail)
  go_big_quiet_step (exact Calls.after (HO.out _ (ha1 _) (hb1 _)))
  iterate 2 go_big_quiet_step (fail)
  refine wpQuiet_nil ?_
  first | (intro _ hi; obtain ⟨i, rfl⟩ := hi) | intro i
  have hib := i.h
  clear q0 q1 q2 q3 q4 q5 q6 q18 r0 r1 r2 r3 r4 r5 r6 r18 ha1 hb1
  generalize i.w = wi at hib ⊢
  replace hbt := below2 hbt hib
  go_wp2
  go_ret
  exact ⟨ret_bool HE.out.symm, hbt⟩
def light (e : Ev) : Bool := decide (e.over.length ≤ 100) && (decide (e.key.name.size ≤ 2000) && (decide (e.key.domain.size ≤ 2000) && (decide (e.key.path.size ≤ 2000) && decide (e.ck.value.size ≤ 2000))))
theorem Light_any (e : Ev) (a : Option Addr) (cap : Nat) (w : World) (hol : e.over.length ≤ maxLen) (h7 : e.key.name.size ≤ maxLen) (h8 : e.key.domain.size ≤ maxLen) (h9 : e.key.path.size ≤ maxLen) (h10 : e.ck.value.size ≤ maxLen) :
 Calls Tryz.prog 4 #[evVal e a cap] w fun x w' => x = .returned (.bool (light e)) ∧ Below w.heap.size w w' := by
 unfold maxLen at hol h7 h8 h9 h10
 have HL : Hid (light e = (decide (e.over.length ≤ 100) && (decide (e.key.name.size ≤ 2000) && (decide (e.key.domain.size ≤ 2000) && (decide (e.key.path.size ≤ 2000) && decide (e.ck.value.size ≤ 2000)))))) := rfl
 by_cases t0 : e.over.length ≤ 100
 ·skip
  by_cases t1 : e.key.name.size ≤ 2000
  ·skip
   by_cases t2 : e.key.domain.size ≤ 2000
   ·skip
    by_cases t3 : e.key.path.size ≤ 2000
    ·skip
     by_cases t4 : e.ck.value.size ≤ 2000
     ·skip
      have HE : Hid (light e = true) := by rw [Hid, HL.out]; simp [t0, t1, t2, t3, t4]
      go_enter Tryz.func4, Tryz.ntmps4
      go_wp2
      go_ret
      exact ⟨ret_bool (by first | exact HE.out.symm | (rw [HE.out]; simp; omega)), by go_grown⟩
     ·have d4 : decide (e.ck.value.size ≤ 2000) = false := decide_eq_false t4
      have HE : Hid (light e = false) := by rw [Hid, HL.out]; simp [t0, t1, t2, t3, t4]
      go_enter Tryz.func4, Tryz.ntmps4
      go_wp2
      go_ret
      exact ⟨ret_bool (by first | exact HE.out.symm | (rw [HE.out]; simp; omega)), by go_grown⟩
    ·have d3 : decide (e.key.path.size ≤ 2000) = false := decide_eq_false t3
     have HE : Hid (light e = false) := by rw [Hid, HL.out]; simp [t0, t1, t2, t3]
     go_enter Tryz.func4, Tryz.ntmps4
     go_wp2
     go_ret
     exact ⟨ret_bool (by first | exact HE.out.symm | (rw [HE.out]; simp; omega)), by go_grown⟩
   ·have d2 : decide (e.key.domain.size ≤ 2000) = false := decide_eq_false t2
    have HE : Hid (light e = false) := by rw [Hid, HL.out]; simp [t0, t1, t2]
    go_enter Tryz.func4, Tryz.ntmps4
    go_wp2
    go_ret
    exact ⟨ret_bool (by first | exact HE.out.symm | (rw [HE.out]; simp; omega)), by go_grown⟩
  ·have d1 : decide (e.key.name.size ≤ 2000) = false := decide_eq_false t1
   have HE : Hid (light e = false) := by rw [Hid, HL.out]; simp [t0, t1]
   go_enter Tryz.func4, Tryz.ntmps4
   go_wp2
   go_ret
   exact ⟨ret_bool (by first | exact HE.out.symm | (rw [HE.out]; simp; omega)), by go_grown⟩
 ·have d0 : decide (e.over.length ≤ 100) = false := decide_eq_false t0
  have HE : Hid (light e = false) := by rw [Hid, HL.out]; simp [t0]
  go_enter Tryz.func4, Tryz.ntmps4
  go_wp2
  go_ret
  exact ⟨ret_bool (by first | exact HE.out.symm | (rw [HE.out]; simp; omega)), by go_grown⟩
theorem eventRight_any (e : Ev) (a : Option Addr) (cap : Nat) (w : World) (hs : EvSmall e) (hover : DotsIn w a e.over) :
 Calls Tryz.prog 32 #[evVal e a cap] w fun x w' => x = .returned (.bool (evOk e)) ∧ Below w.heap.size w w' := by
 have HV : Hid (evOk e = (dotOk e.dot && (stampOk e.stamp && (decide (e.stamp.dev = e.dot.a.dev) && (overOk e.dot e.over && kindOk e))))) := rfl
 have HD0 := fun (W : World) => dotRight_any e.dot W
 have HS0 := fun (W : World) => clockRight_any e.stamp W
 have HO0 := fun (W : World) (h : DotsIn W a e.over) => over_any e.dot (.int .i64 e.stamp.wall) (.int .i64 e.stamp.count) (.int .i64 e.stamp.dev) (.int .i64 e.kind) (.string e.key.name) (.string e.key.domain) (.string e.key.path) (.string e.ck.value) (.bool e.ck.hostOnly) (.bool e.ck.secure) (.bool e.ck.httpOnly) (.bool e.ck.persistent) (.int .i64 e.ck.expiry) (.int .i64 e.ck.creation) (.int .i64 e.ck.access) a cap e.over W h hs.over
 have HI := Lib.hid (fun (W : World) => Item_any e a cap W)
 have HC0 := fun (W : World) => cookieRight_p e.key e.ck e.ck.persistent rfl W hs.name hs.domain hs.path hs.value
 have hq0 : ∀ W : World, (Op.equalIn 10000 120 (.agg #[.string e.key.name, .string e.key.domain, .string e.key.path, .string e.ck.value, .bool e.ck.hostOnly, .bool e.ck.secure, .bool e.ck.httpOnly, .bool e.ck.persistent, .int .i64 e.ck.expiry, .int .i64 e.ck.creation, .int .i64 e.ck.access]) (.agg #[.string ⟨#[]⟩, .string ⟨#[]⟩, .string ⟨#[]⟩, .string ⟨#[]⟩, .bool false, .bool false, .bool false, .bool false, .int .i64 0, .int .i64 0, .int .i64 0])).run Tryz.prog W = .ok (decide (e.key = key0) && decide (e.ck = ck0)) W := fun W => eqItem W 9997 e.key key0 e.ck ck0
 have hm := noGuardItem
 have hk0 : kindOk e = if e.kind = 2 then (decide (e.key = key0) && decide (e.ck = ck0)) && decide (0 < e.over.length) else if e.kind = 1 then itemOk e.key e.ck else false := rfl
 go_enter Tryz.func32, Tryz.ntmps32
 go_upto_region 1 with fail
 refine wp_name (fun W hW => ?_)
 have hbt : Below w.heap.size w W := by rw [hW.out]; go_grown
 have hz : w.heap.size < W.heap.size := by rw [hW.out]; simp
 have q0 : W.cell? ⟨w.heap.size, 0, none⟩ = some (.int .i64 e.dot.a.dev) := by rw [hW.out]; go_simp
 have q1 : W.cell? ⟨w.heap.size, 1, none⟩ = some (.int .i64 e.dot.a.inc) := by rw [hW.out]; go_simp
 have q2 : W.cell? ⟨w.heap.size, 2, none⟩ = some (.int .i64 e.dot.seq) := by rw [hW.out]; go_simp
 have q3 : W.cell? ⟨w.heap.size, 3, none⟩ = some (.int .i64 e.stamp.wall) := by rw [hW.out]; go_simp
 have q4 : W.cell? ⟨w.heap.size, 4, none⟩ = some (.int .i64 e.stamp.count) := by rw [hW.out]; go_simp
 have q5 : W.cell? ⟨w.heap.size, 5, none⟩ = some (.int .i64 e.stamp.dev) := by rw [hW.out]; go_simp
 have q6 : W.cell? ⟨w.heap.size, 6, none⟩ = some (.int .i64 e.kind) := by rw [hW.out]; go_simp
 have q18 : W.cell? ⟨w.heap.size, 18, none⟩ = some (.slice a e.over.length cap) := by rw [hW.out]; go_simp
 have hR : W.rangeAt w.heap.size 0 (evCells e a cap) := by rw [hW.out]; exact evCells_box e a cap w _
 have ho := hover.kept hbt
 clear hW hover
 cases h1 : dotOk e.dot with
 | false =>
   have HE : Hid (evOk e = false) := by rw [Hid, HV.out, h1]; rfl
   rw [h1] at HD0
   have HD := Lib.hid HD0
   have HS := Lib.hid HS0
   have HO := Lib.hid HO0
   have HC := Lib.hid HC0
   clear HD0 HS0 HO0 HC0 hk0
   go_wp2_with (first
    | ((with_reducible refine wpList_load_ev _ w.heap.size e a cap hR ?_ rfl ?_); exact rfl)
    | (go_at_call 70; refine (HD.out _).mono ?_; rintro x w1 ⟨rfl, hb⟩; replace q0 := kept hb q0; replace q1 := kept hb q1; replace q2 := kept hb q2; replace q3 := kept hb q3; replace q4 := kept hb q4; replace q5 := kept hb q5; replace q6 := kept hb q6; replace q18 := kept hb q18; replace hR := rangeAt_kept hR hb; replace hbt := below2 hbt hb; replace ho := ho.kept hb)
    | (go_at_call 71; refine (HS.out _).mono ?_; rintro x w1 ⟨rfl, hb⟩; replace q0 := kept hb q0; replace q1 := kept hb q1; replace q2 := kept hb q2; replace q3 := kept hb q3; replace q4 := kept hb q4; replace q5 := kept hb q5; replace q6 := kept hb q6; replace q18 := kept hb q18; replace hR := rangeAt_kept hR hb; replace hbt := below2 hbt hb; replace ho := ho.kept hb)
    | (go_at_call 72; refine (HO.out _ ho).mono ?_; rintro x w1 ⟨rfl, hb⟩; replace q0 := kept hb q0; replace q1 := kept hb q1; replace q2 := kept hb q2; replace q3 := kept hb q3; replace q4 := kept hb q4; replace q5 := kept hb q5; replace q6 := kept hb q6; replace q18 := kept hb q18; replace hR := rangeAt_kept hR hb; replace hbt := below2 hbt hb)
    | (go_at_call 73; refine (HI.out _).mono ?_; rintro x w1 ⟨rfl, hb⟩; replace q0 := kept hb q0; replace q1 := kept hb q1; replace q2 := kept hb q2; replace q3 := kept hb q3; replace q4 := kept hb q4; replace q5 := kept hb q5; replace q6 := kept hb q6; replace q18 := kept hb q18; replace hR := rangeAt_kept hR hb; replace hbt := below2 hbt hb)
    | (go_at_call 74; refine (HC.out _).mono ?_; rintro x w1 ⟨rfl, hb⟩; replace q0 := kept hb q0; replace q1 := kept hb q1; replace q2 := kept hb q2; replace q3 := kept hb q3; replace q4 := kept hb q4; replace q5 := kept hb q5; replace q6 := kept hb q6; replace q18 := kept hb q18; replace hR := rangeAt_kept hR hb; replace hbt := below2 hbt hb))
   go_ret
   exact ⟨ret_bool HE.out.symm, hbt⟩
 | true =>
   rw [h1] at HD0
   cases h2 : stampOk e.stamp with
   | false =>
     have HE : Hid (evOk e = false) := by rw [Hid, HV.out, h1, h2]; rfl
     rw [h2] at HS0
     have HD := Lib.hid HD0
     have HS := Lib.hid HS0
     have HO := Lib.hid HO0
     have HC := Lib.hid HC0
     clear HD0 HS0 HO0 HC0 hk0
     go_wp2_with (first
        | ((with_reducible refine wpList_load_ev _ w.heap.size e a cap hR ?_ rfl ?_); exact rfl)
        | (go_at_call 70; refine (HD.out _).mono ?_; rintro x w1 ⟨rfl, hb⟩; replace q0 := kept hb q0; replace q1 := kept hb q1; replace q2 := kept hb q2; replace q3 := kept hb q3; replace q4 := kept hb q4; replace q5 := kept hb q5; replace q6 := kept hb q6; replace q18 := kept hb q18; replace hR := rangeAt_kept hR hb; replace hbt := below2 hbt hb; replace ho := ho.kept hb)
        | (go_at_call 71; refine (HS.out _).mono ?_; rintro x w1 ⟨rfl, hb⟩; replace q0 := kept hb q0; replace q1 := kept hb q1; replace q2 := kept hb q2; replace q3 := kept hb q3; replace q4 := kept hb q4; replace q5 := kept hb q5; replace q6 := kept hb q6; replace q18 := kept hb q18; replace hR := rangeAt_kept hR hb; replace hbt := below2 hbt hb; replace ho := ho.kept hb)
        | (go_at_call 72; refine (HO.out _ ho).mono ?_; rintro x w1 ⟨rfl, hb⟩; replace q0 := kept hb q0; replace q1 := kept hb q1; replace q2 := kept hb q2; replace q3 := kept hb q3; replace q4 := kept hb q4; replace q5 := kept hb q5; replace q6 := kept hb q6; replace q18 := kept hb q18; replace hR := rangeAt_kept hR hb; replace hbt := below2 hbt hb)
        | (go_at_call 73; refine (HI.out _).mono ?_; rintro x w1 ⟨rfl, hb⟩; replace q0 := kept hb q0; replace q1 := kept hb q1; replace q2 := kept hb q2; replace q3 := kept hb q3; replace q4 := kept hb q4; replace q5 := kept hb q5; replace q6 := kept hb q6; replace q18 := kept hb q18; replace hR := rangeAt_kept hR hb; replace hbt := below2 hbt hb)
        | (go_at_call 74; refine (HC.out _).mono ?_; rintro x w1 ⟨rfl, hb⟩; replace q0 := kept hb q0; replace q1 := kept hb q1; replace q2 := kept hb q2; replace q3 := kept hb q3; replace q4 := kept hb q4; replace q5 := kept hb q5; replace q6 := kept hb q6; replace q18 := kept hb q18; replace hR := rangeAt_kept hR hb; replace hbt := below2 hbt hb))
     go_ret
     exact ⟨ret_bool HE.out.symm, hbt⟩
   | true =>
     rw [h2] at HS0
     by_cases h3 : e.stamp.dev = e.dot.a.dev
     ·have h3' : (e.stamp.dev != e.dot.a.dev) = false := by rw [bne_eq_false_iff_eq]; exact h3
      cases h4 : overOk e.dot e.over with
      | false =>
        have HE : Hid (evOk e = false) := by rw [Hid, HV.out, h1, h2, h4, decide_eq_true h3]; rfl
        rw [h4] at HO0
        clear h3
        have HD := Lib.hid HD0
        have HS := Lib.hid HS0
        have HO := Lib.hid HO0
        have HC := Lib.hid HC0
        clear HD0 HS0 HO0 HC0 hk0
        go_wp2_with (first
         | ((with_reducible refine wpList_load_ev _ w.heap.size e a cap hR ?_ rfl ?_); exact rfl)
         | (go_at_call 70; refine (HD.out _).mono ?_; rintro x w1 ⟨rfl, hb⟩; replace q0 := kept hb q0; replace q1 := kept hb q1; replace q2 := kept hb q2; replace q3 := kept hb q3; replace q4 := kept hb q4; replace q5 := kept hb q5; replace q6 := kept hb q6; replace q18 := kept hb q18; replace hR := rangeAt_kept hR hb; replace hbt := below2 hbt hb; replace ho := ho.kept hb)
         | (go_at_call 71; refine (HS.out _).mono ?_; rintro x w1 ⟨rfl, hb⟩; replace q0 := kept hb q0; replace q1 := kept hb q1; replace q2 := kept hb q2; replace q3 := kept hb q3; replace q4 := kept hb q4; replace q5 := kept hb q5; replace q6 := kept hb q6; replace q18 := kept hb q18; replace hR := rangeAt_kept hR hb; replace hbt := below2 hbt hb; replace ho := ho.kept hb)
         | (go_at_call 72; refine (HO.out _ ho).mono ?_; rintro x w1 ⟨rfl, hb⟩; replace q0 := kept hb q0; replace q1 := kept hb q1; replace q2 := kept hb q2; replace q3 := kept hb q3; replace q4 := kept hb q4; replace q5 := kept hb q5; replace q6 := kept hb q6; replace q18 := kept hb q18; replace hR := rangeAt_kept hR hb; replace hbt := below2 hbt hb)
         | (go_at_call 73; refine (HI.out _).mono ?_; rintro x w1 ⟨rfl, hb⟩; replace q0 := kept hb q0; replace q1 := kept hb q1; replace q2 := kept hb q2; replace q3 := kept hb q3; replace q4 := kept hb q4; replace q5 := kept hb q5; replace q6 := kept hb q6; replace q18 := kept hb q18; replace hR := rangeAt_kept hR hb; replace hbt := below2 hbt hb)
         | (go_at_call 74; refine (HC.out _).mono ?_; rintro x w1 ⟨rfl, hb⟩; replace q0 := kept hb q0; replace q1 := kept hb q1; replace q2 := kept hb q2; replace q3 := kept hb q3; replace q4 := kept hb q4; replace q5 := kept hb q5; replace q6 := kept hb q6; replace q18 := kept hb q18; replace hR := rangeAt_kept hR hb; replace hbt := below2 hbt hb))
        go_ret
        exact ⟨ret_bool HE.out.symm, hbt⟩
      | true =>
        have HK : Hid (evOk e = kindOk e) := by rw [Hid, HV.out, h1, h2, h4, decide_eq_true h3]; rfl
        rw [h4] at HO0
        clear h3
        by_cases hk2 : e.kind = 2
        ·rw [if_pos hk2] at hk0
         have e2 : (e.kind == 2) = true := beq_iff_eq.2 hk2
         clear hk2
         cases hz0 : decide (e.key = key0) && decide (e.ck = ck0) with
         | false =>
           have HE : Hid (evOk e = false) := by rw [Hid, HK.out, hk0, hz0]; rfl
           rw [hz0] at hq0
           clear hz0
           have HD := Lib.hid HD0
           have HS := Lib.hid HS0
           have HO := Lib.hid HO0
           have HC := Lib.hid HC0
           clear HD0 HS0 HO0 HC0 hk0
           go_wp2_with (first
             | ((with_reducible refine wpList_load_ev _ w.heap.size e a cap hR ?_ rfl ?_); exact rfl)
             | (go_at_call 70; refine (HD.out _).mono ?_; rintro x w1 ⟨rfl, hb⟩; replace q0 := kept hb q0; replace q1 := kept hb q1; replace q2 := kept hb q2; replace q3 := kept hb q3; replace q4 := kept hb q4; replace q5 := kept hb q5; replace q6 := kept hb q6; replace q18 := kept hb q18; replace hR := rangeAt_kept hR hb; replace hbt := below2 hbt hb; replace ho := ho.kept hb)
             | (go_at_call 71; refine (HS.out _).mono ?_; rintro x w1 ⟨rfl, hb⟩; replace q0 := kept hb q0; replace q1 := kept hb q1; replace q2 := kept hb q2; replace q3 := kept hb q3; replace q4 := kept hb q4; replace q5 := kept hb q5; replace q6 := kept hb q6; replace q18 := kept hb q18; replace hR := rangeAt_kept hR hb; replace hbt := below2 hbt hb; replace ho := ho.kept hb)
             | (go_at_call 72; refine (HO.out _ ho).mono ?_; rintro x w1 ⟨rfl, hb⟩; replace q0 := kept hb q0; replace q1 := kept hb q1; replace q2 := kept hb q2; replace q3 := kept hb q3; replace q4 := kept hb q4; replace q5 := kept hb q5; replace q6 := kept hb q6; replace q18 := kept hb q18; replace hR := rangeAt_kept hR hb; replace hbt := below2 hbt hb)
             | (go_at_call 73; refine (HI.out _).mono ?_; rintro x w1 ⟨rfl, hb⟩; replace q0 := kept hb q0; replace q1 := kept hb q1; replace q2 := kept hb q2; replace q3 := kept hb q3; replace q4 := kept hb q4; replace q5 := kept hb q5; replace q6 := kept hb q6; replace q18 := kept hb q18; replace hR := rangeAt_kept hR hb; replace hbt := below2 hbt hb)
             | (go_at_call 74; refine (HC.out _).mono ?_; rintro x w1 ⟨rfl, hb⟩; replace q0 := kept hb q0; replace q1 := kept hb q1; replace q2 := kept hb q2; replace q3 := kept hb q3; replace q4 := kept hb q4; replace q5 := kept hb q5; replace q6 := kept hb q6; replace q18 := kept hb q18; replace hR := rangeAt_kept hR hb; replace hbt := below2 hbt hb))
           go_ret
           exact ⟨ret_bool HE.out.symm, hbt⟩
         | true =>
           have HE : Hid (evOk e = decide (0 < e.over.length)) := by rw [Hid, HK.out, hk0, hz0]; rfl
           rw [hz0] at hq0
           clear hz0
           have HD := Lib.hid HD0
           have HS := Lib.hid HS0
           have HO := Lib.hid HO0
           have HC := Lib.hid HC0
           clear HD0 HS0 HO0 HC0 hk0
           go_wp2_with (first
             | ((with_reducible refine wpList_load_ev _ w.heap.size e a cap hR ?_ rfl ?_); exact rfl)
             | (go_at_call 70; refine (HD.out _).mono ?_; rintro x w1 ⟨rfl, hb⟩; replace q0 := kept hb q0; replace q1 := kept hb q1; replace q2 := kept hb q2; replace q3 := kept hb q3; replace q4 := kept hb q4; replace q5 := kept hb q5; replace q6 := kept hb q6; replace q18 := kept hb q18; replace hR := rangeAt_kept hR hb; replace hbt := below2 hbt hb; replace ho := ho.kept hb)
             | (go_at_call 71; refine (HS.out _).mono ?_; rintro x w1 ⟨rfl, hb⟩; replace q0 := kept hb q0; replace q1 := kept hb q1; replace q2 := kept hb q2; replace q3 := kept hb q3; replace q4 := kept hb q4; replace q5 := kept hb q5; replace q6 := kept hb q6; replace q18 := kept hb q18; replace hR := rangeAt_kept hR hb; replace hbt := below2 hbt hb; replace ho := ho.kept hb)
             | (go_at_call 72; refine (HO.out _ ho).mono ?_; rintro x w1 ⟨rfl, hb⟩; replace q0 := kept hb q0; replace q1 := kept hb q1; replace q2 := kept hb q2; replace q3 := kept hb q3; replace q4 := kept hb q4; replace q5 := kept hb q5; replace q6 := kept hb q6; replace q18 := kept hb q18; replace hR := rangeAt_kept hR hb; replace hbt := below2 hbt hb)
             | (go_at_call 73; refine (HI.out _).mono ?_; rintro x w1 ⟨rfl, hb⟩; replace q0 := kept hb q0; replace q1 := kept hb q1; replace q2 := kept hb q2; replace q3 := kept hb q3; replace q4 := kept hb q4; replace q5 := kept hb q5; replace q6 := kept hb q6; replace q18 := kept hb q18; replace hR := rangeAt_kept hR hb; replace hbt := below2 hbt hb)
             | (go_at_call 74; refine (HC.out _).mono ?_; rintro x w1 ⟨rfl, hb⟩; replace q0 := kept hb q0; replace q1 := kept hb q1; replace q2 := kept hb q2; replace q3 := kept hb q3; replace q4 := kept hb q4; replace q5 := kept hb q5; replace q6 := kept hb q6; replace q18 := kept hb q18; replace hR := rangeAt_kept hR hb; replace hbt := below2 hbt hb))
           go_ret
           exact ⟨ret_bool (by first | (rw [HE.out]; done) | (rw [HE.out]; rfl) | (rw [HE.out, Bool.eq_iff_iff]; simp)), hbt⟩
        ·have e2 : (e.kind == 2) = false := beq_eq_false_iff_ne.2 hk2
         rw [if_neg hk2] at hk0
         clear hk2
         by_cases hk1 : e.kind = 1
         ·rw [if_pos hk1] at hk0
          have e1 : (e.kind == 1) = true := beq_iff_eq.2 hk1
          clear hk1
          have HE : Hid (evOk e = itemOk e.key e.ck) := by rw [Hid, HK.out, hk0]
          have HD := Lib.hid HD0
          have HS := Lib.hid HS0
          have HO := Lib.hid HO0
          have HC := Lib.hid HC0
          clear HD0 HS0 HO0 HC0 hk0
          go_wp2_with (first
           | ((with_reducible refine wpList_load_ev _ w.heap.size e a cap hR ?_ rfl ?_); exact rfl)
           | (go_at_call 70; refine (HD.out _).mono ?_; rintro x w1 ⟨rfl, hb⟩; replace q0 := kept hb q0; replace q1 := kept hb q1; replace q2 := kept hb q2; replace q3 := kept hb q3; replace q4 := kept hb q4; replace q5 := kept hb q5; replace q6 := kept hb q6; replace q18 := kept hb q18; replace hR := rangeAt_kept hR hb; replace hbt := below2 hbt hb; replace ho := ho.kept hb)
           | (go_at_call 71; refine (HS.out _).mono ?_; rintro x w1 ⟨rfl, hb⟩; replace q0 := kept hb q0; replace q1 := kept hb q1; replace q2 := kept hb q2; replace q3 := kept hb q3; replace q4 := kept hb q4; replace q5 := kept hb q5; replace q6 := kept hb q6; replace q18 := kept hb q18; replace hR := rangeAt_kept hR hb; replace hbt := below2 hbt hb; replace ho := ho.kept hb)
           | (go_at_call 72; refine (HO.out _ ho).mono ?_; rintro x w1 ⟨rfl, hb⟩; replace q0 := kept hb q0; replace q1 := kept hb q1; replace q2 := kept hb q2; replace q3 := kept hb q3; replace q4 := kept hb q4; replace q5 := kept hb q5; replace q6 := kept hb q6; replace q18 := kept hb q18; replace hR := rangeAt_kept hR hb; replace hbt := below2 hbt hb)
           | (go_at_call 73; refine (HI.out _).mono ?_; rintro x w1 ⟨rfl, hb⟩; replace q0 := kept hb q0; replace q1 := kept hb q1; replace q2 := kept hb q2; replace q3 := kept hb q3; replace q4 := kept hb q4; replace q5 := kept hb q5; replace q6 := kept hb q6; replace q18 := kept hb q18; replace hR := rangeAt_kept hR hb; replace hbt := below2 hbt hb)
           | (go_at_call 74; refine (HC.out _).mono ?_; rintro x w1 ⟨rfl, hb⟩; replace q0 := kept hb q0; replace q1 := kept hb q1; replace q2 := kept hb q2; replace q3 := kept hb q3; replace q4 := kept hb q4; replace q5 := kept hb q5; replace q6 := kept hb q6; replace q18 := kept hb q18; replace hR := rangeAt_kept hR hb; replace hbt := below2 hbt hb))
          go_ret
          exact ⟨ret_bool HE.out.symm, hbt⟩
         ·rw [if_neg hk1] at hk0
          have e1 : (e.kind == 1) = false := beq_eq_false_iff_ne.2 hk1
          clear hk1
          have HE : Hid (evOk e = false) := by rw [Hid, HK.out, hk0]
          have HD := Lib.hid HD0
          have HS := Lib.hid HS0
          have HO := Lib.hid HO0
          have HC := Lib.hid HC0
          clear HD0 HS0 HO0 HC0 hk0
          go_wp2_with (first
           | ((with_reducible refine wpList_load_ev _ w.heap.size e a cap hR ?_ rfl ?_); exact rfl)
           | (go_at_call 70; refine (HD.out _).mono ?_; rintro x w1 ⟨rfl, hb⟩; replace q0 := kept hb q0; replace q1 := kept hb q1; replace q2 := kept hb q2; replace q3 := kept hb q3; replace q4 := kept hb q4; replace q5 := kept hb q5; replace q6 := kept hb q6; replace q18 := kept hb q18; replace hR := rangeAt_kept hR hb; replace hbt := below2 hbt hb; replace ho := ho.kept hb)
           | (go_at_call 71; refine (HS.out _).mono ?_; rintro x w1 ⟨rfl, hb⟩; replace q0 := kept hb q0; replace q1 := kept hb q1; replace q2 := kept hb q2; replace q3 := kept hb q3; replace q4 := kept hb q4; replace q5 := kept hb q5; replace q6 := kept hb q6; replace q18 := kept hb q18; replace hR := rangeAt_kept hR hb; replace hbt := below2 hbt hb; replace ho := ho.kept hb)
           | (go_at_call 72; refine (HO.out _ ho).mono ?_; rintro x w1 ⟨rfl, hb⟩; replace q0 := kept hb q0; replace q1 := kept hb q1; replace q2 := kept hb q2; replace q3 := kept hb q3; replace q4 := kept hb q4; replace q5 := kept hb q5; replace q6 := kept hb q6; replace q18 := kept hb q18; replace hR := rangeAt_kept hR hb; replace hbt := below2 hbt hb)
           | (go_at_call 73; refine (HI.out _).mono ?_; rintro x w1 ⟨rfl, hb⟩; replace q0 := kept hb q0; replace q1 := kept hb q1; replace q2 := kept hb q2; replace q3 := kept hb q3; replace q4 := kept hb q4; replace q5 := kept hb q5; replace q6 := kept hb q6; replace q18 := kept hb q18; replace hR := rangeAt_kept hR hb; replace hbt := below2 hbt hb)
           | (go_at_call 74; refine (HC.out _).mono ?_; rintro x w1 ⟨rfl, hb⟩; replace q0 := kept hb q0; replace q1 := kept hb q1; replace q2 := kept hb q2; replace q3 := kept hb q3; replace q4 := kept hb q4; replace q5 := kept hb q5; replace q6 := kept hb q6; replace q18 := kept hb q18; replace hR := rangeAt_kept hR hb; replace hbt := below2 hbt hb))
          go_ret
          exact ⟨ret_bool HE.out.symm, hbt⟩
     ·have h3' : (e.stamp.dev != e.dot.a.dev) = true := by rw [bne_iff_ne]; exact h3
      have HE : Hid (evOk e = false) := by rw [Hid, HV.out, h1, h2, decide_eq_false h3]; rfl
      clear h3
      have HD := Lib.hid HD0
      have HS := Lib.hid HS0
      have HO := Lib.hid HO0
      have HC := Lib.hid HC0
      clear HD0 HS0 HO0 HC0 hk0
      go_wp2_with (first
       | ((with_reducible refine wpList_load_ev _ w.heap.size e a cap hR ?_ rfl ?_); exact rfl)
       | (go_at_call 70; refine (HD.out _).mono ?_; rintro x w1 ⟨rfl, hb⟩; replace q0 := kept hb q0; replace q1 := kept hb q1; replace q2 := kept hb q2; replace q3 := kept hb q3; replace q4 := kept hb q4; replace q5 := kept hb q5; replace q6 := kept hb q6; replace q18 := kept hb q18; replace hR := rangeAt_kept hR hb; replace hbt := below2 hbt hb; replace ho := ho.kept hb)
       | (go_at_call 71; refine (HS.out _).mono ?_; rintro x w1 ⟨rfl, hb⟩; replace q0 := kept hb q0; replace q1 := kept hb q1; replace q2 := kept hb q2; replace q3 := kept hb q3; replace q4 := kept hb q4; replace q5 := kept hb q5; replace q6 := kept hb q6; replace q18 := kept hb q18; replace hR := rangeAt_kept hR hb; replace hbt := below2 hbt hb; replace ho := ho.kept hb)
       | (go_at_call 72; refine (HO.out _ ho).mono ?_; rintro x w1 ⟨rfl, hb⟩; replace q0 := kept hb q0; replace q1 := kept hb q1; replace q2 := kept hb q2; replace q3 := kept hb q3; replace q4 := kept hb q4; replace q5 := kept hb q5; replace q6 := kept hb q6; replace q18 := kept hb q18; replace hR := rangeAt_kept hR hb; replace hbt := below2 hbt hb)
       | (go_at_call 73; refine (HI.out _).mono ?_; rintro x w1 ⟨rfl, hb⟩; replace q0 := kept hb q0; replace q1 := kept hb q1; replace q2 := kept hb q2; replace q3 := kept hb q3; replace q4 := kept hb q4; replace q5 := kept hb q5; replace q6 := kept hb q6; replace q18 := kept hb q18; replace hR := rangeAt_kept hR hb; replace hbt := below2 hbt hb)
       | (go_at_call 74; refine (HC.out _).mono ?_; rintro x w1 ⟨rfl, hb⟩; replace q0 := kept hb q0; replace q1 := kept hb q1; replace q2 := kept hb q2; replace q3 := kept hb q3; replace q4 := kept hb q4; replace q5 := kept hb q5; replace q6 := kept hb q6; replace q18 := kept hb q18; replace hR := rangeAt_kept hR hb; replace hbt := below2 hbt hb))
      go_ret
      exact ⟨ret_bool HE.out.symm, hbt⟩
end Go.Proofs.YtohcmljigcdmbaaGreat
