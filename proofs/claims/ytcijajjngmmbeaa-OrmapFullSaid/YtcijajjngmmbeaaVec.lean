/- Vectors: Get, Has. Conditions: as in the text. -/
import Derived.Test.YtcijajjngmmbeaaKeys
import Derived.Test.YtcijajjngmmbeaaCelB
set_option linter.unusedSimpArgs false
set_option linter.unusedVariables false
set_option linter.unnecessarySimpa false
namespace Go.Proofs.Ytcijajjngmmbeaa
open Go.RowKit

theorem exec_look {P : Program} {o : Oper} {a : Act} {w : World} (t : TypeId) (m x : Operand) (c : Bool) (ho : o.op = .lookup t m x c) (v : Value) (h : (Instr.lookup t (a.eval m) (a.eval x) c).run P w = .ok v w) : (execOp a.eval o).run P w = .ok (.value v) w := by
  unfold execOp
  simp only [ho]
  simp [Sem.run_bind, h, Result.andThen]

/-- marks: an actor's number -/
def getM (l : List Dot) (a : Actor) : Int := match l.find? fun d => decide (d.a = a) with | some d => d.seq | none => 0
def hasM (l : List Dot) (d : Dot) : Bool := dotOk d && decide (d.seq ≤ getM l d.a)
/-- marks as entries -/
def ents (l : List Dot) : List (Actor × Int) := l.map fun d => (d.a, d.seq)
abbrev intVal (n : Int) : Value := .int .i64 n
/-- block v holds a vector whose map lies in block b: marks l -/
structure VecIn (w : World) (v b : Nat) (l : List Dot) : Prop where
  cell : w.heap[v]? = some (.cells #[.map (some b)] 62 (0, 0))
  tab : Tab Try.prog 25 actVal ActW intVal w b (ents l)
theorem VecIn.block {w w' : World} {v b : Nat} {l : List Dot} (h : VecIn w v b l) (h1 : w'.heap[v]? = w.heap[v]?) (h2 : w'.heap[b]? = w.heap[b]?) : VecIn w' v b l := ⟨h1.trans h.cell, h.tab.block h2⟩
theorem VecIn.kept {w w' : World} {v b : Nat} {l : List Dot} (h : VecIn w v b l) (hb : Below w.heap.size w w') : VecIn w' v b l := h.block (hb.block v (lt_of_block h.cell)) (hb.block b h.tab.lt)
theorem VecIn.fr {S : Nat → Prop} {w w' : World} {v b : Nat} {l : List Dot} (h : VecIn w v b l) (hf : Fr S w w') (h1 : ¬ S v) (h2 : ¬ S b) : VecIn w' v b l := h.block (hf.block v (lt_of_block h.cell) h1) (hf.block b h.tab.lt h2)
theorem one_cell {w : World} {R : Nat} {x : Value} {t : TypeId} (h : w.heap[R]? = some (.cells #[x] t (0, 0))) : w.cell? ⟨R, 0, none⟩ = some x ∧ w.frozen? ⟨R, 0, none⟩ = false := by
  simp [World.cell?, World.frozen?, h]
theorem getM_some {l : List Dot} {a : Actor} {d : Dot} (h : l.find? (fun d => decide (d.a = a)) = some d) : getM l a = d.seq ∧ d ∈ l ∧ d.a = a := by
  refine ⟨by unfold getM; rw [h], List.mem_of_find?_eq_some h, ?_⟩
  simpa using List.find?_some h
theorem getM_none {l : List Dot} {a : Actor} (h : l.find? (fun d => decide (d.a = a)) = none) : getM l a = 0 ∧ ∀ d ∈ l, d.a ≠ a := by
  refine ⟨by unfold getM; rw [h], fun d hd => ?_⟩
  simpa using List.find?_eq_none.1 h d hd
theorem VecIn.look {w : World} {v b : Nat} {l : List Dot} (h : VecIn w v b l) {a : Actor} (ha : ActW a) :
    (Instr.lookup 60 (.map (some b)) (actVal a) false).run Try.prog w = .ok (.int .i64 (getM l a)) w := by
  cases hf : l.find? fun d => decide (d.a = a) with
  | some d =>
    obtain ⟨h1, h2, h3⟩ := getM_some hf
    have := h.tab.look_hit kActor Try.underlying60 (z := .int .i64 0) (by kernel_rfl) (p := (d.a, d.seq)) (List.mem_map.2 ⟨d, h2, rfl⟩) false
    rw [h1, ← h3]
    exact this
  | none =>
    obtain ⟨h1, h2⟩ := getM_none hf
    have := h.tab.look_miss kActor Try.underlying60 (z := .int .i64 0) (by kernel_rfl) ha (fun p hp => by obtain ⟨d, hd, rfl⟩ := List.mem_map.1 hp; exact h2 d hd) false
    rw [h1]
    exact this

/-! ### Get -/
set_option maxHeartbeats 400000 in
theorem vGet_nil (a : Actor) (w : World) : Calls Try.prog 13 #[.pointer none, actVal a] w fun e w' => e = .returned (.int .i64 0) ∧ Below w.heap.size w w' := by
  go_enter Try.func13, Try.ntmps13
  go_wp2
  all_goals
    go_ret
    exact ⟨rfl, by go_grown⟩
set_option maxRecDepth 100000 in
set_option maxHeartbeats 400000 in
theorem vGet_any {v b : Nat} {l : List Dot} (a : Actor) (ha : ActW a) (w : World) (h : VecIn w v b l) : Calls Try.prog 13 #[.pointer (some ⟨v, 0, none⟩), actVal a] w fun e w' => e = .returned (.int .i64 (getM l a)) ∧ Below w.heap.size w w' := by
  go_enter Try.func13, Try.ntmps13
  go_upto_region 3 with fail
  refine wp_region_after (by kernel_rfl) (by kernel_rfl) (fun W hW => ?_)
  have hbw : Below w.heap.size w W := by rw [hW.out]; go_grown
  have h1 := h.kept hbw
  have x0 : ∀ i : After W, i.w.cell? ⟨w.heap.size, 0, none⟩ = some (.int .i64 a.dev) := fun i => i.cell (by rw [hW.out]; go_simp)
  have x1 : ∀ i : After W, i.w.cell? ⟨w.heap.size, 1, none⟩ = some (.int .i64 a.inc) := fun i => i.cell (by rw [hW.out]; go_simp)
  have y0 : ∀ i : After W, i.w.cell? ⟨v, 0, none⟩ = some (.map (some b)) := fun i => i.cell (one_cell h1.cell).1
  clear hW h
  go_big_quiet_step (fail)
  go_big_quiet_step (fail)
  go_big_quiet_step (fail)
  go_big_quiet_step (fail)
  go_big_quiet_step (fail)
  refine wpQuiet_of_exec (by rfl) _ (fun X hX => by obtain ⟨i, rfl⟩ := hX; exact exec_look _ _ _ _ rfl _ ((h1.kept i.h).look ha)) ?_
  try simp only [Act.put, List.setIfInBounds_toArray, List.set_cons_zero, List.set_cons_succ]
  go_big_quiet_step (fail)
  refine wpQuiet_nil ?_
  rintro _ ⟨i, rfl⟩
  have hib := i.h
  generalize i.w = wi at hib ⊢
  go_wp2
  go_ret
  exact ⟨rfl, below2 hbw hib⟩

/-! ### Has -/
set_option maxRecDepth 100000 in
set_option maxHeartbeats 400000 in
theorem vHas_any {v b : Nat} {l : List Dot} (d : Dot) (w : World) (h : VecIn w v b l) : Calls Try.prog 12 #[.pointer (some ⟨v, 0, none⟩), dotVal d] w fun e w' => e = .returned (.bool (hasM l d)) ∧ Below w.heap.size w w' := by
  have HR0 := fun (X : World) => dotRight_any d X
  cases hd : dotOk d with
  | false =>
    have HE : Hid (hasM l d = false) := by unfold Hid hasM; rw [hd]; rfl
    rw [hd] at HR0
    have HR := Lib.hid HR0
    clear HR0 hd
    go_enter Try.func12, Try.ntmps12
    go_upto_region 1 with fail
    refine wp_region_after (by kernel_rfl) (by kernel_rfl) (fun W hW => ?_)
    have hbw : Below w.heap.size w W := by rw [hW.out]; go_grown
    have x0 : ∀ i : After W, i.w.cell? ⟨w.heap.size, 0, none⟩ = some (.int .i64 d.a.dev) := fun i => i.cell (by rw [hW.out]; go_simp)
    have x1 : ∀ i : After W, i.w.cell? ⟨w.heap.size, 1, none⟩ = some (.int .i64 d.a.inc) := fun i => i.cell (by rw [hW.out]; go_simp)
    have x2 : ∀ i : After W, i.w.cell? ⟨w.heap.size, 2, none⟩ = some (.int .i64 d.seq) := fun i => i.cell (by rw [hW.out]; go_simp)
    clear hW h
    go_big_quiet_step (fail)
    go_big_quiet_step (exact Calls.after (HR.out _))
    go_big_quiet_step (fail)
    go_big_quiet_step (fail)
    go_big_quiet_step (fail)
    go_big_quiet_step (fail)
    go_big_quiet_step (fail)
    go_big_quiet_step (fail)
    go_big_quiet_step (fail)
    go_big_quiet_step (fail)
    go_big_quiet_step (fail)
    go_big_quiet_step (fail)
    refine wpQuiet_nil ?_
    rintro _ ⟨i, rfl⟩
    have hib := i.h
    generalize i.w = wi at hib ⊢
    go_wp2
    go_ret
    exact ⟨ret_bool HE.out.symm, below2 hbw hib⟩
  | true =>
    have hW0 := dotOk_W hd
    have HE : Hid (hasM l d = decide (d.seq ≤ getM l d.a)) := by unfold Hid hasM; rw [hd]; rfl
    rw [hd] at HR0
    have HR := Lib.hid HR0
    have HG := Lib.hid (fun (X : World) (h : VecIn X v b l) => vGet_any d.a hW0.a X h)
    clear HR0 hd hW0
    go_enter Try.func12, Try.ntmps12
    go_upto_region 1 with fail
    refine wp_region_after (by kernel_rfl) (by kernel_rfl) (fun W hW => ?_)
    have hbw : Below w.heap.size w W := by rw [hW.out]; go_grown
    have h1 := h.kept hbw
    have x0 : ∀ i : After W, i.w.cell? ⟨w.heap.size, 0, none⟩ = some (.int .i64 d.a.dev) := fun i => i.cell (by rw [hW.out]; go_simp)
    have x1 : ∀ i : After W, i.w.cell? ⟨w.heap.size, 1, none⟩ = some (.int .i64 d.a.inc) := fun i => i.cell (by rw [hW.out]; go_simp)
    have x2 : ∀ i : After W, i.w.cell? ⟨w.heap.size, 2, none⟩ = some (.int .i64 d.seq) := fun i => i.cell (by rw [hW.out]; go_simp)
    clear hW h
    go_big_quiet_step (fail)
    go_big_quiet_step (exact Calls.after (HR.out _))
    go_big_quiet_step (fail)
    go_big_quiet_step (fail)
    go_big_quiet_step (fail)
    go_big_quiet_step (fail)
    go_big_quiet_step (exact Calls.after (HG.out _ (h1.kept (After.h _))))
    go_big_quiet_step (fail)
    go_big_quiet_step (fail)
    go_big_quiet_step (fail)
    go_big_quiet_step (fail)
    go_big_quiet_step (fail)
    refine wpQuiet_nil ?_
    rintro _ ⟨i, rfl⟩
    have hib := i.h
    generalize i.w = wi at hib ⊢
    go_wp2
    go_ret
    exact ⟨ret_bool (by rw [HE.out]), below2 hbw hib⟩
end Go.Proofs.Ytcijajjngmmbeaa
