/- The reference's disk: how it lies in memory; change, Find, get. Conditions: as in the text. -/
import Derived.Test.YtbkelbdeodbhcaaDiskG
import Derived.Test.YtbkelbdeodbhcaaCel
import Derived.Laws.ResultCell
import Derived.Deep.MidRow
set_option linter.unusedSimpArgs false
set_option linter.unusedVariables false
set_option linter.unnecessarySimpa false
namespace Go.Proofs.Ytbkelbdeodbhcaa
open Go.RowKit

/-- a file of the reference's, with where its bytes lie -/
structure RF where
  f : DF
  a : Option Addr
  cap : Nat
abbrev rfCells (g : RF) : List Value := [.string g.f.name, .slice g.a g.f.b.length g.cap, .int .i64 g.f.safe]
abbrev rfVal (g : RF) : Value := .agg #[.string g.f.name, .slice g.a g.f.b.length g.cap, .int .i64 g.f.safe]
structure RFOk (w : World) (g : RF) : Prop where
  bytes : BytesIn w g.a g.f.b
  cap : g.f.b.length ≤ g.cap
theorem RFOk.kept {w w' : World} {g : RF} (h : RFOk w g) (hb : Below w.heap.size w w') : RFOk w' g := ⟨h.bytes.kept hb, h.cap⟩
abbrev rfsOf (l : List RF) : List DF := l.map (·.f)
/-- the cells of files, one behind the other -/
def fcs : List RF → List Value
  | [] => []
  | g :: l => rfCells g ++ fcs l
theorem fcs_append (l m : List RF) : fcs (l ++ m) = fcs l ++ fcs m := by
  induction l with
  | nil => rfl
  | cons g l ih => simp only [List.cons_append, fcs, ih, List.append_assoc]
theorem fcs_length (l : List RF) : (fcs l).length = l.length * 3 := by
  induction l with
  | nil => rfl
  | cons g l ih => simp only [fcs, List.length_append, ih, List.length_cons, List.length_nil]; omega
theorem fcs_drop : ∀ (l : List RF) (k : Nat), (fcs l).drop (k * 3) = fcs (l.drop k)
  | l, 0 => by simp
  | [], k + 1 => by simp [fcs]
  | g :: l, k + 1 => by
    rw [show (k + 1) * 3 = k * 3 + 3 by omega, List.drop_succ_cons, ← fcs_drop l k]
    simp [fcs]
theorem fcs_take : ∀ (l : List RF) (k : Nat), (fcs l).take (k * 3) = fcs (l.take k)
  | l, 0 => by simp [fcs]
  | [], k + 1 => by simp [fcs]
  | g :: l, k + 1 => by
    rw [show (k + 1) * 3 = k * 3 + 3 by omega, List.take_succ_cons]
    simp only [fcs]
    rw [← fcs_take l k]
    simp
theorem fcs_one (l : List RF) : ∀ u ∈ fcs l, u.oneCell' = true := by
  induction l with
  | nil => intro u hu; cases hu
  | cons g l ih =>
    intro u hu
    rcases List.mem_append.1 hu with h | h
    · simp only [List.mem_cons, List.not_mem_nil, or_false] at h
      rcases h with rfl | rfl | rfl <;> rfl
    · exact ih u h
theorem fcs_at (l : List RF) (i : Nat) (h : i < l.length) (j : Nat) (hj : j < 3) : (fcs l)[i * 3 + j]? = (rfCells l[i])[j]? := by
  rw [← List.getElem?_drop, fcs_drop, List.drop_eq_getElem_cons h]
  simp only [fcs]
  rw [List.getElem?_append_left (by simpa using hj)]
/-- a slice of files -/
structure RFsIn (w : World) (a : Option Addr) (l : List RF) : Prop where
  rows : CellsIn w a (fcs l)
  ok : ∀ g ∈ l, RFOk w g
theorem RFsIn.kept {w w' : World} {a : Option Addr} {l : List RF} (h : RFsIn w a l) (hb : Below w.heap.size w w') : RFsIn w' a l := ⟨h.rows.kept hb, fun g hg => (h.ok g hg).kept hb⟩
theorem RFsIn.at {w : World} {a : Option Addr} {l : List RF} (h : RFsIn w a l) {k : Nat} (hk : k < l.length) :
    ∃ A off, a = some ⟨A, off, none⟩ ∧ (∀ i (h : i < l.length), w.rangeAt A (off + i * 3) (rfCells l[i])) ∧ RFOk w l[k] := by
  rcases h.rows with h1 | ⟨A, off, h1, h2⟩
  · have := congrArg List.length h1
    rw [fcs_length] at this
    simp at this
    omega
  · refine ⟨A, off, h1, fun i hi j v hv => ?_, h.ok _ (List.getElem_mem hk)⟩
    have hj : j < 3 := by have := (List.getElem?_eq_some_iff.1 hv).1; simpa using this
    have := h2 (i * 3 + j) v (by rw [fcs_at l i hi j hj]; exact hv)
    rwa [← Nat.add_assoc] at this
/-- a function's one result: new files -/
def RetFs (l : List RF) (w : World) (e : Ending) (w' : World) : Prop := ∃ a cap, e = .returned (.slice a l.length cap) ∧ RFsIn w' a l ∧ l.length ≤ cap ∧ Below w.heap.size w w'
/-- one result that is a struct in a block of its own, and another one -/
theorem retCT {P : Program} {fn : Func} {R : Ending → World → Prop} {a : Act} {w : World} (p u : Tmp) (ty t : TypeId) (g : Nat) (c : Array Value) (d : TypeDesc) (v : Value) (hr : fn.results = #[.cell p ty, .tmp u])
    (hp : a.tmps.getD p undef = .pointer (some ⟨g, 0, none⟩)) (hv : a.tmps.getD u undef = v) (hg : w.heap[g]? = some (.cells c t (0, 0))) (hu : P.underlying ty = some d) (hd : d.isRow = true) (hi : (P.info? ty).map (·.size) = some c.size)
    (hde : a.defers = []) (hR : R (.returned (.tuple #[.agg c, v])) w) : bodyPost P fn R .ret a w := by
  have h1 : w.rangeAt g 0 c.toList := fun j v hv => by
    rw [Nat.zero_add]
    simp only [World.cell?, hg]
    simpa using hv
  have h2 := run_loadVar_mid (P := P) w g 0 ty c.toList d h1 hu hd (by simpa using hi)
  refine bodyPost_ret ?_ hde hR
  rw [results_cell_tmp hr, hp, hv]
  simp [asAddr, h2, Result.andThen]
theorem heap_last0 (w : World) (o : Obj) : (w.alloc o).heap[w.heap.size]? = some o := by show (w.heap.push o)[w.heap.size]? = some o; simp
theorem heap_last1 (w : World) (o p : Obj) : ((w.alloc o).alloc p).heap[w.heap.size + 1]? = some p := by
  have := heap_last0 (w.alloc o) p
  rwa [show (w.alloc o).heap.size = w.heap.size + 1 by simp] at this
/-- the reference's disk as a value -/
abbrev rdkVal (a : Option Addr) (n cap arm : Nat) (down : Bool) : Value := .agg #[.slice a n cap, .int .i64 arm, .bool down]

set_option maxHeartbeats 400000 in
theorem rChange_any (a : Option Addr) (n cap arm : Nat) (down : Bool) (w : World) (ha : arm ≤ 1048576) :
    Calls Try.prog 43 #[rdkVal a n cap arm down] w fun e w' =>
      e = .returned (.tuple #[rdkVal a n cap (arm - 1) (chg arm down), .int .i64 (if chg arm down then 12 else 0)]) ∧ Below w.heap.size w w' := by
  by_cases h0 : arm = 0
  case pos =>
    subst h0
    have hr : chg 0 down = down := by cases down <;> rfl
    simp only [hr]
    clear hr
    cases down
    all_goals
      go_enter Try.func43, Try.ntmps43
      go_wp2
      refine retCT 2 3 29 29 (w.heap.size + 1) _ _ _ rfl rfl rfl (heap_last1 _ _ _) Try.underlying29 rfl (by kernel_rfl) rfl ?_
      exact ⟨rfl, by go_grown⟩
  case neg =>
  obtain ⟨m, rfl⟩ : ∃ m, arm = m + 1 := ⟨arm - 1, by omega⟩
  by_cases hm : m = 0
  case pos =>
    subst hm
    have hr : chg 1 down = true := by cases down <;> rfl
    simp only [hr, if_true]
    clear hr
    cases down
    all_goals
      go_enter Try.func43, Try.ntmps43
      go_wp2
      refine retCT 2 3 29 29 (w.heap.size + 1) _ _ _ rfl rfl rfl (heap_last1 _ _ _) Try.underlying29 rfl (by kernel_rfl) rfl ?_
      exact ⟨rfl, by go_grown⟩
  case neg =>
  have hr : chg (m + 1) down = down := by cases down <;> simp [chg, hm]
  simp only [hr]
  clear hr
  have q : ((m : Int) + 1 == 1) = false := beq_eq_false_iff_ne.2 (by omega)
  have q' : decide ((0 : Int) < (m : Int) + 1) = true := decide_eq_true (by omega)
  cases down
  all_goals
    go_enter Try.func43, Try.ntmps43
    go_wp2
    refine retCT 2 3 29 29 (w.heap.size + 1) _ _ _ rfl rfl rfl (heap_last1 _ _ _) Try.underlying29 rfl (by kernel_rfl) rfl ?_
    exact ⟨by simp, by go_grown⟩
end Go.Proofs.Ytbkelbdeodbhcaa
