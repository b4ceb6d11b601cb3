/- The reference's events: put. Conditions: at most 2^20 of them. -/
import Derived.Test.YtcijajjngmmbeaaGreatRefM
import Derived.Test.YtcijajjngmmbeaaGreatOrmH
import Derived.Test.YtcijajjngmmbeaaGreatTrod
set_option linter.unusedSimpArgs false
set_option linter.unusedVariables false
set_option linter.unnecessarySimpa false
namespace Go.Proofs.YtcijajjngmmbeaaGreat
open Go.RowKit

theorem flat_take {α : Type} {f : α → List Value} {n : Nat} (hf : ∀ x, (f x).length = n) : ∀ (l : List α) (k : Nat), (l.flatMap f).take (k * n) = (l.take k).flatMap f
  | l, 0 => by simp
  | [], k + 1 => by simp
  | g :: l, k + 1 => by
    rw [show (k + 1) * n = n + k * n by rw [Nat.add_mul]; omega, List.take_succ_cons, List.flatMap_cons, List.flatMap_cons, ← flat_take hf l k, List.take_append, hf g, List.take_of_length_le (by rw [hf g]; omega)]
    simp
theorem flat_drop {α : Type} {f : α → List Value} {n : Nat} (hf : ∀ x, (f x).length = n) : ∀ (l : List α) (k : Nat), (l.flatMap f).drop (k * n) = (l.drop k).flatMap f
  | l, 0 => by simp
  | [], k + 1 => by simp
  | g :: l, k + 1 => by
    rw [show (k + 1) * n = n + k * n by rw [Nat.add_mul]; omega, List.drop_succ_cons, List.flatMap_cons, ← flat_drop hf l k, List.drop_append, hf g, List.drop_of_length_le (by rw [hf g]; omega)]
    simp
theorem itEv_len (x : EvIt) : (itEv x).length = 19 := rfl
theorem evIt_take (l : List EvIt) (k : Nat) : (evItCells l).take (k * 19) = evItCells (l.take k) := flat_take itEv_len l k
theorem evIt_drop (l : List EvIt) (k : Nat) : (evItCells l).drop (k * 19) = evItCells (l.drop k) := flat_drop itEv_len l k
theorem evIt_length (l : List EvIt) : (evItCells l).length = l.length * 19 := by
  induction l with
  | nil => rfl
  | cons x l ih =>
    show (itEv x ++ evItCells l).length = _
    rw [List.length_append, ih, itEv_len, List.length_cons]
    omega
theorem evIt_one (l : List EvIt) : ∀ u ∈ evItCells l, u.oneCell' = true := by
  intro u hu
  obtain ⟨x, _, hx⟩ := List.mem_flatMap.1 hu
  exact evCells_one _ _ _ u hx
theorem EvsIn.cells {w : World} {a : Option Addr} {ls : List EvIt} (h : EvsIn w a ls) : CellsIn w a (evItCells ls) := by
  rcases h.rows with h1 | ⟨A, off, h1, h2⟩
  · exact Or.inl (by rw [h1]; rfl)
  · exact Or.inr ⟨A, off, h1, range_flat itEv 19 ls off fun i hi => ⟨itEv_len _, h2 i hi⟩⟩
theorem ev_cells_new (w : World) (e : Ev) (a : Option Addr) (c : Nat) : CellsIn (w.alloc (.cells (evCells e a c).toArray 42)) (some ⟨w.heap.size, 0, none⟩) (evCells e a c) := by
  refine Or.inr ⟨_, _, rfl, fun j v hv => ?_⟩
  rw [Nat.zero_add, World.cell?_alloc_new]
  simpa using hv
/-- one event more, by its dot -/
def insE (e : Ev) : List Ev → List Ev
  | [] => [e]
  | x :: l => if dotLt x.dot e.dot = true then x :: insE e l else e :: x :: l

end Go.Proofs.YtcijajjngmmbeaaGreat

/- The reference's map: Apply. Conditions: as in the text. -/
namespace Go.Proofs.YtcijajjngmmbeaaGreat
open Go.RowKit

theorem slice_inj {a b : Option Addr} {n m c d : Nat} (h : Value.slice a n c = Value.slice b m d) : a = b ∧ c = d := by
  simp only [Value.slice.injEq] at h
  exact ⟨h.1, h.2.2⟩
/-- the reference's map, plainly -/
structure RM where
  ctx : List Dot
  kept : List Ev
  dead : List Dot
/-- and with the addresses of its lists -/
structure RMIt where
  ac : Option Addr
  ctx : List Dot
  cc : Nat
  aK : Option Addr
  K : List EvIt
  cK : Nat
  ad : Option Addr
  dead : List Dot
  cd : Nat
abbrev rmCells (x : RMIt) : List Value := [.slice x.ac x.ctx.length x.cc, .slice x.aK x.K.length x.cK, .slice x.ad x.dead.length x.cd]
abbrev rmVal (x : RMIt) : Value := .agg #[.slice x.ac x.ctx.length x.cc, .slice x.aK x.K.length x.cK, .slice x.ad x.dead.length x.cd]
def RMIt.rm (x : RMIt) : RM := ⟨x.ctx, evsOf x.K, x.dead⟩
structure RMIn (w : World) (x : RMIt) : Prop where
  ctx : DotsIn w x.ac x.ctx
  kept : EvsIn w x.aK x.K
  dead : DotsIn w x.ad x.dead
  cc : x.ctx.length ≤ x.cc
  cK : x.K.length ≤ x.cK
  cd : x.dead.length ≤ x.cd
theorem RMIn.keep {w w' : World} {x : RMIt} (h : RMIn w x) (hb : Below w.heap.size w w') : RMIn w' x := ⟨h.ctx.kept hb, h.kept.kept hb, h.dead.kept hb, h.cc, h.cK, h.cd⟩
structure RMSize (x : RMIt) : Prop where
  ctx : x.ctx.length ≤ 1048576
  K : x.K.length ≤ 524288
  dead : x.dead.length ≤ 524288
  ok : ∀ d ∈ x.ctx, dotOk d = true
def rmOk (r : RM) (e : Ev) : Bool := evOk e && (!hasM r.ctx e.dot && (decide (getM r.ctx e.dot.a + 1 = e.dot.seq) && decide (r.kept.length < 2048)))
def rmErr (r : RM) (e : Ev) : Int := if evOk e = true then (if hasM r.ctx e.dot = true then 0 else if getM r.ctx e.dot.a + 1 = e.dot.seq then (if r.kept.length < 2048 then 0 else 9) else 6) else 1
def rmAp (r : RM) (e : Ev) : RM := if rmOk r e = true then ⟨rsetM r.ctx e.dot.a e.dot.seq, insE e r.kept, sortD (r.dead ++ e.over)⟩ else r

end Go.Proofs.YtcijajjngmmbeaaGreat
