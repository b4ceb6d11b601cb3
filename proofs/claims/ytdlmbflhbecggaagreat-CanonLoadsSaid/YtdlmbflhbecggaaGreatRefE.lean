/- The reference's events: put. Conditions: at most 2^20 of them. -/
import Derived.Test.YtdlmbflhbecggaaGreatRefM
import Derived.Test.YtdlmbflhbecggaaGreatOrmH
import Derived.Test.YtdlmbflhbecggaaGreatTrod
set_option linter.unusedSimpArgs false
set_option linter.unusedVariables false
set_option linter.unnecessarySimpa false
set_option maxHeartbeats 16000000
set_option maxRecDepth 100000
namespace Go.Proofs.YtdlmbflhbecggaaGreat
open Go.RowKit
theorem Ak {α : Type} {f : α → List Value} {n : Nat} (hf : ∀ x, (f x).length = n) : ∀ (l : List α) (k : Nat), (l.flatMap f).take (k * n) = (l.take k).flatMap f
 | l, 0 => by simp
 | [], k + 1 => by simp
 | g :: l, k + 1 => by
   rw [show (k + 1) * n = n + k * n by rw [Nat.add_mul]; omega, List.take_succ_cons, List.flatMap_cons, List.flatMap_cons, ← Ak hf l k, List.take_append, hf g, List.take_of_length_le (by rw [hf g]; omega)]
   simp
theorem Am {α : Type} {f : α → List Value} {n : Nat} (hf : ∀ x, (f x).length = n) : ∀ (l : List α) (k : Nat), (l.flatMap f).drop (k * n) = (l.drop k).flatMap f
 | l, 0 => by simp
 | [], k + 1 => by simp
 | g :: l, k + 1 => by
   rw [show (k + 1) * n = n + k * n by rw [Nat.add_mul]; omega, List.drop_succ_cons, List.flatMap_cons, ← Am hf l k, List.drop_append, hf g, List.drop_of_length_le (by rw [hf g]; omega)]
   simp
theorem sU (x : bJ) : (kN x).length = 19 := rfl
theorem Ar (l : List bJ) (k : Nat) : (aS l).take (k * 19) = aS (l.take k) := Ak sU l k
theorem Au (l : List bJ) (k : Nat) : (aS l).drop (k * 19) = aS (l.drop k) := Am sU l k
theorem jW (l : List bJ) : (aS l).length = l.length * 19 := by
 induction l with
 | nil => rfl
 | cons x l ih =>
   show (kN x ++ aS l).length = _
   rw [List.length_append, ih, sU, List.length_cons]
   omega
theorem lh (l : List bJ) : ∀ u ∈ aS l, u.oneCell' = true := by
 intro u hu
 obtain ⟨x, _, hx⟩ := List.mem_flatMap.1 hu
 exact dO _ _ _ u hx
theorem EvsIn.cells {w : World} {a : Option Addr} {ls : List bJ} (h : EvsIn w a ls) : CellsIn w a (aS ls) := by
 rcases h.rows with h1 | ⟨A, off, h1, h2⟩
 ·exact Or.inl (by rw [h1]; rfl)
 ·exact Or.inr ⟨A, off, h1, xC kN 19 ls off fun i hi => ⟨sU _, h2 i hi⟩⟩
theorem jo (w : World) (e : Ev) (a : Option Addr) (c : Nat) : CellsIn (w.alloc (.cells (ag e a c).toArray 64)) (some ⟨w.heap.size, 0, none⟩) (ag e a c) := by
 refine Or.inr ⟨_, _, rfl, fun j v hv => ?_⟩
 rw [Nat.zero_add, World.cell?_alloc_new]
 simpa using hv
/-- one event more, by its dot -/
def uK (e : Ev) : List Ev → List Ev
 | [] => [e]
 | x :: l => if dI x.dot e.dot = true then x :: uK e l else e :: x :: l
theorem uy {a b : Option Addr} {n m c d : Nat} (h : Value.slice a n c = Value.slice b m d) : a = b ∧ c = d := by
 simp only [Value.slice.injEq] at h
 exact ⟨h.1, h.2.2⟩
/-- the reference's map, plainly -/
structure RM where
 ctx : List Dot
 kept : List Ev
 dead : List Dot
/-- and with the addresses of its lists -/
structure RMIt where
 ac : Option Addr
 ctx : List Dot
 cc : Nat
 aK : Option Addr
 K : List bJ
 cK : Nat
 ad : Option Addr
 dead : List Dot
 cd : Nat
abbrev wS (x : RMIt) : List Value := [.slice x.ac x.ctx.length x.cc, .slice x.aK x.K.length x.cK, .slice x.ad x.dead.length x.cd]
abbrev pF (x : RMIt) : Value := .agg #[.slice x.ac x.ctx.length x.cc, .slice x.aK x.K.length x.cK, .slice x.ad x.dead.length x.cd]
def RMIt.rm (x : RMIt) : RM := ⟨x.ctx, aQ x.K, x.dead⟩
structure RMIn (w : World) (x : RMIt) : Prop where
 ctx : DotsIn w x.ac x.ctx
 kept : EvsIn w x.aK x.K
 dead : DotsIn w x.ad x.dead
 cc : x.ctx.length ≤ x.cc
 cK : x.K.length ≤ x.cK
 cd : x.dead.length ≤ x.cd
theorem RMIn.keep {w w' : World} {x : RMIt} (h : RMIn w x) (hb : Below w.heap.size w w') : RMIn w' x := ⟨h.ctx.kept hb, h.kept.kept hb, h.dead.kept hb, h.cc, h.cK, h.cd⟩
structure RMSize (x : RMIt) : Prop where
 ctx : x.ctx.length ≤ 1048576
 K : x.K.length ≤ 524288
 dead : x.dead.length ≤ 524288
 ok : ∀ d ∈ x.ctx, bK d = true
def Lu (r : RM) (e : Ev) : Bool := dN e && (!gX r.ctx e.dot && (decide (iY r.ctx e.dot.a + 1 = e.dot.seq) && decide (r.kept.length < 2048)))
def CW (r : RM) (e : Ev) : RM := if Lu r e = true then ⟨xx r.ctx e.dot.a e.dot.seq, uK e r.kept, sortD (r.dead ++ e.over)⟩ else r
end Go.Proofs.YtdlmbflhbecggaaGreat
