/- Packages dot and clock, their tests and orders, and the references'. Conditions: none. -/
import Derived.Test.YtohmadchgacafaaChecked
import Derived.Test.YtohmadchgacafaaEq
set_option linter.unusedSimpArgs false
set_option linter.unusedVariables false
set_option linter.unnecessarySimpa false
namespace Go.Proofs.Ytohmadchgacafaa
open Go.RowKit

set_option maxHeartbeats 400000 in
theorem or_any (a b : Int) (A : Nat) (w : World) (h0 : w.cell? ⟨A, 0, none⟩ = some (.int .i64 a)) (h1 : w.cell? ⟨A, 1, none⟩ = some (.int .i64 b)) :
    Calls Try.prog 73 #[.slice (some ⟨A, 0, none⟩) 2 2] w fun e w' => e = .returned (.int .i64 (orI a b)) ∧ w = w' := by
  go_enter Try.func73, Try.ntmps73
  go_wp2
  go_rounds 3
  all_goals
    go_ret
    exact ⟨ret_int (by unfold orI; simp_all), rfl⟩

end Go.Proofs.Ytohmadchgacafaa

/- What an event may be over: event.over. Conditions: none. -/
namespace Go.Proofs.Ytohmadchgacafaa
open Go.RowKit

/-- dots in memory, three cells each -/
structure DotsAt (w : World) (A off : Nat) (l : List Dot) : Prop where
  dev : ∀ i (h : i < l.length), w.cell? ⟨A, off + i * 3, none⟩ = some (.int .i64 l[i].a.dev)
  inc : ∀ i (h : i < l.length), w.cell? ⟨A, off + i * 3 + 1, none⟩ = some (.int .i64 l[i].a.inc)
  seq : ∀ i (h : i < l.length), w.cell? ⟨A, off + i * 3 + 2, none⟩ = some (.int .i64 l[i].seq)
theorem DotsAt.kept {w w' : World} {A off : Nat} {l : List Dot} (h : DotsAt w A off l) (hb : Below w.heap.size w w') : DotsAt w' A off l :=
  ⟨fun i hi => Ytohmadchgacafaa.kept hb (h.dev i hi), fun i hi => Ytohmadchgacafaa.kept hb (h.inc i hi), fun i hi => Ytohmadchgacafaa.kept hb (h.seq i hi)⟩
/-- a slice of dots -/
def DotsIn (w : World) (a : Option Addr) (l : List Dot) : Prop := l = [] ∨ ∃ A off, a = some ⟨A, off, none⟩ ∧ DotsAt w A off l
theorem DotsIn.kept {w w' : World} {a : Option Addr} {l : List Dot} (h : DotsIn w a l) (hb : Below w.heap.size w w') : DotsIn w' a l := by
  rcases h with h | ⟨A, off, h1, h2⟩
  · exact Or.inl h
  · exact Or.inr ⟨A, off, h1, h2.kept hb⟩

def overOne (d : Dot) (p : Option Dot) (x : Dot) : Bool := dotOk x && ((match p with | none => true | some y => dotLt y x) && !(decide (x.a = d.a) && decide (d.seq ≤ x.seq)))
def overFrom (d : Dot) : Option Dot → List Dot → Bool
  | _, [] => true
  | p, x :: r => overOne d p x && overFrom d (some x) r
def overOk (d : Dot) (l : List Dot) : Bool := decide (l.length ≤ 64) && overFrom d none l
/-- the dot ahead of place k -/
def prevAt (l : List Dot) : Nat → Option Dot
  | 0 => none
  | k + 1 => l[k]?
theorem overFrom_step (d : Dot) (l : List Dot) (k : Nat) (h : k < l.length) : overFrom d (prevAt l k) (l.drop k) = (overOne d (prevAt l k) l[k] && overFrom d (prevAt l (k + 1)) (l.drop (k + 1))) := by
  rw [List.drop_eq_getElem_cons h, overFrom]
  congr 1
  simp [prevAt, h]

theorem below2' {B : Nat} {W0 wr W1 wi : World} (h : Below B W0 wr) (h1 : Below wr.heap.size wr W1) (h2 : Below W1.heap.size W1 wi) (hB : B ≤ W0.heap.size := by omega) : Below B W0 wi :=
  h.trans ((below2 h1 h2).mono (Nat.le_trans hB h.size))

end Go.Proofs.Ytohmadchgacafaa
