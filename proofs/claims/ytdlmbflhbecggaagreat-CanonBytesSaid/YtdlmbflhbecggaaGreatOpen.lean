/- An event that came in as an argument: its value, and its dots in memory. Conditions: none. -/
import Derived.Test.YtdlmbflhbecggaaGreatLoad
import Derived.Test.YtdlmbflhbecggaaGreatTrod
import Derived.ProofKit
import Derived.Deep.Slices
import Derived.OpenShut
import Derived.Test.YtdlmbflhbecggaaGreatClone
import Derived.Test.YtdlmbflhbecggaaGreatKeys
set_option linter.unusedSimpArgs false
set_option linter.unusedVariables false
set_option linter.unnecessarySimpa false
set_option maxHeartbeats 16000000
set_option maxRecDepth 100000
namespace Go.Proofs.YtdlmbflhbecggaaGreat
open Go.ChangeShapes Go.WideShapes Go.ChangeAt Go.RowKit
section
variable {H : Type} {enc : TypeId × Value → H} {P : Program} {w : World} {base : Nat} {spare : Nat → Bool} {held : Bool}
theorem Pq {α : Type} {cs : List α} (h : cs.length = 19) : ∃ c0 c1 c2 c3 c4 c5 c6 c7 c8 c9 c10 c11 c12 c13 c14 c15 c16 c17 c18, cs = [c0, c1, c2, c3, c4, c5, c6, c7, c8, c9, c10, c11, c12, c13, c14, c15, c16, c17, c18] := by
 match cs, h with
 | [c0, c1, c2, c3, c4, c5, c6, c7, c8, c9, c10, c11, c12, c13, c14, c15, c16, c17, c18], _ => exact ⟨c0, c1, c2, c3, c4, c5, c6, c7, c8, c9, c10, c11, c12, c13, c14, c15, c16, c17, c18, rfl⟩
end
/-- what any event that comes in has: no text and no list too long for the machine, each number one of Go's -/
structure EvIn (w : World) (a : Option Addr) (cap : Nat) (e : Ev) : Prop where
 dots : DotsIn w a e.over
 over : e.over.length ≤ maxLen
 name : e.key.name.size ≤ maxLen
 domain : e.key.domain.size ≤ maxLen
 path : e.key.path.size ≤ maxLen
 value : e.ck.value.size ≤ maxLen
 nil : a = none → e.over = [] ∧ cap = 0
 old : ∀ A off, a = some ⟨A, off, none⟩ → e.over ≠ [] → A < w.heap.size
section
variable {H : Type} {enc : TypeId × Value → H} {w : World} {spare : Nat → Bool} {held : Bool}
theorem JH {fuel : Nat} {cs : List Value} {x : DataW H × List MemPlace} (h : DataW.trod enc Tryz.prog w 0 spare held fuel 30 cs = some x) :
 ∃ (a : Option Addr) (l : List Dot) (cap : Nat), cs = [.slice a l.length cap] ∧ DotsIn w a l ∧ l.length ≤ maxLen ∧ (a = none → l = [] ∧ cap = 0) := by
 rcases Deep.open_slice Tryz.underlying30 h with ⟨rfl, _⟩ | ⟨a, len, cap, m, n, D, Pl, rfl, _, hl, hm, hmm, _, hel⟩
 ·exact ⟨none, [], 0, rfl, Or.inl rfl, Nat.zero_le _, fun _ => ⟨rfl, rfl⟩⟩
 have hlm : len ≤ m := by rw [hmm]; split <;> omega
 have hc3 : Tryz.prog.cellsOf 56 = 3 := by kernel_rfl
 rw [hc3] at hel
 obtain ⟨l, hll, hr⟩ := Dt (R := fun i (d : Dot) => ∃ b off, a.add (i * 3) = ⟨b, off, none⟩ ∧ w.cell? ⟨b, off, none⟩ = some (.int .i64 d.a.dev) ∧ w.cell? ⟨b, off + 1, none⟩ = some (.int .i64 d.a.inc) ∧ w.cell? ⟨b, off + 2, none⟩ = some (.int .i64 d.seq)) len (fun i hi => by
  obtain ⟨cs', hcs, ht⟩ := hel i (by omega)
  obtain ⟨c0, c1, c2, b, off, rfl, hab, h0, h1, h2⟩ := cells3 hcs
  obtain ⟨_, _, hA⟩ := bK Tryz.underlying56 ht 0 _ rfl 2 (by kernel_rfl) [c0, c1] rfl
  obtain ⟨_, _, hS⟩ := bK Tryz.underlying56 ht 1 _ rfl 1 (by kernel_rfl) [c2] rfl
  obtain ⟨_, _, hD⟩ := bK Tryz.underlying54 hA 0 _ rfl 1 (by kernel_rfl) [c0] rfl
  obtain ⟨_, _, hI⟩ := bK Tryz.underlying54 hA 1 _ rfl 1 (by kernel_rfl) [c1] rfl
  obtain ⟨x0, e0, _, w0⟩ := DataW.trod_int Tryz.underlying3 hD
  obtain ⟨x1, e1, _, w1⟩ := DataW.trod_int Tryz.underlying3 hI
  obtain ⟨x2, e2, _, w2⟩ := DataW.trod_int Tryz.underlying3 hS
  simp only [List.cons.injEq, and_true] at e0 e1 e2
  subst e0 e1 e2
  exact ⟨⟨⟨x0, x1⟩, x2⟩, b, off, hab, h0, h1, h2⟩)
 subst hll
 refine ⟨some a, l, cap, rfl, ?_, by omega, fun h => by cases h⟩
 rcases Nat.eq_zero_or_pos l.length with h0 | h0
 ·exact Or.inl (List.length_eq_zero_iff.1 h0)
 ·right
  obtain ⟨b, off, spot⟩ := a
  obtain ⟨b', off', hab, _⟩ := hr 0 h0
  have hs : spot = none := by simp [Addr.add] at hab; exact hab.2.2
  subst hs
  refine ⟨b, off, rfl, ⟨fun i hi => ?_, fun i hi => ?_, fun i hi => ?_⟩⟩ <;>
  ·obtain ⟨b', off', hab, g0, g1, g2⟩ := hr i hi
   rw [Go.WideShapes.add_plain] at hab
   simp only [Addr.mk.injEq, and_true] at hab
   obtain ⟨rfl, rfl⟩ := hab
   assumption
end
section
variable {H : Type} {enc : TypeId × Value → H} {w : World} {base : Nat} {spare : Nat → Bool} {held : Bool}
theorem NI {fuel : Nat} {cs : List Value} {x : DataW H × List MemPlace} (hsz : cs.length = 19) (hf : DataW.trod enc Tryz.prog w 0 spare held fuel 64 cs = some x) :
 ∃ (e : Ev) (a : Option Addr) (cap : Nat), cs = ah e a cap ∧ EvIn w a cap e := by
 obtain ⟨c0, c1, c2, c3, c4, c5, c6, c7, c8, c9, c10, c11, c12, c13, c14, c15, c16, c17, c18, rfl⟩ := Pq hsz
 obtain ⟨_, _, hD⟩ := bK Tryz.underlying64 hf 0 _ rfl 3 (by kernel_rfl) [c0, c1, c2] rfl
 obtain ⟨_, _, hS⟩ := bK Tryz.underlying64 hf 1 _ rfl 3 (by kernel_rfl) [c3, c4, c5] rfl
 obtain ⟨_, _, hK⟩ := bK Tryz.underlying64 hf 2 _ rfl 1 (by kernel_rfl) [c6] rfl
 obtain ⟨_, _, hY⟩ := bK Tryz.underlying64 hf 3 _ rfl 3 (by kernel_rfl) [c7, c8, c9] rfl
 obtain ⟨_, _, hC⟩ := bK Tryz.underlying64 hf 4 _ rfl 8 (by kernel_rfl) [c10, c11, c12, c13, c14, c15, c16, c17] rfl
 obtain ⟨_, _, hO⟩ := bK Tryz.underlying64 hf 5 _ rfl 1 (by kernel_rfl) [c18] rfl
 obtain ⟨_, _, hA⟩ := bK Tryz.underlying56 hD 0 _ rfl 2 (by kernel_rfl) [c0, c1] rfl
 obtain ⟨_, _, h0⟩ := bK Tryz.underlying54 hA 0 _ rfl 1 (by kernel_rfl) [c0] rfl
 obtain ⟨x0, e0, _, w0⟩ := DataW.trod_int Tryz.underlying3 h0
 obtain ⟨_, _, h1⟩ := bK Tryz.underlying54 hA 1 _ rfl 1 (by kernel_rfl) [c1] rfl
 obtain ⟨x1, e1, _, w1⟩ := DataW.trod_int Tryz.underlying3 h1
 obtain ⟨_, _, h2⟩ := bK Tryz.underlying56 hD 1 _ rfl 1 (by kernel_rfl) [c2] rfl
 obtain ⟨x2, e2, _, w2⟩ := DataW.trod_int Tryz.underlying3 h2
 obtain ⟨_, _, h3⟩ := bK Tryz.underlying58 hS 0 _ rfl 1 (by kernel_rfl) [c3] rfl
 obtain ⟨x3, e3, _, w3⟩ := DataW.trod_int Tryz.underlying3 h3
 obtain ⟨_, _, h4⟩ := bK Tryz.underlying58 hS 1 _ rfl 1 (by kernel_rfl) [c4] rfl
 obtain ⟨x4, e4, _, w4⟩ := DataW.trod_int Tryz.underlying3 h4
 obtain ⟨_, _, h5⟩ := bK Tryz.underlying58 hS 2 _ rfl 1 (by kernel_rfl) [c5] rfl
 obtain ⟨x5, e5, _, w5⟩ := DataW.trod_int Tryz.underlying3 h5
 obtain ⟨x6, e6, _, w6⟩ := DataW.trod_int Tryz.underlying3 hK
 obtain ⟨_, _, h7⟩ := bK Tryz.underlying60 hY 0 _ rfl 1 (by kernel_rfl) [c7] rfl
 obtain ⟨x7, e7, _, w7⟩ := DataW.trod_string Tryz.underlying9 h7
 obtain ⟨_, _, h8⟩ := bK Tryz.underlying60 hY 1 _ rfl 1 (by kernel_rfl) [c8] rfl
 obtain ⟨x8, e8, _, w8⟩ := DataW.trod_string Tryz.underlying9 h8
 obtain ⟨_, _, h9⟩ := bK Tryz.underlying60 hY 2 _ rfl 1 (by kernel_rfl) [c9] rfl
 obtain ⟨x9, e9, _, w9⟩ := DataW.trod_string Tryz.underlying9 h9
 obtain ⟨_, _, h10⟩ := bK Tryz.underlying62 hC 0 _ rfl 1 (by kernel_rfl) [c10] rfl
 obtain ⟨x10, e10, _, w10⟩ := DataW.trod_string Tryz.underlying9 h10
 obtain ⟨_, _, h11⟩ := bK Tryz.underlying62 hC 1 _ rfl 1 (by kernel_rfl) [c11] rfl
 obtain ⟨x11, e11, _⟩ := DataW.trod_bool Tryz.underlying4 h11
 obtain ⟨_, _, h12⟩ := bK Tryz.underlying62 hC 2 _ rfl 1 (by kernel_rfl) [c12] rfl
 obtain ⟨x12, e12, _⟩ := DataW.trod_bool Tryz.underlying4 h12
 obtain ⟨_, _, h13⟩ := bK Tryz.underlying62 hC 3 _ rfl 1 (by kernel_rfl) [c13] rfl
 obtain ⟨x13, e13, _⟩ := DataW.trod_bool Tryz.underlying4 h13
 obtain ⟨_, _, h14⟩ := bK Tryz.underlying62 hC 4 _ rfl 1 (by kernel_rfl) [c14] rfl
 obtain ⟨x14, e14, _⟩ := DataW.trod_bool Tryz.underlying4 h14
 obtain ⟨_, _, h15⟩ := bK Tryz.underlying62 hC 5 _ rfl 1 (by kernel_rfl) [c15] rfl
 obtain ⟨x15, e15, _, w15⟩ := DataW.trod_int Tryz.underlying3 h15
 obtain ⟨_, _, h16⟩ := bK Tryz.underlying62 hC 6 _ rfl 1 (by kernel_rfl) [c16] rfl
 obtain ⟨x16, e16, _, w16⟩ := DataW.trod_int Tryz.underlying3 h16
 obtain ⟨_, _, h17⟩ := bK Tryz.underlying62 hC 7 _ rfl 1 (by kernel_rfl) [c17] rfl
 obtain ⟨x17, e17, _, w17⟩ := DataW.trod_int Tryz.underlying3 h17
 obtain ⟨a, l, cap, e18, wV, hlen, hnil⟩ := JH hO
 simp only [List.cons.injEq, and_true] at e0
 subst e0
 simp only [List.cons.injEq, and_true] at e1
 subst e1
 simp only [List.cons.injEq, and_true] at e2
 subst e2
 simp only [List.cons.injEq, and_true] at e3
 subst e3
 simp only [List.cons.injEq, and_true] at e4
 subst e4
 simp only [List.cons.injEq, and_true] at e5
 subst e5
 simp only [List.cons.injEq, and_true] at e6
 subst e6
 simp only [List.cons.injEq, and_true] at e7
 subst e7
 simp only [List.cons.injEq, and_true] at e8
 subst e8
 simp only [List.cons.injEq, and_true] at e9
 subst e9
 simp only [List.cons.injEq, and_true] at e10
 subst e10
 simp only [List.cons.injEq, and_true] at e11
 subst e11
 simp only [List.cons.injEq, and_true] at e12
 subst e12
 simp only [List.cons.injEq, and_true] at e13
 subst e13
 simp only [List.cons.injEq, and_true] at e14
 subst e14
 simp only [List.cons.injEq, and_true] at e15
 subst e15
 simp only [List.cons.injEq, and_true] at e16
 subst e16
 simp only [List.cons.injEq, and_true] at e17
 subst e17
 simp only [List.cons.injEq, and_true] at e18
 subst e18
 refine ⟨⟨⟨⟨x0, x1⟩, x2⟩, ⟨x3, x4, x5⟩, x6, ⟨x7, x8, x9⟩, ⟨x10, x11, x12, x13, x14, x15, x16, x17⟩, l⟩, a, cap, rfl, ⟨wV, hlen, w7, w8, w9, w10, hnil, ?_⟩⟩
 intro A off ha hne
 rcases wV with h | ⟨A', off', ha', hd⟩
 ·exact absurd h hne
 ·rw [ha] at ha'
  cases ha'
  exact World.block_lt_of_cell? w _ (hd.dev 0 (List.length_pos_iff.2 hne))
/-- what a list of events that comes in has -/
structure EvsArg (w : World) (a : Option Addr) (ls : List bg) : Prop where
 evs : EvsIn w a ls
 each : ∀ x ∈ ls, EvIn w x.2.1 x.2.2 x.1
 len : ls.length ≤ maxLen
 old : ∀ A off, a = some ⟨A, off, none⟩ → ls ≠ [] → A < w.heap.size
theorem LP {fuel : Nat} {cs : List Value} {x : DataW H × List MemPlace} (h : DataW.trod enc Tryz.prog w 0 spare held fuel 29 cs = some x) :
 ∃ (a : Option Addr) (ls : List bg) (cap : Nat), cs = [.slice a ls.length cap] ∧ EvsArg w a ls := by
 rcases Deep.open_slice Tryz.underlying29 h with ⟨rfl, _⟩ | ⟨a, len, cap, m, n, D, Pl, rfl, _, hl, hm, hmm, _, hel⟩
 ·exact ⟨none, [], 0, rfl, ⟨⟨Or.inl rfl, fun x hx => by simp at hx⟩, fun x hx => by simp at hx, Nat.zero_le _, fun _ _ h => by cases h⟩⟩
 have hlm : len ≤ m := by rw [hmm]; split <;> omega
 have hc1 : Tryz.prog.cellsOf 64 = 19 := by kernel_rfl
 rw [hc1] at hel
 have hrows := NJ (a := a) (n := 19) (len := len) (by decide) (R := fun i cs => cs.length = 19 → ∃ (e : Ev) (a : Option Addr) (cap : Nat), cs = ah e a cap ∧ EvIn w a cap e) (fun i hi => by
  obtain ⟨cs', hcs, ht⟩ := hel i (by omega)
  exact ⟨cs', hcs, fun hl => NI hl ht⟩)
 rcases hrows with h0 | ⟨A, off, rfl, hr⟩
 ·subst h0
  exact ⟨some a, [], cap, rfl, ⟨⟨Or.inl rfl, fun x hx => by simp at hx⟩, fun x hx => by simp at hx, Nat.zero_le _, fun _ _ _ h => absurd rfl h⟩⟩
 ·obtain ⟨ls, hll, hlr⟩ := Dt (R := fun i (x : bg) => w.rangeAt A (off + i * 19) (jP x) ∧ EvIn w x.2.1 x.2.2 x.1) len (fun i hi => by
   obtain ⟨cs', hl', hrg, hR⟩ := hr i hi
   obtain ⟨e, a, cap, rfl, hE⟩ := hR hl'
   exact ⟨(e, a, cap), hrg, hE⟩)
  subst hll
  have OX : ∀ x ∈ ls, EvIn w x.2.1 x.2.2 x.1 := fun x hx => by
   obtain ⟨i, hi, rfl⟩ := List.getElem_of_mem hx
   exact (hlr i hi).2
  refine ⟨_, ls, cap, rfl, ⟨⟨Or.inr ⟨A, off, rfl, fun i hi => (hlr i hi).1⟩, fun x hx => (OX x hx).dots⟩, OX, by omega, fun A' off' he hne => ?_⟩⟩
  cases he
  exact World.block_lt_of_cell? w _ ((hlr 0 (List.length_pos_iff.2 hne)).1 0 _ rfl)
end
end Go.Proofs.YtdlmbflhbecggaaGreat
/- Lists of events and of marks, and dots, that came in as arguments. Conditions: none. -/
namespace Go.Proofs.YtdlmbflhbecggaaGreat
open Go.RowKit
section
variable {H : Type} {enc : TypeId × Value → H} {w : World} {base : Nat} {spare : Nat → Bool} {held : Bool}
open Go.ChangeShapes Go.WideShapes Go.ChangeAt
theorem Oy {r : Reach} {b0 : Nat} {v : Value} {d : DataW H} {p : List MemPlace} (hv : Value.okWide Tryz.prog w r b0 29 v) (h : DataW.Trod enc Tryz.prog w 0 spare held 29 v d p) :
 ∃ (a : Option Addr) (ls : List bg) (cap : Nat), v = .slice a ls.length cap ∧ EvsArg w a ls := by
 obtain ⟨a, n, c, rfl⟩ := okWide_slice Tryz.underlying29 hv
 obtain ⟨fuel, hf⟩ := h
 obtain ⟨a', ls, c', he, rest⟩ := LP hf
 simp only [Value.cells] at he
 exact ⟨a', ls, c', by simpa using he, rest⟩
end
end Go.Proofs.YtdlmbflhbecggaaGreat
