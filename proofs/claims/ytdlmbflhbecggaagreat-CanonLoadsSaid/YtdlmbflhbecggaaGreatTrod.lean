/- Slices, bytes, numbers that came in as arguments, out of their readings. Conditions: none. -/
import Derived.Test.YtdlmbflhbecggaaGreatCel
import Derived.ProofKit
import Derived.Deep.Slices
import Derived.OpenShut
set_option linter.unusedSimpArgs false
set_option linter.unusedVariables false
set_option linter.unnecessarySimpa false
set_option maxHeartbeats 16000000
set_option maxRecDepth 100000
namespace Go.Proofs.YtdlmbflhbecggaaGreat
open Go.ChangeShapes Go.WideShapes Go.ChangeAt Go.RowKit
section
variable {H : Type} {enc : TypeId × Value → H} {P : Program} {w : World} {base : Nat} {spare : Nat → Bool} {held : Bool}
theorem GU {α : Type} {R : Nat → α → Prop} : ∀ (n : Nat), (∀ i, i < n → ∃ x, R i x) → ∃ l : List α, l.length = n ∧ ∀ i (hi : i < l.length), R i l[i]
 | 0, _ => ⟨[], rfl, fun i hi => by simp at hi⟩
 | n + 1, h => by
   obtain ⟨l, hl, hr⟩ := GU n (fun i hi => h i (by omega))
   obtain ⟨x, hx⟩ := h n (by omega)
   refine ⟨l ++ [x], by simp [hl], fun i hi => ?_⟩
   by_cases hin : i < l.length
   ·rw [List.getElem_append_left hin]; exact hr i hin
   ·have : i = n := by simp at hi; omega
    subst this
    rw [List.getElem_append_right (by omega)]
    simpa [hl] using hx
end
section
variable {H : Type} {enc : TypeId × Value → H} {w : World} {base : Nat} {spare : Nat → Bool} {held : Bool}
theorem vZ {a : Addr} {n : Nat} {cs : List Value} (h : w.cells? base a n = some cs) (hn : 0 < n) : ∃ b off, a = ⟨b, off, none⟩ ∧ cs.length = n ∧ w.rangeAt b off cs := by
 obtain ⟨hb, hl, hc⟩ := World.cells?_some h
 have h0 := hc 0 (by omega)
 rw [List.getElem?_eq_getElem (by omega)] at h0
 obtain ⟨b, off, spot⟩ := a
 have hs : spot = none := by simpa [Addr.add] using World.cell?_spot h0
 subst hs
 refine ⟨b, off, rfl, hl, fun j v hv => ?_⟩
 have hj := (List.getElem?_eq_some_iff.1 hv).1
 have h1 := hc j (by omega)
 rw [Go.WideShapes.add_plain] at h1
 rw [h1]; exact hv
/-- a slice's elements, n cells each: where they lie -/
theorem Lt {a : Addr} {n len : Nat} (hn : 0 < n) {R : Nat → List Value → Prop} (hel : ∀ i, i < len → ∃ cs, w.cells? base (a.add (i * n)) n = some cs ∧ R i cs) :
 len = 0 ∨ ∃ A off, a = ⟨A, off, none⟩ ∧ ∀ i, i < len → ∃ cs, cs.length = n ∧ w.rangeAt A (off + i * n) cs ∧ R i cs := by
 rcases Nat.eq_zero_or_pos len with h0 | h0
 ·exact Or.inl h0
 ·right
  obtain ⟨A, off, spot⟩ := a
  obtain ⟨cs0, hc0, _⟩ := hel 0 h0
  obtain ⟨b', off', hab, _⟩ := vZ hc0 hn
  have hs : spot = none := by simp [Addr.add] at hab; exact hab.2.2
  subst hs
  refine ⟨A, off, rfl, fun i hi => ?_⟩
  obtain ⟨cs, hc, hR⟩ := hel i hi
  obtain ⟨b', off', hab, hl, hr⟩ := vZ hc hn
  rw [Go.WideShapes.add_plain] at hab
  simp only [Addr.mk.injEq, and_true] at hab
  obtain ⟨rfl, rfl⟩ := hab
  exact ⟨cs, hl, hr, hR⟩
theorem open_bytes {fuel : Nat} {cs : List Value} {x : DataW H × List MemPlace} (h : DataW.trod enc Tryz.prog w 0 spare held fuel 22 cs = some x) :
 ∃ (a : Option Addr) (l : Bytes) (cap : Nat), cs = [.slice a l.length cap] ∧ BytesIn w a l ∧ l.length ≤ maxLen ∧ l.length ≤ cap ∧ (∀ A off, a = some ⟨A, off, none⟩ → l ≠ [] → A < w.heap.size) := by
 rcases Deep.open_slice Tryz.underlying22 h with ⟨rfl, _⟩ | ⟨a, len, cap, m, n, D, Pl, rfl, _, hl, hm, hmm, _, hel⟩
 ·exact ⟨none, [], 0, rfl, Or.inl rfl, Nat.zero_le _, Nat.le_refl _, fun _ _ h => by cases h⟩
 have hlm : len ≤ m := by rw [hmm]; split <;> omega
 have hc1 : Tryz.prog.cellsOf 5 = 1 := by kernel_rfl
 rw [hc1] at hel
 have hrows := Lt (a := a) (n := 1) (len := len) (by decide) (R := fun i cs => ∃ c : UInt8, cs = [.int .u8 c.toNat]) (fun i hi => by
  obtain ⟨cs', hcs, ht⟩ := hel i (by omega)
  refine ⟨cs', hcs, ?_⟩
  obtain ⟨x0, e0, _, w0⟩ := DataW.trod_int Tryz.underlying5 ht
  subst e0
  have hb := bounds_u8 w0
  exact ⟨UInt8.ofNat x0.toNat, by rw [UInt8.toNat_ofNat']; congr 2; omega⟩)
 rcases hrows with h0 | ⟨A, off, rfl, hr⟩
 ·subst h0
  exact ⟨some a, [], cap, rfl, Or.inl rfl, Nat.zero_le _, Nat.zero_le _, fun _ _ _ h => absurd rfl h⟩
 ·obtain ⟨l, hll, hlr⟩ := GU (R := fun i (c : UInt8) => w.cell? ⟨A, off + i, none⟩ = some (.int .u8 c.toNat)) len (fun i hi => by
   obtain ⟨cs', _, hrg, c, rfl⟩ := hr i hi
   exact ⟨c, by have := hrg 0 _ rfl; rwa [Nat.mul_one, Nat.add_zero] at this⟩)
  subst hll
  refine ⟨_, l, cap, rfl, Or.inr ⟨A, off, rfl, hlr⟩, by omega, hl, fun A' off' he hne => ?_⟩
  cases he
  exact World.block_lt_of_cell? w _ (hlr 0 (List.length_pos_iff.2 hne))
theorem Jo {r : Reach} {b0 : Nat} {v : Value} {d : DataW H} {p : List MemPlace} (hv : Value.okWide Tryz.prog w r b0 22 v) (h : DataW.Trod enc Tryz.prog w 0 spare held 22 v d p) :
 ∃ (a : Option Addr) (l : Bytes) (cap : Nat), v = .slice a l.length cap ∧ BytesIn w a l ∧ l.length ≤ maxLen ∧ l.length ≤ cap ∧ (∀ A off, a = some ⟨A, off, none⟩ → l ≠ [] → A < w.heap.size) := by
 obtain ⟨a, n, c, rfl⟩ := okWide_slice Tryz.underlying22 hv
 obtain ⟨fuel, hf⟩ := h
 obtain ⟨a', l, c', he, rest⟩ := open_bytes hf
 simp only [Value.cells] at he
 exact ⟨a', l, c', by simpa using he, rest⟩
theorem xC {α : Type} {A : Nat} (f : α → List Value) (n : Nat) : ∀ (l : List α) (off : Nat), (∀ i (hi : i < l.length), (f l[i]).length = n ∧ w.rangeAt A (off + i * n) (f l[i])) → w.rangeAt A off (l.flatMap f)
 | [], off, _ => fun j v hv => by simp at hv
 | x :: r, off, h => by
   have h0 := h 0 (by simp)
   simp only [List.getElem_cons_zero, Nat.zero_mul, Nat.add_zero] at h0
   have ih := xC f n r (off + n) fun i hi => by
     have := h (i + 1) (by simp; omega)
     simp only [List.getElem_cons_succ] at this
     rw [show off + n + i * n = off + (i + 1) * n by rw [Nat.add_mul]; omega]
     exact this
   intro j v hv
   rw [List.flatMap_cons] at hv
   by_cases hj : j < (f x).length
   ·rw [List.getElem?_append_left hj] at hv
    exact h0.2 j v hv
   ·rw [List.getElem?_append_right (by omega), h0.1] at hv
    have := ih (j - n) v hv
    rwa [show off + n + (j - n) = off + j by omega] at this
end
end Go.Proofs.YtdlmbflhbecggaaGreat
