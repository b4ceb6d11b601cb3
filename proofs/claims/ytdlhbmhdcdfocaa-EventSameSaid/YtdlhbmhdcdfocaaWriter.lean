/- The writer of package pack. Conditions: at most 2^29 bytes. -/
import Derived.Test.YtdlhbmhdcdfocaaPackB
import Derived.OneCell
set_option linter.unusedSimpArgs false
set_option linter.unusedVariables false
set_option linter.unnecessarySimpa false
namespace Go.Proofs.Ytdlhbmhdcdfocaa
open Go.RowKit

/-- Nothing that was there has turned, but for the blocks of S. -/
structure Fr (S : Nat → Prop) (w w' : World) : Prop where
  os : w'.os = w.os
  tape : w'.tape = w.tape
  output : w'.output = w.output
  size : w.heap.size ≤ w'.heap.size
  block : ∀ k, k < w.heap.size → ¬ S k → w'.heap[k]? = w.heap[k]?
/-- S, and all that is new -/
def grow (S : Nat → Prop) (w : World) : Nat → Prop := fun k => S k ∨ w.heap.size ≤ k
theorem Fr.refl (S : Nat → Prop) (w : World) : Fr S w w := ⟨rfl, rfl, rfl, Nat.le_refl _, fun _ _ _ => rfl⟩
theorem Fr.trans {S : Nat → Prop} {a b c : World} (h : Fr S a b) (k : Fr (grow S a) b c) : Fr S a c :=
  ⟨k.os.trans h.os, k.tape.trans h.tape, k.output.trans h.output, Nat.le_trans h.size k.size, fun i hi hs =>
    (k.block i (Nat.lt_of_lt_of_le hi h.size) (fun g => by rcases g with g | g; exact hs g; omega)).trans (h.block i hi hs)⟩
theorem Fr.mono {S T : Nat → Prop} {a b : World} (h : Fr S a b) (hST : ∀ k, k < a.heap.size → S k → T k) : Fr T a b :=
  ⟨h.os, h.tape, h.output, h.size, fun i hi hs => h.block i hi (fun g => hs (hST i hi g))⟩
theorem Fr.of_below {S : Nat → Prop} {a b : World} (h : Below a.heap.size a b) : Fr S a b := ⟨h.os, h.tape, h.output, h.size, fun k hk _ => h.block k hk⟩
theorem Fr.kept {S : Nat → Prop} {w w' : World} (h : Fr S w w') {p : Addr} {v : Value} (hc : w.cell? p = some v) (hs : ¬ S p.block) : w'.cell? p = some v :=
  (World.cell?_of_block (w := w) (h.block p.block (World.block_lt_of_cell? w p hc) hs)).trans hc
theorem Fr.below {S : Nat → Prop} {w w' : World} (h : Fr S w w') {B : Nat} (hB : B ≤ w.heap.size) (hS : ∀ k, S k → B ≤ k) : Below B w w' :=
  ⟨h.os, h.tape, h.output, h.size, fun k hk => h.block k (by omega) (fun g => by have := hS k g; omega)⟩
theorem grow_grow {S : Nat → Prop} {a b : World} (h : a.heap.size ≤ b.heap.size) : ∀ k, grow (grow S a) b k → grow S a k := by
  rintro k ((g | g) | g)
  · exact Or.inl g
  · exact Or.inr g
  · exact Or.inr (by omega)

/-- block B holds a writer of l, whose memory lies in S -/
structure Wr (w : World) (S : Nat → Prop) (B : Nat) (l : Bytes) : Prop where
  inS : S B
  ex : ∃ v base, w.heap[B]? = some (.cells #[v] 55 (0, 0)) ∧ w.ownsRow base 5 1 v l.length (byteVals l) ∧ ∀ g, v.ownBlock = some g → S g ∧ g ≠ B
theorem Wr.mono {w : World} {S T : Nat → Prop} {B : Nat} {l : Bytes} (h : Wr w S B l) (hST : ∀ k, S k → T k) : Wr w T B l := by
  obtain ⟨h1, v, base, h2, h3, h4⟩ := h
  exact ⟨hST _ h1, v, base, h2, h3, fun g hg => ⟨hST _ (h4 g hg).1, (h4 g hg).2⟩⟩
theorem Wr.frame {w w' : World} {S T : Nat → Prop} {B : Nat} {l : Bytes} (h : Wr w S B l) (hf : Fr T w w') (hST : ∀ k, S k → ¬ T k) : Wr w' S B l := by
  obtain ⟨h1, v, base, h2, h3, h4⟩ := h
  have hk : ∀ k, k < w.heap.size → S k → w'.heap[k]? = w.heap[k]? := fun k hk hs => hf.block k hk (hST k hs)
  refine ⟨h1, v, base, ?_, ⟨h3.1, ?_⟩, h4⟩
  · rw [hk B (lt_of_block h2) h1]; exact h2
  · rcases h3.2 with hn | ⟨g, cap, cur, rfl, hbs, hgg, rest⟩
    · exact .inl hn
    · exact .inr ⟨g, cap, cur, rfl, hbs, by rw [hk g (lt_of_block hgg) (h4 g rfl).1]; exact hgg, rest⟩
/-- the bytes that a row of one's own holds, read -/
theorem own_bytes {w : World} {base : Nat} {v : Value} {l : Bytes} (h : w.ownsRow base 5 1 v l.length (byteVals l)) : ∃ a cap, v = .slice a l.length cap ∧ BytesIn w a l := by
  have hc := fun g (hg : v.ownBlock = some g) => h.cells hg
  rcases h.2 with ⟨rfl, hn⟩ | ⟨g, cap, cur, rfl, rest⟩
  · obtain rfl : l = [] := List.length_eq_zero_iff.1 hn
    exact ⟨none, 0, rfl, Or.inl rfl⟩
  · refine ⟨_, cap, rfl, Or.inr ⟨g, 0, rfl, fun j hj => ?_⟩⟩
    have := hc g rfl j (.int .u8 l[j].toNat) (by simp [byteVals, hj])
    rw [Addr.add_mid] at this
    exact this

/-- behind a writer's method -/
def RetWr (S : Nat → Prop) (B : Nat) (l : Bytes) (w : World) (e : Ending) (w' : World) : Prop :=
  e = .returned (.pointer (some ⟨B, 0, none⟩)) ∧ Wr w' (grow S w) B l ∧ Fr S w w'
/-- the writer's new slice is stored -/
theorem wr_store {w w1 : World} {S : Nat → Prop} {B : Nat} {v0 v : Value} {l : Bytes} (hS : S B) (h0 : w.heap[B]? = some (.cells #[v0] 55 (0, 0)))
    (hb : Below w.heap.size w w1) (hown : w1.ownsRow w.heap.size 5 1 v l.length (byteVals l)) :
    Wr (w1.setCell ⟨B, 0, none⟩ v) (grow S w) B l ∧ Fr S w (w1.setCell ⟨B, 0, none⟩ v) := by
  have hB := lt_of_block h0
  have h1 : w1.heap[B]? = some (.cells #[v0] 55 (0, 0)) := by rw [hb.block B hB]; exact h0
  refine ⟨⟨Or.inl hS, v, w.heap.size, one_setCell h1, ownsRow_setCell_below hown hB v, fun g hg => ?_⟩, ⟨hb.os, hb.tape, hb.output, ?_, ?_⟩⟩
  · have := hown.lt g hg
    exact ⟨Or.inr this.1, by omega⟩
  · simp only [World.setCell, Array.size_modify]; exact hb.size
  · intro k hk hs
    rw [Below.heap_setCell _ _ _ _ (fun e => hs (by rw [e]; exact hS))]
    exact hb.block k hk

set_option maxRecDepth 100000 in
set_option maxHeartbeats 1000000 in
theorem Num_any (S : Nat → Prop) (B : Nat) (l : Bytes) (n : Nat) (w : World) (hl : l.length ≤ 536870912) (hn : n < 18446744073709551616) (h : Wr w S B l) :
    Calls Try.prog 42 #[.pointer (some ⟨B, 0, none⟩), .int .u64 n] w (RetWr S B (l ++ shortB n) w) := by
  obtain ⟨hS, v, base, h0, hown, hg⟩ := h
  obtain ⟨a, cap, rfl, hin⟩ := own_bytes hown
  have hc := cell_of_one h0
  have hP := Lib.hid (Put_any a cap l n w hl hn hin)
  have H0 := Lib.hid h0
  clear h0 hown hg hin
  go_enter Try.func42, Try.ntmps42
  go_wp2_with (go_at_call 57; refine hP.out.mono ?_; rintro e w1 ⟨v', rfl, hown1, hb⟩; obtain ⟨a1, cap1, rfl, hin1⟩ := own_bytes hown1; have hcB := kept hb hc; have hfB := (hb.frozen (p := ⟨B, 0, none⟩) (lt_of_block H0.out)).trans (free_of_one H0.out))
  go_ret
  have := wr_store hS H0.out hb hown1
  rw [List.length_append] at this
  exact ⟨rfl, this.1, this.2⟩
end Go.Proofs.Ytdlhbmhdcdfocaa
