/- A row of one's own that holds no bytes grows beside a disk. Conditions: none. -/
import Derived.Test.YtlefejokpdjpgaaGreatRest
import Derived.Test.YtlefejokpdjpgaaGreatDRefD
import Derived.Test.YtlefejokpdjpgaaGreatWalR
set_option linter.unusedSimpArgs false
set_option linter.unusedVariables false
set_option linter.unnecessarySimpa false
set_option maxHeartbeats 16000000
set_option maxRecDepth 100000
namespace Go.Proofs.YtlefejokpdjpgaaGreat
open Go.RowKit
/-- the row's block holds no byte -/
def RowNB (w : World) (v : Value) : Prop := ∀ g, v.ownBlock = some g → NoByte w g
theorem RowNB.nil (w : World) : RowNB w (.slice none 0 0) := fun g h => by cases h
theorem RowNB.fr {T : Nat → Prop} {w w' : World} {base : Nat} {e : TypeId} {size n : Nat} {v : Value} {xs : List Value} (h : RowNB w v) (hown : w.ownsRow base e size v n xs) (hf : Fr T w w') (hn : ∀ k, v.ownBlock = some k → ¬ T k) : RowNB w' v := fun g hg o c hc => by
 have hb := hf.block g (hown.lt g hg).2 (hn g hg)
 exact h g hg o c (by rw [← hc]; exact (World.cell?_of_block (w := w) (a := ⟨g, o, none⟩) hb).symm)
section
variable {P : Program}
end
variable {F : Nat → Prop} {d : Nat} {S : DS} {b : Nat} {D : DataW Unit} {w w' : World}
/-- no two numbers lie side by side -/
def jK (w : World) (k : Nat) : Prop := ∀ o x y, w.cell? ⟨k, o, none⟩ = some (.int .i64 x) → w.cell? ⟨k, o + 1, none⟩ ≠ some (.int .i64 y)
theorem DkIn.noInts (h : DkIn w F d S b D) : ∀ k, Ex w F d b D k → jK w k := by
 rintro k ⟨_, _, hk | hk | ⟨s, hk⟩⟩ o x y h1 h2
 ·subst hk
  simp only [World.cell?, show w.heap[k]? = _ from h.cells] at h1 h2
  match o, h1, h2 with
  | 0, h1, _ => simp at h1
  | 1, _, h2 => simp at h2
  | o + 2, _, h2 => simp at h2
 ·subst hk
  obtain ⟨es, cl, hb, _⟩ := h.own
  simp [World.cell?, hb] at h1
 ·cases hg : getF S.f s with
  | none => have := h.files.none s hg; rw [this] at hk; cases hk
  | some f =>
    obtain ⟨fb, _, h3, a, c, h4, _⟩ := h.files.some s f hg
    obtain rfl : fb = k := by have := h3.symm.trans hk; simp at this; omega
    simp only [World.cell?, h4] at h1 h2
    match o, h1, h2 with
    | 0, h1, _ => simp at h1
    | o + 1, _, h2 => simp at h2
/-- a block of another type is none of the disk's -/
theorem DkIn.typed (h : DkIn w F d S b D) {k : Nat} {cur : Array Value} {e : TypeId} (hk : w.heap[k]? = some (.cells cur e (0, 0))) (he : e ≠ 73 ∧ e ≠ 88) : ¬ Ex w F d b D k := by
 rintro ⟨_, _, h1 | h1 | ⟨s, h1⟩⟩
 ·subst h1
  have := hk.symm.trans h.cells
  simp only [Option.some.injEq, Obj.cells.injEq] at this
  exact he.1 this.2.1
 ·subst h1
  obtain ⟨es, cl, hb, _⟩ := h.own
  have := hk.symm.trans hb
  simp at this
 ·cases hg : getF S.f s with
  | none => have := h.files.none s hg; rw [this] at h1; cases h1
  | some f =>
    obtain ⟨fb, _, h3, a, c, h4, _⟩ := h.files.some s f hg
    obtain rfl : fb = k := by have := h3.symm.trans h1; simp at this; omega
    have := hk.symm.trans h4
    simp only [Option.some.injEq, Obj.cells.injEq] at this
    exact he.2 this.2.1
theorem RecsIn.fr {T : Nat → Prop} {a : Option Addr} {ls : List aY} (h : RecsIn w a ls) (hf : Fr T w w') (hT : ∀ k, T k → NoStr w k ∧ jK w k) : RecsIn w' a ls := by
 constructor
 ·rcases h.rows with h0 | ⟨A, off, h1, h2⟩
  ·exact Or.inl h0
  ·refine Or.inr ⟨A, off, h1, fun i hi j v hv => ?_⟩
   have hs := h2 i hi 9 (.string ls[i].1.e.key.name) rfl
   have hb : w'.heap[A]? = w.heap[A]? := hf.block A (World.block_lt_of_cell? w _ hs) (fun e => (hT A e).1 _ _ hs)
   exact (World.cell?_of_block (w := w) (a := ⟨A, off + i * 21 + j, none⟩) hb).trans (h2 i hi j v hv)
 ·intro x hx
  refine (h.dots x hx).keep fun A off hA hne => ?_
  have hd := h.dots x hx
  rw [hA] at hd
  refine hf.block A (hd.lt hne) fun e => ?_
  rcases hd with h0 | ⟨A', off', he, hd⟩
  ·exact hne h0
  ·cases he
   have hl := List.length_pos_iff.2 hne
   exact (hT A e).2 _ _ _ (hd.dev 0 hl) (hd.inc 0 hl)
theorem RetDk.ex {B : Nat} {S' : DS} {X : World} {c : Int} {e : Ending} (h : RetDk (Ex X (fun q => B ≤ q) d b D) d b S' c X e w') (hB : B ≤ X.heap.size) :
 e = .returned (.int .i64 c) ∧ (∃ D', DkIn w' (fun q => B ≤ q) d S' b D') ∧ Fr (Ex X (fun q => B ≤ q) d b D) X w' ∧ Below B X w' := by
 obtain ⟨h1, ⟨D', h2⟩, h3⟩ := h
 exact ⟨h1, ⟨D', h2.mono fun k hk => by rcases hk with hk | hk; exact hk.1; exact Nat.le_trans hB hk⟩, h3, h3.below hB fun k hk => hk.1⟩
/-- what the law's loop keeps -/
structure WSafe (B d b : Nat) (R : List aY) (r : Value) (s : Nat) (wr : World) : Prop where
 disk : ∃ D, DkIn wr (fun q => B ≤ q) d (gy (bD R) (aj ((bD R).take s)).length) b D
 own : wr.ownsRow B 41 21 r R.length (bJ R)
 nb : RowNB wr r
 safe : s ≤ R.length
 below : B ≤ wr.heap.size
theorem WSafe.kept {B d b : Nat} {R : List aY} {r : Value} {s : Nat} {wr wx : World} (h : WSafe B d b R r s wr) (hb : Below wr.heap.size wr wx) : WSafe B d b R r s wx := by
 obtain ⟨D, hD⟩ := h.disk
 exact ⟨⟨D, hD.below hb⟩, ownsRow_below h.own hb, h.nb.fr h.own (Fr.of_below (S := fun _ => False) hb) (fun _ _ h => h), h.safe, Nat.le_trans h.below hb.size⟩
theorem WSafe.of {B d b : Nat} {R : List aY} {r : Value} {s : Nat} {wr : World} {Rr : List Rec} {sb : Nat} {D : DataW Unit} (hD : DkIn wr (fun q => B ≤ q) d (gy Rr sb) b D) (hR : bD R = Rr) (hsb : sb = (aj (Rr.take s)).length)
 (hown : wr.ownsRow B 41 21 r R.length (bJ R)) (hnb : RowNB wr r) (hs : s ≤ R.length) (hB : B ≤ wr.heap.size) : WSafe B d b R r s wr := ⟨⟨D, by rw [hR, ← hsb]; exact hD⟩, hown, hnb, hs, hB⟩
theorem uH {n : Int} (h : iP n) : (Lit.int .i64 n).wf = true := by
 unfold Lit.wf
 rw [Bool.and_eq_true]
 exact ⟨decide_eq_true h.1, decide_eq_true h.2⟩
theorem uX (w : World) (n : Int) (t : TypeId) : CellsIn (w.alloc (.cells #[.string ⟨#[108, 111, 103]⟩, .int .i64 n] t)) (some ⟨w.heap.size, 0, none⟩) (kcs [(logS, n)]) := by
 refine Or.inr ⟨_, _, rfl, fun j v hv => ?_⟩
 rw [Nat.zero_add, World.cell?_alloc_new]
 simpa [kcs, logS] using hv
end Go.Proofs.YtlefejokpdjpgaaGreat
