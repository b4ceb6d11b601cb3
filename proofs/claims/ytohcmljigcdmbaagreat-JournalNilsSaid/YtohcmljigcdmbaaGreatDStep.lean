/- The disk's law: the reference's files behind a crash. Conditions: as in the text. -/
import Derived.Test.YtohcmljigcdmbaaGreatCel
import Derived.Test.YtohcmljigcdmbaaGreatDRefF
import Derived.Test.YtohcmljigcdmbaaGreatDCrash
import Derived.Test.YtohcmljigcdmbaaGreatLast
import Derived.IntWalk
import Derived.Test.YtohcmljigcdmbaaGreatDiskM
import Derived.Lib.SlBytesConst
import Derived.ProofKit
import Derived.Deep.Slices
import Derived.OpenShut
set_option linter.unusedSimpArgs false
set_option linter.unusedVariables false
set_option linter.unnecessarySimpa false
set_option maxHeartbeats 16000000
set_option maxRecDepth 100000
namespace Go.Proofs.YtohcmljigcdmbaaGreat
open Go.RowKit
variable {F : Nat → Prop} {d : Nat} {S : DS} {b : Nat} {D : DataW Unit} {w w' : World}
theorem FileAt.cells {w : World} {fb : Nat} {f : DF} (h : FileAt w fb f) : ∃ a cap, w.cell? ⟨fb, 0, none⟩ = some (.slice a f.b.length cap) ∧ w.cell? ⟨fb, 1, none⟩ = some (.int .i64 f.safe) ∧ w.frozen? ⟨fb, 0, none⟩ = false ∧ w.frozen? ⟨fb, 1, none⟩ = false := by
 obtain ⟨a, cap, h1, h2, h3⟩ := h
 obtain ⟨p0, p1, f0, f1⟩ := two_cell h1
 exact ⟨a, cap, p0, p1, f0, f1⟩
theorem BytesIn.cells {w : World} {a : Option Addr} {l : Bytes} (h : BytesIn w a l) : CellsIn w a (byteVals l) := by
 rcases h with rfl | ⟨A, off, h1, h2⟩
 ·exact Or.inl rfl
 ·refine Or.inr ⟨A, off, h1, fun j v hv => ?_⟩
  have := h2.news j v hv
  rwa [Addr.add_mid] at this
theorem own_bytesIn {w : World} {base : Nat} {v : Value} {n : Nat} {l : Bytes} (h : w.ownsRow base 5 1 v n (byteVals l)) : ∃ a cap, v = .slice a l.length cap ∧ BytesIn w a l ∧ l.length ≤ cap := by
 have hn : n = l.length := by have := h.1; rw [byteVals_length] at this; omega
 subst hn
 obtain ⟨a, cap, h1, h2, h3⟩ := own_cellsIn h
 refine ⟨a, cap, h1, ?_, h3⟩
 rcases h2 with h2 | ⟨A, off, h2, h4⟩
 ·left
  have := congrArg List.length h2
  rw [byteVals_length] at this
  exact List.length_eq_zero_iff.1 this
 ·exact Or.inr ⟨A, off, h2, fun j hj => h4 j _ (by simp [byteVals, hj])⟩
variable {F : Nat → Prop} {d : Nat} {S : DS} {b : Nat} {D : DataW Unit} {w w' : World}
variable {F : Nat → Prop} {d : Nat} {S : DS} {b : Nat} {D : DataW Unit} {s : ByteArray} {w w' : World}
theorem Append_any {a2 : Option Addr} {l : Bytes} {cap2 : Nat} (hs : s.size ≤ maxLen) (h : DkIn w F d S b D) (hi : DInv S) (hl : l.length ≤ 1073741824) (hin : BytesIn w a2 l) :
 Calls Tryz.prog 37 #[.pointer (some ⟨d, 0, none⟩), .string s, .slice a2 l.length cap2] w (RetDk F d b (S.append s l).1 (S.append s l).2 w) := by
 by_cases hok : nameOk s = true
 ·cases hg : getF S.f s with
  | none => exact Append_none hs h hi.srt.uniq hi.arm hok hg hl hin
  | some f => exact Append_some hs h hi.srt.uniq hi.arm hi.len hok hg (hi.ok f (getF_mem hg)).len hin
 ·have hr : S.append s l = (S, 1) := by unfold DS.append; rw [if_neg hok]
  rw [hr]
  exact Append_form hs h (Bool.eq_false_iff.2 hok)
/-- a disk all of whose blocks are new -/
theorem RetDk.own {B : Nat} {c : Int} {e : Ending} (h : RetDk (fun k => B ≤ k) d b S c w e w') (hB : B ≤ w.heap.size) : e = .returned (.int .i64 c) ∧ (∃ D', DkIn w' (fun k => B ≤ k) d S b D') ∧ Below B w w' := by
 obtain ⟨h1, ⟨D', h2⟩, h3⟩ := h
 exact ⟨h1, ⟨D', h2.mono fun k hk => by rcases hk with hk | hk; exact hk; exact Nat.le_trans hB hk⟩, h3.below hB fun k hk => hk⟩
def logS : ByteArray := ⟨#[108, 111, 103]⟩
def S1 : DS := ((⟨[], 0, false⟩ : DS).append logS [97, 98, 99]).1
theorem logS_size : logS.size ≤ maxLen := by decide
end Go.Proofs.YtohcmljigcdmbaaGreat
/- Slices, bytes, numbers that came in as arguments, out of their readings. Conditions: none. -/
namespace Go.Proofs.YtohcmljigcdmbaaGreat
open Go.ChangeShapes Go.WideShapes Go.ChangeAt Go.RowKit
section
variable {H : Type} {enc : TypeId × Value → H} {P : Program} {w : World} {base : Nat} {spare : Nat → Bool} {held : Bool}
/-- one field of a struct, read by itself -/
theorem trod_field {t : TypeId} {fs : Array Field} {fuel : Nat} {cs : List Value} {x : DataW H × List MemPlace} (ht : P.underlying t = some (.struct fs)) (h : DataW.trod enc P w base spare held fuel t cs = some x)
 (i : Nat) (f : Field) (hf : fs[i]? = some f) (n : Nat) (hn : P.cellsOf f.type = n) (sub : List Value) (hsub : (cs.drop f.offset).take n = sub) :
 ∃ y m, DataW.trod enc P w base spare held m f.type sub = some y := by
 obtain ⟨xs, n', _, hx, _, hlen, hfs⟩ := DataW.trod_struct ht h
 have h1 := hfs i f hf
 have hi : i < xs.length := by
  rw [hlen]
  exact (Array.getElem?_eq_some_iff.1 hf).1
 rw [List.getElem?_eq_getElem hi, hn, hsub] at h1
 exact ⟨_, _, h1⟩
theorem list_of {α : Type} {R : Nat → α → Prop} : ∀ (n : Nat), (∀ i, i < n → ∃ x, R i x) → ∃ l : List α, l.length = n ∧ ∀ i (hi : i < l.length), R i l[i]
 | 0, _ => ⟨[], rfl, fun i hi => by simp at hi⟩
 | n + 1, h => by
   obtain ⟨l, hl, hr⟩ := list_of n (fun i hi => h i (by omega))
   obtain ⟨x, hx⟩ := h n (by omega)
   refine ⟨l ++ [x], by simp [hl], fun i hi => ?_⟩
   by_cases hin : i < l.length
   ·rw [List.getElem_append_left hin]; exact hr i hin
   ·have : i = n := by simp at hi; omega
    subst this
    rw [List.getElem_append_right (by omega)]
    simpa [hl] using hx
theorem cells3 {a : Addr} {cs : List Value} (h : w.cells? base a 3 = some cs) : ∃ c0 c1 c2 b off, cs = [c0, c1, c2] ∧ a = ⟨b, off, none⟩ ∧ w.cell? ⟨b, off, none⟩ = some c0 ∧ w.cell? ⟨b, off + 1, none⟩ = some c1 ∧ w.cell? ⟨b, off + 2, none⟩ = some c2 := by
 obtain ⟨hb, hl, hc⟩ := World.cells?_some h
 match cs, hl with
 | [c0, c1, c2], _ =>
   have h0 := hc 0 (by simp)
   have h1 := hc 1 (by simp)
   have h2 := hc 2 (by simp)
   obtain ⟨b, off, spot⟩ := a
   have hs : spot = none := by simpa [Addr.add] using World.cell?_spot h0
   subst hs
   rw [Go.WideShapes.add_plain] at h0 h1 h2
   exact ⟨c0, c1, c2, b, off, rfl, rfl, by simpa using h0, by simpa using h1, by simpa using h2⟩
end
/-- a number of Go's type int -/
def isI64 (n : Int) : Prop := -9223372036854775808 ≤ n ∧ n ≤ 9223372036854775807
theorem isI64_wf {n : Int} (h : (Lit.int .i64 n).wf = true) : isI64 n := by
 exact bounds_i64 h
section
variable {H : Type} {enc : TypeId × Value → H} {w : World} {base : Nat} {spare : Nat → Bool} {held : Bool}
theorem arg_int {r : Reach} {b0 : Nat} {v : Value} {d : DataW H} {p : List MemPlace} (hv : Value.okWide Tryz.prog w r b0 3 v) (h : DataW.Trod enc Tryz.prog w 0 spare held 3 v d p) :
 ∃ n : Int, v = .int .i64 n ∧ isI64 n := by
 obtain ⟨n, rfl⟩ := okWide_int Tryz.underlying3 hv
 obtain ⟨fuel, hf⟩ := h
 obtain ⟨x0, e0, _, w0⟩ := DataW.trod_int Tryz.underlying3 hf
 simp only [Value.cells] at e0
 simp at e0
 subst e0
 exact ⟨n, rfl, isI64_wf w0⟩
theorem range_flat {α : Type} {A : Nat} (f : α → List Value) (n : Nat) : ∀ (l : List α) (off : Nat), (∀ i (hi : i < l.length), (f l[i]).length = n ∧ w.rangeAt A (off + i * n) (f l[i])) → w.rangeAt A off (l.flatMap f)
 | [], off, _ => fun j v hv => by simp at hv
 | x :: r, off, h => by
   have h0 := h 0 (by simp)
   simp only [List.getElem_cons_zero, Nat.zero_mul, Nat.add_zero] at h0
   have ih := range_flat f n r (off + n) fun i hi => by
     have := h (i + 1) (by simp; omega)
     simp only [List.getElem_cons_succ] at this
     rw [show off + n + i * n = off + (i + 1) * n by rw [Nat.add_mul]; omega]
     exact this
   intro j v hv
   rw [List.flatMap_cons] at hv
   by_cases hj : j < (f x).length
   ·rw [List.getElem?_append_left hj] at hv
    exact h0.2 j v hv
   ·rw [List.getElem?_append_right (by omega), h0.1] at hv
    have := ih (j - n) v hv
    rwa [show off + n + (j - n) = off + j by omega] at this
end
end Go.Proofs.YtohcmljigcdmbaaGreat
/- The disk's steps and keeps as arguments. Conditions: none. -/
namespace Go.Proofs.YtohcmljigcdmbaaGreat
open Go.ChangeShapes Go.WideShapes Go.ChangeAt Go.RowKit
/-- a step, and where its bytes and keeps lie -/
structure StepIt where
 kind : Int
 n : Int
 name : ByteArray
 dst : ByteArray
 b : Bytes
 ab : Option Addr
 cb : Nat
 l : Ks
 al : Option Addr
 cl : Nat
def KsOk (l : Ks) : Prop := ∀ p ∈ l, p.1.size ≤ maxLen ∧ (Lit.int .i64 p.2).wf = true
structure StepIn (w : World) (s : StepIt) : Prop where
 name : s.name.size ≤ maxLen
 dst : s.dst.size ≤ maxLen
 bytes : BytesIn w s.ab s.b
 keeps : CellsIn w s.al (kcs s.l)
 ks : KsOk s.l
 blen : s.b.length ≤ maxLen
 llen : s.l.length ≤ maxLen
theorem StepIn.kept {w w' : World} {s : StepIt} (h : StepIn w s) (hb : Below w.heap.size w w') : StepIn w' s := ⟨h.name, h.dst, h.bytes.kept hb, h.keeps.kept hb, h.ks, h.blen, h.llen⟩
section
variable {H : Type} {enc : TypeId × Value → H} {w : World} {base : Nat} {spare : Nat → Bool} {held : Bool}
end
variable {F : Nat → Prop} {d : Nat} {S : DS} {b : Nat} {D : DataW Unit} {w w' : World}
/-- the blocks that are a disk's, and no others -/
def Ex (w : World) (F : Nat → Prop) (d b : Nat) (D : DataW Unit) : Nat → Prop := fun k => F k ∧ k < w.heap.size ∧ (k = d ∨ k = b ∨ ∃ s : ByteArray, D.atKey (nk s) .nil = .lit (.int .i64 k))
theorem DkIn.exact (h : DkIn w F d S b D) : DkIn w (Ex w F d b D) d S b D :=
 ⟨⟨h.fd, Fr.lt h.cells, Or.inl rfl⟩, h.cells, ⟨h.fb, by obtain ⟨es, cl, hb, _⟩ := h.own; exact Fr.lt hb, Or.inr (Or.inl rfl)⟩, h.own,
   ⟨h.files.none, fun s f hg => by
    obtain ⟨fb, h1, h2, h3⟩ := h.files.some s f hg
    have hlt : fb < w.heap.size := by obtain ⟨a, cap, h4, _⟩ := h3; exact Fr.lt h4
    exact ⟨fb, ⟨h1, hlt, Or.inr (Or.inr ⟨s, h2⟩)⟩, h2, h3⟩, h.files.apart, h.files.has, h.files.size⟩⟩
def DS.step (S : DS) (s : StepIt) : DS :=
 if s.kind = 1 then (S.append s.name s.b).1 else if s.kind = 2 then (S.sync s.name).1 else if s.kind = 3 then (S.trunc s.name s.n).1 else if s.kind = 4 then (S.rename s.name s.dst).1
 else if s.kind = 5 then (S.remove s.name).1 else if s.kind = 8 then (S.rarm s.n).1 else if s.kind = 6 then S.crash s.l else S
theorem DInv.step {S : DS} (h : DInv S) (s : StepIt) : DInv (S.step s) := by
 unfold DS.step
 repeat' split
 ·exact h.append _ _
 ·exact h.sync _
 ·exact h.trunc _ _
 ·exact h.rename _ _
 ·exact h.remove _
 ·exact h.arm' _
 ·exact h.crash _
 ·exact h
theorem B3.fr {T : Nat → Prop} {R : Nat} {t : TypeId} {x y z : Value} (h : B3 w R t x y z) (hf : Fr T w w') (hn : ¬ T R) : B3 w' R t x y z := (hf.block R h.lt hn).trans h
end Go.Proofs.YtohcmljigcdmbaaGreat
