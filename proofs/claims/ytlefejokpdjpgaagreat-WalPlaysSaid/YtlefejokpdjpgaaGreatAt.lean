/- A writer through a chain of calls: one footprint from end to end. Conditions: as the calls have them. -/
import Derived.Test.YtlefejokpdjpgaaGreatWriter
set_option linter.unusedSimpArgs false
set_option linter.unusedVariables false
set_option linter.unnecessarySimpa false
set_option maxHeartbeats 16000000
set_option maxRecDepth 100000
namespace Go.Proofs.YtlefejokpdjpgaaGreat
open Go.RowKit
/-- S, what lies in w alone -/
def tight (S : Nat → Prop) (w : World) : Nat → Prop := fun k => S k ∧ k < w.heap.size
theorem Wr.tight {w : World} {S : Nat → Prop} {B : Nat} {l : Bytes} (h : Wr w S B l) : Wr w (tight S w) B l := by
 obtain ⟨h1, v, base, h2, h3, h4⟩ := h
 refine ⟨⟨h1, lt_of_block h2⟩, v, base, h2, h3, fun g hg => ⟨⟨(h4 g hg).1, ?_⟩, (h4 g hg).2⟩⟩
 rcases h3.2 with ⟨hv, hn⟩ | ⟨g', cap, cur, hv, hbs, hgg, rest⟩
 ·rw [hv] at hg; cases hg
 ·rw [hv] at hg
  obtain rfl : g' = g := by simpa [Value.ownBlock] using hg
  exact lt_of_block hgg
/-- since w0: the writer in block B has come to hold l; nothing of w0 has turned but S -/
structure Hold (S : Nat → Prop) (w0 : World) (B : Nat) (w : World) (l : Bytes) : Prop where
 wr : Wr w (grow S w0) B l
 fr : Fr S w0 w
variable {S : Nat → Prop} {w0 w w2 : World} {B : Nat} {l m : Bytes}
theorem Hold.start (h : Wr w S B l) : Hold S w B w l := ⟨h.mono fun _ g => Or.inl g, Fr.refl _ _⟩
theorem Hold.after (h : Hold S w0 B w l) (hw : Wr w2 (grow (Proofs.YtlefejokpdjpgaaGreat.tight (grow S w0) w) w) B m) (hf : Fr (Proofs.YtlefejokpdjpgaaGreat.tight (grow S w0) w) w w2) : Hold S w0 B w2 m := by
 refine ⟨hw.mono fun k g => ?_, h.fr.trans (hf.mono fun k _ g => g.1)⟩
 rcases g with g | g
 ·exact g.1
 ·exact Or.inr (Nat.le_trans h.fr.size g)
theorem Hold.below (h : Hold S w0 B w l) (hb : Below w.heap.size w w2) : Hold S w0 B w2 l :=
 ⟨h.wr.frame (Fr.of_below (S := fun _ => False) hb) (fun _ _ g => g), h.fr.trans ((Fr.of_below (S := fun _ => False) hb).mono fun _ _ g => g.elim)⟩
theorem Hold.drew (h : Hold S w0 B w l) : Hold S w0 B w.drew l := h.below (Below.refl w.heap.size w).drew
theorem Hold.kept (h : Hold S w0 B w l) {p : Addr} {v : Value} (hc : w0.cell? p = some v) (hs : ¬ S p.block) : w.cell? p = some v := h.fr.kept hc hs
theorem Hold.range (h : Hold S w0 B w l) {b o : Nat} {cs : List Value} (hc : w0.rangeAt b o cs) (hs : ¬ S b) : w.rangeAt b o cs := fun j v hv => h.kept (hc j v hv) hs
def RetHold (S : Nat → Prop) (w0 : World) (B : Nat) (m : Bytes) (e : Ending) (w' : World) : Prop := e = .returned (.pointer (some ⟨B, 0, none⟩)) ∧ Hold S w0 B w' m
theorem Hold.retWr (h : Hold S w0 B w l) {e : Ending} (k : RetWr (Proofs.YtlefejokpdjpgaaGreat.tight (grow S w0) w) B m w e w2) : RetHold S w0 B m e w2 := ⟨k.1, h.after k.2.1 k.2.2⟩
theorem Num_h (h : Hold S w0 B w l) (n : Nat) (hl : l.length ≤ 268435456) (hn : n < 18446744073709551616) :
 Calls Tryz.prog 47 #[.pointer (some ⟨B, 0, none⟩), .int .u64 n] w (RetHold S w0 B (l ++ shortB n)) :=
 (Num_any _ B l n w (by omega) hn h.wr.tight).mono fun _ _ k => h.retWr k
theorem Int_h (h : Hold S w0 B w l) (n : Int) (hl : l.length ≤ 268435456) (h0 : -4398046511104 ≤ n) (h1 : n ≤ 4398046511104) :
 Calls Tryz.prog 80 #[.pointer (some ⟨B, 0, none⟩), .int .i64 n] w (RetHold S w0 B (l ++ zigB n)) :=
 (Int_any _ B l n w (by omega) h0 h1 h.wr.tight).mono fun _ _ k => h.retWr k
theorem Text_h (h : Hold S w0 B w l) (s : ByteArray) (hl : l.length ≤ 268435456) (hs : s.size ≤ 268435456) :
 Calls Tryz.prog 79 #[.pointer (some ⟨B, 0, none⟩), .string s] w (RetHold S w0 B (l ++ textB (bl s))) :=
 (Text_any _ B l s w hl hs h.wr.tight).mono fun _ _ k => h.retWr k
theorem Flags_h (h : Hold S w0 B w l) (A : Nat) (fs : List Bool) (hl : l.length ≤ 268435456) (hf : fs.length ≤ 8) (hb : BoolsAt w A fs) :
 Calls Tryz.prog 78 #[.pointer (some ⟨B, 0, none⟩), .slice (some ⟨A, 0, none⟩) fs.length fs.length] w (RetHold S w0 B (l ++ [UInt8.ofNat (flagsN fs)])) :=
 (Flags_any _ B l A fs w (by omega) hf h.wr.tight hb).mono fun _ _ k => h.retWr k
def HoldUnit (S : Nat → Prop) (w0 : World) (B : Nat) (m : Bytes) (e : Ending) (w' : World) : Prop := e = .returned (.tuple #[]) ∧ Hold S w0 B w' m
theorem dotPut_h (h : Hold S w0 B w l) (d : Dot) (hl : l.length ≤ 268435456) :
 Calls Tryz.prog 76 #[.pointer (some ⟨B, 0, none⟩), .agg #[.int .i64 d.a.dev, .int .i64 d.a.inc, .int .i64 d.seq]] w (HoldUnit S w0 B (l ++ dotB d)) :=
 (dotPut_any _ B l d w (by omega) h.wr.tight (fun _ g => g.2)).mono fun _ _ k => ⟨k.1, h.after k.2.1 k.2.2⟩
theorem clockPut_h (h : Hold S w0 B w l) (d : Stamp) (hl : l.length ≤ 268435456) :
 Calls Tryz.prog 77 #[.pointer (some ⟨B, 0, none⟩), .agg #[.int .i64 d.wall, .int .i64 d.count, .int .i64 d.dev]] w (HoldUnit S w0 B (l ++ stampB d)) :=
 (clockPut_any _ B l d w (by omega) h.wr.tight (fun _ g => g.2)).mono fun _ _ k => ⟨k.1, h.after k.2.1 k.2.2⟩
theorem WBytes_h (h : Hold S w0 B w l) (hl : l.length ≤ 268435456) : Calls Tryz.prog 50 #[.pointer (some ⟨B, 0, none⟩)] w (RetBytes l w) :=
 WBytes_any _ B l w (by omega) h.wr
end Go.Proofs.YtlefejokpdjpgaaGreat
