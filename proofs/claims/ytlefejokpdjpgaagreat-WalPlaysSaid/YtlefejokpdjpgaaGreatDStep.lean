/- The log on a disk: Recover. Conditions: as in the text. -/
import Derived.Test.YtlefejokpdjpgaaGreatRest
import Derived.Test.YtlefejokpdjpgaaGreatWal
import Derived.Test.YtlefejokpdjpgaaGreatRecQ
import Derived.Test.YtlefejokpdjpgaaGreatCel
import Derived.Test.YtlefejokpdjpgaaGreatDRefH
import Derived.Test.YtlefejokpdjpgaaGreatLast
import Derived.Test.YtlefejokpdjpgaaGreatOpen
import Derived.Test.YtlefejokpdjpgaaGreatEq
set_option linter.unusedSimpArgs false
set_option linter.unusedVariables false
set_option linter.unnecessarySimpa false
set_option maxHeartbeats 16000000
set_option maxRecDepth 100000
namespace Go.Proofs.YtlefejokpdjpgaaGreat
open Go.RowKit
variable {F : Nat → Prop} {d : Nat} {S : DS} {b : Nat} {D : DataW Unit} {w w' : World}
/-- what a recovery hands back -/
def RetRecov (F : Nat → Prop) (d b : Nat) (r : DS × List Rec × Nat × Int) (w : World) (e : Ending) (w' : World) : Prop :=
 ∃ (a : Option Addr) (ls : List aY) (cap : Nat), e = .returned (.tuple #[.slice a ls.length cap, .int .i64 (r.2.2.1 : Nat), .int .i64 r.2.2.2]) ∧ RecsIn w' a ls ∧ ls.length ≤ cap ∧ bD ls = r.2.1 ∧ (∃ D', DkIn w' (grow F w) d r.1 b D') ∧ Fr F w w'
theorem gG (w : World) : RecsIn w none [] := ⟨Or.inl rfl, fun x hx => by simp at hx⟩
theorem RecsOwn.fr {w0 W : World} {v : Value} {ls : List aY} (h : RecsOwn w0 v ls W) (hf : Fr F W w') (hF : ∀ k, F k → k < w0.heap.size) : ∃ a cap, v = .slice a ls.length cap ∧ RecsIn w' a ls ∧ ls.length ≤ cap := by
 refine dL (own_fr30 h.own hf (fun k hk e => ?_)) (fun x hx => ?_)
 ·have := (h.own.lt k hk).1
  have := hF k e
  omega
 ·refine (h.dots x hx).keep (fun A off hA hne => hf.block A ?_ (fun e => ?_))
  ·have := h.dots x hx
   rw [hA] at this
   exact this.lt hne
  ·have := (h.ne x hx A off hA).1
   have := hF A e
   omega
theorem y17 {p q : Prop} (k : q) (h : PLift q → p := by
 intro kk
 have hb3 : Below w.heap.size w w3 := below2 hb (below2 hb1 hinv.bel)
 have hls : bD ls = L := hmap
 have HLS := Lib.hid hls
 have HV := Lib.hid hinv
 have HB1 := Lib.hid (below2 hb hb1)
 revert hb3 hls HLS HV HB1
 exact kk.down) : p := h ⟨k⟩
theorem iE (h : DkIn w F d S b D) (hi : DInv S) (hF : ∀ k, F k → k < w.heap.size) : Calls Tryz.prog 13 #[.pointer (some ⟨d, 0, none⟩)] w (RetRecov F d b S.recov w) := by
 have HR := Lib.hid (jO h hi)
 have hwl := iF hi
 by_cases h1 : S.down = true ∧ (getF S.f logS).isSome = true
 ·have hr : S.recov = (S, [], 0, 12) := by unfold DS.recov; rw [if_pos h1]
  rw [hr]
  have HB : Hid (∀ X, Calls Tryz.prog 27 #[.int .i64 12] X fun e w' => e = .returned (.int .i64 12) ∧ X = w') := Lib.hid fun X => gz 12 X
  have H1 := Lib.hid h1
  have H0 := Lib.hid h
  clear hr h1 h hF
  go_enter Tryz.func13, Tryz.ntmps13
  go_upto_region 2 with (go_at_call 30; (with_reducible refine HR.out.mono ?_); rintro e w1 ⟨a, cap, c, rfl, hc, hc3, -, -, -, hb⟩)
  obtain rfl : c = 12 := by
   rw [if_pos H1.out] at hc
   rcases hc3 with rfl | rfl | rfl
   ·simp [dB] at hc
   ·simp [dB] at hc
   ·rfl
  clear hc hc3
  go_wp2_with (go_at_call 27; (with_reducible refine (HB.out _).mono ?_); rintro e w1 ⟨rfl, rfl⟩)
  go_returns
  exact ⟨none, [], 0, rfl, gG _, Nat.le_refl _, rfl, ⟨D, (H0.out.below hb).mono fun k hk => Or.inl hk⟩, Fr.of_below hb⟩
 ·obtain ⟨L, n, hLn⟩ : ∃ L n, aC (aV S) = (L, n) := ⟨_, _, rfl⟩
  have HS0 := fun (W : World) (A : Option Addr) (C : Nat) (hc : (aV S).length ≤ C) (h : BytesIn W A (aV S)) => pX A C (aV S) W (by omega) hc h
  rw [hLn] at HS0
  have hn : n ≤ (aV S).length := by have := iK _ (aV S) (Nat.le_refl _); rw [hLn] at this; exact this
  obtain ⟨m, hm⟩ : ∃ m, m = (aV S).length := ⟨_, rfl⟩
  have H1 := Lib.hid h1
  have H0 := Lib.hid h
  have HFF := Lib.hid hF
  rw [← hm] at HS0 hn hwl
  have HS := Lib.hid HS0
  have hru := fun he => iJ (S := S) h1 he
  have hrc := fun he T c ht => jC (S := S) h1 he (T := T) (c := c) ht
  rw [hLn] at hru hrc
  simp only at hru hrc
  rw [← hm] at hru hrc
  have HT0 : ∀ X, Below w.heap.size w X → Calls Tryz.prog 32 #[.pointer (some ⟨d, 0, none⟩), .string ⟨#[108, 111, 103]⟩, .int .i64 (n : Nat)] X (RetDk F d b (S.trunc logS (n : Nat)).1 (S.trunc logS (n : Nat)).2 X) := fun X hb => Truncate_any logS_size (h.below hb) hi.arm (fun f hf => Nat.le_trans (hi.ok f (getF_mem hf)).len (by decide))
  have HM := Lib.hid hm
  have HBX := Lib.hid (fun c X => gz c X)
  by_cases he : n = m
  ·have q1 : ((n : Int) == (m : Int)) = true := beq_iff_eq.2 (by omega)
   have q2 : (n == m) = true := beq_iff_eq.2 he
   have HRU := Lib.hid (hru he)
   rw [HRU.out]
   clear HT0 HS0 hru hrc hLn h h1 hF hm he
   go_enter Tryz.func13, Tryz.ntmps13
   go_upto_region 2 with (go_at_call 30; (with_reducible refine HR.out.mono ?_); rintro e w1 ⟨a, cap, c, rfl, hc, -, hsz, hin, hcap, hb⟩)
   rw [if_neg H1.out] at hc
   have hz := hsz hc
   have hin1 := hin hc
   rw [hz, ← HM.out] at hcap
   rw [hz, ← HM.out]
   have HB0 := fun X => HBX.out c X
   rw [hc] at HB0
   have HB := Lib.hid HB0
   clear HB0 hc hsz hin hz HBX
   go_upto_region 5 with (first
        | (go_at_call 27; (with_reducible refine (HB.out _).mono ?_); rintro e w2 ⟨rfl, rfl⟩)
        | (go_at_call 31; (with_reducible refine (HS.out _ _ _ hcap hin1).mono ?_); rintro e w3 ⟨v, ls, W1, rfl, hb1, hinv, hmap⟩))
   refine y17 ?_
   intro hb3 hls HLS HV HB1
   clear hb hb1 hinv hmap hls hin1 HR
   go_wp2
   go_returns
   obtain ⟨a2, c2, rfl, hin2, hc2⟩ := dL HV.out.own HV.out.dots
   exact ⟨a2, ls, c2, rfl, hin2, hc2, HLS.out, ⟨D, (H0.out.below hb3).mono fun k hk => Or.inl hk⟩, Fr.of_below hb3⟩
  ·have q1 : ((n : Int) == (m : Int)) = false := beq_eq_false_iff_ne.2 (by omega)
   have q2 : (n == m) = false := beq_eq_false_iff_ne.2 he
   obtain ⟨T, c, hT⟩ : ∃ T c, S.trunc logS (n : Nat) = (T, c) := ⟨_, _, rfl⟩
   rw [hT] at HT0
   simp only at HT0
   have HT := Lib.hid HT0
   have hrx := hrc he T c hT
   by_cases hc0 : c = 0
   ·subst hc0
    rw [if_pos rfl] at hrx
    rw [hrx]
    clear HT0 HS0 hru hrc hLn h h1 hF hm he hT hrx
    go_enter Tryz.func13, Tryz.ntmps13
    go_upto_region 2 with (go_at_call 30; (with_reducible refine HR.out.mono ?_); rintro e w1 ⟨a, cap, c, rfl, hc, -, hsz, hin, hcap, hb⟩)
    rw [if_neg H1.out] at hc
    have hz := hsz hc
    have hin1 := hin hc
    rw [hz, ← HM.out] at hcap
    rw [hz, ← HM.out]
    have HB0 := fun X => HBX.out c X
    rw [hc] at HB0
    have HB := Lib.hid HB0
    clear HB0 hc hsz hin hz HBX
    go_upto_region 5 with (first
     | (go_at_call 27; (with_reducible refine (HB.out _).mono ?_); rintro e w2 ⟨rfl, rfl⟩)
     | (go_at_call 31; (with_reducible refine (HS.out _ _ _ hcap hin1).mono ?_); rintro e w3 ⟨v, ls, W1, rfl, hb1, hinv, hmap⟩))
    refine y17 ?_
    intro hb3 hls HLS HV HB1
    clear hb hb1 hinv hmap hls hin1 HR
    go_wp2_with (go_at_call 32; (with_reducible refine (HT.out _ hb3).mono ?_); rintro e w4 ⟨rfl, ⟨D4, hD4⟩, hf4⟩)
    go_returns
    obtain ⟨a2, c2, rfl, hin2, hc2⟩ := HV.out.fr hf4 (fun k hk => Nat.lt_of_lt_of_le (HFF.out k hk) HB1.out.size)
    refine ⟨a2, ls, c2, ?_, hin2, hc2, HLS.out, ⟨D4, hD4.mono fun k hk => hk.imp id fun g => Nat.le_trans hb3.size g⟩, (Fr.of_below hb3).again hf4⟩
    rw [show ((m : Int) - (n : Int)) = ((m - n : Nat) : Int) by omega]
    rfl
   ·rw [if_neg hc0] at hrx
    rw [hrx]
    have q3 : (c != 0) = true := bne_iff_ne.2 hc0
    clear HT0 HS0 hru hrc hLn h h1 hF hm he hT hrx hc0
    go_enter Tryz.func13, Tryz.ntmps13
    go_upto_region 2 with (go_at_call 30; (with_reducible refine HR.out.mono ?_); rintro e w1 ⟨a, cap, c, rfl, hc, -, hsz, hin, hcap, hb⟩)
    rw [if_neg H1.out] at hc
    have hz := hsz hc
    have hin1 := hin hc
    rw [hz, ← HM.out] at hcap
    rw [hz, ← HM.out]
    have HB0 := fun X => HBX.out c X
    rw [hc] at HB0
    have HB := Lib.hid HB0
    clear HB0 hc hsz hin hz HBX
    go_upto_region 5 with (first
     | (go_at_call 27; (with_reducible refine (HB.out _).mono ?_); rintro e w2 ⟨rfl, rfl⟩)
     | (go_at_call 31; (with_reducible refine (HS.out _ _ _ hcap hin1).mono ?_); rintro e w3 ⟨v, ls, W1, rfl, hb1, hinv, hmap⟩))
    refine y17 ?_
    intro hb3 hls HLS HV HB1
    clear hb hb1 hinv hmap hls hin1 HR
    go_wp2_with (go_at_call 32; (with_reducible refine (HT.out _ hb3).mono ?_); rintro e w4 ⟨rfl, ⟨D4, hD4⟩, hf4⟩)
    go_returns
    exact ⟨none, [], 0, rfl, gG _, Nat.le_refl _, rfl, ⟨D4, hD4.mono fun k hk => hk.imp id fun g => Nat.le_trans hb3.size g⟩, (Fr.of_below hb3).again hf4⟩
end Go.Proofs.YtlefejokpdjpgaaGreat
/- The disk's steps and keeps as arguments. Conditions: none. -/
namespace Go.Proofs.YtlefejokpdjpgaaGreat
open Go.ChangeShapes Go.WideShapes Go.ChangeAt Go.RowKit
/-- a step, and where its bytes and keeps lie -/
structure StepIt where
 kind : Int
 n : Int
 name : ByteArray
 dst : ByteArray
 b : Bytes
 ab : Option Addr
 cb : Nat
 l : Ks
 al : Option Addr
 cl : Nat
def yU (l : Ks) : Prop := ∀ p ∈ l, p.1.size ≤ maxLen ∧ (Lit.int .i64 p.2).wf = true
structure StepIn (w : World) (s : StepIt) : Prop where
 name : s.name.size ≤ maxLen
 dst : s.dst.size ≤ maxLen
 bytes : BytesIn w s.ab s.b
 keeps : CellsIn w s.al (kcs s.l)
 ks : yU s.l
 blen : s.b.length ≤ maxLen
 llen : s.l.length ≤ maxLen
theorem StepIn.kept {w w' : World} {s : StepIt} (h : StepIn w s) (hb : Below w.heap.size w w') : StepIn w' s := ⟨h.name, h.dst, h.bytes.kept hb, h.keeps.kept hb, h.ks, h.blen, h.llen⟩
section
variable {H : Type} {enc : TypeId × Value → H} {w : World} {base : Nat} {spare : Nat → Bool} {held : Bool}
end
variable {F : Nat → Prop} {d : Nat} {S : DS} {b : Nat} {D : DataW Unit} {w w' : World}
/-- the blocks that are a disk's, and no others -/
def Ex (w : World) (F : Nat → Prop) (d b : Nat) (D : DataW Unit) : Nat → Prop := fun k => F k ∧ k < w.heap.size ∧ (k = d ∨ k = b ∨ ∃ s : ByteArray, D.atKey (nk s) .nil = .lit (.int .i64 k))
theorem DkIn.exact (h : DkIn w F d S b D) : DkIn w (Ex w F d b D) d S b D :=
 ⟨⟨h.fd, Fr.lt h.cells, Or.inl rfl⟩, h.cells, ⟨h.fb, by obtain ⟨es, cl, hb, _⟩ := h.own; exact Fr.lt hb, Or.inr (Or.inl rfl)⟩, h.own,
   ⟨h.files.none, fun s f hg => by
    obtain ⟨fb, h1, h2, h3⟩ := h.files.some s f hg
    have hlt : fb < w.heap.size := by obtain ⟨a, cap, h4, _⟩ := h3; exact Fr.lt h4
    exact ⟨fb, ⟨h1, hlt, Or.inr (Or.inr ⟨s, h2⟩)⟩, h2, h3⟩, h.files.apart, h.files.has, h.files.size⟩⟩
theorem DkIn.plain (h : DkIn w F d S b D) : ∀ k, Ex w F d b D k → NoByte w k ∧ NoStr w k := by
 rintro k ⟨_, _, hk | hk | ⟨s, hk⟩⟩
 ·subst hk; exact ⟨NoByte.disk h.cells, h.cells.noStr⟩
 ·subst hk
  refine ⟨?_, mapNoStr h.own⟩
  obtain ⟨es, cl, hb, _⟩ := h.own
  exact NoByte.map hb
 ·cases hg : getF S.f s with
  | none => have := h.files.none s hg; rw [this] at hk; cases hk
  | some f =>
    obtain ⟨fb, _, h2, h3⟩ := h.files.some s f hg
    obtain rfl : fb = k := by have := h2.symm.trans hk; simp at this; omega
    exact ⟨FileAt.noByte h3 _ rfl, h3.noStr⟩
def DS.step (S : DS) (s : StepIt) : DS :=
 if s.kind = 1 then (S.append s.name s.b).1 else if s.kind = 2 then (S.sync s.name).1 else if s.kind = 3 then (S.trunc s.name s.n).1 else if s.kind = 4 then (S.rename s.name s.dst).1
 else if s.kind = 5 then (S.remove s.name).1 else if s.kind = 8 then (S.rarm s.n).1 else if s.kind = 6 then S.crash s.l else S
theorem DInv.step {S : DS} (h : DInv S) (s : StepIt) : DInv (S.step s) := by
 unfold DS.step
 repeat' split
 ·exact h.append _ _
 ·exact h.sync _
 ·exact h.trunc _ _
 ·exact h.rename _ _
 ·exact h.remove _
 ·exact h.arm' _
 ·exact h.crash _
 ·exact h
theorem xO (n : Int) (h : DkIn w F d S b D) : Calls Tryz.prog 40 #[.pointer (some ⟨d, 0, none⟩), .int .i64 n] w (RetDk F d b (S.rarm n).1 (S.rarm n).2 w) := by
 refine (wQ d b S.arm S.down n w h.cells).mono ?_
 rintro e w' ⟨rfl, hc, hf⟩
 have h2 := h.setCells hc hf
 refine ⟨?_, ⟨D, ?_⟩, hf.mono fun k _ hk => by subst hk; exact h.fd⟩
 ·unfold DS.rarm; split <;> rfl
 ·have : (S.rarm n).1 = { S with arm := if armOk n then n.toNat else S.arm, down := S.down } := by unfold DS.rarm; split <;> rfl
  rw [this]
  exact h2.mono fun k hk => Or.inl hk
theorem wu (a : Option Addr) (cap : Nat) (l : List RF) (N : Int) (hlc : l.length ≤ cap) (hl : az l = S.f) (h : RFsIn w a l) : Calls Tryz.prog 39 #[aO a l.length cap S.arm S.down, .int .i64 N] w (eG (S.rarm N).1 (S.rarm N).2 w) := by
 refine (uS a l.length cap S.arm S.down N w).mono ?_
 rintro e w' ⟨rfl, hb⟩
 refine ⟨a, l, cap, ?_, h.kept hb, hlc, ?_, hb⟩
 ·unfold DS.rarm; split <;> rfl
 ·rw [hl]; unfold DS.rarm; split <;> rfl
theorem cZ (w : World) (o p q : Obj) : (((w.alloc o).alloc p).alloc q).heap[w.heap.size + 1 + 1]? = some q := by
 have := aF ((w.alloc o).alloc p) q
 rwa [show ((w.alloc o).alloc p).heap.size = w.heap.size + 1 + 1 by simp] at this
theorem B3.fr {T : Nat → Prop} {R : Nat} {t : TypeId} {x y z : Value} (h : B3 w R t x y z) (hf : Fr T w w') (hn : ¬ T R) : B3 w' R t x y z := (hf.block R h.lt hn).trans h
/-- what a step leaves -/
def kJ (F : Nat → Prop) (d b : Nat) (S' : DS) (w : World) (e : Ending) (w' : World) : Prop :=
 ∃ (a : Option Addr) (l : List RF) (cap : Nat) (ok : Bool), e = .returned (.tuple #[aO a l.length cap S'.arm S'.down, .bool ok]) ∧ RFsIn w' a l ∧ l.length ≤ cap ∧ az l = S'.f ∧ (∃ D', DkIn w' (grow F w) d S' b D') ∧ Fr F w w'
theorem dG {k : Nat} (h : NoByte w k ∧ NoStr w k) (hb : w'.heap[k]? = w.heap[k]?) : NoByte w' k ∧ NoStr w' k :=
 ⟨fun o c e => h.1 o c (by rw [← e]; exact (World.cell?_of_block (w := w) (a := ⟨k, o, none⟩) hb).symm), fun o c e => h.2 o c (by rw [← e]; exact (World.cell?_of_block (w := w) (a := ⟨k, o, none⟩) hb).symm)⟩
theorem z34 {p : Prop} (h : p := by exact hf.trans (hset.mono fun k _ hk => by subst hk; exact Or.inr hz)) : p := h
theorem z25 {p : Prop} (h : p := by
 refine (DkIn.fr hD hset (fun k hk => by subst hk; exact hb) (fun k hk e => ?_)).mono fun k hk => ?_
 ·subst e
  rcases hk with hk | hk
  ·exact hnz hk
  ·omega
 ·rcases hk with hk | hk
  ·exact Or.inl hk
  ·exact Or.inr (Nat.le_trans hs hk)) : p := h
theorem iI {S1 : DS} {e : Ending} {w1 w2 : World} {z : Nat} {t : TypeId} (a : Option Addr) (l : List RF) (cap : Nat) (ok : Bool) {D2 : DataW Unit} (he : e = .returned (.tuple #[aO a l.length cap S1.arm S1.down, .bool ok]))
 (hin : RFsIn w2 a l) (hc : l.length ≤ cap) (hl : az l = S1.f) (hD : DkIn w2 (grow F w1) d S1 b D2) (hZ : B3 w2 z t (.slice none 0 0) (.int .i64 0) (.bool false)) (hf : Fr F w w2) (hs : w.heap.size ≤ w1.heap.size) (hz : w.heap.size ≤ z) (hnz : ¬ F z) (hlt : z < w1.heap.size) {x' : Value} {n : Int} {q : Bool} :
 kJ F d b S1 w e (((w2.setCell ⟨z, 0, none⟩ x').setCell ⟨z, 1, none⟩ (.int .i64 n)).setCell ⟨z, 2, none⟩ (.bool q)) := by
 have hset : Fr (isR z) w2 (((w2.setCell ⟨z, 0, none⟩ x').setCell ⟨z, 1, none⟩ (.int .i64 n)).setCell ⟨z, 2, none⟩ (.bool q)) := ((fr_set _).again (fr_set _)).again (fr_set _)
 have hb := hZ.noByte ⟨trivial, trivial, trivial⟩
 have hst := hZ.noStr ⟨trivial, trivial, trivial⟩
 refine ⟨a, l, cap, ok, he, hin.fr hset (fun k hk => by subst hk; exact ⟨hb, hst⟩), hc, hl, ⟨D2, ?_⟩, ?_⟩
 ·exact z25
 ·exact z34
end Go.Proofs.YtlefejokpdjpgaaGreat
