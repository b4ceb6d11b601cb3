/- The ormap laws' steps, as an argument; are they light? Conditions: none. -/
import Derived.Test.YtpbobhfnglikmaaGreatOpen
import Derived.Test.YtpbobhfnglikmaaGreatKeys
set_option linter.unusedSimpArgs false
set_option linter.unusedVariables false
set_option linter.unnecessarySimpa false
namespace Go.Proofs.YtpbobhfnglikmaaGreat
open Go.RowKit
/-- a step: its kind, its event -/
abbrev OSt : Type := Int × EvIt
def osCells (s : OSt) : List Value := .int .i64 s.1 :: itEv s.2
structure OstIn (w : World) (a : Option Addr) (l : List OSt) : Prop where
 rows : l = [] ∨ ∃ A off, a = some ⟨A, off, none⟩ ∧ ∀ i (h : i < l.length), w.rangeAt A (off + i * 20) (osCells l[i])
 dots : ∀ x ∈ l, DotsIn w x.2.2.1 x.2.1.over
theorem OstIn.kept {w w' : World} {a : Option Addr} {l : List OSt} (h : OstIn w a l) (hb : Below w.heap.size w w') : OstIn w' a l :=
 ⟨h.rows.imp id fun ⟨A, off, h1, h2⟩ => ⟨A, off, h1, fun i hi => rangeAt_kept (h2 i hi) hb⟩, fun x hx => (h.dots x hx).kept hb⟩
theorem OstIn.at {w : World} {a : Option Addr} {l : List OSt} (h : OstIn w a l) {k : Nat} (hk : k < l.length) :
 ∃ A off, a = some ⟨A, off, none⟩ ∧ w.cell? ⟨A, off + k * 20, none⟩ = some (.int .i64 l[k].1) ∧ w.rangeAt A (off + k * 20 + 1) (itEv l[k].2) ∧ DotsIn w l[k].2.2.1 l[k].2.1.over := by
 rcases h.rows with h1 | ⟨A, off, h1, h2⟩
 ·subst h1; simp at hk
 ·refine ⟨A, off, h1, ?_, fun j v hj => ?_, h.dots _ (List.getElem_mem hk)⟩
  ·have := h2 k hk 0 _ rfl
   rwa [Nat.add_zero] at this
  ·have := h2 k hk (j + 1) v (by simpa [osCells] using hj)
   rwa [show off + k * 20 + (j + 1) = off + k * 20 + 1 + j by omega] at this
structure OstArg (w : World) (a : Option Addr) (l : List OSt) : Prop where
 sts : OstIn w a l
 each : ∀ x ∈ l, EvIn w x.2.2.1 x.2.2.2 x.2.1
 dotw : ∀ x ∈ l, DotW x.2.1.dot
 len : l.length ≤ maxLen
def lightO (n : Nat) (l : List OSt) : Bool := decide (l.length ≤ n) && l.all fun s => light s.2.1
section
variable {H : Type} {enc : TypeId × Value → H} {w : World} {base : Nat} {spare : Nat → Bool} {held : Bool}
open Go.ChangeShapes Go.WideShapes Go.ChangeAt
set_option maxRecDepth 100000 in
theorem trod_evW {fuel : Nat} {e : Ev} {a : Option Addr} {c : Nat} {x : DataW H × List MemPlace} (hf : DataW.trod enc Tryz.prog w 0 spare held fuel 43 (evCells e a c) = some x) : DotW e.dot := by
 obtain ⟨_, _, hD⟩ := trod_field Tryz.underlying43 hf 0 _ rfl 3 (by kernel_rfl) [.int .i64 e.dot.a.dev, .int .i64 e.dot.a.inc, .int .i64 e.dot.seq] rfl
 obtain ⟨_, _, hA⟩ := trod_field Tryz.underlying35 hD 0 _ rfl 2 (by kernel_rfl) [.int .i64 e.dot.a.dev, .int .i64 e.dot.a.inc] rfl
 obtain ⟨_, _, hS⟩ := trod_field Tryz.underlying35 hD 1 _ rfl 1 (by kernel_rfl) [.int .i64 e.dot.seq] rfl
 obtain ⟨_, _, h0⟩ := trod_field Tryz.underlying33 hA 0 _ rfl 1 (by kernel_rfl) [.int .i64 e.dot.a.dev] rfl
 obtain ⟨_, _, h1⟩ := trod_field Tryz.underlying33 hA 1 _ rfl 1 (by kernel_rfl) [.int .i64 e.dot.a.inc] rfl
 obtain ⟨x0, e0, _, w0⟩ := DataW.trod_int Tryz.underlying3 h0
 obtain ⟨x1, e1, _, w1⟩ := DataW.trod_int Tryz.underlying3 h1
 obtain ⟨x2, e2, _, w2⟩ := DataW.trod_int Tryz.underlying3 hS
 simp only [List.cons.injEq, Value.int.injEq, true_and, and_true] at e0 e1 e2
 subst e0 e1 e2
 exact ⟨⟨w0, w1⟩, w2⟩
set_option maxRecDepth 100000 in
theorem open_osteps {fuel : Nat} {cs : List Value} {x : DataW H × List MemPlace} (h : DataW.trod enc Tryz.prog w 0 spare held fuel 22 cs = some x) :
 ∃ (a : Option Addr) (l : List OSt) (cap : Nat), cs = [.slice a l.length cap] ∧ OstArg w a l := by
 rcases Deep.open_slice Tryz.underlying22 h with ⟨rfl, _⟩ | ⟨a, len, cap, m, n, D, Pl, rfl, _, hl, hm, hmm, _, hel⟩
 ·exact ⟨none, [], 0, rfl, ⟨⟨Or.inl rfl, fun x hx => by simp at hx⟩, fun x hx => by simp at hx, fun x hx => by simp at hx, Nat.zero_le _⟩⟩
 have hlm : len ≤ m := by rw [hmm]; split <;> omega
 have hc1 : Tryz.prog.cellsOf 45 = 20 := by kernel_rfl
 rw [hc1] at hel
 have hrows := rows_at (a := a) (n := 20) (len := len) (by decide) (R := fun i cs => cs.length = 20 → ∃ (k : Int) (e : Ev) (a : Option Addr) (cap : Nat), cs = .int .i64 k :: evCells e a cap ∧ EvIn w a cap e ∧ DotW e.dot) (fun i hi => by
  obtain ⟨cs', hcs, ht⟩ := hel i (by omega)
  refine ⟨cs', hcs, fun hl => ?_⟩
  match cs', hl with
  | c :: r, hl =>
    obtain ⟨_, _, hK⟩ := trod_field Tryz.underlying45 ht 0 _ rfl 1 (by kernel_rfl) [c] rfl
    obtain ⟨_, _, hE⟩ := trod_field Tryz.underlying45 ht 1 _ rfl 19 (by kernel_rfl) r (by
      show (List.drop 1 (c :: r)).take 19 = r
      rw [List.drop_one, List.tail_cons, List.take_of_length_le (by simp at hl; omega)])
    obtain ⟨k, ek, _, _⟩ := DataW.trod_int Tryz.underlying3 hK
    obtain ⟨e, a, cap, rfl, hE2⟩ := trod_ev (by simpa using hl) hE
    simp only [List.cons.injEq, and_true] at ek
    subst ek
    exact ⟨k, e, a, cap, rfl, hE2, trod_evW hE⟩)
 rcases hrows with h0 | ⟨A, off, rfl, hr⟩
 ·subst h0
  exact ⟨some a, [], cap, rfl, ⟨⟨Or.inl rfl, fun x hx => by simp at hx⟩, fun x hx => by simp at hx, fun x hx => by simp at hx, Nat.zero_le _⟩⟩
 ·obtain ⟨ls, hll, hlr⟩ := list_of (R := fun i (x : OSt) => w.rangeAt A (off + i * 20) (osCells x) ∧ EvIn w x.2.2.1 x.2.2.2 x.2.1 ∧ DotW x.2.1.dot) len (fun i hi => by
   obtain ⟨cs', hl', hrg, hR⟩ := hr i hi
   obtain ⟨k, e, a, cap, rfl, hE⟩ := hR hl'
   exact ⟨(k, e, a, cap), hrg, hE⟩)
  subst hll
  have heach : ∀ x ∈ ls, EvIn w x.2.2.1 x.2.2.2 x.2.1 ∧ DotW x.2.1.dot := fun x hx => by
   obtain ⟨i, hi, rfl⟩ := List.getElem_of_mem hx
   exact (hlr i hi).2
  exact ⟨_, ls, cap, rfl, ⟨⟨Or.inr ⟨A, off, rfl, fun i hi => (hlr i hi).1⟩, fun x hx => (heach x hx).1.dots⟩, fun x hx => (heach x hx).1, fun x hx => (heach x hx).2, by omega⟩⟩
set_option maxRecDepth 100000 in
theorem arg_osteps {r : Reach} {b0 : Nat} {v : Value} {d : DataW H} {p : List MemPlace} (hv : Value.okWide Tryz.prog w r b0 22 v) (h : DataW.Trod enc Tryz.prog w 0 spare held 22 v d p) :
 ∃ (a : Option Addr) (ls : List OSt) (cap : Nat), v = .slice a ls.length cap ∧ OstArg w a ls := by
 obtain ⟨a, n, c, rfl⟩ := okWide_slice Tryz.underlying22 hv
 obtain ⟨fuel, hf⟩ := h
 obtain ⟨a', ls, c', he, rest⟩ := open_osteps hf
 simp only [Value.cells] at he
 exact ⟨a', ls, c', by simpa using he, rest⟩
end
set_option maxRecDepth 100000 in
set_option maxHeartbeats 2000000 in
theorem lightO_any (a : Option Addr) (cap n : Nat) (l : List OSt) (w : World) (hn : n ≤ 1073741824) (hl : l.length ≤ maxLen) (h : OstIn w a l)
 (hs : ∀ x ∈ l, x.2.1.over.length ≤ maxLen ∧ x.2.1.key.name.size ≤ maxLen ∧ x.2.1.key.domain.size ≤ maxLen ∧ x.2.1.key.path.size ≤ maxLen ∧ x.2.1.ck.value.size ≤ maxLen) :
 Calls Tryz.prog 13 #[.slice a l.length cap, .int .i64 n] w fun x w' => x = .returned (.bool (lightO n l)) ∧ Below w.heap.size w w' := by
 unfold maxLen at hl
 by_cases hle : l.length ≤ n
 ·have hdn : decide (n < l.length) = false := decide_eq_false (by omega)
  have hdi : decide ((n : Int) < (l.length : Int)) = false := decide_eq_false (by omega)
  have HV : Hid (lightO n l = l.all fun s => light s.2.1) := by unfold Hid lightO; rw [decide_eq_true hle]; rfl
  go_enter Tryz.func13, Tryz.ntmps13
  go_wp2
  go_loopw [5] (fun i wr => ∃ k : Nat, k ≤ l.length ∧ i = .int .i64 k ∧ lightO n l = ((l.drop k).all fun s => light s.2.1) ∧ Below w.heap.size w wr) (fun i _ => l.length - (intOf i).toNat)
  case atStart => exact ⟨0, Nat.zero_le _, rfl, HV.out, Below.refl _ _⟩
  case round =>
   obtain ⟨k, hk, rfl, hpre, hbw⟩ := hrel
   have HP := Lib.hid hpre
   clear hpre HV
   have hzw := hbw.size
   by_cases hlt : k < l.length
   ·obtain ⟨A, off, rfl, _, r1, _⟩ := (h.kept hbw).at hlt
    have hd : l.drop k = l[k] :: l.drop (k + 1) := List.drop_eq_getElem_cons hlt
    obtain ⟨m1, m2, m3, m4, m5⟩ := hs _ (List.getElem_mem hlt)
    have HT : Hid (lightO n l = (light l[k].2.1 && ((l.drop (k + 1)).all fun s => light s.2.1))) := by rw [Hid, HP.out, hd, List.all_cons]
    clear hd HP
    generalize l[k] = x at *
    obtain ⟨kd, e, ax, cx⟩ := x
    simp only [itEv] at *
    have hL0 := fun (W : World) => Light_any e ax cx W m1 m2 m3 m4 m5
    cases hli : light e with
    | true =>
      have HE : Hid (lightO n l = ((l.drop (k + 1)).all fun s => light s.2.1)) := by rw [Hid, HT.out, hli]; rfl
      rw [hli] at hL0
      have HL := Lib.hid hL0
      clear hL0 HT hli m1 m2 m3 m4 m5
      go_wp2_with (first
       | ((with_reducible refine wpList_load_evo _ A (off + k * 20 + 1) e ax cx r1 ?_ rfl ?_); exact rfl)
       | (go_at_call 41; (with_reducible refine (HL.out _).mono ?_); rintro v w1 ⟨rfl, hb⟩))
      go_roundw
      case rel => exact ⟨k + 1, by omega, by go_num, HE.out, hbw.trans (hb.mono hzw)⟩
      case measure => simp [intOf] <;> omega
    | false =>
      have HE : Hid (lightO n l = false) := by rw [Hid, HT.out, hli]; rfl
      rw [hli] at hL0
      have HL := Lib.hid hL0
      clear hL0 HT hli m1 m2 m3 m4 m5
      go_wp2_with (first
       | ((with_reducible refine wpList_load_evo _ A (off + k * 20 + 1) e ax cx r1 ?_ rfl ?_); exact rfl)
       | (go_at_call 41; (with_reducible refine (HL.out _).mono ?_); rintro v w1 ⟨rfl, hb⟩))
      go_ret
      exact ⟨ret_bool HE.out.symm, hbw.trans (hb.mono hzw)⟩
   ·have HE : Hid (lightO n l = true) := by rw [Hid, HP.out, List.drop_eq_nil_of_le (by omega)]; rfl
    go_wp2
    go_ret
    exact ⟨ret_bool HE.out.symm, hbw⟩
 ·have hdn : decide (n < l.length) = true := decide_eq_true (by omega)
  have hdi : decide ((n : Int) < (l.length : Int)) = true := decide_eq_true (by omega)
  have HE : Hid (lightO n l = false) := by unfold Hid lightO; rw [decide_eq_false hle]; rfl
  go_enter Tryz.func13, Tryz.ntmps13
  go_wp2
  go_ret
  exact ⟨ret_bool HE.out.symm, by go_grown⟩
end Go.Proofs.YtpbobhfnglikmaaGreat
