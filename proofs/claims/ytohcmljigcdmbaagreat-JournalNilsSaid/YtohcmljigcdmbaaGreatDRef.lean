/- A file's bytes: all, cut, add. Conditions: at most 2^30 bytes. -/
import Derived.Test.YtohcmljigcdmbaaGreatDiskC
import Derived.Test.YtohcmljigcdmbaaGreatCel
import Derived.Deep.RegionLaw
import Derived.OwnWalk
import Derived.Laws.ResultCell
import Derived.Deep.MidRow
set_option linter.unusedSimpArgs false
set_option linter.unusedVariables false
set_option linter.unnecessarySimpa false
set_option maxHeartbeats 16000000
set_option maxRecDepth 100000
namespace Go.Proofs.YtohcmljigcdmbaaGreat
open Go.RowKit
theorem addr_add0 (a : Option Addr) : a.map (fun x => x.add 0) = a := by
 cases a with
 | none => rfl
 | some x => obtain ⟨b, o, p⟩ := x; cases p <;> simp [Addr.add]
theorem run_cut_himax {P : Program} (w : World) (t e : TypeId) (i0 : TypeInfo) (a : Option Addr) (n cap : Nat) (k k2 : IntKind) (j m : Nat) (ht : P.underlying t = some (.slice e)) (hi : P.info? e = some i0) (h1 : j ≤ m) (h2 : m ≤ cap) :
 (Instr.sliceAt t (.slice a n cap) none (some (.int k j)) (some (.int k2 m))).run P w = .ok (.slice a j m) w := by
 have h3 : (if m = 0 then a else a.map (fun x => x.add 0)) = a := by rw [addr_add0]; split <;> rfl
 simp [Instr.sliceAt, Instr.slice, Instr.sliceBounds, Instr.sliceBound, asIntOf, run_underlying ht, sizeOf, typeInfo, hi]
 rw [if_pos h2, if_pos h1]
 simp [h3]
/-- a new row's first cells are these bytes -/
theorem bytes_new {w : World} {m : Bytes} {r : Array Value} (t : TypeId) (hr : ∃ zs, r = (byteVals m).toArray ++ zs) : BytesIn (w.alloc (.cells r t)) (some ⟨w.heap.size, 0, none⟩) m := by
 obtain ⟨zs, rfl⟩ := hr
 refine Or.inr ⟨_, _, rfl, fun j hj => ?_⟩
 have hj' : j < (byteVals m).length := by rw [byteVals_length]; exact hj
 simp only [World.cell?, World.alloc, Nat.zero_add, Array.getElem?_push_size]
 simp [Array.getElem?_append, hj', byteVals, hj]
/-- bytes appended to a slice that has no room: always new memory, or the slice as it was -/
theorem run_append_full (w : World) (ty : TypeId) (a a2 : Option Addr) (l l2 : Bytes) (cap2 : Nat) (h : BytesIn w a l) (h2 : BytesIn w a2 l2) (hb : l.length + l2.length ≤ 1073741824) :
 ∃ a' cap' w', (Builtin.append_ #[82, 82] ty #[.slice a l.length l.length, .slice a2 l2.length cap2]).run Tryz.prog w = .ok (.slice a' (l ++ l2).length cap') w' ∧ Below w.heap.size w w' ∧ BytesIn w' a' (l ++ l2) ∧ (l ++ l2).length ≤ cap' := by
 obtain ⟨i0, hi, hz0, hz1, hz2⟩ := info_parts Tryz.infoByte
 by_cases h0 : l2 = []
 ·subst h0
  refine ⟨a, l.length, w, ?_, Below.refl _ _, by simpa using h, by simp⟩
  have hf : (Builtin.firstCells 1 0 (.slice a2 0 cap2)).run Tryz.prog w = .ok #[] w := by
   cases a2 with
   | none => exact run_firstCells_none (P := Tryz.prog) (w := w) 1 0 0 cap2
   | some x => exact run_firstCells_some (P := Tryz.prog) (w := w) 1 0 x 0 cap2 [] rfl (fun j v hj => by simp at hj)
  cases a <;> simp [Builtin.append_, run_underlying Tryz.underlying82, run_underlying Tryz.underlying5, sizeOf, typeInfo, zeroValue, hi, hz0, hz1, Builtin.lenOf, hf, storeCells, Result.andThen]
 ·have hl2 : 0 < l2.length := List.length_pos_iff.2 h0
  obtain ⟨A2, off2, rfl, hA2⟩ : ∃ A off, a2 = some ⟨A, off, none⟩ ∧ BytesAt w A off l2 := by
   rcases h2 with h2 | h2
   ·exact absurd h2 h0
   ·exact h2
  have hnews := hA2.news
  have hlen : (l ++ l2).length = l.length + l2.length := by simp
  cases a with
  | none =>
    have hl : l = [] := by rcases h with h | ⟨A, off, h1, _⟩; exact h; cases h1
    subst hl
    have hr := run_append_nil (P := Tryz.prog) (w := w) 82 ty 5 i0 _ Tryz.underlying82 hi hz0 ⟨A2, off2, none⟩ l2.length cap2 (byteVals l2) (by rw [hz1, byteVals_length]; simp) hnews hl2 (by simp at hb; omega) (by rw [hz2]; simp at hb; omega)
    refine ⟨_, _, _, by simpa using hr, (Below.refl _ _).drew.alloc (Nat.le_refl _) _, bytes_new _ ⟨_, rfl⟩, ?_⟩
    simpa using grownCap_ge w l2.length 0 5
  | some b =>
    have holds : ∀ j v, (byteVals l)[j]? = some v → w.cell? (b.add j) = some v := by
        rcases h with rfl | ⟨A, off, h1, h3⟩
        ·intro j v hj; simp [byteVals] at hj
        ·obtain rfl : b = ⟨A, off, none⟩ := by simpa using h1
         exact h3.news
    have hr := run_append_grow (P := Tryz.prog) (w := w) 82 ty 5 i0 _ Tryz.underlying82 hi hz0 b l.length l.length (byteVals l) (by rw [hz1, byteVals_length]; simp) holds ⟨A2, off2, none⟩ l2.length cap2 (byteVals l2) (by rw [hz1, byteVals_length]; simp) hnews (by omega) (by omega) (growslice_fits (by omega) (by rw [hz2]; omega))
    refine ⟨_, _, _, by rw [hlen]; exact hr, (Below.refl _ _).drew.alloc (Nat.le_refl _) _, bytes_new _ ⟨Builtin.zeroCells _ _, by rw [byteVals_append, ← List.append_toArray]⟩, ?_⟩
    rw [hlen]
    exact grownCap_ge w _ _ 5
theorem step_append_full {ops : Array Oper} {o : Oper} {a : Act} {w : World} {K : Act → World → Prop} {Q : Exit → Act → World → Prop} {E : Prop} (hw : Region.wanted o (yielded ops a.tmps) = true) (s x : Operand)
 (ho : o.op = .call { callee := .builtin .append, args := #[s, x], argTypes := #[82, 82] })
 (ad a2 : Option Addr) (l l2 : Bytes) (cap2 : Nat) (hs : a.eval s = .slice ad l.length l.length) (hx : a.eval x = .slice a2 l2.length cap2) (h1 : BytesIn w ad l) (h2 : BytesIn w a2 l2) (hb : l.length + l2.length ≤ 1073741824)
 (h : ∀ a' cap' w', Below w.heap.size w w' → BytesIn w' a' (l ++ l2) → (l ++ l2).length ≤ cap' → K (a.put o.dst (.slice a' (l ++ l2).length cap')) w') :
 if Region.wanted o (yielded ops a.tmps) = true then Oper.wp Tryz.prog o a w K Q else E := by
 rw [if_pos hw]
 obtain ⟨a', cap', w', hr, h3, h4, h5⟩ := run_append_full w o.type ad a2 l l2 cap2 h1 h2 hb
 unfold Oper.wp execOp
 simp only [ho, resolve, invoke, builtin, Sem.run_bind, Sem.run_pure, Result.andThen_ok, List.map_toArray, List.map_cons, List.map_nil, hs, hx, hr]
 exact h _ _ _ h3 h4 h5
/-! ### bytes stay -/
/-- no byte lies in block k -/
def NoByte (w : World) (k : Nat) : Prop := ∀ o c, w.cell? ⟨k, o, none⟩ ≠ some (.int .u8 c)
theorem NoByte.file {w : World} {k : Nat} {n : Int} {t : TypeId} {fr : Nat × Nat} {a : Option Addr} {l c : Nat} (h : w.heap[k]? = some (.cells #[.slice a l c, .int .i64 n] t fr)) : NoByte w k := by
 intro o c e
 simp only [World.cell?, h] at e
 match o, e with
 | 0, e => simp at e
 | 1, e => simp at e
 | o + 2, e => simp at e
theorem NoByte.disk {w : World} {k b arm : Nat} {down : Bool} (h : DkCells w k b arm down) : NoByte w k := by
 intro o c e
 simp only [World.cell?, show w.heap[k]? = _ from h] at e
 match o, e with
 | 0, e => simp at e
 | 1, e => simp at e
 | 2, e => simp at e
 | o + 3, e => simp at e
theorem NoByte.map {w : World} {k : Nat} {es : Array MapEntry} {cl : Nat} (h : w.heap[k]? = some (.map es cl)) : NoByte w k := by
 intro o c e
 simp [World.cell?, h] at e
theorem BytesIn.fr {S : Nat → Prop} {w w' : World} {a : Option Addr} {l : Bytes} (h : BytesIn w a l) (hf : Fr S w w') (hS : ∀ k, S k → NoByte w k) : BytesIn w' a l := by
 rcases h with h | ⟨A, off, h1, h2⟩
 ·exact Or.inl h
 ·by_cases h0 : l = []
  ·exact Or.inl h0
  ·have hl := List.length_pos_iff.2 h0
   refine Or.inr ⟨A, off, h1, fun j hj => hf.kept (h2 j hj) (fun hs => hS _ hs (off + j) _ (h2 j hj))⟩
/-! ### all -/
theorem all_any {w : World} {fb : Nat} {f : DF} (hl : f.b.length ≤ 1073741824) (h : FileAt w fb f) : Calls Tryz.prog 93 #[.pointer (some ⟨fb, 0, none⟩)] w (RetBytes f.b w) := by
 obtain ⟨a, cap, h1, h2, h3⟩ := h
 obtain ⟨p0, p1, f0, f1⟩ := two_cell h1
 have HC := Lib.hid (CloneBytes_any a cap f.b w hl h2)
 clear h1 h2 h3
 go_enter Tryz.func93, Tryz.ntmps93
 go_wp2_with (go_at_call 122; (with_reducible refine HC.out.mono ?_); rintro e w1 ⟨v, rfl, hown, hb⟩)
 all_goals
  go_ret
  exact ⟨v, rfl, hown, hb⟩
/-! ### cut -/
theorem cut_any {w : World} {fb : Nat} {f : DF} {n : Nat} (hl : f.b.length ≤ 1073741824) (hn : n ≤ f.b.length) (h : FileAt w fb f) :
 Calls Tryz.prog 97 #[.pointer (some ⟨fb, 0, none⟩), .int .i64 n] w fun e w' => e = .returned (.tuple #[]) ∧ FileAt w' fb { f with b := f.b.take n } ∧ Fr (isR fb) w w' := by
 obtain ⟨a, cap, h1, h2, h3⟩ := h
 obtain ⟨p0, p1, f0, f1⟩ := two_cell h1
 obtain ⟨i0, hi, _, hz1, _⟩ := info_parts Tryz.infoByte
 have hcut := run_cut_himax (P := Tryz.prog) w 82 5 i0 a f.b.length cap .i64 .i64 n n Tryz.underlying82 hi (Nat.le_refl _) (by omega)
 have H1 := Lib.hid h1
 have H2 := Lib.hid h2
 clear h1 h2
 have HL : Hid ((f.b.take n).length = n) := Lib.hid (by simp; omega)
 go_enter Tryz.func97, Tryz.ntmps97
 go_wp2
 all_goals
  go_end0
  exact ⟨rfl, ⟨a, n, by rw [HL.out]; exact two_set0 H1.out _, (H2.out.take n).fr (S := isR fb) (fr_set _) (fun k hk => by subst hk; exact NoByte.file H1.out), by rw [HL.out]; exact Nat.le_refl _⟩, fr_set _⟩
theorem add_any {w : World} {fb : Nat} {f : DF} {a2 : Option Addr} {l2 : Bytes} {cap2 : Nat} (hb : f.b.length + l2.length ≤ 1073741824) (h : FileAt w fb f) (h2 : BytesIn w a2 l2) :
 Calls Tryz.prog 82 #[.pointer (some ⟨fb, 0, none⟩), .slice a2 l2.length cap2] w fun e w' => e = .returned (.tuple #[]) ∧ FileAt w' fb { f with b := f.b ++ l2 } ∧ Fr (isR fb) w w' := by
 obtain ⟨a, cap, h1, hin, h3⟩ := h
 obtain ⟨i0, hi, _, hz1, _⟩ := info_parts Tryz.infoByte
 have hlt : fb < w.heap.size := (Array.getElem?_eq_some_iff.1 h1).1
 have hcut := run_cut_himax (P := Tryz.prog) w.drew 82 5 i0 a f.b.length cap .i64 .i64 f.b.length f.b.length Tryz.underlying82 hi (Nat.le_refl _) h3
 have HL := Lib.hid (show (f.b ++ l2).length = f.b.length + l2.length by simp)
 have h1d : w.drew.heap[fb]? = some (.cells #[.slice a f.b.length cap, .int .i64 f.safe] 138 (0, 0)) := h1
 obtain ⟨p0, p1, f0, f1⟩ := two_cell h1d
 have hind : BytesIn w.drew a f.b := hin
 have h2d : BytesIn w.drew a2 l2 := h2
 have HF := Lib.hid hin
 have H1 := Lib.hid h1d
 clear h1 h1d hin h2 h3 hi hz1
 go_enter Tryz.func82, Tryz.ntmps82
 go_region_law
  (refine step_append_full (by simp [Region.wanted]) _ _ rfl a a2 f.b l2 cap2 rfl rfl hind h2d hb ?_; intro a' cap' w2 hbel hin2 hcap2; have q0 := kept hbel p0; have g0 := (hbel.frozen (p := ⟨fb, 0, none⟩) hlt).trans f0)
 all_goals
  go_end0
  have hbw : Below w.heap.size w w2 := ((Below.refl w.heap.size w).drew).trans hbel
  have HB : w2.heap[fb]? = some (.cells #[.slice a f.b.length cap, .int .i64 f.safe] 138 (0, 0)) := (hbel.block fb hlt).trans H1.out
  refine ⟨rfl, ⟨a', cap', ?_, hin2.fr (S := isR fb) (fr_set _) (fun k hk => by subst hk; exact NoByte.file HB), hcap2⟩, (Fr.of_below hbw).again (fr_set _)⟩
  first
   | exact two_set0 HB _
   | (rw [show ({ f with b := f.b ++ l2 } : DF).b.length = f.b.length + l2.length from HL.out]; exact two_set0 HB _)
variable {F : Nat → Prop} {d : Nat} {S : DS} {b : Nat} {D : DataW Unit} {s : ByteArray} {w w' : World}
theorem file_noDisk {w : World} {fb d b arm : Nat} {down : Bool} {f : DF} (h : FileAt w fb f) (hd : DkCells w d b arm down) : fb ≠ d := by
 rintro rfl
 obtain ⟨a, cap, h1, _⟩ := h
 have := h1.symm.trans hd
 simp at this
theorem file_noMap {w : World} {fb b n : Nat} {f : DF} {D : DataW Unit} (h : FileAt w fb f) (hm : w.ownsMap Tryz.prog 9 fileR b n D) : fb ≠ b := by
 rintro rfl
 obtain ⟨a, cap, h1, _⟩ := h
 obtain ⟨es, cl, hb, _⟩ := hm
 have := h1.symm.trans hb
 simp at this
theorem disk_noMap {w : World} {d b n arm : Nat} {down : Bool} {D : DataW Unit} (hd : DkCells w d b arm down) (hm : w.ownsMap Tryz.prog 9 fileR b n D) : d ≠ b := by
 rintro rfl
 obtain ⟨es, cl, hb, _⟩ := hm
 have := (show w.heap[d]? = _ from hd).symm.trans hb
 simp at this
theorem Fr.lt {w : World} {k : Nat} {o : Obj} (h : w.heap[k]? = some o) : k < w.heap.size := (Array.getElem?_eq_some_iff.1 h).1
theorem FileAt.fr {T : Nat → Prop} {fb : Nat} {f : DF} (h : FileAt w fb f) (hf : Fr T w w') (hT : ∀ k, T k → NoByte w k) (hk : ¬ T fb) : FileAt w' fb f := by
 obtain ⟨a, cap, h1, h2, h3⟩ := h
 exact ⟨a, cap, (hf.block fb (Fr.lt h1) hk).trans h1, h2.fr hf hT, h3⟩
theorem ownsMap_fr {T : Nat → Prop} {n : Nat} (h : w.ownsMap Tryz.prog 9 fileR b n D) (hf : Fr T w w') (hk : ¬ T b) : w'.ownsMap Tryz.prog 9 fileR b n D := by
 obtain ⟨es, cl, hb, r⟩ := h
 exact ⟨es, cl, (hf.block b (Fr.lt hb) hk).trans hb, r⟩
/-- a disk stays, whatever turns elsewhere -/
theorem DkIn.fr {T : Nat → Prop} (h : DkIn w F d S b D) (hf : Fr T w w') (hT : ∀ k, T k → NoByte w k) (hk : ∀ k, F k → ¬ T k) : DkIn w' F d S b D where
 fd := h.fd
 cells := (hf.block d (Fr.lt h.cells) (hk d h.fd)).trans h.cells
 fb := h.fb
 own := ownsMap_fr h.own hf (hk b h.fb)
 files := ⟨h.files.none, fun s f hg => let ⟨fb, h1, h2, h3⟩ := h.files.some s f hg; ⟨fb, h1, h2, h3.fr hf hT (hk fb h1)⟩, h.files.apart, h.files.has, h.files.size⟩
/-- another number of changes -/
theorem DkIn.setCells {arm : Nat} {down : Bool} (h : DkIn w F d S b D) (hc : DkCells w' d b arm down) (hf : Fr (isR d) w w') : DkIn w' F d { S with arm := arm, down := down } b D where
 fd := h.fd
 cells := hc
 fb := h.fb
 own := ownsMap_fr h.own hf (fun e => disk_noMap h.cells h.own e.symm)
 files := ⟨h.files.none, fun s f hg => let ⟨fb, h1, h2, h3⟩ := h.files.some s f hg; ⟨fb, h1, h2, h3.fr hf (fun k hk => by subst hk; exact NoByte.disk h.cells) (file_noDisk h3 h.cells)⟩, h.files.apart, h.files.has, h.files.size⟩
/-- the files, one of them another one of its name -/
def setF (l : List DF) (f : DF) : List DF := l.map fun g => if g.name = f.name then f else g
theorem getF_name {l : List DF} {s : ByteArray} {f : DF} (h : getF l s = some f) : f.name = s := by
 have := List.find?_some h
 simpa using this
theorem getF_setF (l : List DF) (f : DF) (s : ByteArray) : getF (setF l f) s = if s = f.name then (getF l s).map (fun _ => f) else getF l s := by
 unfold getF setF
 induction l with
 | nil => simp
 | cons g r ih =>
   rw [List.map_cons, List.find?_cons, List.find?_cons]
   by_cases hg : g.name = f.name
   ·rw [if_pos hg]
    by_cases hs : s = f.name
    ·subst hs; simp [hg]
    ·rw [if_neg hs]
     have e1 : decide (f.name = s) = false := decide_eq_false (fun e => hs e.symm)
     have e2 : decide (g.name = s) = false := by rw [hg]; exact e1
     rw [e1, e2]
     simpa [hs] using ih
   ·rw [if_neg hg]
    by_cases hgs : g.name = s
    ·have hs : ¬ s = f.name := fun e => hg (hgs.trans e)
     simp [hgs, hs]
    ·simp only [decide_eq_false hgs]
     exact ih
/-- one file turned in its place -/
theorem DkIn.setFile {fb : Nat} {f g : DF} (h : DkIn w F d S b D) (hg : getF S.f s = some g) (hfb : D.atKey (nk s) .nil = .lit (.int .i64 fb)) (hn : f.name = s) (hf : FileAt w' fb f) (hg0 : FileAt w fb g) (hfr : Fr (isR fb) w w') :
 DkIn w' F d { S with f := setF S.f f } b D := by
 have hnb : ∀ k, isR fb k → NoByte w k := fun k hk => by
  subst hk
  obtain ⟨a, cap, h1, _⟩ := hg0
  exact NoByte.file h1
 have hlen : (setF S.f f).length = S.f.length := by simp [setF]
 refine ⟨h.fd, (hfr.block d (Fr.lt h.cells) (fun e => file_noDisk hg0 h.cells e.symm)).trans h.cells, h.fb, ?_, ?_⟩
 ·show w'.ownsMap Tryz.prog 9 fileR b (setF S.f f).length D
  rw [hlen]
  exact ownsMap_fr h.own hfr (fun e => file_noMap hg0 h.own e.symm)
 ·refine ⟨?_, ?_, h.files.apart, ?_, by rw [hlen]; exact h.files.size⟩
  ·intro t ht
   rw [getF_setF] at ht
   refine h.files.none t ?_
   split at ht
   ·simpa using ht
   ·exact ht
  ·intro t f' ht
   rw [getF_setF] at ht
   split at ht
   ·rename_i e
    obtain rfl : t = s := e.trans hn
    rw [hg] at ht
    obtain rfl : f = f' := by simpa using ht
    obtain ⟨fb', h1, h2, _⟩ := h.files.some t g hg
    obtain rfl : fb' = fb := by have := h2.symm.trans hfb; simp at this; omega
    exact ⟨fb', h1, h2, hf⟩
   ·rename_i e
    obtain ⟨fb', h1, h2, h3⟩ := h.files.some t f' ht
    refine ⟨fb', h1, h2, h3.fr hfr hnb (fun e2 => ?_)⟩
    have e3 : fb' = fb := e2
    subst e3
    exact e ((h.files.apart t s fb' h2 hfb).trans hn.symm)
  ·intro t
   rw [h.files.has, getF_setF]
   split <;> simp
variable {F : Nat → Prop} {d : Nat} {S : DS} {b : Nat} {D : DataW Unit} {s : ByteArray} {w w' : World}
theorem DkIn.mono {G : Nat → Prop} (h : DkIn w F d S b D) (hG : ∀ k, F k → G k) : DkIn w G d S b D :=
 ⟨hG _ h.fd, h.cells, hG _ h.fb, h.own, h.files.none, fun s f hg => let ⟨fb, h1, h2, h3⟩ := h.files.some s f hg; ⟨fb, hG _ h1, h2, h3⟩, h.files.apart, h.files.has, h.files.size⟩
/-- a change of a disk: its answer, the disk behind it; what was there ahead and is not the disk's stays -/
def RetDk (F : Nat → Prop) (d b : Nat) (S' : DS) (c : Int) (w : World) (e : Ending) (w' : World) : Prop :=
 e = .returned (.int .i64 c) ∧ (∃ D', DkIn w' (grow F w) d S' b D') ∧ Fr F w w'
theorem RetDk.same {c : Int} (h : DkIn w F d S b D) : RetDk F d b S c w (.returned (.int .i64 c)) w := ⟨rfl, ⟨D, h.mono fun _ g => Or.inl g⟩, Fr.refl _ _⟩
/-! ### Read -/
/-- why a file's bytes are not told: 17 nil, 1 form, 10 none, 12 down; 0 -/
def readE (S : DS) (s : ByteArray) : Int := if nameOk s then (match getF S.f s with | none => 10 | some _ => if S.down then 12 else 0) else 1
theorem Read_no (hs : s.size ≤ maxLen) (h : DkIn w F d S b D) (hE : readE S s ≠ 0) :
 Calls Tryz.prog 54 #[.pointer (some ⟨d, 0, none⟩), .string s] w fun e w' => e = .returned (.tuple #[.slice none 0 0, .int .i64 (readE S s)]) ∧ w = w' := by
 by_cases hok : nameOk s = true
 case neg =>
  have HN := Lib.hid (find_form (d := d) (w := w) hs rfl (Bool.eq_false_iff.2 hok))
  have hr : readE S s = 1 := by unfold readE; rw [if_neg hok]
  rw [hr]
  clear h hok hr hE
  go_enter Tryz.func54, Tryz.ntmps54
  go_wp2_with (go_at_call 80; (with_reducible refine HN.out.mono ?_); rintro e w1 ⟨rfl, rfl⟩)
  all_goals
   go_ret2
   exact ⟨rfl, rfl⟩
 case pos =>
 cases hg : getF S.f s with
 | none =>
   have HN := Lib.hid (find_none hs h hok hg)
   have hr : readE S s = 10 := by unfold readE; rw [if_pos hok, hg]
   rw [hr]
   clear h hok hr hg hE
   go_enter Tryz.func54, Tryz.ntmps54
   go_wp2_with (go_at_call 80; (with_reducible refine HN.out.mono ?_); rintro e w1 ⟨rfl, rfl⟩)
   all_goals
    go_ret2
    exact ⟨rfl, rfl⟩
 | some f =>
   have hd : S.down = true := by
    cases hd : S.down with
    | true => rfl
    | false => exact absurd (by unfold readE; rw [if_pos hok, hg, hd]; rfl) hE
   obtain ⟨fb, h1, h2, a, cap, h3, h4, h5⟩ := h.files.some s f hg
   have HN := Lib.hid (find_some hs h hok h2)
   have hr : readE S s = 12 := by unfold readE; rw [if_pos hok, hg, hd]; rfl
   rw [hr]
   obtain ⟨q0, q1, q2, g0, g1, g2⟩ := three_cell h.cells
   rw [hd] at q2
   clear h hok hr hg h2 h3 h4 hE
   go_enter Tryz.func54, Tryz.ntmps54
   go_wp2_with (go_at_call 80; (with_reducible refine HN.out.mono ?_); rintro e w1 ⟨rfl, rfl⟩)
   all_goals
    go_ret2
    exact ⟨rfl, rfl⟩
theorem Read_yes {f : DF} (hs : s.size ≤ maxLen) (h : DkIn w F d S b D) (hok : nameOk s = true) (hg : getF S.f s = some f) (hd : S.down = false) (hl : f.b.length ≤ 1073741824) :
 Calls Tryz.prog 54 #[.pointer (some ⟨d, 0, none⟩), .string s] w fun e w' => ∃ v, e = .returned (.tuple #[v, .int .i64 0]) ∧ w'.ownsRow w.heap.size 5 1 v f.b.length (byteVals f.b) ∧ Below w.heap.size w w' := by
 obtain ⟨fb, h1, h2, h3⟩ := h.files.some s f hg
 have HN := Lib.hid (find_some hs h hok h2)
 have HA := Lib.hid (all_any hl h3)
 obtain ⟨q0, q1, q2, g0, g1, g2⟩ := three_cell h.cells
 rw [hd] at q2
 clear h hok hg h2 h3
 go_enter Tryz.func54, Tryz.ntmps54
 go_wp2_with (first
  | (go_at_call 80; (with_reducible refine HN.out.mono ?_); rintro e w1 ⟨rfl, rfl⟩)
  | (go_at_call 93; (with_reducible refine HA.out.mono ?_); rintro e w1 ⟨v, rfl, hown, hb⟩))
 all_goals
  go_ret2
  exact ⟨v, rfl, hown, hb⟩
/-! ### Sync -/
def DS.sync (S : DS) (s : ByteArray) : DS × Int :=
 if nameOk s then (match getF S.f s with
    | none => (S, 10)
    | some f => if S.change.down then (S.change, 12) else ({ S.change with f := setF S.f { f with safe := f.b.length } }, 0)) else (S, 1)
theorem FileAt.setSafe {fb : Nat} {f : DF} (h : FileAt w fb f) (n : Nat) : FileAt (w.setCell ⟨fb, 1, none⟩ (.int .i64 n)) fb { f with safe := n } := by
 obtain ⟨a, cap, h1, h2, h3⟩ := h
 exact ⟨a, cap, two_set1 h1 _, h2.fr (S := isR fb) (fr_set _) (fun k hk => by subst hk; exact NoByte.file h1), h3⟩
theorem Sync_any (hs : s.size ≤ maxLen) (h : DkIn w F d S b D) (ha : S.arm ≤ 1048576) :
 Calls Tryz.prog 58 #[.pointer (some ⟨d, 0, none⟩), .string s] w (RetDk F d b (S.sync s).1 (S.sync s).2 w) := by
 by_cases hok : nameOk s = true
 case neg =>
  have HN := Lib.hid (find_form (d := d) (w := w) hs rfl (Bool.eq_false_iff.2 hok))
  have hr : S.sync s = (S, 1) := by unfold DS.sync; rw [if_neg hok]
  rw [hr]
  have HD := Lib.hid h
  clear h hok hr
  go_enter Tryz.func58, Tryz.ntmps58
  go_wp2_with (go_at_call 80; (with_reducible refine HN.out.mono ?_); rintro e w1 ⟨rfl, rfl⟩)
  all_goals
   go_ret
   exact RetDk.same HD.out
 case pos =>
 cases hg : getF S.f s with
 | none =>
   have HN := Lib.hid (find_none hs h hok hg)
   have hr : S.sync s = (S, 10) := by unfold DS.sync; rw [if_pos hok, hg]
   rw [hr]
   have HD := Lib.hid h
   clear h hok hr hg
   go_enter Tryz.func58, Tryz.ntmps58
   go_wp2_with (go_at_call 80; (with_reducible refine HN.out.mono ?_); rintro e w1 ⟨rfl, rfl⟩)
   all_goals
    go_ret
    exact RetDk.same HD.out
 | some f =>
   obtain ⟨fb, h1, h2, h3⟩ := h.files.some s f hg
   have HN := Lib.hid (find_some hs h hok h2)
   have HC := Lib.hid (change_any d b S.arm S.down w h.cells ha)
   have HD := Lib.hid h
   have H1 := Lib.hid h1
   have H2 := Lib.hid h2
   have H3 := Lib.hid h3
   have HG := Lib.hid hg
   have hfd := file_noDisk h3 h.cells
   by_cases hc : chg S.arm S.down = true
   ·have hr : S.sync s = (S.change, 12) := by unfold DS.sync; rw [if_pos hok, hg]; exact if_pos hc
    rw [hr]
    rw [hc, if_pos rfl] at HC
    have HE : Hid (chg S.arm S.down = true) := hc
    clear h hok hr hg h1 h2 h3 hc
    go_enter Tryz.func58, Tryz.ntmps58
    go_wp2_with (first
        | (go_at_call 80; (with_reducible refine HN.out.mono ?_); rintro e w1 ⟨rfl, rfl⟩)
        | (go_at_call 81; (with_reducible refine HC.out.mono ?_); rintro e w2 ⟨rfl, hc2, hf2⟩))
    all_goals
        go_ret
        exact ⟨rfl, ⟨D, ((HD.out.setCells (by rw [← HE.out] at hc2; exact hc2) hf2).mono fun _ g => Or.inl g)⟩, hf2.mono fun k _ hk => by subst hk; exact HD.out.fd⟩
   ·have hc' : chg S.arm S.down = false := Bool.eq_false_iff.2 hc
    have hr : S.sync s = ({ S.change with f := setF S.f { f with safe := f.b.length } }, 0) := by unfold DS.sync; rw [if_pos hok, hg]; exact if_neg hc
    rw [hr]
    rw [hc', if_neg (by decide)] at HC
    have HE : Hid (chg S.arm S.down = false) := hc'
    clear h hok hr hg h1 h2 h3 hc hc'
    go_enter Tryz.func58, Tryz.ntmps58
    go_wp2_with (first
        | (go_at_call 80; (with_reducible refine HN.out.mono ?_); rintro e w1 ⟨rfl, rfl⟩)
        | (go_at_call 81; (with_reducible refine HC.out.mono ?_); rintro e w2 ⟨rfl, hc2, hf2⟩; have hF2 := H3.out.fr hf2 (fun k hk => by subst hk; exact NoByte.disk HD.out.cells) hfd; have HF2 := Lib.hid hF2; obtain ⟨a, cap, b1, b2, b3⟩ := hF2; obtain ⟨p0, p1, f0, f1⟩ := two_cell b1; clear b1 b2 b3))
    all_goals
        go_ret
        have hD2 := HD.out.setCells (by rw [← HE.out] at hc2; exact hc2) hf2
        have hD3 := DkIn.setFile (g := f) (f := { f with safe := f.b.length }) hD2 HG.out H2.out (show f.name = s from getF_name HG.out) (HF2.out.setSafe _) HF2.out (fr_set _)
        exact ⟨rfl, ⟨D, hD3.mono fun _ g => Or.inl g⟩, (hf2.mono fun k _ hk => by subst hk; exact HD.out.fd).again ((fr_set _).mono fun k _ hk => by subst hk; exact H1.out)⟩
/-- a file of the reference's, with where its bytes lie -/
structure RF where
 f : DF
 a : Option Addr
 cap : Nat
abbrev rfCells (g : RF) : List Value := [.string g.f.name, .slice g.a g.f.b.length g.cap, .int .i64 g.f.safe]
structure RFOk (w : World) (g : RF) : Prop where
 bytes : BytesIn w g.a g.f.b
 cap : g.f.b.length ≤ g.cap
theorem RFOk.kept {w w' : World} {g : RF} (h : RFOk w g) (hb : Below w.heap.size w w') : RFOk w' g := ⟨h.bytes.kept hb, h.cap⟩
/-- the cells of files, one behind the other -/
def fcs : List RF → List Value
 | [] => []
 | g :: l => rfCells g ++ fcs l
theorem fcs_length (l : List RF) : (fcs l).length = l.length * 3 := by
 induction l with
 | nil => rfl
 | cons g l ih => simp only [fcs, List.length_append, ih, List.length_cons, List.length_nil]; omega
theorem fcs_drop : ∀ (l : List RF) (k : Nat), (fcs l).drop (k * 3) = fcs (l.drop k)
 | l, 0 => by simp
 | [], k + 1 => by simp [fcs]
 | g :: l, k + 1 => by
   rw [show (k + 1) * 3 = k * 3 + 3 by omega, List.drop_succ_cons, ← fcs_drop l k]
   simp [fcs]
theorem fcs_at (l : List RF) (i : Nat) (h : i < l.length) (j : Nat) (hj : j < 3) : (fcs l)[i * 3 + j]? = (rfCells l[i])[j]? := by
 rw [← List.getElem?_drop, fcs_drop, List.drop_eq_getElem_cons h]
 simp only [fcs]
 rw [List.getElem?_append_left (by simpa using hj)]
/-- a slice of files -/
structure RFsIn (w : World) (a : Option Addr) (l : List RF) : Prop where
 rows : CellsIn w a (fcs l)
 ok : ∀ g ∈ l, RFOk w g
theorem RFsIn.kept {w w' : World} {a : Option Addr} {l : List RF} (h : RFsIn w a l) (hb : Below w.heap.size w w') : RFsIn w' a l := ⟨h.rows.kept hb, fun g hg => (h.ok g hg).kept hb⟩
theorem RFsIn.at {w : World} {a : Option Addr} {l : List RF} (h : RFsIn w a l) {k : Nat} (hk : k < l.length) :
 ∃ A off, a = some ⟨A, off, none⟩ ∧ (∀ i (h : i < l.length), w.rangeAt A (off + i * 3) (rfCells l[i])) ∧ RFOk w l[k] := by
 rcases h.rows with h1 | ⟨A, off, h1, h2⟩
 ·have := congrArg List.length h1
  rw [fcs_length] at this
  simp at this
  omega
 ·refine ⟨A, off, h1, fun i hi j v hv => ?_, h.ok _ (List.getElem_mem hk)⟩
  have hj : j < 3 := by have := (List.getElem?_eq_some_iff.1 hv).1; simpa using this
  have := h2 (i * 3 + j) v (by rw [fcs_at l i hi j hj]; exact hv)
  rwa [← Nat.add_assoc] at this
end Go.Proofs.YtohcmljigcdmbaaGreat
