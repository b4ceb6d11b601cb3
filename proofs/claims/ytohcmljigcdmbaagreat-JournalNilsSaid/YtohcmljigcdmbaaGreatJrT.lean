/- The journal in memory; what a turn of its disk leaves as it is. Conditions: as in the text. -/
import Derived.Test.YtohcmljigcdmbaaGreatDStep
import Derived.Test.YtohcmljigcdmbaaGreatOrmF
set_option linter.unusedSimpArgs false
set_option linter.unusedVariables false
set_option linter.unnecessarySimpa false
set_option maxHeartbeats 16000000
set_option maxRecDepth 100000
namespace Go.Proofs.YtohcmljigcdmbaaGreat
open Go.RowKit
/-- a journal: its disk, device, life, stamp, map, what is durable -/
abbrev jrA (d : Nat) (dv ic : Int) (st : Stamp) (m : Nat) (du : Value) : Array Value := #[.pointer (some ⟨d, 0, none⟩), .int .i64 dv, .int .i64 ic, .int .i64 st.wall, .int .i64 st.count, .int .i64 st.dev, .pointer (some ⟨m, 0, none⟩), du]
def JrAt (w : World) (j d : Nat) (dv ic : Int) (st : Stamp) (m : Nat) (du : Value) : Prop := w.heap[j]? = some (.cells (jrA d dv ic st m du) 60 (0, 0))
section
variable {w w' : World} {j d : Nat} {dv ic : Int} {st : Stamp} {m : Nat} {du : Value}
theorem JrAt.lt (h : JrAt w j d dv ic st m du) : j < w.heap.size := lt_of_block h
theorem JrAt.below (h : JrAt w j d dv ic st m du) (hb : Below w.heap.size w w') : JrAt w' j d dv ic st m du := (hb.block _ h.lt).trans h
theorem JrAt.cell (h : JrAt w j d dv ic st m du) (i : Nat) (v : Value) (hv : (jrA d dv ic st m du)[i]? = some v) : w.cell? ⟨j, i, none⟩ = some v := by
 unfold JrAt at h
 simp only [World.cell?, h]
 simpa using hv
theorem JrAt.free (h : JrAt w j d dv ic st m du) (i : Nat) : w.frozen? ⟨j, i, none⟩ = false := by
 unfold JrAt at h
 simp [World.frozen?, h]
theorem JrAt.setInc (h : JrAt w j d dv ic st m du) (n : Int) : JrAt (w.setCell ⟨j, 2, none⟩ (.int .i64 n)) j d dv n st m du := by
 unfold JrAt at h ⊢
 simp [World.setCell, Array.getElem?_modify, h]
theorem JrAt.setDur (h : JrAt w j d dv ic st m du) (v : Value) : JrAt (w.setCell ⟨j, 7, none⟩ v) j d dv ic st m v := by
 unfold JrAt at h ⊢
 simp [World.setCell, Array.getElem?_modify, h]
end
theorem JrAt.noByte {w : World} {j d : Nat} {dv ic : Int} {st : Stamp} {m : Nat} {a : Option Addr} {n c : Nat} (h : JrAt w j d dv ic st m (.slice a n c)) : NoByte w j := by
 unfold JrAt at h
 intro o x e
 simp only [World.cell?, h] at e
 match o, e with
 | 0, e => simp at e
 | 1, e => simp at e
 | 2, e => simp at e
 | 3, e => simp at e
 | 4, e => simp at e
 | 5, e => simp at e
 | 6, e => simp at e
 | 7, e => simp at e
 | o + 8, e => simp at e
/-- blocks that are a disk's: none of another type, no map but its own -/
structure QuietD (F : Nat → Prop) (w : World) (b : Nat) : Prop where
 typed : ∀ k cur e, w.heap[k]? = some (.cells cur e (0, 0)) → (e ≠ 73 ∧ e ≠ 138) → ¬ F k
 maps : ∀ k es cl, w.heap[k]? = some (.map es cl) → F k → k = b
theorem DkIn.quietD {F : Nat → Prop} {d : Nat} {S : DS} {b : Nat} {D : DataW Unit} {w : World} (h : DkIn w F d S b D) : QuietD (Ex w F d b D) w b := by
 refine ⟨?_, ?_⟩
 ·rintro k cur e hk he ⟨_, _, h1 | h1 | ⟨s, h1⟩⟩
  ·subst h1
   have := hk.symm.trans h.cells
   simp only [Option.some.injEq, Obj.cells.injEq] at this
   exact he.1 this.2.1
  ·subst h1
   obtain ⟨es, cl, hb, _⟩ := h.own
   have := hk.symm.trans hb
   simp at this
  ·cases hg : getF S.f s with
   | none => have := h.files.none s hg; rw [this] at h1; cases h1
   | some f =>
     obtain ⟨fb, _, h3, a, c, h4, _⟩ := h.files.some s f hg
     obtain rfl : fb = k := by have := h3.symm.trans h1; simp at this; omega
     have := hk.symm.trans h4
     simp only [Option.some.injEq, Obj.cells.injEq] at this
     exact he.2 this.2.1
 ·rintro k es cl hk ⟨_, _, h1 | h1 | ⟨s, h1⟩⟩
  ·subst h1
   have := hk.symm.trans h.cells
   simp at this
  ·exact h1
  ·cases hg : getF S.f s with
   | none => have := h.files.none s hg; rw [this] at h1; cases h1
   | some f =>
     obtain ⟨fb, _, h3, a, c, h4, _⟩ := h.files.some s f hg
     obtain rfl : fb = k := by have := h3.symm.trans h1; simp at this; omega
     have := hk.symm.trans h4
     simp at this
theorem QuietD.below {F : Nat → Prop} {b : Nat} {w w' : World} (h : QuietD F w b) (hF : ∀ k, F k → k < w.heap.size) (hb : Below w.heap.size w w') : QuietD F w' b :=
 ⟨fun k cur e h1 h2 h3 => h.typed k cur e ((hb.block k (hF k h3)).symm.trans h1) h2 h3, fun k es cl h1 h3 => h.maps k es cl ((hb.block k (hF k h3)).symm.trans h1) h3⟩
theorem JrAt.turn {F : Nat → Prop} {b : Nat} {w w' : World} {j d : Nat} {dv ic : Int} {st : Stamp} {m : Nat} {du : Value} (h : JrAt w j d dv ic st m du) (hf : Fr F w w') (hq : QuietD F w b) : JrAt w' j d dv ic st m du :=
 (hf.block _ h.lt (hq.typed _ _ _ h (by decide))).trans h
/-- the disk stays where the journal turns -/
theorem DkIn.jr {F : Nat → Prop} {d : Nat} {S : DS} {b : Nat} {D : DataW Unit} {w w' : World} {j d' : Nat} {dv ic : Int} {st : Stamp} {m : Nat} {a : Option Addr} {n c : Nat} (h : DkIn w F d S b D) (hJ : JrAt w j d' dv ic st m (.slice a n c)) (hset : Fr (isR j) w w') : DkIn w' F d S b D :=
 (DkIn.fr h.exact hset (fun q hq => by rw [show q = j from hq]; exact hJ.noByte) (fun q hq e => (h.quietD.typed _ _ _ hJ (by decide)) (by rw [← show q = j from e]; exact hq))).mono fun q hq => hq.1
/-- an empty map stays -/
theorem MpIn.frE {F : Nat → Prop} {w w' : World} {m b : Nat} {mb : MB} (h : MpIn w m mb MS.empty) (hf : Fr F w w') (hq : QuietD F w b) (hb : ∀ k, foot mb [] k → k ≠ b) : MpIn w' m mb MS.empty := by
 have hm := hf.block m (lt_of_block h.cell) (hq.typed _ _ _ h.cell (by decide))
 have hv := hf.block mb.v (lt_of_block h.vec.cell) (hq.typed _ _ _ h.vec.cell (by decide))
 have hk : ∀ k, foot mb MS.empty.A k → w'.heap[k]? = w.heap[k]? := fun k hk => by
  obtain ⟨es, cl, hh⟩ := h.maps hk
  exact hf.block k (lt_of_block hh) (fun e => hb k hk (hq.maps k es cl hh e))
 exact ⟨hm.trans h.cell, h.vec.block hv (hk _ (foot_vb mb _)), h.kept.block (hk _ (foot_kb mb _)), fun x hx => (nomatch hx), h.dead.block (hk _ (foot_db mb _)), h.alive.block (hk _ (foot_ab mb _)), fun p hp => (nomatch hp), h.some, h.keys, h.nodup⟩
theorem fr_rowJ (w : World) (R : Nat) (cs : Array Value) : Fr (isR R) w (w.setRow R cs) := ⟨rfl, rfl, rfl, by simp [World.setRow], fun k _ hk => heap_setRow_other _ _ _ _ (fun e => hk e.symm)⟩
/-- and where one block of another type turns -/
theorem MpIn.one {w w' : World} {m R : Nat} {mb : MB} {cs : Array Value} {t : TypeId} {f : Nat × Nat} (h : MpIn w m mb MS.empty) (hf : Fr (isR R) w w') (hR : w.heap[R]? = Option.some (Obj.cells cs t f)) (h1 : t ≠ 91) (h2 : t ≠ 115) : MpIn w' m mb MS.empty := by
 have hm := hf.block m (lt_of_block h.cell) (fun e => by
  have hc := h.cell
  rw [show m = R from e, hR] at hc
  simp only [Option.some.injEq, Obj.cells.injEq] at hc
  exact h1 hc.2.1)
 have hv := hf.block mb.v (lt_of_block h.vec.cell) (fun e => by
  have hc := h.vec.cell
  rw [show mb.v = R from e, hR] at hc
  simp only [Option.some.injEq, Obj.cells.injEq] at hc
  exact h2 hc.2.1)
 have hk : ∀ k, foot mb MS.empty.A k → w'.heap[k]? = w.heap[k]? := fun k hk => by
  obtain ⟨es, cl, hh⟩ := h.maps hk
  exact hf.block k (lt_of_block hh) (fun e => by rw [show k = R from e, hR] at hh; simp at hh)
 exact ⟨hm.trans h.cell, h.vec.block hv (hk _ (foot_vb mb _)), h.kept.block (hk _ (foot_kb mb _)), fun x hx => (nomatch hx), h.dead.block (hk _ (foot_db mb _)), h.alive.block (hk _ (foot_ab mb _)), fun p hp => (nomatch hp), h.some, h.keys, h.nodup⟩
end Go.Proofs.YtohcmljigcdmbaaGreat
