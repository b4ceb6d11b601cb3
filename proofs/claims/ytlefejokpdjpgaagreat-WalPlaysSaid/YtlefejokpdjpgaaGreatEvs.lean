/- Marks: may they be, are they the same. A mark's cells are a dot's. Conditions: at most 2^30 marks. -/
import Derived.Test.YtlefejokpdjpgaaGreatDot
import Derived.Test.YtlefejokpdjpgaaGreatLoad
import Derived.Test.YtlefejokpdjpgaaGreatPut
import Derived.Test.YtlefejokpdjpgaaGreatDiskC
import Derived.OneCell
import Derived.Test.YtlefejokpdjpgaaGreatKit
import Derived.Lib.AppendStr
import Derived.IntWalk
import Derived.Deep.WholeRow
set_option linter.unusedSimpArgs false
set_option linter.unusedVariables false
set_option linter.unnecessarySimpa false
set_option maxHeartbeats 16000000
set_option maxRecDepth 100000
namespace Go.Proofs.YtlefejokpdjpgaaGreat
open Go.RowKit
/-! ### may marks be? -/
theorem DotsIn.keep {w w' : World} {a : Option Addr} {l : List Dot} (h : DotsIn w a l) (hk : ∀ A off, a = some ⟨A, off, none⟩ → l ≠ [] → w'.heap[A]? = w.heap[A]?) : DotsIn w' a l := by
 rcases h with h | ⟨A, off, ha, hd⟩
 ·exact Or.inl h
 ·by_cases h0 : l = []
  ·exact Or.inl h0
  ·have hc : ∀ o, w'.cell? ⟨A, o, none⟩ = w.cell? ⟨A, o, none⟩ := fun o => World.cell?_of_block (hk A off ha h0)
   exact Or.inr ⟨A, off, ha, ⟨fun i hi => (hc _).trans (hd.dev i hi), fun i hi => (hc _).trans (hd.inc i hi), fun i hi => (hc _).trans (hd.seq i hi)⟩⟩
structure EvShort (e : Ev) : Prop where
 name : e.key.name.size ≤ 256
 domain : e.key.domain.size ≤ 256
 path : e.key.path.size ≤ 256
 value : e.ck.value.size ≤ 1024
theorem evOk_short {e : Ev} (h : evOk e = true) : EvShort e := by
 have hfit := evOk_fit h
 unfold evOk at h
 simp only [Bool.and_eq_true, decide_eq_true_eq] at h
 obtain ⟨_, _, _, _, h5⟩ := h
 unfold kindOk at h5
 rcases hfit.kind with hk | hk
 ·rw [if_neg (by omega), if_pos hk] at h5
  unfold itemOk pathOk plainOk canonical at h5
  simp only [Bool.and_eq_true, decide_eq_true_eq] at h5
  obtain ⟨_, ⟨hn, _⟩, ⟨hv, _⟩, ⟨hd, _⟩, ⟨_, _, hp⟩, _⟩ := h5
  exact ⟨hn, hd, hp, hv⟩
 ·rw [if_pos hk] at h5
  simp only [Bool.and_eq_true, decide_eq_true_eq] at h5
  obtain ⟨⟨h1, h2⟩, _⟩ := h5
  exact ⟨by rw [h1]; exact Nat.zero_le _, by rw [h1]; exact Nat.zero_le _, by rw [h1]; exact Nat.zero_le _, by rw [h2]; exact Nat.zero_le _⟩
theorem EvShort.tiny {e : Ev} (h : EvShort e) : EvTiny e := ⟨by have := h.name; omega, by have := h.domain; omega, by have := h.path; omega, by have := h.value; omega⟩
theorem evOk_small {e : Ev} (h : evOk e = true) : EvSmall e := by
 have s := evOk_short h
 have f := evOk_fit h
 exact ⟨by have := s.name; omega, by have := s.domain; omega, by have := s.path; omega, by have := s.value; omega, by have := f.over; omega⟩
/-- what a list lies on was there in w0, and is none of S -/
def OldAt (w0 : World) (S : Nat → Prop) (a : Option Addr) (ne : Prop) : Prop := ∀ A off, a = some ⟨A, off, none⟩ → ne → A < w0.heap.size ∧ ¬ S A
theorem Hold.dots {S : Nat → Prop} {w0 w : World} {B : Nat} {l : Bytes} (h : Hold S w0 B w l) {a : Option Addr} {mk : List Dot} (hd : DotsIn w0 a mk) (ho : OldAt w0 S a (mk ≠ [])) : DotsIn w a mk :=
 hd.keep (fun A off ha hne => h.fr.block A (ho A off ha hne).1 (ho A off ha hne).2)
theorem Hold.alloc {S : Nat → Prop} {w0 w : World} {B : Nat} {l : Bytes} (h : Hold S w0 B w l) (o : Obj) : Hold S w0 B (w.alloc o) l := h.below ((Below.refl _ _).alloc (Nat.le_refl _) o)
/-- a function whose one result is a struct that lies in a block of its own hands back that block's cells -/
theorem ret_cell {P : Program} {fn : Func} {R : Ending → World → Prop} {a : Act} {w : World} (p : Tmp) (ty t : TypeId) (g : Nat) (c : Array Value) (d : TypeDesc) (hr : fn.results = #[.cell p ty])
 (hp : a.tmps.getD p undef = .pointer (some ⟨g, 0, none⟩)) (hg : w.heap[g]? = some (.cells c t (0, 0))) (hu : P.underlying ty = some d) (hd : d.isRow = true) (hi : (P.info? ty).map (·.size) = some c.size)
 (hde : a.defers = []) (hR : R (.returned (.agg c)) w) : bodyPost P fn R .ret a w := by
 have h1 : w.rangeAt g 0 c.toList := fun j v hv => by
  rw [Nat.zero_add]
  simp only [World.cell?, hg]
  simpa using hv
 have h2 := run_loadVar_mid (P := P) w g 0 ty c.toList d h1 hu hd (by simpa using hi)
 refine bodyPost_ret ?_ hde hR
 have hp' : a.tmps[p]?.getD undef = .pointer (some ⟨g, 0, none⟩) := by simpa using hp
 simp [results, hr, hp', asAddr, h2, Sem.run_bind, Result.andThen]
theorem own_low {w : World} {base b2 : Nat} {e : TypeId} {size : Nat} {v : Value} {n : Nat} {xs : List Value} (h : w.ownsRow base e size v n xs) (hb : b2 ≤ base) : w.ownsRow b2 e size v n xs := by
 rcases h.2 with hn | ⟨g, cap, cur, hv, hbs, rest⟩
 ·exact ⟨h.1, .inl hn⟩
 ·exact ⟨h.1, .inr ⟨g, cap, cur, hv, Nat.le_trans hb hbs, rest⟩⟩
theorem below_setRow {B : Nat} {W w : World} (h : Below B W w) {g : Nat} (hg : B ≤ g) (cs : Array Value) : Below B W (w.setRow g cs) :=
 h.trans ⟨rfl, rfl, rfl, by simp [World.setRow], fun k hk => by simp [World.setRow, Array.getElem?_modify]; omega⟩
theorem wpList_store_new {P : Program} {ops : Array Oper} {rest : List Oper} {a : Act} {w : World} {Q : Exit → Act → World → Prop} {type : TypeId} {pos : String} {after : Array Edge} (ty : TypeId) (x y : Operand) (c c' : Array Value)
 (hx : a.eval x = .pointer (some ⟨w.heap.size, 0, none⟩)) (hy : a.eval y = .agg c') (hi : (P.info? ty).map (·.size) = some c'.size) (hold : c.size = c'.size) (h1 : c'.all (·.oneCell') = true)
 (h : wpList P ops Q rest a (w.alloc (.cells c' ty))) : wpList P ops Q (⟨none, .store ty x y, type, pos, after, none⟩ :: rest) a (w.alloc (.cells c ty)) := by
 refine wpList_store_row rfl ty x y rfl w.heap.size c' hx hy ty c (heap_alloc_last w _) hi hold h1 ?_
 rw [World.setRow_alloc_new]
 exact h
theorem wpList_store_newAt {P : Program} {ops : Array Oper} {rest : List Oper} {a : Act} {w : World} {Q : Exit → Act → World → Prop} {type : TypeId} {pos : String} {after : Array Edge} (ty : TypeId) (x y : Operand) (c c' : Array Value) (N : Nat) (hN : w.heap.size = N)
 (hx : a.eval x = .pointer (some ⟨N, 0, none⟩)) (hy : a.eval y = .agg c') (hi : (P.info? ty).map (·.size) = some c'.size) (hold : c.size = c'.size) (h1 : c'.all (·.oneCell') = true)
 (h : wpList P ops Q rest a (w.alloc (.cells c' ty))) : wpList P ops Q (⟨none, .store ty x y, type, pos, after, none⟩ :: rest) a (w.alloc (.cells c ty)) := by
 subst hN
 exact wpList_store_new ty x y c c' hx hy hi hold h1 h
abbrev EvIt := Ev × Option Addr × Nat
abbrev itEv (x : EvIt) : List Value := evCells x.1 x.2.1 x.2.2
structure EvsIn (w : World) (a : Option Addr) (ls : List EvIt) : Prop where
 rows : ls = [] ∨ ∃ A off, a = some ⟨A, off, none⟩ ∧ ∀ i (h : i < ls.length), w.rangeAt A (off + i * 19) (itEv ls[i])
 dots : ∀ x ∈ ls, DotsIn w x.2.1 x.1.over
theorem EvsIn.kept {w w' : World} {a : Option Addr} {ls : List EvIt} (h : EvsIn w a ls) (hb : Below w.heap.size w w') : EvsIn w' a ls :=
 ⟨h.rows.imp id fun ⟨A, off, h1, h2⟩ => ⟨A, off, h1, fun i hi => rangeAt_kept (h2 i hi) hb⟩, fun x hx => (h.dots x hx).kept hb⟩
theorem EvsIn.at {w : World} {a : Option Addr} {ls : List EvIt} (h : EvsIn w a ls) {k : Nat} (hk : k < ls.length) :
 ∃ A off, a = some ⟨A, off, none⟩ ∧ (∀ i (h : i < ls.length), w.rangeAt A (off + i * 19) (itEv ls[i])) ∧ DotsIn w ls[k].2.1 ls[k].1.over := by
 rcases h.rows with h1 | ⟨A, off, h1, h2⟩
 ·subst h1; simp at hk
 ·exact ⟨A, off, h1, h2, h.dots _ (List.getElem_mem hk)⟩
/-! ### are they the same -/
end Go.Proofs.YtlefejokpdjpgaaGreat
