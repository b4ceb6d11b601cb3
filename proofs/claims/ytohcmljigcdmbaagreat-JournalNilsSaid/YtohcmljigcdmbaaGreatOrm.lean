/- The map of events in memory: its parts; Has, Dead, Len, Room. Conditions: as in the text. -/
import Derived.Test.YtohcmljigcdmbaaGreatVec
import Derived.Test.YtohcmljigcdmbaaGreatClone
import Derived.Test.YtohcmljigcdmbaaGreatSrtK
import Derived.Test.YtohcmljigcdmbaaGreatLoad
import Derived.WalkSpells
set_option linter.unusedSimpArgs false
set_option linter.unusedVariables false
set_option linter.unnecessarySimpa false
set_option maxHeartbeats 16000000
set_option maxRecDepth 100000
namespace Go.Proofs.YtohcmljigcdmbaaGreat
open Go.RowKit
/-- blocks of cells stay as they are -/
def KeepsC (w w' : World) : Prop := ∀ (k : Nat) (cs : Array Value) (t : TypeId) (f : Nat × Nat), w.heap[k]? = some (Obj.cells cs t f) → w'.heap[k]? = some (Obj.cells cs t f)
theorem KeepsC.cell {w w' : World} (h : KeepsC w w') {p : Addr} {v : Value} (hc : w.cell? p = some v) : w'.cell? p = some v := by
 cases ho : w.heap[p.block]? with
 | none => simp [World.cell?, ho] at hc
 | some o =>
   cases o with
   | cells cs t f =>
     have := h _ _ _ _ ho
     exact (World.cell?_of_block (this.trans ho.symm)).trans hc
   | _ => simp [World.cell?, ho] at hc
theorem KeepsC.trans {a b c : World} (h : KeepsC a b) (k : KeepsC b c) : KeepsC a c := fun i cs t f hi => k i cs t f (h i cs t f hi)
theorem KeepsC.of_below {w w' : World} (h : Below w.heap.size w w') : KeepsC w w' := fun k cs t f hk => (h.block k (lt_of_block hk)).trans hk
theorem KeepsC.range {w w' : World} (h : KeepsC w w') {b o : Nat} {cs : List Value} (hr : w.rangeAt b o cs) : w'.rangeAt b o cs := fun j v hv => h.cell (hr j v hv)
theorem KeepsC.dots {w w' : World} (h : KeepsC w w') {a : Option Addr} {l : List Dot} (hd : DotsIn w a l) : DotsIn w' a l :=
 hd.imp id fun ⟨A, off, h1, h2⟩ => ⟨A, off, h1, ⟨fun i hi => h.cell (h2.dev i hi), fun i hi => h.cell (h2.inc i hi), fun i hi => h.cell (h2.seq i hi)⟩⟩
abbrev mapV (n : Nat) : Value := .map (some n)
abbrev evV (x : EvIt) : Value := evVal x.1 x.2.1 x.2.2
def keptE (K : List EvIt) : List (Dot × EvIt) := K.map fun x => (x.1.dot, x)
def ones (l : List Dot) : List (Dot × Int) := l.map fun d => (d, 1)
/-- the dots of a key -/
def atK (pairs : List (Key × Dot)) (k : Key) : List Dot := (pairs.filter fun q => decide (q.1 = k)).map (·.2)
abbrev DTab (w : World) (b : Nat) (l : List Dot) : Prop := Tab Tryz.prog 25 dotVal DotW intVal w b (ones l)
abbrev KTab (w : World) (b : Nat) (K : List EvIt) : Prop := Tab Tryz.prog 25 dotVal DotW evV w b (keptE K)
abbrev ATab (w : World) (b : Nat) (A : List (Key × Nat)) : Prop := Tab Tryz.prog 29 keyVal KeyW mapV w b A
/-- a map's fixed blocks -/
structure MB where
 kb : Nat
 ab : Nat
 db : Nat
 v : Nat
 vb : Nat
/-- what a map holds: context, kept events, dead dots, alive dots by keys -/
structure MS where
 ctx : List Dot
 K : List EvIt
 dead : List Dot
 A : List (Key × Nat)
 pairs : List (Key × Dot)
def blocks (b : MB) (A : List (Key × Nat)) : List Nat := b.kb :: b.ab :: b.db :: b.vb :: A.map (·.2)
abbrev foot (b : MB) (A : List (Key × Nat)) : Nat → Prop := fun k => k ∈ blocks b A
theorem foot_kb (b : MB) (A : List (Key × Nat)) : foot b A b.kb := by simp [foot, blocks]
theorem foot_ab (b : MB) (A : List (Key × Nat)) : foot b A b.ab := by simp [foot, blocks]
theorem foot_db (b : MB) (A : List (Key × Nat)) : foot b A b.db := by simp [foot, blocks]
theorem foot_vb (b : MB) (A : List (Key × Nat)) : foot b A b.vb := by simp [foot, blocks]
theorem foot_in (b : MB) {A : List (Key × Nat)} {p : Key × Nat} (h : p ∈ A) : foot b A p.2 := by
 simp only [foot, blocks, List.mem_cons, List.mem_map]
 exact Or.inr (Or.inr (Or.inr (Or.inr ⟨p, h, rfl⟩)))
structure MpIn (w : World) (m : Nat) (b : MB) (s : MS) : Prop where
 cell : w.heap[m]? = some (.cells #[.map (some b.kb), .map (some b.ab), .map (some b.db), .pointer (some ⟨b.v, 0, none⟩)] 91 (0, 0))
 vec : VecIn w b.v b.vb s.ctx
 kept : KTab w b.kb s.K
 overs : ∀ x ∈ s.K, DotsIn w x.2.1 x.1.over
 dead : DTab w b.db s.dead
 alive : ATab w b.ab s.A
 inner : ∀ p ∈ s.A, DTab w p.2 (atK s.pairs p.1)
 some : ∀ p ∈ s.A, atK s.pairs p.1 ≠ []
 keys : ∀ q ∈ s.pairs, ∃ n, (q.1, n) ∈ s.A
 nodup : (blocks b s.A).Nodup
theorem MpIn.maps {w : World} {m : Nat} {b : MB} {s : MS} (h : MpIn w m b s) {k : Nat} (hk : foot b s.A k) : ∃ es cl, w.heap[k]? = Option.some (.map es cl) := by
 simp only [foot, blocks, List.mem_cons, List.mem_map] at hk
 rcases hk with rfl | rfl | rfl | rfl | ⟨p, hp, rfl⟩
 ·exact h.kept.mapped
 ·exact h.alive.mapped
 ·exact h.dead.mapped
 ·exact h.vec.tab.mapped
 ·exact (h.inner p hp).mapped
theorem MpIn.keeps {w w' : World} {m : Nat} {b : MB} {s : MS} (h : MpIn w m b s) {S : Nat → Prop} (hf : Fr S w w') (hS : ∀ k, S k → foot b s.A k) : KeepsC w w' := fun k cs t f hk => by
 refine (hf.block k (lt_of_block hk) (fun hs => ?_)).trans hk
 obtain ⟨es, cl, h1⟩ := h.maps (hS k hs)
 rw [hk] at h1
 cases h1
theorem MpIn.low {w : World} {m : Nat} {b : MB} {s : MS} (h : MpIn w m b s) {k : Nat} (hk : foot b s.A k) : k < w.heap.size := by
 obtain ⟨es, cl, h1⟩ := h.maps hk
 exact lt_of_block h1
theorem MpIn.kept_w {w w' : World} {m : Nat} {b : MB} {s : MS} (h : MpIn w m b s) (hb : Below w.heap.size w w') : MpIn w' m b s :=
 ⟨(hb.block m (lt_of_block h.cell)).trans h.cell, h.vec.kept hb, h.kept.kept hb, fun x hx => (h.overs x hx).kept hb, h.dead.kept hb, h.alive.kept hb, fun p hp => (h.inner p hp).kept hb, h.some, h.keys, h.nodup⟩
/-- another map's operations leave this one alone -/
theorem MpIn.other {w w' : World} {m : Nat} {b : MB} {s : MS} (h : MpIn w m b s) {S : Nat → Prop} (hf : Fr S w w') (hK : KeepsC w w') (hS : ∀ k, S k → ¬ foot b s.A k) : MpIn w' m b s := by
 have hn : ∀ k, foot b s.A k → ¬ S k := fun k hk hs => hS k hs hk
 refine ⟨hK _ _ _ _ h.cell, ⟨hK _ _ _ _ h.vec.cell, h.vec.tab.fr hf (hn _ (foot_vb _ _))⟩, h.kept.fr hf (hn _ (foot_kb _ _)), fun x hx => hK.dots (h.overs x hx), h.dead.fr hf (hn _ (foot_db _ _)),
  h.alive.fr hf (hn _ (foot_ab _ _)), fun p hp => (h.inner p hp).fr hf (hn _ (foot_in _ hp)), h.some, h.keys, h.nodup⟩
theorem four_cells {w : World} {m : Nat} {x0 x1 x2 x3 : Value} {t : TypeId} (h : w.heap[m]? = some (.cells #[x0, x1, x2, x3] t (0, 0))) : w.cell? ⟨m, 0, none⟩ = some x0 ∧ w.cell? ⟨m, 1, none⟩ = some x1 ∧ w.cell? ⟨m, 2, none⟩ = some x2 ∧ w.cell? ⟨m, 3, none⟩ = some x3 := by
 simp [World.cell?, h]
/-! ### Has -/
/-! ### Dead -/
/-! ### Len, Room -/
def MS.empty : MS := ⟨[], [], [], [], []⟩
theorem mNew_any (w : World) : Calls Tryz.prog 53 #[] w fun e w' => ∃ m b, e = .returned (.pointer (some ⟨m, 0, none⟩)) ∧ MpIn w' m b MS.empty ∧ Below w.heap.size w w' ∧ w.heap.size ≤ m ∧ ∀ k, foot b [] k → w.heap.size ≤ k := by
 have hmm := @run_makeMap Tryz.prog
 have HV := Lib.hid (fun X => vNew_any X)
 go_enter Tryz.func53, Tryz.ntmps53
 go_wp2_with (go_at_call 68; (with_reducible refine (HV.out _).mono ?_); rintro e w1 ⟨rfl, hv, hb⟩)
 go_ret
 have hs3 : (((w.alloc (.map #[] 0)).alloc (.map #[] 0)).alloc (.map #[] 0)).heap.size = w.heap.size + 3 := by simp
 rw [hs3] at hv hb
 have hb0 : Below w.heap.size w w1 := by
  have h0 : Below w.heap.size w (((w.alloc (.map #[] 0)).alloc (.map #[] 0)).alloc (.map #[] 0)) := by go_grown
  exact h0.trans (hb.mono (by omega))
 have hz := hb.size
 rw [hs3] at hz
 have e0 : (((w.alloc (.map #[] 0)).alloc (.map #[] 0)).alloc (.map #[] 0)).heap[w.heap.size]? = some (.map #[] 0) := by
  rw [Below.heap_alloc _ _ _ (by simp; omega), Below.heap_alloc _ _ _ (by simp)]
  exact heap_last0 w _
 have e1 : (((w.alloc (.map #[] 0)).alloc (.map #[] 0)).alloc (.map #[] 0)).heap[w.heap.size + 1]? = some (.map #[] 0) := by
  rw [Below.heap_alloc _ _ _ (by simp)]
  exact heap_last1 w _ _
 have e2 : (((w.alloc (.map #[] 0)).alloc (.map #[] 0)).alloc (.map #[] 0)).heap[w.heap.size + 2]? = some (.map #[] 0) := by
  have := heap_last0 ((w.alloc (.map #[] 0)).alloc (.map #[] 0)) (.map #[] 0)
  simpa using this
 have t0 : ∀ {α β : Type} {k : TypeId} {kv : α → Value} {ok : α → Prop} {vv : β → Value} {i : Nat}, i < w.heap.size + 3 → (((w.alloc (.map #[] 0)).alloc (.map #[] 0)).alloc (.map #[] 0)).heap[i]? = some (.map #[] 0) → ∀ (X : World), Below w1.heap.size w1 X → Tab Tryz.prog k kv ok vv X i ([] : List (α × β)) := by
  intro α β k kv ok vv i hi he X hX
  have hm : Tab Tryz.prog k kv ok vv (w.alloc (.map #[] 0)) w.heap.size ([] : List (α × β)) := Tab.made w
  have he' : X.heap[i]? = some (.map #[] 0) := by rw [hX.block i (by omega), hb.block i hi]; exact he
  obtain ⟨D, ⟨es, cl, g1, g2⟩, g3⟩ := hm
  have g0 : (w.alloc (.map #[] 0)).heap[w.heap.size]? = some (.map #[] 0) := heap_last0 w _
  rw [g0] at g1
  simp only [Option.some.injEq, Obj.map.injEq] at g1
  obtain ⟨rfl, rfl⟩ := g1
  exact ⟨D, ⟨_, _, he', g2⟩, g3⟩
 have hX : Below w1.heap.size w1 (w1.alloc (Obj.cells #[.map (some w.heap.size), .map (some (w.heap.size + 1)), .map (some (w.heap.size + 2)), .pointer (some ⟨w.heap.size + 3 + 1, 0, none⟩)] 91)) := (Below.refl _ _).alloc (Nat.le_refl _) _
 refine ⟨w1.heap.size, ⟨w.heap.size, w.heap.size + 1, w.heap.size + 2, w.heap.size + 4, w.heap.size + 3⟩, rfl, ⟨heap_last0 w1 _, hv.kept hX, t0 (by omega) e0 _ hX, fun x hx => (nomatch hx), t0 (by omega) e2 _ hX, t0 (by omega) e1 _ hX, fun p hp => (nomatch hp), fun p hp => (nomatch hp), fun p hp => (nomatch hp), ?_⟩, hb0.trans (hX.mono hb0.size), hb0.size, fun k hk => ?_⟩
 ·simp [blocks, MS.empty]
 ·simp only [foot, blocks, List.map_nil, List.mem_cons, List.not_mem_nil, or_false] at hk
  omega
/-! ### live -/
end Go.Proofs.YtohcmljigcdmbaaGreat
