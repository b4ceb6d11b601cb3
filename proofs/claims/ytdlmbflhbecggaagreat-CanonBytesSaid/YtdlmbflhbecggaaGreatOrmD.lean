/- The map of events in memory: its parts; Has, Dead, Len, Room. Conditions: as in the text. -/
import Derived.Test.YtdlmbflhbecggaaGreatVec
import Derived.Test.YtdlmbflhbecggaaGreatSetP
import Derived.Test.YtdlmbflhbecggaaGreatClone
import Derived.Test.YtdlmbflhbecggaaGreatSrtK
import Derived.Test.YtdlmbflhbecggaaGreatLoad
import Derived.WalkSpells
set_option linter.unusedSimpArgs false
set_option linter.unusedVariables false
set_option linter.unnecessarySimpa false
set_option maxHeartbeats 16000000
set_option maxRecDepth 100000
namespace Go.Proofs.YtdlmbflhbecggaaGreat
open Go.RowKit
/-- blocks of cells stay as they are -/
def KeepsC (w w' : World) : Prop := ∀ (k : Nat) (cs : Array Value) (t : TypeId) (f : Nat × Nat), w.heap[k]? = some (Obj.cells cs t f) → w'.heap[k]? = some (Obj.cells cs t f)
theorem KeepsC.cell {w w' : World} (h : KeepsC w w') {p : Addr} {v : Value} (hc : w.cell? p = some v) : w'.cell? p = some v := by
 cases ho : w.heap[p.block]? with
 | none => simp [World.cell?, ho] at hc
 | some o =>
   cases o with
   | cells cs t f =>
     have := h _ _ _ _ ho
     exact (World.cell?_of_block (this.trans ho.symm)).trans hc
   | _ => simp [World.cell?, ho] at hc
theorem KeepsC.trans {a b c : World} (h : KeepsC a b) (k : KeepsC b c) : KeepsC a c := fun i cs t f hi => k i cs t f (h i cs t f hi)
theorem KeepsC.of_below {w w' : World} (h : Below w.heap.size w w') : KeepsC w w' := fun k cs t f hk => (h.block k (lt_of_block hk)).trans hk
theorem KeepsC.range {w w' : World} (h : KeepsC w w') {b o : Nat} {cs : List Value} (hr : w.rangeAt b o cs) : w'.rangeAt b o cs := fun j v hv => h.cell (hr j v hv)
theorem KeepsC.dots {w w' : World} (h : KeepsC w w') {a : Option Addr} {l : List Dot} (hd : DotsIn w a l) : DotsIn w' a l :=
 hd.imp id fun ⟨A, off, h1, h2⟩ => ⟨A, off, h1, ⟨fun i hi => h.cell (h2.dev i hi), fun i hi => h.cell (h2.inc i hi), fun i hi => h.cell (h2.seq i hi)⟩⟩
theorem KeepsC.evs {w w' : World} (h : KeepsC w w') {a : Option Addr} {ls : List bg} (he : EvsIn w a ls) : EvsIn w' a ls :=
 ⟨he.rows.imp id fun ⟨A, off, h1, h2⟩ => ⟨A, off, h1, fun i hi => h.range (h2 i hi)⟩, fun x hx => h.dots (he.dots x hx)⟩
abbrev GN (n : Nat) : Value := .map (some n)
abbrev evV (x : bg) : Value := ja x.1 x.2.1 x.2.2
def kz (K : List bg) : List (Dot × bg) := K.map fun x => (x.1.dot, x)
def ones (l : List Dot) : List (Dot × Int) := l.map fun d => (d, 1)
/-- the dots of a key -/
def atK (pairs : List (Key × Dot)) (k : Key) : List Dot := (pairs.filter fun q => decide (q.1 = k)).map (·.2)
abbrev DTab (w : World) (b : Nat) (l : List Dot) : Prop := Tab Tryz.prog 56 bT DotW jK w b (ones l)
abbrev KTab (w : World) (b : Nat) (K : List bg) : Prop := Tab Tryz.prog 56 bT DotW evV w b (kz K)
abbrev ATab (w : World) (b : Nat) (A : List (Key × Nat)) : Prop := Tab Tryz.prog 60 fO KeyW GN w b A
/-- a map's fixed blocks -/
structure MB where
 kb : Nat
 ab : Nat
 db : Nat
 v : Nat
 vb : Nat
/-- what a map holds: context, kept events, dead dots, alive dots by keys -/
structure MS where
 ctx : List Dot
 K : List bg
 dead : List Dot
 A : List (Key × Nat)
 pairs : List (Key × Dot)
def blocks (b : MB) (A : List (Key × Nat)) : List Nat := b.kb :: b.ab :: b.db :: b.vb :: A.map (·.2)
abbrev foot (b : MB) (A : List (Key × Nat)) : Nat → Prop := fun k => k ∈ blocks b A
theorem kL (b : MB) (A : List (Key × Nat)) : foot b A b.kb := by simp [foot, blocks]
theorem iC (b : MB) (A : List (Key × Nat)) : foot b A b.ab := by simp [foot, blocks]
theorem jI (b : MB) (A : List (Key × Nat)) : foot b A b.db := by simp [foot, blocks]
theorem uo (b : MB) (A : List (Key × Nat)) : foot b A b.vb := by simp [foot, blocks]
theorem kM (b : MB) {A : List (Key × Nat)} {p : Key × Nat} (h : p ∈ A) : foot b A p.2 := by
 simp only [foot, blocks, List.mem_cons, List.mem_map]
 exact Or.inr (Or.inr (Or.inr (Or.inr ⟨p, h, rfl⟩)))
structure MpIn (w : World) (m : Nat) (b : MB) (s : MS) : Prop where
 cell : w.heap[m]? = some (.cells #[.map (some b.kb), .map (some b.ab), .map (some b.db), .pointer (some ⟨b.v, 0, none⟩)] 109 (0, 0))
 vec : VecIn w b.v b.vb s.ctx
 kept : KTab w b.kb s.K
 overs : ∀ x ∈ s.K, DotsIn w x.2.1 x.1.over
 dead : DTab w b.db s.dead
 alive : ATab w b.ab s.A
 inner : ∀ p ∈ s.A, DTab w p.2 (atK s.pairs p.1)
 some : ∀ p ∈ s.A, atK s.pairs p.1 ≠ []
 keys : ∀ q ∈ s.pairs, ∃ n, (q.1, n) ∈ s.A
 nodup : (blocks b s.A).Nodup
theorem MpIn.maps {w : World} {m : Nat} {b : MB} {s : MS} (h : MpIn w m b s) {k : Nat} (hk : foot b s.A k) : ∃ es cl, w.heap[k]? = Option.some (.map es cl) := by
 simp only [foot, blocks, List.mem_cons, List.mem_map] at hk
 rcases hk with rfl | rfl | rfl | rfl | ⟨p, hp, rfl⟩
 ·exact h.kept.mapped
 ·exact h.alive.mapped
 ·exact h.dead.mapped
 ·exact h.vec.tab.mapped
 ·exact (h.inner p hp).mapped
theorem MpIn.keeps {w w' : World} {m : Nat} {b : MB} {s : MS} (h : MpIn w m b s) {S : Nat → Prop} (hf : Fr S w w') (hS : ∀ k, S k → foot b s.A k) : KeepsC w w' := fun k cs t f hk => by
 refine (hf.block k (lt_of_block hk) (fun hs => ?_)).trans hk
 obtain ⟨es, cl, h1⟩ := h.maps (hS k hs)
 rw [hk] at h1
 cases h1
theorem MpIn.low {w : World} {m : Nat} {b : MB} {s : MS} (h : MpIn w m b s) {k : Nat} (hk : foot b s.A k) : k < w.heap.size := by
 obtain ⟨es, cl, h1⟩ := h.maps hk
 exact lt_of_block h1
theorem MpIn.kept_w {w w' : World} {m : Nat} {b : MB} {s : MS} (h : MpIn w m b s) (hb : Below w.heap.size w w') : MpIn w' m b s :=
 ⟨(hb.block m (lt_of_block h.cell)).trans h.cell, h.vec.kept hb, h.kept.kept hb, fun x hx => (h.overs x hx).kept hb, h.dead.kept hb, h.alive.kept hb, fun p hp => (h.inner p hp).kept hb, h.some, h.keys, h.nodup⟩
/-- another map's operations leave this one alone -/
theorem MpIn.other {w w' : World} {m : Nat} {b : MB} {s : MS} (h : MpIn w m b s) {S : Nat → Prop} (hf : Fr S w w') (hK : KeepsC w w') (hS : ∀ k, S k → ¬ foot b s.A k) : MpIn w' m b s := by
 have hn : ∀ k, foot b s.A k → ¬ S k := fun k hk hs => hS k hs hk
 refine ⟨hK _ _ _ _ h.cell, ⟨hK _ _ _ _ h.vec.cell, h.vec.tab.fr hf (hn _ (uo _ _))⟩, h.kept.fr hf (hn _ (kL _ _)), fun x hx => hK.dots (h.overs x hx), h.dead.fr hf (hn _ (jI _ _)),
  h.alive.fr hf (hn _ (iC _ _)), fun p hp => (h.inner p hp).fr hf (hn _ (kM _ hp)), h.some, h.keys, h.nodup⟩
theorem bZ {w : World} {m : Nat} {x0 x1 x2 x3 : Value} {t : TypeId} (h : w.heap[m]? = some (.cells #[x0, x1, x2, x3] t (0, 0))) : w.cell? ⟨m, 0, none⟩ = some x0 ∧ w.cell? ⟨m, 1, none⟩ = some x1 ∧ w.cell? ⟨m, 2, none⟩ = some x2 ∧ w.cell? ⟨m, 3, none⟩ = some x3 := by
 simp [World.cell?, h]
/-! ### Has -/
/-! ### Dead -/
theorem EF {l : List Dot} {d : Dot} (h : d ∈ l) : (d, (1 : Int)) ∈ ones l := List.mem_map.2 ⟨d, h, rfl⟩
theorem DTab.look {w : World} {b : Nat} {l : List Dot} (h : DTab w b l) {d : Dot} (hd : DotW d) : ∃ n : Int, (Instr.lookup 105 (.map (some b)) (bT d) true).run Tryz.prog w = .ok (.tuple #[.int .i64 n, .bool (decide (d ∈ l))]) w := by
 by_cases hm : d ∈ l
 ·rw [decide_eq_true hm]
  exact ⟨1, h.look_hit iY Tryz.underlying105 (z := .int .i64 0) (by kernel_rfl) (EF hm) true⟩
 ·rw [decide_eq_false hm]
  exact ⟨0, h.look_miss iY Tryz.underlying105 (z := .int .i64 0) (by kernel_rfl) hd (fun p hp => by obtain ⟨x, hx, rfl⟩ := List.mem_map.1 hp; exact fun e => hm (by rw [← e]; exact hx)) true⟩
theorem Bz {m : Nat} {b : MB} {s : MS} (d : Dot) (hd : DotW d) (w : World) (h : MpIn w m b s) : Calls Tryz.prog 70 #[.pointer (some ⟨m, 0, none⟩), bT d] w fun e w' => e = .returned (.bool (decide (d ∈ s.dead))) ∧ Below w.heap.size w w' := by
 obtain ⟨q, hq⟩ : ∃ q, q = decide (d ∈ s.dead) := ⟨_, rfl⟩
 rw [← hq]
 have HQ := Lib.hid hq
 clear hq
 go_enter Tryz.func70, Tryz.ntmps70
 go_upto_region 3 with fail
 refine y65 ?_
 intro W hW hbw
 have h1 := h.kept_w hbw
 refine y40 ?_
 intro x0 x1 x2
 have y2 : ∀ i : After W, i.w.cell? ⟨m, 2, none⟩ = some (.map (some b.db)) := fun i => i.cell (bZ h1.cell).2.2.1
 have hL : ∃ n : Int, ∀ i : After W, (Instr.lookup 105 (.map (some b.db)) (bT d) true).run Tryz.prog i.w = .ok (.tuple #[.int .i64 n, .bool q]) i.w := by
  rw [HQ.out]
  by_cases hm : d ∈ s.dead
  ·rw [decide_eq_true hm]
   exact ⟨1, fun i => (h1.dead.kept i.h).look_hit iY Tryz.underlying105 (z := .int .i64 0) (by kernel_rfl) (EF hm) true⟩
  ·rw [decide_eq_false hm]
   exact ⟨0, fun i => (h1.dead.kept i.h).look_miss iY Tryz.underlying105 (z := .int .i64 0) (by kernel_rfl) hd (fun p hp => by obtain ⟨x, hx, rfl⟩ := List.mem_map.1 hp; exact fun e => hm (by rw [← e]; exact hx)) true⟩
 obtain ⟨n, hL⟩ := hL
 clear hW h h1
 iterate 5 go_big_quiet_step (fail)
 refine gm (by rfl) _ (fun X hX => by obtain ⟨i, rfl⟩ := hX; exact kW _ _ _ _ rfl _ (hL i)) ?_
 try simp only [pS]
 iterate 5 go_big_quiet_step (fail)
 refine wpQuiet_nil ?_
 rintro _ ⟨i, rfl⟩
 have hib := i.h
 generalize i.w = wi at hib ⊢
 go_wp2
 all_goals
  go_ret
  exact ⟨rfl, below2 hbw hib⟩
/-! ### Len, Room -/
theorem LX {m : Nat} {b : MB} {s : MS} (w : World) (h : MpIn w m b s) : Calls Tryz.prog 45 #[.pointer (some ⟨m, 0, none⟩)] w fun e w' => e = .returned (.int .i64 s.K.length) ∧ w = w' := by
 obtain ⟨c0, c1, c2, c3⟩ := bZ h.cell
 have hL := fun ty => h.kept.len Tryz.underlying103 ty
 simp only [kz, List.length_map] at hL
 clear h c1 c2 c3
 go_enter Tryz.func45, Tryz.ntmps45
 go_wp2
 all_goals
  go_ret
  exact ⟨rfl, rfl⟩
theorem GU {m : Nat} {b : MB} {s : MS} (w : World) (h : MpIn w m b s) (hk : s.K.length ≤ 1073741824) : Calls Tryz.prog 102 #[.pointer (some ⟨m, 0, none⟩), .int .i64 1] w fun e w' => e = .returned (.bool (decide (s.K.length < 2048))) ∧ w = w' := by
 obtain ⟨c0, c1, c2, c3⟩ := bZ h.cell
 have hL := fun ty => h.kept.len Tryz.underlying103 ty
 simp only [kz, List.length_map] at hL
 have hw : IntKind.i64.wrap (2048 - (s.K.length : Int)) = 2048 - (s.K.length : Int) := IntWalk.i64_in _ (by omega)
 clear h c1 c2 c3
 go_enter Tryz.func102, Tryz.ntmps102
 go_wp2
 all_goals
  go_ret
  exact ⟨aB (by rw [Bool.eq_iff_iff]; simp <;> omega), rfl⟩
def MS.empty : MS := ⟨[], [], [], [], []⟩
theorem yZ (w : World) : Calls Tryz.prog 16 #[] w fun e w' => ∃ m b, e = .returned (.pointer (some ⟨m, 0, none⟩)) ∧ MpIn w' m b MS.empty ∧ Below w.heap.size w w' ∧ w.heap.size ≤ m ∧ ∀ k, foot b [] k → w.heap.size ≤ k := by
 have hmm := @run_makeMap Tryz.prog
 have HV := Lib.hid (fun X => D6 X)
 go_enter Tryz.func16, Tryz.ntmps16
 go_wp2_with (go_at_call 55; (with_reducible refine (HV.out _).mono ?_); rintro e w1 ⟨rfl, hv, hb⟩)
 go_ret
 have hs3 : (((w.alloc (.map #[] 0)).alloc (.map #[] 0)).alloc (.map #[] 0)).heap.size = w.heap.size + 3 := by simp
 rw [hs3] at hv hb
 have hb0 : Below w.heap.size w w1 := by
  have h0 : Below w.heap.size w (((w.alloc (.map #[] 0)).alloc (.map #[] 0)).alloc (.map #[] 0)) := by go_grown
  exact h0.trans (hb.mono (by omega))
 have hz := hb.size
 rw [hs3] at hz
 have e0 : (((w.alloc (.map #[] 0)).alloc (.map #[] 0)).alloc (.map #[] 0)).heap[w.heap.size]? = some (.map #[] 0) := by
  rw [Below.heap_alloc _ _ _ (by simp; omega), Below.heap_alloc _ _ _ (by simp)]
  exact bV w _
 have e1 : (((w.alloc (.map #[] 0)).alloc (.map #[] 0)).alloc (.map #[] 0)).heap[w.heap.size + 1]? = some (.map #[] 0) := by
  rw [Below.heap_alloc _ _ _ (by simp)]
  exact sQ w _ _
 have e2 : (((w.alloc (.map #[] 0)).alloc (.map #[] 0)).alloc (.map #[] 0)).heap[w.heap.size + 2]? = some (.map #[] 0) := by
  have := bV ((w.alloc (.map #[] 0)).alloc (.map #[] 0)) (.map #[] 0)
  simpa using this
 have t0 : ∀ {α β : Type} {k : TypeId} {kv : α → Value} {ok : α → Prop} {vv : β → Value} {i : Nat}, i < w.heap.size + 3 → (((w.alloc (.map #[] 0)).alloc (.map #[] 0)).alloc (.map #[] 0)).heap[i]? = some (.map #[] 0) → ∀ (X : World), Below w1.heap.size w1 X → Tab Tryz.prog k kv ok vv X i ([] : List (α × β)) := by
  intro α β k kv ok vv i hi he X hX
  have hm : Tab Tryz.prog k kv ok vv (w.alloc (.map #[] 0)) w.heap.size ([] : List (α × β)) := Tab.made w
  have he' : X.heap[i]? = some (.map #[] 0) := by rw [hX.block i (by omega), hb.block i hi]; exact he
  obtain ⟨D, ⟨es, cl, g1, g2⟩, g3⟩ := hm
  have g0 : (w.alloc (.map #[] 0)).heap[w.heap.size]? = some (.map #[] 0) := bV w _
  rw [g0] at g1
  simp only [Option.some.injEq, Obj.map.injEq] at g1
  obtain ⟨rfl, rfl⟩ := g1
  exact ⟨D, ⟨_, _, he', g2⟩, g3⟩
 have hX : Below w1.heap.size w1 (w1.alloc (Obj.cells #[.map (some w.heap.size), .map (some (w.heap.size + 1)), .map (some (w.heap.size + 2)), .pointer (some ⟨w.heap.size + 3 + 1, 0, none⟩)] 109)) := (Below.refl _ _).alloc (Nat.le_refl _) _
 refine ⟨w1.heap.size, ⟨w.heap.size, w.heap.size + 1, w.heap.size + 2, w.heap.size + 4, w.heap.size + 3⟩, rfl, ⟨bV w1 _, hv.kept hX, t0 (by omega) e0 _ hX, fun x hx => (nomatch hx), t0 (by omega) e2 _ hX, t0 (by omega) e1 _ hX, fun p hp => (nomatch hp), fun p hp => (nomatch hp), fun p hp => (nomatch hp), ?_⟩, hb0.trans (hX.mono hb0.size), hb0.size, fun k hk => ?_⟩
 ·simp [blocks, MS.empty]
 ·simp only [foot, blocks, List.map_nil, List.mem_cons, List.not_mem_nil, or_false] at hk
  omega
/-! ### live -/
theorem uM (pairs : List (Key × Dot)) (k : Key) (d : Dot) : atK ((k, d) :: pairs) k = d :: atK pairs k := by simp [atK]
theorem rq {pairs : List (Key × Dot)} {k k' : Key} (d : Dot) (h : k ≠ k') : atK ((k, d) :: pairs) k' = atK pairs k' := by simp [atK, h]
theorem jd {b : MB} {A : List (Key × Nat)} (h : (blocks b A).Nodup) : b.kb ≠ b.ab ∧ b.kb ≠ b.db ∧ b.kb ≠ b.vb ∧ b.ab ≠ b.db ∧ b.ab ≠ b.vb ∧ b.db ≠ b.vb ∧ (∀ p ∈ A, b.kb ≠ p.2 ∧ b.ab ≠ p.2 ∧ b.db ≠ p.2 ∧ b.vb ≠ p.2) ∧ (A.map (·.2)).Nodup := by
 simp only [blocks, List.nodup_cons, List.mem_cons, List.mem_map, not_or, not_exists, not_and] at h
 obtain ⟨⟨h1, h2, h3, h4⟩, ⟨h5, h6, h7⟩, ⟨h8, h9⟩, h10, h11⟩ := h
 exact ⟨h1, h2, h3, h5, h6, h8, fun p hp => ⟨fun e => h4 p hp e.symm, fun e => h7 p hp e.symm, fun e => h9 p hp e.symm, fun e => h10 p hp e.symm⟩, h11⟩
theorem z133 {p : Prop} (h : p := by
 rcases Nat.lt_trichotomy i j with hij | hij | hij
 ·exact absurd e (hh i j hi hj hij)
 ·subst hij; rfl
 ·exact absurd e.symm (hh j i hj hi hij)) : p := h
theorem uZ {A : List (Key × Nat)} (h : (A.map (·.2)).Nodup) {p q : Key × Nat} (hp : p ∈ A) (hq : q ∈ A) (e : p.2 = q.2) : p = q := by
 have h' : A.Pairwise fun x y => x.2 ≠ y.2 := List.pairwise_map.1 h
 rcases List.pairwise_iff_getElem.1 h' with hh
 obtain ⟨i, hi, rfl⟩ := List.getElem_of_mem hp
 obtain ⟨j, hj, rfl⟩ := List.getElem_of_mem hq
 exact z133
theorem MpIn.live_old {w w' : World} {m : Nat} {b : MB} {s : MS} {k : Key} {d : Dot} {n : Nat} (h : MpIn w m b s) (hn : (k, n) ∈ s.A) (ht : DTab w' n (d :: atK s.pairs k)) (hf : Fr (isR n) w w') :
 MpIn w' m b { s with pairs := (k, d) :: s.pairs } := by
 obtain ⟨n1, n2, n3, n4, n5, n6, n7, n8⟩ := jd h.nodup
 obtain ⟨q1, q2, q3, q4⟩ := n7 _ hn
 have hK := h.keeps hf (fun i hi => by subst hi; exact kM b hn)
 refine ⟨hK _ _ _ _ h.cell, ⟨hK _ _ _ _ h.vec.cell, h.vec.tab.fr hf q4⟩, h.kept.fr hf q1, fun x hx => hK.dots (h.overs x hx), h.dead.fr hf q3, h.alive.fr hf q2, fun p hp => ?_, fun p hp => ?_, fun q hq => ?_, h.nodup⟩
 ·by_cases e : k = p.1
  ·have : p = (k, n) := by
        have := h.alive.apart
        by_cases e2 : p = (k, n)
        ·exact e2
        ·exfalso
         obtain ⟨i, hi, rfl⟩ := List.getElem_of_mem hp
         obtain ⟨j, hj, hj2⟩ := List.getElem_of_mem hn
         have hh := List.pairwise_iff_getElem.1 this
         rcases Nat.lt_trichotomy i j with hij | hij | hij
         ·exact hh i j hi hj hij (by rw [hj2]; exact e.symm)
         ·subst hij; exact e2 hj2
         ·exact hh j i hj hi hij (by rw [hj2]; exact e)
   subst this
   rw [uM]
   exact ht
  ·rw [rq _ e]
   refine (h.inner p hp).fr hf (fun e2 => ?_)
   have := uZ n8 hp hn e2
   exact e (by rw [this])
 ·by_cases e : k = p.1
  ·subst e; rw [uM]; simp
  ·rw [rq _ e]; exact h.some p hp
 ·rcases List.mem_cons.1 hq with rfl | hq
  ·exact ⟨n, hn⟩
  ·exact h.keys q hq
theorem MpIn.live_new {w w' : World} {m : Nat} {b : MB} {s : MS} {k : Key} {d : Dot} {n : Nat} (h : MpIn w m b s) (hn : ∀ p ∈ s.A, p.1 ≠ k) (hlow : w.heap.size ≤ n) (ht : DTab w' n [d]) (hA : ATab w' b.ab ((k, n) :: s.A)) (hf : Fr (isR b.ab) w w') :
 MpIn w' m b { s with A := (k, n) :: s.A, pairs := (k, d) :: s.pairs } := by
 obtain ⟨n1, n2, n3, n4, n5, n6, n7, n8⟩ := jd h.nodup
 have hK := h.keeps hf (fun i hi => by subst hi; exact iC b _)
 have hat : atK s.pairs k = [] := by
  unfold atK
  rw [List.map_eq_nil_iff, List.filter_eq_nil_iff]
  intro q hq
  obtain ⟨n', hn'⟩ := h.keys q hq
  simpa using hn _ hn'
 refine ⟨hK _ _ _ _ h.cell, ⟨hK _ _ _ _ h.vec.cell, h.vec.tab.fr hf (Ne.symm n5)⟩, h.kept.fr hf n1, fun x hx => hK.dots (h.overs x hx), h.dead.fr hf (Ne.symm n4), hA, fun p hp => ?_, fun p hp => ?_, fun q hq => ?_, ?_⟩
 ·rcases List.mem_cons.1 hp with rfl | hp
  ·rw [uM, hat]; exact ht
  ·rw [rq _ (hn p hp).symm]
   exact (h.inner p hp).fr hf (n7 p hp).2.1.symm
 ·rcases List.mem_cons.1 hp with rfl | hp
  ·rw [uM]; simp
  ·rw [rq _ (hn p hp).symm]; exact h.some p hp
 ·rcases List.mem_cons.1 hq with rfl | hq
  ·exact ⟨n, List.mem_cons_self⟩
  ·obtain ⟨n', hn'⟩ := h.keys q hq
   exact ⟨n', List.mem_cons_of_mem _ hn'⟩
 ·have hnew : ∀ k, foot b s.A k → k ≠ n := fun k hk e => by have := h.low hk; omega
  have hh := h.nodup
  have hp : (blocks b ((k, n) :: s.A)).Perm (n :: blocks b s.A) := by
   simp only [blocks, List.map_cons]
   exact (List.perm_middle (a := n) (l₁ := [b.kb, b.ab, b.db, b.vb]) (l₂ := s.A.map (·.2)))
  rw [hp.nodup_iff, List.nodup_cons]
  exact ⟨fun hm => hnew n hm rfl, hh⟩
/-- behind what turns a map -/
def O3 (m : Nat) (b : MB) (s s' : MS) (v : Value) (w : World) (e : Ending) (w' : World) : Prop :=
 e = .returned v ∧ ∃ A', MpIn w' m b { s' with A := A' } ∧ Fr (foot b s.A) w w' ∧ ∀ k, foot b A' k → foot b s.A k ∨ w.heap.size ≤ k
theorem z25 {p : Prop} (h : p := by (rintro w ⟨⟨s0, s1, s2, s7, s8, s9, sm⟩, sl⟩; go_simp; try with_reducible rfl)) : p := h
theorem z72 {p : Prop} (h : p := by (rintro w ⟨s0, s1, s2, s7, s8, s9, sm⟩; go_simp; try with_reducible rfl)) : p := h
theorem y21 {p q : Prop} (k : q) (h : PLift q → p := by
 intro kk
 refine wp_region_noPanic ?_
 refine bH (fun W' => (W'.cell? ⟨w.heap.size, 0, none⟩ = some (.int .i64 e.dot.a.dev) ∧ W'.cell? ⟨w.heap.size, 1, none⟩ = some (.int .i64 e.dot.a.inc) ∧ W'.cell? ⟨w.heap.size, 2, none⟩ = some (.int .i64 e.dot.seq) ∧ W'.cell? ⟨w.heap.size, 7, none⟩ = some (.string e.key.name) ∧ W'.cell? ⟨w.heap.size, 8, none⟩ = some (.string e.key.domain) ∧ W'.cell? ⟨w.heap.size, 9, none⟩ = some (.string e.key.path) ∧ W'.cell? ⟨m, 1, none⟩ = some (.map (some b.ab))) ∧ (Instr.lookup 104 (.map (some b.ab)) (fO e.key) false).run Tryz.prog W' = .ok (.map (some n)) W') [9] (by kernel_rfl) ?_
 have hS := And.intro (And.intro z0 (And.intro z1 (And.intro z2 (And.intro z7 (And.intro z8 (And.intro z9 zm)))))) hl3
 revert hS
 exact kk.down) : p := h ⟨k⟩
theorem y12 {p q : Prop} (k : q) (h : PLift q → p := by
 intro kk
 refine y65 ?_
 intro W hW hbw
 have hR : W.rangeAt w.heap.size 0 (ah e a cap) := by rw [hW.out]; exact bY e a cap w _
 have h1 := h.kept_w hbw
 have v0 : W.cell? ⟨w.heap.size, 0, none⟩ = some (.int .i64 e.dot.a.dev) := by have := hR 0 _ rfl; rwa [Nat.zero_add] at this
 have v1 : W.cell? ⟨w.heap.size, 1, none⟩ = some (.int .i64 e.dot.a.inc) := by have := hR 1 _ rfl; rwa [Nat.zero_add] at this
 have v2 : W.cell? ⟨w.heap.size, 2, none⟩ = some (.int .i64 e.dot.seq) := by have := hR 2 _ rfl; rwa [Nat.zero_add] at this
 have v6 : W.cell? ⟨w.heap.size, 6, none⟩ = some (.int .i64 e.kind) := by have := hR 6 _ rfl; rwa [Nat.zero_add] at this
 have v7 : W.cell? ⟨w.heap.size, 7, none⟩ = some (.string e.key.name) := by have := hR 7 _ rfl; rwa [Nat.zero_add] at this
 have v8 : W.cell? ⟨w.heap.size, 8, none⟩ = some (.string e.key.domain) := by have := hR 8 _ rfl; rwa [Nat.zero_add] at this
 have v9 : W.cell? ⟨w.heap.size, 9, none⟩ = some (.string e.key.path) := by have := hR 9 _ rfl; rwa [Nat.zero_add] at this
 have x7 := fun i : After W => i.cell v7
 have x8 := fun i : After W => i.cell v8
 have x9 := fun i : After W => i.cell v9
 have xm := fun i : After W => i.cell (bZ h1.cell).2.1
 clear hW
 iterate 6 go_big_quiet_step (fail)
 revert W hbw hR h1 v0 v1 v2 v6 v7 v8 v9 x7 x8 x9 xm
 exact kk.down) : p := h ⟨k⟩
theorem y11 {p q : Prop} (k : q) (h : PLift q → p := by
 intro kk
 have h2 := h1.kept_w hib
 have z0 : W.cell? ⟨w.heap.size, 0, none⟩ = some (.int .i64 e.dot.a.dev) := by have := hR 0 _ rfl; rwa [Nat.zero_add] at this
 have z1 : W.cell? ⟨w.heap.size, 1, none⟩ = some (.int .i64 e.dot.a.inc) := by have := hR 1 _ rfl; rwa [Nat.zero_add] at this
 have z2 : W.cell? ⟨w.heap.size, 2, none⟩ = some (.int .i64 e.dot.seq) := by have := hR 2 _ rfl; rwa [Nat.zero_add] at this
 have z6 : W.cell? ⟨w.heap.size, 6, none⟩ = some (.int .i64 e.kind) := by have := hR 6 _ rfl; rwa [Nat.zero_add] at this
 have z7 : W.cell? ⟨w.heap.size, 7, none⟩ = some (.string e.key.name) := by have := hR 7 _ rfl; rwa [Nat.zero_add] at this
 have z8 : W.cell? ⟨w.heap.size, 8, none⟩ = some (.string e.key.domain) := by have := hR 8 _ rfl; rwa [Nat.zero_add] at this
 have z9 : W.cell? ⟨w.heap.size, 9, none⟩ = some (.string e.key.path) := by have := hR 9 _ rfl; rwa [Nat.zero_add] at this
 replace z0 : wi.drew.cell? _ = _ := kept hib z0
 replace z1 : wi.drew.cell? _ = _ := kept hib z1
 replace z2 : wi.drew.cell? _ = _ := kept hib z2
 replace z7 : wi.drew.cell? _ = _ := kept hib z7
 replace z8 : wi.drew.cell? _ = _ := kept hib z8
 replace z9 : wi.drew.cell? _ = _ := kept hib z9
 clear z6
 have zm : wi.drew.cell? ⟨m, 1, none⟩ = some (.map (some b.ab)) := (bZ h2.cell).2.1
 revert h2 z0 z1 z2 z7 z8 z9 zm
 exact kk.down) : p := h ⟨k⟩
theorem EM {m : Nat} {b : MB} {s : MS} (e : Ev) (a : Option Addr) (cap : Nat) (w : World) (h : MpIn w m b s) (hk : KeyW e.key) (hd : DotW e.dot) (hn : e.dot ∉ atK s.pairs e.key) (hl : (atK s.pairs e.key).length ≤ 1073741824) (hlA : s.A.length ≤ 1073741824) :
 Calls Tryz.prog 71 #[.pointer (some ⟨m, 0, none⟩), ja e a cap] w (O3 m b s { s with pairs := (e.key, e.dot) :: s.pairs } (.tuple #[]) w) := by
 have hmm := @run_makeMap Tryz.prog
 have HH := Lib.hid h
 have hmn := fun (X : World) (r : Option Nat) => run_eql_map_nil (P := Tryz.prog) X 105 56 3 r Tryz.underlying105
 by_cases hex : ∃ n, (e.key, n) ∈ s.A
 ·obtain ⟨n, hnA⟩ := hex
  go_enter Tryz.func71, Tryz.ntmps71
  go_upto_region 1 with fail
  refine y12 ?_
  clear h
  intro W hbw hR h1 v0 v1 v2 v6 v7 v8 v9 x7 x8 x9 xm
  refine gm (by rfl) _ (fun X hX => by obtain ⟨i, rfl⟩ := hX; exact kW _ _ _ _ rfl _ ((h1.alive.kept i.h).look_hit qj Tryz.underlying104 (z := .map none) (by kernel_rfl) hnA false)) ?_
  try simp only [pS]
  go_big_quiet_step (fail)
  refine wpQuiet_nil ?_
  rintro _ ⟨i, rfl⟩
  have hib := i.h
  generalize i.w = wi at hib ⊢
  refine y11 ?_
  intro h2 z0 z1 z2 z7 z8 z9 zm
  have hl3 : (Instr.lookup 104 (.map (some b.ab)) (fO e.key) false).run Tryz.prog wi.drew = .ok (.map (some n)) wi.drew := Tab.look_hit (w := wi.drew) qj h2.alive Tryz.underlying104 (z := .map none) (by kernel_rfl) hnA false
  obtain ⟨w2, hrun, htab, hfr⟩ := Tab.store_new (w := wi.drew) iY (h2.inner _ hnA) Tryz.underlying105 (by unfold ones maxLen; rw [List.length_map]; simp only; omega) hd (fun p hp => by obtain ⟨x, hx, rfl⟩ := List.mem_map.1 hp; exact fun e2 => hn (by rw [← e2]; exact hx)) 1
  have HT := Lib.hid htab
  have HF := Lib.hid hfr
  have hbt := below2 hbw hib
  clear htab hfr v0 v1 v2 v6 v7 v8 v9 x7 x8 x9 xm
  go_upto_region 3 with fail
  refine y21 ?_
  intro hS
  refine ag (i := 0) (oi := ⟨some 19, _, _, _, _, _⟩) (v := ?_) rfl (by kernel_rfl) (by kernel_rfl) (by kernel_rfl) (by kernel_rfl) (by kernel_rfl) (fun _ _ _ h => h) (Or.inl ⟨by rfl, ?_⟩) (by assumption) ?_
  case refine_2 => exact z25
  try simp only [pS]
  refine ag (i := 1) (oi := ⟨some 20, _, _, _, _, _⟩) (v := ?_) rfl (by kernel_rfl) (by kernel_rfl) (by kernel_rfl) (by kernel_rfl) (by kernel_rfl) (fun _ _ _ h => h) (Or.inl ⟨by rfl, ?_⟩) (by assumption) ?_
  case refine_2 => exact z25
  try simp only [pS]
  refine ag (i := 2) (oi := ⟨some 21, _, _, _, _, _⟩) (v := ?_) rfl (by kernel_rfl) (by kernel_rfl) (by kernel_rfl) (by kernel_rfl) (by kernel_rfl) (fun _ _ _ h => h) (Or.inl ⟨by rfl, ?_⟩) (by assumption) ?_
  case refine_2 => exact z25
  try simp only [pS]
  refine ag (i := 3) (oi := ⟨some 22, _, _, _, _, _⟩) (v := ?_) rfl (by kernel_rfl) (by kernel_rfl) (by kernel_rfl) (by kernel_rfl) (by kernel_rfl) (fun _ _ _ h => h) (Or.inl ⟨by rfl, ?_⟩) (by assumption) ?_
  case refine_2 => exact z25
  try simp only [pS]
  refine ag (i := 4) (oi := ⟨some 23, _, _, _, _, _⟩) (v := ?_) rfl (by kernel_rfl) (by kernel_rfl) (by kernel_rfl) (by kernel_rfl) (by kernel_rfl) (fun _ _ _ h => h) (Or.inl ⟨by rfl, ?_⟩) (by assumption) ?_
  case refine_2 => exact z25
  try simp only [pS]
  refine ag (i := 5) (oi := ⟨some 24, _, _, _, _, _⟩) (v := ?_) rfl (by kernel_rfl) (by kernel_rfl) (by kernel_rfl) (by kernel_rfl) (by kernel_rfl) (fun _ _ _ h => h) (Or.inl ⟨by rfl, ?_⟩) (by assumption) ?_
  case refine_2 => exact z25
  try simp only [pS]
  refine ag (i := 6) (oi := ⟨some 25, _, _, _, _, _⟩) (v := ?_) rfl (by kernel_rfl) (by kernel_rfl) (by kernel_rfl) (by kernel_rfl) (by kernel_rfl) (fun _ _ _ h => h) (Or.inl ⟨by rfl, ?_⟩) (by assumption) ?_
  case refine_2 => exact z25
  try simp only [pS]
  refine ag (i := 7) (oi := ⟨some 26, _, _, _, _, _⟩) (v := ?_) rfl (by kernel_rfl) (by kernel_rfl) (by kernel_rfl) (by kernel_rfl) (by kernel_rfl) (fun _ _ _ h => h) (Or.inl ⟨by rfl, ?_⟩) (by assumption) ?_
  case refine_2 => exact z25
  try simp only [pS]
  refine ag (i := 8) (oi := ⟨some 27, _, _, _, _, _⟩) (v := ?_) rfl (by kernel_rfl) (by kernel_rfl) (by kernel_rfl) (by kernel_rfl) (by kernel_rfl) (fun _ _ _ h => h) (Or.inl ⟨by rfl, ?_⟩) (by assumption) ?_
  case refine_2 => exact z25
  try simp only [pS]
  refine bD (i := 9) (o := ⟨none, _, _, _, _, _⟩) (by kernel_rfl) rfl ?_
  refine y6 ?_
  clear hS hl3 z0 z1 z2 z7 z8 z9 zm
  go_wp2
  go_end0
  have hf2 : Fr (isR n) w w2 := Ff (hbt.trans ((Below.refl wi.heap.size wi).drew.mono hbt.size)) HF.out
  exact ⟨rfl, s.A, MpIn.live_old HH.out hnA HT.out hf2, hf2.mono (fun k _ hk => by subst hk; exact kM b hnA), fun k hk => Or.inl hk⟩
 ·have hno : ∀ p ∈ s.A, p.1 ≠ e.key := fun p hp e2 => hex ⟨p.2, by rw [← e2]; exact hp⟩
  clear hex
  go_enter Tryz.func71, Tryz.ntmps71
  go_upto_region 1 with fail
  refine y12 ?_
  clear h
  intro W hbw hR h1 v0 v1 v2 v6 v7 v8 v9 x7 x8 x9 xm
  refine gm (by rfl) _ (fun X hX => by obtain ⟨i, rfl⟩ := hX; exact kW _ _ _ _ rfl _ ((h1.alive.kept i.h).look_miss qj Tryz.underlying104 (z := .map none) (by kernel_rfl) hk hno false)) ?_
  try simp only [pS]
  go_big_quiet_step (fail)
  refine wpQuiet_nil ?_
  rintro _ ⟨i, rfl⟩
  have hib := i.h
  generalize i.w = wi at hib ⊢
  refine y11 ?_
  intro h2 z0 z1 z2 z7 z8 z9 zm
  have hbX : Below wi.heap.size wi (wi.drew.alloc (.map #[] 0)) := (Below.refl _ _).drew.alloc (Nat.le_refl _) _
  have h3 := h2.kept_w hbX
  have OV : DTab (wi.drew.alloc (.map #[] 0)) wi.heap.size [] := Tab.made wi.drew
  obtain ⟨w2, hrun, htab, hfr⟩ := Tab.store_new (w := (wi.alloc (.map #[] 0)).drew) qj h3.alive Tryz.underlying104 (by unfold maxLen; omega) hk hno wi.heap.size
  have hbt := below2 hbw hib
  have hfr : Fr (isR b.ab) (wi.drew.alloc (.map #[] 0)) w2 := hfr
  have hKc := h3.keeps hfr (fun i hi => by subst hi; exact iC b _)
  have HF := Lib.hid hfr
  have HN := Lib.hid (h2.low (iC b s.A))
  have hm2 : DTab w2 wi.heap.size [] := OV.fr hfr (by have := h2.low (iC b s.A); show ¬ wi.heap.size = b.ab; omega)
  have ul : Below wi.drew.heap.size wi.drew (wi.drew.alloc (.map #[] 0)) := (Below.refl _ _).alloc (Nat.le_refl _) _
  clear v0 v1 v2 v6 v7 v8 v9 x7 x8 x9 xm hfr OV
  go_upto_region 2 with fail
  refine wp_region_noPanic ?_
  refine bH (fun W' => W'.cell? ⟨w.heap.size, 0, none⟩ = some (.int .i64 e.dot.a.dev) ∧ W'.cell? ⟨w.heap.size, 1, none⟩ = some (.int .i64 e.dot.a.inc) ∧ W'.cell? ⟨w.heap.size, 2, none⟩ = some (.int .i64 e.dot.seq) ∧ W'.cell? ⟨w.heap.size, 7, none⟩ = some (.string e.key.name) ∧ W'.cell? ⟨w.heap.size, 8, none⟩ = some (.string e.key.domain) ∧ W'.cell? ⟨w.heap.size, 9, none⟩ = some (.string e.key.path) ∧ W'.cell? ⟨m, 1, none⟩ = some (.map (some b.ab))) [7] (by kernel_rfl) ?_
  have hS := And.intro z0 (And.intro z1 (And.intro z2 (And.intro z7 (And.intro z8 (And.intro z9 zm)))))
  have hS2 := And.intro (kept ul z0) (And.intro (kept ul z1) (And.intro (kept ul z2) (And.intro (kept ul z7) (And.intro (kept ul z8) (And.intro (kept ul z9) (kept ul zm))))))
  refine ag (i := 0) (oi := ⟨some 12, _, _, _, _, _⟩) (v := ?_) rfl (by kernel_rfl) (by kernel_rfl) (by kernel_rfl) (by kernel_rfl) (by kernel_rfl) (fun _ _ _ h => h) (Or.inl ⟨by rfl, ?_⟩) (by assumption) ?_
  case refine_2 => exact z72
  try simp only [pS]
  refine ag (i := 1) (oi := ⟨some 13, _, _, _, _, _⟩) (v := ?_) rfl (by kernel_rfl) (by kernel_rfl) (by kernel_rfl) (by kernel_rfl) (by kernel_rfl) (fun _ _ _ h => h) (Or.inl ⟨by rfl, ?_⟩) (by assumption) ?_
  case refine_2 => exact z72
  try simp only [pS]
  refine ag (i := 2) (oi := ⟨some 14, _, _, _, _, _⟩) (v := ?_) rfl (by kernel_rfl) (by kernel_rfl) (by kernel_rfl) (by kernel_rfl) (by kernel_rfl) (fun _ _ _ h => h) (Or.inl ⟨by rfl, ?_⟩) (by assumption) ?_
  case refine_2 => exact z72
  try simp only [pS]
  refine ag (i := 3) (oi := ⟨some 15, _, _, _, _, _⟩) (v := ?_) rfl (by kernel_rfl) (by kernel_rfl) (by kernel_rfl) (by kernel_rfl) (by kernel_rfl) (fun _ _ _ h => h) (Or.inl ⟨by rfl, ?_⟩) (by assumption) ?_
  case refine_2 => exact z72
  try simp only [pS]
  refine ag (i := 4) (oi := ⟨some 16, _, _, _, _, _⟩) (v := ?_) rfl (by kernel_rfl) (by kernel_rfl) (by kernel_rfl) (by kernel_rfl) (by kernel_rfl) (fun _ _ _ h => h) (Or.inl ⟨by rfl, ?_⟩) (by assumption) ?_
  case refine_2 => exact z72
  try simp only [pS]
  refine ag (i := 5) (oi := ⟨some 17, _, _, _, _, _⟩) (v := ?_) rfl (by kernel_rfl) (by kernel_rfl) (by kernel_rfl) (by kernel_rfl) (by kernel_rfl) (fun _ _ _ h => h) (Or.inl ⟨by rfl, ?_⟩) (by assumption) ?_
  case refine_2 => exact z72
  try simp only [pS]
  refine bD (i := 6) (o := ⟨some 18, _, _, _, _, _⟩) (by kernel_rfl) rfl ?_
  intro K hK
  go_simp
  refine hK.out _ _ (Or.inr (hS2)) ?_
  clear hK K
  try simp only [pS]
  refine bD (i := 7) (o := ⟨none, _, _, _, _, _⟩) (by kernel_rfl) rfl ?_
  refine y6 ?_
  replace z0 : w2.drew.cell? _ = _ := hKc.cell (kept ul z0)
  replace z1 : w2.drew.cell? _ = _ := hKc.cell (kept ul z1)
  replace z2 : w2.drew.cell? _ = _ := hKc.cell (kept ul z2)
  replace z7 : w2.drew.cell? _ = _ := hKc.cell (kept ul z7)
  replace z8 : w2.drew.cell? _ = _ := hKc.cell (kept ul z8)
  replace z9 : w2.drew.cell? _ = _ := hKc.cell (kept ul z9)
  replace zm : w2.drew.cell? _ = _ := hKc.cell (kept ul zm)
  clear hS hS2 hrun hmm h3 hKc
  obtain ⟨n, hnn⟩ : ∃ n, n = wi.heap.size := ⟨_, rfl⟩
  rw [← hnn] at htab hm2
  have hl3 : (Instr.lookup 104 (.map (some b.ab)) (fO e.key) false).run Tryz.prog w2.drew = .ok (.map (some n)) w2.drew := Tab.look_hit (w := w2.drew) qj htab Tryz.underlying104 (z := .map none) (by kernel_rfl) (p := (e.key, n)) List.mem_cons_self false
  obtain ⟨w3, hrun3, IR, hfr3⟩ := Tab.store_new (w := w2.drew) iY hm2 Tryz.underlying105 (by decide) hd (fun p hp => (nomatch hp)) 1
  have hA3 : ATab w3 b.ab ((e.key, n) :: s.A) := Tab.fr (w := w2.drew) htab hfr3 (by have := HN.out; show ¬ b.ab = n; omega)
  have HT := Lib.hid (And.intro IR (And.intro hA3 (And.intro hfr3 hnn)))
  clear htab IR hfr3 hA3 hnn hm2
  go_upto_region 3 with fail
  refine y21 ?_
  intro hS
  refine ag (i := 0) (oi := ⟨some 19, _, _, _, _, _⟩) (v := ?_) rfl (by kernel_rfl) (by kernel_rfl) (by kernel_rfl) (by kernel_rfl) (by kernel_rfl) (fun _ _ _ h => h) (Or.inl ⟨by rfl, ?_⟩) (by assumption) ?_
  case refine_2 => exact z25
  try simp only [pS]
  refine ag (i := 1) (oi := ⟨some 20, _, _, _, _, _⟩) (v := ?_) rfl (by kernel_rfl) (by kernel_rfl) (by kernel_rfl) (by kernel_rfl) (by kernel_rfl) (fun _ _ _ h => h) (Or.inl ⟨by rfl, ?_⟩) (by assumption) ?_
  case refine_2 => exact z25
  try simp only [pS]
  refine ag (i := 2) (oi := ⟨some 21, _, _, _, _, _⟩) (v := ?_) rfl (by kernel_rfl) (by kernel_rfl) (by kernel_rfl) (by kernel_rfl) (by kernel_rfl) (fun _ _ _ h => h) (Or.inl ⟨by rfl, ?_⟩) (by assumption) ?_
  case refine_2 => exact z25
  try simp only [pS]
  refine ag (i := 3) (oi := ⟨some 22, _, _, _, _, _⟩) (v := ?_) rfl (by kernel_rfl) (by kernel_rfl) (by kernel_rfl) (by kernel_rfl) (by kernel_rfl) (fun _ _ _ h => h) (Or.inl ⟨by rfl, ?_⟩) (by assumption) ?_
  case refine_2 => exact z25
  try simp only [pS]
  refine ag (i := 4) (oi := ⟨some 23, _, _, _, _, _⟩) (v := ?_) rfl (by kernel_rfl) (by kernel_rfl) (by kernel_rfl) (by kernel_rfl) (by kernel_rfl) (fun _ _ _ h => h) (Or.inl ⟨by rfl, ?_⟩) (by assumption) ?_
  case refine_2 => exact z25
  try simp only [pS]
  refine ag (i := 5) (oi := ⟨some 24, _, _, _, _, _⟩) (v := ?_) rfl (by kernel_rfl) (by kernel_rfl) (by kernel_rfl) (by kernel_rfl) (by kernel_rfl) (fun _ _ _ h => h) (Or.inl ⟨by rfl, ?_⟩) (by assumption) ?_
  case refine_2 => exact z25
  try simp only [pS]
  refine ag (i := 6) (oi := ⟨some 25, _, _, _, _, _⟩) (v := ?_) rfl (by kernel_rfl) (by kernel_rfl) (by kernel_rfl) (by kernel_rfl) (by kernel_rfl) (fun _ _ _ h => h) (Or.inl ⟨by rfl, ?_⟩) (by assumption) ?_
  case refine_2 => exact z25
  try simp only [pS]
  refine ag (i := 7) (oi := ⟨some 26, _, _, _, _, _⟩) (v := ?_) rfl (by kernel_rfl) (by kernel_rfl) (by kernel_rfl) (by kernel_rfl) (by kernel_rfl) (fun _ _ _ h => h) (Or.inl ⟨by rfl, ?_⟩) (by assumption) ?_
  case refine_2 => exact z25
  try simp only [pS]
  refine ag (i := 8) (oi := ⟨some 27, _, _, _, _, _⟩) (v := ?_) rfl (by kernel_rfl) (by kernel_rfl) (by kernel_rfl) (by kernel_rfl) (by kernel_rfl) (fun _ _ _ h => h) (Or.inl ⟨by rfl, ?_⟩) (by assumption) ?_
  case refine_2 => exact z25
  try simp only [pS]
  refine bD (i := 9) (o := ⟨none, _, _, _, _, _⟩) (by kernel_rfl) rfl ?_
  refine y6 ?_
  clear hS hl3 z0 z1 z2 z7 z8 z9 zm
  go_wp2
  go_end0
  obtain ⟨t1, t2, t3, t4⟩ := HT.out
  have hlo : w.heap.size ≤ n := by have := hbt.size; omega
  have SQ : Below w.heap.size w (wi.drew.alloc (.map #[] 0)) := hbt.trans (hbX.mono hbt.size)
  have hf2 : Fr (isR b.ab) w w2 := Ff SQ HF.out
  have hf3 : Fr (isR b.ab) w w3 := hf2.trans (((Fr.of_below (Below.refl w2.heap.size w2).drew).again t3).mono (fun k _ hk => Or.inr (by subst hk; exact hlo)))
  exact ⟨rfl, (e.key, n) :: s.A, MpIn.live_new HH.out hno hlo t1 t2 hf3, hf3.mono (fun k _ hk => by subst hk; exact iC b _), fun k hk => by
   simp only [foot, blocks, List.map_cons, List.mem_cons] at hk ⊢
   rcases hk with hk | hk | hk | hk | hk | hk
   ·exact Or.inl (Or.inl hk)
   ·exact Or.inl (Or.inr (Or.inl hk))
   ·exact Or.inl (Or.inr (Or.inr (Or.inl hk)))
   ·exact Or.inl (Or.inr (Or.inr (Or.inr (Or.inl hk))))
   ·exact Or.inr (by rw [hk]; exact hlo)
   ·exact Or.inl (Or.inr (Or.inr (Or.inr (Or.inr hk))))⟩
theorem yU {l : List Dot} (h : (ones l).Pairwise fun p q => p.1 ≠ q.1) : l.Nodup := by
 have := List.pairwise_map.1 h
 exact this
theorem qE {l : List Dot} {d : Dot} (hn : l.Nodup) (hd : d ∈ l) : l.Perm (d :: l.filter fun x => decide (x ≠ d)) := by
 obtain ⟨r, hr⟩ := jV hd
 have h1 : (d :: r).Nodup := (hr.nodup_iff).1 hn
 have h2 := (List.nodup_cons.1 h1).1
 have h3 : (l.filter fun x => decide (x ≠ d)).Perm r := by
  have h4 := hr.filter fun x => decide (x ≠ d)
  rw [List.filter_cons, if_neg (by simp)] at h4
  have h5 : (r.filter fun x => decide (x ≠ d)) = r := List.filter_eq_self.2 fun x hx => decide_eq_true (fun e => h2 (e ▸ hx))
  rw [h5] at h4
  exact h4
 exact hr.trans (h3.symm.cons d)
theorem jr {l : List Dot} {d : Dot} (hd : d ∉ l) : (l.filter fun x => decide (x ≠ d)) = l := List.filter_eq_self.2 fun x hx => by simp; intro e; exact hd (e ▸ hx)
/-- a set of dots, one of them struck -/
theorem DTab.drop {w : World} {b : Nat} {l : List Dot} (h : DTab w b l) {d : Dot} (hd : DotW d) (ty : TypeId) :
 ∃ w', (Builtin.delete_ #[105, 56] ty #[.map (some b), bT d]).run Tryz.prog w = .ok (.tuple #[]) w' ∧ DTab w' b (l.filter fun x => decide (x ≠ d)) ∧ Fr (isR b) w w' := by
 by_cases hm : d ∈ l
 ·have hp := (qE (yU h.apart) hm).map fun d => (d, (1 : Int))
  exact Tab.drop_old iY (Tab.perm h hp) Tryz.underlying105 ty
 ·rw [jr hm]
  exact Tab.drop_miss iY h Tryz.underlying105 ty hd (fun p hp => by obtain ⟨x, hx, rfl⟩ := List.mem_map.1 hp; exact fun e => hm (by rw [← e]; exact hx))
/-- a set of dots, with one more -/
def lK (d : Dot) (l : List Dot) : List Dot := if d ∈ l then l else d :: l
theorem DTab.add {w : World} {b : Nat} {l : List Dot} (h : DTab w b l) {d : Dot} (hd : DotW d) (hl : l.length ≤ 1073741824) :
 ∃ w', (Instr.mapUpdate 105 (.map (some b)) (bT d) (.int .i64 1)).run Tryz.prog w = .ok () w' ∧ DTab w' b (lK d l) ∧ Fr (isR b) w w' := by
 unfold lK
 by_cases hm : d ∈ l
 ·rw [if_pos hm]
  have hp := (qE (yU h.apart) hm)
  have hlen := hp.length_eq
  simp only [List.length_cons] at hlen
  obtain ⟨w', h1, h2, h3⟩ := Tab.store_old iY (Tab.perm h (hp.map fun d => (d, (1 : Int)))) Tryz.underlying105 (by rw [List.length_map]; unfold maxLen; omega) 1
  exact ⟨w', h1, Tab.perm h2 (hp.map fun d => (d, (1 : Int))).symm, h3⟩
 ·rw [if_neg hm]
  exact Tab.store_new iY h Tryz.underlying105 (by unfold ones maxLen; rw [List.length_map]; omega) hd (fun p hp => by obtain ⟨x, hx, rfl⟩ := List.mem_map.1 hp; exact fun e => hm (by rw [← e]; exact hx)) 1
theorem MpIn.setDead {w w' : World} {m : Nat} {b : MB} {s : MS} {l : List Dot} (h : MpIn w m b s) (ht : DTab w' b.db l) (hf : Fr (isR b.db) w w') : MpIn w' m b { s with dead := l } := by
 obtain ⟨n1, n2, n3, n4, n5, n6, n7, n8⟩ := jd h.nodup
 have hK := h.keeps hf (fun i hi => by subst hi; exact jI b _)
 exact ⟨hK _ _ _ _ h.cell, ⟨hK _ _ _ _ h.vec.cell, h.vec.tab.fr hf (Ne.symm n6)⟩, h.kept.fr hf n2, fun x hx => hK.dots (h.overs x hx), ht, h.alive.fr hf n4, fun p hp => (h.inner p hp).fr hf (n7 p hp).2.2.1.symm, h.some, h.keys, h.nodup⟩
theorem MpIn.setAlive {w w' : World} {m : Nat} {b : MB} {s : MS} (h : MpIn w m b s) (ht : ATab w' b.ab s.A) (hf : Fr (isR b.ab) w w') : MpIn w' m b s := by
 obtain ⟨n1, n2, n3, n4, n5, n6, n7, n8⟩ := jd h.nodup
 have hK := h.keeps hf (fun i hi => by subst hi; exact iC b _)
 exact ⟨hK _ _ _ _ h.cell, ⟨hK _ _ _ _ h.vec.cell, h.vec.tab.fr hf (Ne.symm n5)⟩, h.kept.fr hf n1, fun x hx => hK.dots (h.overs x hx), h.dead.fr hf (Ne.symm n4), ht, fun p hp => (h.inner p hp).fr hf (n7 p hp).2.1.symm, h.some, h.keys, h.nodup⟩
/-- the alive dots without one -/
def strike (pairs : List (Key × Dot)) (d : Dot) : List (Key × Dot) := pairs.filter fun q => decide (q.2 ≠ d)
theorem mZ (pairs : List (Key × Dot)) (d : Dot) (k : Key) : atK (strike pairs d) k = (atK pairs k).filter fun x => decide (x ≠ d) := by
 unfold atK strike
 rw [List.filter_map, List.filter_filter, List.filter_filter]
 congr 1
 apply List.filter_congr
 intro q _
 simp [Bool.and_comm]
theorem pX {pairs : List (Key × Dot)} {d : Dot} (h : ∀ k, (k, d) ∉ pairs) : strike pairs d = pairs := List.filter_eq_self.2 fun q hq => by
 simp
 intro e
 exact h q.1 (by rw [← e]; exact hq)
theorem gX {pairs : List (Key × Dot)} {k : Key} {d : Dot} : d ∈ atK pairs k ↔ (k, d) ∈ pairs := by
 unfold atK
 simp only [List.mem_map, List.mem_filter, decide_eq_true_eq]
 constructor
 ·rintro ⟨q, ⟨h1, h2⟩, h3⟩
  obtain ⟨a, b⟩ := q
  simp only at h2 h3
  subst h2 h3
  exact h1
 ·intro h
  exact ⟨(k, d), ⟨h, rfl⟩, rfl⟩
theorem pY {pairs : List (Key × Dot)} {d : Dot} {q : Key × Dot} (h : q ∈ strike pairs d) : q ∈ pairs := (List.mem_filter.1 h).1
theorem NR {A : List (Key × Nat)} (ha : A.Pairwise fun p q => p.1 ≠ q.1) {p q : Key × Nat} (hp : p ∈ A) (hq : q ∈ A) (e : p.1 = q.1) : p = q := by
 obtain ⟨i, hi, rfl⟩ := List.getElem_of_mem hp
 obtain ⟨j, hj, rfl⟩ := List.getElem_of_mem hq
 have hh := List.pairwise_iff_getElem.1 ha
 exact z133
/-- a dot struck out of a key's dots, some of which stay -/
theorem MpIn.kill_keep {w w' : World} {m : Nat} {b : MB} {s : MS} {k : Key} {d : Dot} {n : Nat} (h : MpIn w m b s) (hn : (k, n) ∈ s.A) (hk : ∀ k', (k', d) ∈ s.pairs → k' = k) (ht : DTab w' n ((atK s.pairs k).filter fun x => decide (x ≠ d)))
 (hne : ((atK s.pairs k).filter fun x => decide (x ≠ d)) ≠ []) (hf : Fr (isR n) w w') : MpIn w' m b { s with pairs := strike s.pairs d } := by
 obtain ⟨n1, n2, n3, n4, n5, n6, n7, n8⟩ := jd h.nodup
 obtain ⟨q1, q2, q3, q4⟩ := n7 _ hn
 have hK := h.keeps hf (fun i hi => by subst hi; exact kM b hn)
 refine ⟨hK _ _ _ _ h.cell, ⟨hK _ _ _ _ h.vec.cell, h.vec.tab.fr hf q4⟩, h.kept.fr hf q1, fun x hx => hK.dots (h.overs x hx), h.dead.fr hf q3, h.alive.fr hf q2, fun p hp => ?_, fun p hp => ?_, fun q hq => h.keys q (pY hq), h.nodup⟩
 ·rw [mZ]
  by_cases e : p.1 = k
  ·obtain rfl : p = (k, n) := NR h.alive.apart hp hn e
   exact ht
  ·rw [jr (fun hm => e (hk _ (gX.1 hm)))]
   exact (h.inner p hp).fr hf (fun e2 => e (by rw [uZ n8 hp hn e2]))
 ·show atK (strike s.pairs d) p.1 ≠ []
  rw [mZ]
  by_cases e : p.1 = k
  ·rw [e]; exact hne
  ·rw [jr (fun hm => e (hk _ (gX.1 hm)))]
   exact h.some p hp
/-- a key's last dot struck: so is the key -/
theorem MpIn.kill_drop {w w' : World} {m : Nat} {b : MB} {s : MS} {k : Key} {d : Dot} {n : Nat} (h : MpIn w m b s) (hn : (k, n) ∈ s.A) (hk : ∀ k', (k', d) ∈ s.pairs → k' = k) {r : List (Key × Nat)} (hr : s.A.Perm ((k, n) :: r)) (hA : ATab w' b.ab r)
 (he : ((atK s.pairs k).filter fun x => decide (x ≠ d)) = []) (hf : Fr (fun i => i = n ∨ i = b.ab) w w') : MpIn w' m b { s with A := r, pairs := strike s.pairs d } := by
 obtain ⟨n1, n2, n3, n4, n5, n6, n7, n8⟩ := jd h.nodup
 obtain ⟨q1, q2, q3, q4⟩ := n7 _ hn
 have hK := h.keeps hf (fun i hi => by rcases hi with rfl | rfl; exact kM b hn; exact iC b _)
 have hsub : ∀ p ∈ r, p ∈ s.A := fun p hp => hr.mem_iff.2 (List.mem_cons_of_mem _ hp)
 have hap := List.pairwise_cons.1 ((hr.pairwise_iff (fun {_ _} hne => Ne.symm hne)).1 h.alive.apart)
 refine ⟨hK _ _ _ _ h.cell, ⟨hK _ _ _ _ h.vec.cell, h.vec.tab.fr hf (by rintro (e | e); exact q4 e; exact n5 e.symm)⟩, h.kept.fr hf (by rintro (e | e); exact q1 e; exact n1 e), fun x hx => hK.dots (h.overs x hx),
  h.dead.fr hf (by rintro (e | e); exact q3 e; exact n4 e.symm), hA, fun p hp => ?_, fun p hp => ?_, fun q hq => ?_, ?_⟩
 ·have hpk : p.1 ≠ k := fun e => hap.1 p hp e.symm
  show DTab w' p.2 (atK (strike s.pairs d) p.1)
  rw [mZ, jr (fun hm => hpk (hk _ (gX.1 hm)))]
  refine (h.inner p (hsub p hp)).fr hf ?_
  rintro (e | e)
  ·exact hpk (by rw [uZ n8 (hsub p hp) hn e])
  ·exact (n7 p (hsub p hp)).2.1 e.symm
 ·have hpk : p.1 ≠ k := fun e => hap.1 p hp e.symm
  show atK (strike s.pairs d) p.1 ≠ []
  rw [mZ, jr (fun hm => hpk (hk _ (gX.1 hm)))]
  exact h.some p (hsub p hp)
 ·have hq1 := h.keys q (pY hq)
  obtain ⟨n', hn'⟩ := hq1
  rcases List.mem_cons.1 (hr.mem_iff.1 hn') with e | e
  ·exfalso
   have : q.2 ∈ atK (strike s.pairs d) k := by
        have : q.1 = k := congrArg Prod.fst e
        rw [← this]
        exact gX.2 (show (q.1, q.2) ∈ _ from hq)
   rw [mZ, he] at this
   simp at this
  ·exact ⟨n', e⟩
 ·have hp : (blocks b s.A).Perm (n :: blocks b r) := by
   have h1 : (s.A.map (·.2)).Perm (n :: r.map (·.2)) := hr.map _
   have h2 : (blocks b s.A).Perm ([b.kb, b.ab, b.db, b.vb] ++ (n :: r.map (·.2))) := by
        show ([b.kb, b.ab, b.db, b.vb] ++ s.A.map (·.2)).Perm _
        exact h1.append_left _
   exact h2.trans List.perm_middle
  exact (List.nodup_cons.1 ((hp.nodup_iff).1 h.nodup)).2
theorem xE {P : Program} {ops : Array Oper} {o : Oper} {a : Act} {w : World} {K : Act → World → Prop} {Q : Exit → Act → World → Prop} {E : Prop} (hw : Region.wanted o (yielded ops a.tmps) = true) (ty : TypeId) (x y : Operand) (ho : o.op = .store ty x y)
 (w0 : World) (c c' : Array Value) (hW : w = (w0.alloc (.cells c ty)).drew) (hx : a.eval x = .pointer (some ⟨w0.heap.size, 0, none⟩)) (hy : a.eval y = .agg c') (hi : (P.info? ty).map (·.size) = some c'.size)
 (hold : c.size = c'.size) (h1 : c'.all (·.oneCell') = true) (h : K (a.put o.dst undef) ((w0.alloc (.cells c' ty)).drew)) :
 if Region.wanted o (yielded ops a.tmps) = true then Oper.wp P o a w K Q else E := by
 refine iH hw ty x y ho w0.heap.size c' hx hy ty c (by rw [hW]; exact bV w0 _) hi hold h1 ?_
 rw [hW]
 have : ((w0.alloc (.cells c ty)).drew).setRow w0.heap.size c' = (w0.alloc (.cells c' ty)).drew := by
  show ((w0.alloc (.cells c ty)).setRow w0.heap.size c').drew = _
  rw [World.setRow_alloc_new]
 rw [this]
 exact h
theorem Fr.undrew {S : Nat → Prop} {w w' : World} (h : Fr S w.drew w') : Fr S w w' := ⟨h.os, h.tape, h.output, h.size, h.block⟩
theorem uJ {w w' : World} (h : Below w.drew.heap.size w.drew w') : Below w.heap.size w w' := ⟨h.os, h.tape, h.output, h.size, h.block⟩
theorem l9 (w : World) (o : Obj) : Below w.drew.heap.size w.drew (w.alloc o).drew := (Below.refl _ w.drew).alloc (Nat.le_refl _) o
theorem F6 (w : World) : (zeroValue 64).run Tryz.prog w = .ok (ja ev0 none 0) w := by kernel_rfl
/-- what a look-up among the kept events gives -/
theorem KTab.look {w : World} {b : Nat} {K : List bg} (h : KTab w b K) {d : Dot} (hd : DotW d) :
 (∃ x ∈ K, x.1.dot = d ∧ ∀ X : World, KTab X b K → (Instr.lookup 103 (.map (some b)) (bT d) true).run Tryz.prog X = .ok (.tuple #[evV x, .bool true]) X) ∨
 ((∀ x ∈ K, x.1.dot ≠ d) ∧ ∀ X : World, KTab X b K → (Instr.lookup 103 (.map (some b)) (bT d) true).run Tryz.prog X = .ok (.tuple #[evV (ev0, none, 0), .bool false]) X) := by
 by_cases hm : ∃ x ∈ K, x.1.dot = d
 ·obtain ⟨x, hx, hxd⟩ := hm
  refine Or.inl ⟨x, hx, hxd, fun X hX => ?_⟩
  subst hxd
  exact hX.look_hit iY Tryz.underlying103 (F6 X) (p := (x.1.dot, x)) (List.mem_map.2 ⟨x, hx, rfl⟩) true
 ·refine Or.inr ⟨fun x hx e => hm ⟨x, hx, e⟩, fun X hX => ?_⟩
  exact hX.look_miss iY Tryz.underlying103 (F6 X) hd (fun p hp => by obtain ⟨x, hx, rfl⟩ := List.mem_map.1 hp; exact fun e => hm ⟨x, hx, e⟩) true
theorem z50 {p : Prop} (h : p := by (rintro w ⟨⟨s0, s1, s2⟩, sm⟩; go_simp; try with_reducible rfl)) : p := h
theorem z40 {p : Prop} (h : p := by (rintro w ⟨⟨s7, s8, s9⟩, sm⟩; go_simp; try with_reducible rfl)) : p := h
theorem z24 {p : Prop} (h : p := by (rintro w ⟨⟨⟨s0, s1, s2⟩, ⟨s7, s8, s9⟩, sm⟩, sl⟩; go_simp; try with_reducible rfl)) : p := h
theorem z22 {p : Prop} (h : p := by (rintro w hSw; have s0 := kept hSw x0; have s1 := kept hSw x1; have s2 := kept hSw x2; have sm := kept hSw xm; have sl := hlk w (h2.kept.kept hSw); go_simp; try with_reducible rfl)) : p := h
theorem z94 {p : Prop} (h : p := by
 go_wp2
 all_goals
  go_end0
  exact ⟨rfl, s.A, by (show MpIn W4 m b { s with dead := lK d s.dead, pairs := strike s.pairs d }); rw [HE.out]; exact H4.out, HF4.out.mono (fun k _ hk => by subst hk; exact jI b _), fun k hk => Or.inl hk⟩) : p := h
theorem y47 {p q : Prop} (k : q) (h : PLift q → p := by
 intro kk
 have hS := And.intro (And.intro (And.intro (show W4.drew.cell? _ = _ from x0) (And.intro (show W4.drew.cell? _ = _ from x1) (show W4.drew.cell? _ = _ from x2))) (And.intro (And.intro (show W4.drew.cell? _ = _ from v7) (And.intro (show W4.drew.cell? _ = _ from v8) (show W4.drew.cell? _ = _ from v9))) (show W4.drew.cell? _ = _ from y1))) hl4
 revert hS
 exact kk.down) : p := h ⟨k⟩
theorem y37 {p q : Prop} (k : q) (h : PLift q → p := by
 intro kk
 refine wp_region_noPanic ?_
 refine bH (fun W' => ((W'.cell? ⟨w2.heap.size, 7, none⟩ = some (.string e.key.name) ∧ W'.cell? ⟨w2.heap.size, 8, none⟩ = some (.string e.key.domain) ∧ W'.cell? ⟨w2.heap.size, 9, none⟩ = some (.string e.key.path)) ∧ W'.cell? ⟨m, 1, none⟩ = some (.map (some b.ab)))) [6] (by kernel_rfl) ?_
 have hS := And.intro (And.intro z7 (And.intro z8 z9)) z1
 revert hS
 exact kk.down) : p := h ⟨k⟩
theorem y66 {p q : Prop} (k : q) (h : PLift q → p := by
 intro kk
 refine bD (i := 8) (o := ⟨none, _, _, _, _, _⟩) (by kernel_rfl) rfl ?_
 refine y6 ?_
 exact kk.down) : p := h ⟨k⟩
theorem Md {m : Nat} {b : MB} {s : MS} (d : Dot) (hd : DotW d) (w : World) (h : MpIn w m b s) (hKW : ∀ x ∈ s.K, KeyW x.1.key) (hP : ∀ k, (k, d) ∈ s.pairs → ∃ x ∈ s.K, x.1.dot = d ∧ x.1.kind = 1 ∧ x.1.key = k) (hl : s.dead.length ≤ 1073741824) :
 Calls Tryz.prog 104 #[.pointer (some ⟨m, 0, none⟩), bT d] w (O3 m b s { s with dead := lK d s.dead, pairs := strike s.pairs d } (.tuple #[]) w) := by
 have HH := Lib.hid h
 go_enter Tryz.func104, Tryz.ntmps104
 go_upto_region 1 with fail
 refine aX (fun W hW => ?_)
 have hbw : Below w.heap.size w W.drew := by rw [hW.out]; go_grown
 have h1 : MpIn W.drew m b s := h.kept_w hbw
 have x0 : W.drew.cell? ⟨w.heap.size, 0, none⟩ = some (.int .i64 d.a.dev) := by rw [hW.out]; go_simp
 have x1 : W.drew.cell? ⟨w.heap.size, 1, none⟩ = some (.int .i64 d.a.inc) := by rw [hW.out]; go_simp
 have x2 : W.drew.cell? ⟨w.heap.size, 2, none⟩ = some (.int .i64 d.seq) := by rw [hW.out]; go_simp
 have xm : W.drew.cell? ⟨m, 2, none⟩ = some (.map (some b.db)) := (bZ h1.cell).2.2.1
 clear hW h
 obtain ⟨w2, hrun, htab, hfr⟩ := h1.dead.add hd hl
 have h2 := h1.setDead htab hfr
 have hK2 := h1.keeps hfr (fun i hi => by subst hi; exact jI b _)
 have PQ : Fr (isR b.db) w w2 := Ff hbw hfr
 have hzw : w.heap.size ≤ w2.heap.size := PQ.size
 clear htab hfr
 refine wp_region_noPanic ?_
 refine bH (fun W' => (W'.cell? ⟨w.heap.size, 0, none⟩ = some (.int .i64 d.a.dev) ∧ W'.cell? ⟨w.heap.size, 1, none⟩ = some (.int .i64 d.a.inc) ∧ W'.cell? ⟨w.heap.size, 2, none⟩ = some (.int .i64 d.seq)) ∧ W'.cell? ⟨m, 2, none⟩ = some (.map (some b.db))) [5] (by kernel_rfl) ?_
 have hS := And.intro (And.intro x0 (And.intro x1 x2)) xm
 refine ag (i := 0) (oi := ⟨some 6, _, _, _, _, _⟩) (v := ?_) rfl (by kernel_rfl) (by kernel_rfl) (by kernel_rfl) (by kernel_rfl) (by kernel_rfl) (fun _ _ _ h => h) (Or.inl ⟨by rfl, ?_⟩) (by assumption) ?_
 case refine_2 => exact z50
 try simp only [pS]
 refine ag (i := 1) (oi := ⟨some 7, _, _, _, _, _⟩) (v := ?_) rfl (by kernel_rfl) (by kernel_rfl) (by kernel_rfl) (by kernel_rfl) (by kernel_rfl) (fun _ _ _ h => h) (Or.inl ⟨by rfl, ?_⟩) (by assumption) ?_
 case refine_2 => exact z50
 try simp only [pS]
 refine ag (i := 2) (oi := ⟨some 8, _, _, _, _, _⟩) (v := ?_) rfl (by kernel_rfl) (by kernel_rfl) (by kernel_rfl) (by kernel_rfl) (by kernel_rfl) (fun _ _ _ h => h) (Or.inl ⟨by rfl, ?_⟩) (by assumption) ?_
 case refine_2 => exact z50
 try simp only [pS]
 refine ag (i := 3) (oi := ⟨some 9, _, _, _, _, _⟩) (v := ?_) rfl (by kernel_rfl) (by kernel_rfl) (by kernel_rfl) (by kernel_rfl) (by kernel_rfl) (fun _ _ _ h => h) (Or.inl ⟨by rfl, ?_⟩) (by assumption) ?_
 case refine_2 => exact z50
 try simp only [pS]
 refine ag (i := 4) (oi := ⟨some 10, _, _, _, _, _⟩) (v := ?_) rfl (by kernel_rfl) (by kernel_rfl) (by kernel_rfl) (by kernel_rfl) (by kernel_rfl) (fun _ _ _ h => h) (Or.inl ⟨by rfl, ?_⟩) (by assumption) ?_
 case refine_2 => exact z50
 try simp only [pS]
 refine bD (i := 5) (o := ⟨none, _, _, _, _, _⟩) (by kernel_rfl) rfl ?_
 intro K hK
 go_simp
 refine hK.out _ _ (Or.inl (by kernel_rfl)) ?_
 clear hK K
 try simp only [pS]
 refine jk (by kernel_rfl) ?_ _
 refine NoPanic.normal ?_
 replace x0 : w2.drew.cell? _ = _ := hK2.cell x0
 replace x1 : w2.drew.cell? _ = _ := hK2.cell x1
 replace x2 : w2.drew.cell? _ = _ := hK2.cell x2
 clear hS hrun xm h1 hK2 hbw
 replace h2 : MpIn w2.drew m b { s with dead := lK d s.dead } := h2.kept_w (Below.refl _ _).drew
 have xm : w2.drew.cell? ⟨m, 0, none⟩ = some (.map (some b.kb)) := (bZ h2.cell).1
 obtain ⟨x, ok, hlk, hcase⟩ : ∃ (x : bg) (ok : Bool), (∀ X : World, KTab X b.kb s.K → (Instr.lookup 103 (.map (some b.kb)) (bT d) true).run Tryz.prog X = .ok (.tuple #[evV x, .bool ok]) X) ∧ ((ok = true ∧ x ∈ s.K ∧ x.1.dot = d) ∨ (ok = false ∧ ∀ y ∈ s.K, y.1.dot ≠ d)) := by
  rcases KTab.look h2.kept hd with ⟨x, hx, hxd, hX⟩ | ⟨hno, hX⟩
  ·exact ⟨x, true, hX, Or.inl ⟨rfl, hx, hxd⟩⟩
  ·exact ⟨(ev0, none, 0), false, hX, Or.inr ⟨rfl, hno⟩⟩
 obtain ⟨e, ea, ec⟩ := x
 have hl2 := hlk w2.drew h2.kept
 have HC := Lib.hid hcase
 clear hcase
 go_upto_region 2 with fail
 refine wp_region_noPanic ?_
 refine bH (fun X => Below w2.drew.heap.size w2.drew X) [] (by kernel_rfl) ?_
 have hb0 : Below w2.drew.heap.size w2.drew w2.drew := Below.refl _ _
 refine ag (i := 0) (oi := ⟨some 12, _, _, _, _, _⟩) (v := ?_) rfl (by kernel_rfl) (by kernel_rfl) (by kernel_rfl) (by kernel_rfl) (by kernel_rfl) (fun _ _ _ h => h) (Or.inl ⟨by rfl, ?_⟩) (by assumption) ?_
 case refine_2 => exact z22
 try simp only [pS]
 refine ag (i := 1) (oi := ⟨some 13, _, _, _, _, _⟩) (v := ?_) rfl (by kernel_rfl) (by kernel_rfl) (by kernel_rfl) (by kernel_rfl) (by kernel_rfl) (fun _ _ _ h => h) (Or.inl ⟨by rfl, ?_⟩) (by assumption) ?_
 case refine_2 => exact z22
 try simp only [pS]
 refine ag (i := 2) (oi := ⟨some 14, _, _, _, _, _⟩) (v := ?_) rfl (by kernel_rfl) (by kernel_rfl) (by kernel_rfl) (by kernel_rfl) (by kernel_rfl) (fun _ _ _ h => h) (Or.inl ⟨by rfl, ?_⟩) (by assumption) ?_
 case refine_2 => exact z22
 try simp only [pS]
 refine ag (i := 3) (oi := ⟨some 15, _, _, _, _, _⟩) (v := ?_) rfl (by kernel_rfl) (by kernel_rfl) (by kernel_rfl) (by kernel_rfl) (by kernel_rfl) (fun _ _ _ h => h) (Or.inl ⟨by rfl, ?_⟩) (by assumption) ?_
 case refine_2 => exact z22
 try simp only [pS]
 refine ag (i := 4) (oi := ⟨some 16, _, _, _, _, _⟩) (v := ?_) rfl (by kernel_rfl) (by kernel_rfl) (by kernel_rfl) (by kernel_rfl) (by kernel_rfl) (fun _ _ _ h => h) (Or.inl ⟨by rfl, ?_⟩) (by assumption) ?_
 case refine_2 => exact z22
 try simp only [pS]
 refine ag (i := 5) (oi := ⟨some 17, _, _, _, _, _⟩) (v := ?_) rfl (by kernel_rfl) (by kernel_rfl) (by kernel_rfl) (by kernel_rfl) (by kernel_rfl) (fun _ _ _ h => h) (Or.inl ⟨by rfl, ?_⟩) (by assumption) ?_
 case refine_2 => exact z22
 try simp only [pS]
 refine ag (i := 6) (oi := ⟨some 11, _, _, _, _, _⟩) (v := ?_) rfl (by kernel_rfl) (by kernel_rfl) (by kernel_rfl) (by kernel_rfl) (by kernel_rfl) (fun _ _ _ h => h) (Or.inl ⟨by rfl, ?_⟩) (by assumption) ?_
 case refine_2 => exact z22
 try simp only [pS]
 refine ag (i := 7) (oi := ⟨some 18, _, _, _, _, _⟩) (v := ?_) rfl (by kernel_rfl) (by kernel_rfl) (by kernel_rfl) (by kernel_rfl) (by kernel_rfl) (fun _ _ _ h => h) (Or.inl ⟨by rfl, ?_⟩) (by assumption) ?_
 case refine_2 => exact z22
 try simp only [pS]
 refine ag (i := 8) (oi := ⟨some 19, _, _, _, _, _⟩) (v := ?_) rfl (by kernel_rfl) (by kernel_rfl) (by kernel_rfl) (by kernel_rfl) (by kernel_rfl) (fun _ _ _ h => h) (Or.inl ⟨by rfl, ?_⟩) (by assumption) ?_
 case refine_2 => exact z22
 try simp only [pS]
 refine bD (i := 9) (o := ⟨some 4, _, _, _, _, _⟩) (by kernel_rfl) rfl ?_
 intro K hK
 go_simp
 refine hK.out _ _ (Or.inr (l9 w2 _)) ?_
 clear hK K
 try simp only [pS]
 refine bD (i := 10) (o := ⟨none, _, _, _, _, _⟩) (by kernel_rfl) rfl ?_
 intro K hK
 refine xE (by rfl) 64 (.tmp 4) (.tmp 18) rfl w2 _ (ah e ea ec).toArray rfl rfl rfl (by kernel_rfl) rfl (by kernel_rfl) ?_
 refine hK.out _ _ (Or.inr (l9 w2 _)) ?_
 clear hK K
 try simp only [pS]
 refine bD (i := 11) (o := ⟨some 5, _, _, _, _, _⟩) (by kernel_rfl) rfl ?_
 intro K hK
 go_simp
 refine hK.out _ _ (Or.inr (l9 w2 _)) ?_
 clear hK K
 try simp only [pS]
 refine jk (by kernel_rfl) ?_ _
 refine NoPanic.normal ?_
 obtain ⟨W4, hW4⟩ : ∃ W4, W4 = (w2.alloc (Obj.cells (ah e ea ec).toArray 64)).drew := ⟨_, rfl⟩
 rw [← hW4]
 have hR : W4.rangeAt w2.heap.size 0 (ah e ea ec) := by rw [hW4]; exact bY e ea ec w2 _
 have hb4 : Below w2.drew.heap.size w2.drew W4 := by rw [hW4]; exact l9 w2 _
 clear hW4 hl2 hlk hb0
 have h4 := h2.kept_w hb4
 replace x0 := kept hb4 x0
 replace x1 := kept hb4 x1
 replace x2 := kept hb4 x2
 have v0 : W4.cell? ⟨w2.heap.size, 0, none⟩ = some (.int .i64 e.dot.a.dev) := by have := hR 0 _ rfl; rwa [Nat.zero_add] at this
 have v1 : W4.cell? ⟨w2.heap.size, 1, none⟩ = some (.int .i64 e.dot.a.inc) := by have := hR 1 _ rfl; rwa [Nat.zero_add] at this
 have v2 : W4.cell? ⟨w2.heap.size, 2, none⟩ = some (.int .i64 e.dot.seq) := by have := hR 2 _ rfl; rwa [Nat.zero_add] at this
 have v6 : W4.cell? ⟨w2.heap.size, 6, none⟩ = some (.int .i64 e.kind) := by have := hR 6 _ rfl; rwa [Nat.zero_add] at this
 have v7 : W4.cell? ⟨w2.heap.size, 7, none⟩ = some (.string e.key.name) := by have := hR 7 _ rfl; rwa [Nat.zero_add] at this
 have v8 : W4.cell? ⟨w2.heap.size, 8, none⟩ = some (.string e.key.domain) := by have := hR 8 _ rfl; rwa [Nat.zero_add] at this
 have v9 : W4.cell? ⟨w2.heap.size, 9, none⟩ = some (.string e.key.path) := by have := hR 9 _ rfl; rwa [Nat.zero_add] at this
 have PP : Fr (isR b.db) w W4 := PQ.again (Fr.of_below (uJ hb4))
 have hz4 : w.heap.size ≤ W4.heap.size := PP.size
 have hbN : w2.heap.size < W4.heap.size := World.block_lt_of_cell? W4 _ v6
 have HF4 := Lib.hid PP
 have H4 := Lib.hid h4
 clear hR xm h2 hb4 PQ PP
 rcases HC.out with ⟨rfl, hxK, hxd⟩ | ⟨rfl, hno⟩
 case inr =>
  have HE : Hid (strike s.pairs d = s.pairs) := pX (fun k hk => by obtain ⟨x, hx, hx2, _⟩ := hP k hk; exact hno x hx hx2)
  clear hno HC h4
  exact z94
 have HUQ : Hid (∀ x ∈ s.K, x.1.dot = d → x = (e, ea, ec)) := fun x hx hx2 => by
  have hap := List.pairwise_map.1 H4.out.kept.apart
  obtain ⟨i, hi, rfl⟩ := List.getElem_of_mem hx
  obtain ⟨j, hj, hj2⟩ := List.getElem_of_mem hxK
  have hh := List.pairwise_iff_getElem.1 hap
  have e1 : s.K[i].1.dot = s.K[j].1.dot := by rw [hx2, hj2]; exact hxd.symm
  rcases Nat.lt_trichotomy i j with hij | hij | hij
  ·exact absurd e1 (hh i j hi hj hij)
  ·subst hij; exact hj2
  ·exact absurd e1.symm (hh j i hj hi hij)
 by_cases hk1 : e.kind = 1
 case neg =>
  have HE : Hid (strike s.pairs d = s.pairs) := pX (fun k hk => by
   obtain ⟨x, hx, hx2, hx3, _⟩ := hP k hk
   rw [HUQ.out x hx hx2] at hx3
   exact hk1 hx3)
  have hne1 : (e.kind != 1) = true := by rw [bne_iff_ne]; exact hk1
  clear hxK hxd HC h4 hk1 HUQ
  exact z94
 have hne1 : (e.kind != 1) = false := by rw [bne_eq_false_iff_eq]; exact hk1
 have hkw : KeyW e.key := hKW _ hxK
 have HPK : Hid (∀ k', (k', d) ∈ s.pairs → k' = e.key) := fun k hk => by
  obtain ⟨x, hx, hx2, _, hx4⟩ := hP k hk
  rw [HUQ.out x hx hx2] at hx4
  exact hx4.symm
 have y1 : W4.cell? ⟨m, 1, none⟩ = some (.map (some b.ab)) := (bZ h4.cell).2.1
 have hmb : m < W4.heap.size := World.block_lt_of_cell? W4 _ y1
 have hwb : w.heap.size < W4.heap.size := World.block_lt_of_cell? W4 _ x0
 clear hxK hxd HC hk1 hKW hP HUQ
 go_upto_region 4 with fail
 by_cases hex : ∃ n, (e.key, n) ∈ s.A
 ·obtain ⟨n, hnA⟩ := hex
  have hl4 : (Instr.lookup 104 (.map (some b.ab)) (fO e.key) false).run Tryz.prog W4.drew = .ok (.map (some n)) W4.drew := Tab.look_hit (w := W4.drew) qj h4.alive Tryz.underlying104 (z := .map none) (by kernel_rfl) hnA false
  obtain ⟨w5, hrun5, hD5, hf5⟩ := DTab.drop (w := W4.drew) (h4.inner _ hnA) hd 0
  replace hf5 : Fr (isR n) W4 w5 := hf5.undrew
  have hK5 := h4.keeps hf5 (fun i hi => by subst hi; exact kM b hnA)
  have hA5 : ATab w5 b.ab s.A := h4.alive.fr hf5 ((jd h4.nodup).2.2.2.2.2.2.1 _ hnA).2.1
  refine wp_region_noPanic ?_
  refine bH (fun W' => ((W'.cell? ⟨w.heap.size, 0, none⟩ = some (.int .i64 d.a.dev) ∧ W'.cell? ⟨w.heap.size, 1, none⟩ = some (.int .i64 d.a.inc) ∧ W'.cell? ⟨w.heap.size, 2, none⟩ = some (.int .i64 d.seq)) ∧ (W'.cell? ⟨w2.heap.size, 7, none⟩ = some (.string e.key.name) ∧ W'.cell? ⟨w2.heap.size, 8, none⟩ = some (.string e.key.domain) ∧ W'.cell? ⟨w2.heap.size, 9, none⟩ = some (.string e.key.path)) ∧ W'.cell? ⟨m, 1, none⟩ = some (.map (some b.ab))) ∧ (Instr.lookup 104 (.map (some b.ab)) (fO e.key) false).run Tryz.prog W' = .ok (.map (some n)) W') [8] (by kernel_rfl) ?_
  refine y47 ?_
  intro hS
  refine ag (i := 0) (oi := ⟨some 27, _, _, _, _, _⟩) (v := ?_) rfl (by kernel_rfl) (by kernel_rfl) (by kernel_rfl) (by kernel_rfl) (by kernel_rfl) (fun _ _ _ h => h) (Or.inl ⟨by rfl, ?_⟩) (by assumption) ?_
  case refine_2 => exact z24
  try simp only [pS]
  refine ag (i := 1) (oi := ⟨some 28, _, _, _, _, _⟩) (v := ?_) rfl (by kernel_rfl) (by kernel_rfl) (by kernel_rfl) (by kernel_rfl) (by kernel_rfl) (fun _ _ _ h => h) (Or.inl ⟨by rfl, ?_⟩) (by assumption) ?_
  case refine_2 => exact z24
  try simp only [pS]
  refine ag (i := 2) (oi := ⟨some 29, _, _, _, _, _⟩) (v := ?_) rfl (by kernel_rfl) (by kernel_rfl) (by kernel_rfl) (by kernel_rfl) (by kernel_rfl) (fun _ _ _ h => h) (Or.inl ⟨by rfl, ?_⟩) (by assumption) ?_
  case refine_2 => exact z24
  try simp only [pS]
  refine ag (i := 3) (oi := ⟨some 30, _, _, _, _, _⟩) (v := ?_) rfl (by kernel_rfl) (by kernel_rfl) (by kernel_rfl) (by kernel_rfl) (by kernel_rfl) (fun _ _ _ h => h) (Or.inl ⟨by rfl, ?_⟩) (by assumption) ?_
  case refine_2 => exact z24
  try simp only [pS]
  refine ag (i := 4) (oi := ⟨some 31, _, _, _, _, _⟩) (v := ?_) rfl (by kernel_rfl) (by kernel_rfl) (by kernel_rfl) (by kernel_rfl) (by kernel_rfl) (fun _ _ _ h => h) (Or.inl ⟨by rfl, ?_⟩) (by assumption) ?_
  case refine_2 => exact z24
  try simp only [pS]
  refine ag (i := 5) (oi := ⟨some 32, _, _, _, _, _⟩) (v := ?_) rfl (by kernel_rfl) (by kernel_rfl) (by kernel_rfl) (by kernel_rfl) (by kernel_rfl) (fun _ _ _ h => h) (Or.inl ⟨by rfl, ?_⟩) (by assumption) ?_
  case refine_2 => exact z24
  try simp only [pS]
  refine ag (i := 6) (oi := ⟨some 33, _, _, _, _, _⟩) (v := ?_) rfl (by kernel_rfl) (by kernel_rfl) (by kernel_rfl) (by kernel_rfl) (by kernel_rfl) (fun _ _ _ h => h) (Or.inl ⟨by rfl, ?_⟩) (by assumption) ?_
  case refine_2 => exact z24
  try simp only [pS]
  refine ag (i := 7) (oi := ⟨some 34, _, _, _, _, _⟩) (v := ?_) rfl (by kernel_rfl) (by kernel_rfl) (by kernel_rfl) (by kernel_rfl) (by kernel_rfl) (fun _ _ _ h => h) (Or.inl ⟨by rfl, ?_⟩) (by assumption) ?_
  case refine_2 => exact z24
  try simp only [pS]
  refine y66 ?_
  clear hS hl4 hrun5
  replace v7 := hK5.cell v7
  replace v8 := hK5.cell v8
  replace v9 := hK5.cell v9
  replace y1 := hK5.cell y1
  obtain ⟨L, hL⟩ : ∃ L, L = ((atK s.pairs e.key).filter fun x => decide (x ≠ d)) := ⟨_, rfl⟩
  rw [← hL] at hD5
  have HL := Lib.hid hL
  clear hL x0 x1 x2 v0 v1 v2 v6 hK5
  go_upto_region 5 with fail
  refine aH (by kernel_rfl) (by kernel_rfl) (fun W hW => ?_)
  rw [hW.out]
  have x7 := fun i : After w5 => i.cell v7
  have x8 := fun i : After w5 => i.cell v8
  have x9 := fun i : After w5 => i.cell v9
  have xm := fun i : After w5 => i.cell y1
  have hlen := fun (i : After w5) ty => (hD5.kept i.h).len Tryz.underlying105 ty
  simp only [ones, List.length_map] at hlen
  clear hW
  iterate 6 go_big_quiet_step (fail)
  refine gm (by rfl) _ (fun X hX => by obtain ⟨i, rfl⟩ := hX; exact kW _ _ _ _ rfl _ ((hA5.kept i.h).look_hit qj Tryz.underlying104 (z := .map none) (by kernel_rfl) hnA false)) ?_
  try simp only [pS]
  iterate 2 go_big_quiet_step (fail)
  refine wpQuiet_nil ?_
  rintro _ ⟨i, rfl⟩
  have hib := i.h
  generalize i.w = wi at hib ⊢
  have HD5 := Lib.hid hD5
  have HF5 := Lib.hid hf5
  have HN := Lib.hid hnA
  have hA6 : ATab wi.drew b.ab s.A := hA5.kept hib.drew
  have z7 : wi.drew.cell? _ = _ := kept hib.drew v7
  have z8 : wi.drew.cell? _ = _ := kept hib.drew v8
  have z9 : wi.drew.cell? _ = _ := kept hib.drew v9
  have z1 : wi.drew.cell? _ = _ := kept hib.drew y1
  clear hD5 hf5 hnA hlen x7 x8 x9 xm v7 v8 v9 y1 hA5 h4
  by_cases hL0 : L = []
  case neg =>
   have heq : ((L.length : Nat) == 0) = false := beq_eq_false_iff_ne.2 (fun e => hL0 (List.eq_nil_of_length_eq_zero e))
   have heq2 : ((L.length : Int) == 0) = false := beq_eq_false_iff_ne.2 (fun e => hL0 (List.eq_nil_of_length_eq_zero (by omega)))
   have HL0 := Lib.hid hL0
   clear hL0 hA6 z7 z8 z9 z1
   go_wp2
   all_goals
        go_end0
        have hfin := MpIn.kill_keep H4.out HN.out HPK.out (by have := HD5.out; rw [HL.out] at this; exact this) (by have := HL0.out; rw [HL.out] at this; exact this) HF5.out
        exact ⟨rfl, s.A, hfin.kept_w hib, ((HF4.out.mono (T := foot b s.A) fun k _ hk => by subst hk; exact jI b _).again (HF5.out.mono fun k _ hk => by subst hk; exact kM b HN.out)).again (Fr.of_below hib), fun k hk => Or.inl hk⟩
  have heq : ((L.length : Nat) == 0) = true := by rw [hL0]; rfl
  have heq2 : ((L.length : Int) == 0) = true := by rw [hL0]; rfl
  have HL0 := Lib.hid hL0
  clear hL0
  obtain ⟨r, hr⟩ := jV HN.out
  have HRP := Lib.hid hr
  obtain ⟨w6, hrun6, hA7, hf6⟩ := Tab.drop_old qj (Tab.perm hA6 hr) Tryz.underlying104 0
  have H7 := Lib.hid (And.intro hA7 hf6.undrew)
  clear hr hA7 hf6 hA6
  go_upto_region 6 with fail
  refine y37 ?_
  intro hS
  refine ag (i := 0) (oi := ⟨some 44, _, _, _, _, _⟩) (v := ?_) rfl (by kernel_rfl) (by kernel_rfl) (by kernel_rfl) (by kernel_rfl) (by kernel_rfl) (fun _ _ _ h => h) (Or.inl ⟨by rfl, ?_⟩) (by assumption) ?_
  case refine_2 => exact z40
  try simp only [pS]
  refine ag (i := 1) (oi := ⟨some 45, _, _, _, _, _⟩) (v := ?_) rfl (by kernel_rfl) (by kernel_rfl) (by kernel_rfl) (by kernel_rfl) (by kernel_rfl) (fun _ _ _ h => h) (Or.inl ⟨by rfl, ?_⟩) (by assumption) ?_
  case refine_2 => exact z40
  try simp only [pS]
  refine ag (i := 2) (oi := ⟨some 46, _, _, _, _, _⟩) (v := ?_) rfl (by kernel_rfl) (by kernel_rfl) (by kernel_rfl) (by kernel_rfl) (by kernel_rfl) (fun _ _ _ h => h) (Or.inl ⟨by rfl, ?_⟩) (by assumption) ?_
  case refine_2 => exact z40
  try simp only [pS]
  refine ag (i := 3) (oi := ⟨some 47, _, _, _, _, _⟩) (v := ?_) rfl (by kernel_rfl) (by kernel_rfl) (by kernel_rfl) (by kernel_rfl) (by kernel_rfl) (fun _ _ _ h => h) (Or.inl ⟨by rfl, ?_⟩) (by assumption) ?_
  case refine_2 => exact z40
  try simp only [pS]
  refine ag (i := 4) (oi := ⟨some 48, _, _, _, _, _⟩) (v := ?_) rfl (by kernel_rfl) (by kernel_rfl) (by kernel_rfl) (by kernel_rfl) (by kernel_rfl) (fun _ _ _ h => h) (Or.inl ⟨by rfl, ?_⟩) (by assumption) ?_
  case refine_2 => exact z40
  try simp only [pS]
  refine ag (i := 5) (oi := ⟨some 49, _, _, _, _, _⟩) (v := ?_) rfl (by kernel_rfl) (by kernel_rfl) (by kernel_rfl) (by kernel_rfl) (by kernel_rfl) (fun _ _ _ h => h) (Or.inl ⟨by rfl, ?_⟩) (by assumption) ?_
  case refine_2 => exact z40
  refine y50 ?_
  refine y6 ?_
  clear hS hrun6 z7 z8 z9 z1
  go_wp2
  all_goals
   go_end0
   have hfn : Fr (fun i => i = n ∨ i = b.ab) W4 w6 := ((HF5.out.mono (T := fun i => i = n ∨ i = b.ab) fun k _ hk => Or.inl hk).again (Fr.of_below hib)).again (H7.out.2.mono fun k _ hk => Or.inr hk)
   have hfin := MpIn.kill_drop H4.out HN.out HPK.out HRP.out H7.out.1 (by have := HL0.out; rw [HL.out] at this; exact this) hfn
   exact ⟨rfl, r, hfin, (HF4.out.mono (T := foot b s.A) fun k _ hk => by subst hk; exact jI b _).again (hfn.mono fun k _ hk => by rcases hk with rfl | rfl; exact kM b HN.out; exact iC b _), fun k hk => Or.inl (by
        simp only [foot, blocks, List.mem_cons, List.mem_map] at hk ⊢
        rcases hk with hk | hk | hk | hk | ⟨p, hp, hk⟩
        ·exact Or.inl hk
        ·exact Or.inr (Or.inl hk)
        ·exact Or.inr (Or.inr (Or.inl hk))
        ·exact Or.inr (Or.inr (Or.inr (Or.inl hk)))
        ·exact Or.inr (Or.inr (Or.inr (Or.inr ⟨p, HRP.out.mem_iff.2 (List.mem_cons_of_mem _ hp), hk⟩))))⟩
 ·have hno : ∀ p ∈ s.A, p.1 ≠ e.key := fun p hp e2 => hex ⟨p.2, by rw [← e2]; exact hp⟩
  have HE : Hid (strike s.pairs d = s.pairs) := pX (fun k hk => by
   obtain rfl := HPK.out k hk
   obtain ⟨n, hn⟩ := H4.out.keys _ hk
   exact hno _ hn rfl)
  have hl4 : (Instr.lookup 104 (.map (some b.ab)) (fO e.key) false).run Tryz.prog W4.drew = .ok (.map none) W4.drew := Tab.look_miss (w := W4.drew) qj h4.alive Tryz.underlying104 (z := .map none) (by kernel_rfl) hkw hno false
  have hrun5 := Maps.drop_nil (w := W4.drew) iY.law Tryz.underlying105 (iY.lit hd) 0
  refine wp_region_noPanic ?_
  refine bH (fun W' => ((W'.cell? ⟨w.heap.size, 0, none⟩ = some (.int .i64 d.a.dev) ∧ W'.cell? ⟨w.heap.size, 1, none⟩ = some (.int .i64 d.a.inc) ∧ W'.cell? ⟨w.heap.size, 2, none⟩ = some (.int .i64 d.seq)) ∧ (W'.cell? ⟨w2.heap.size, 7, none⟩ = some (.string e.key.name) ∧ W'.cell? ⟨w2.heap.size, 8, none⟩ = some (.string e.key.domain) ∧ W'.cell? ⟨w2.heap.size, 9, none⟩ = some (.string e.key.path)) ∧ W'.cell? ⟨m, 1, none⟩ = some (.map (some b.ab))) ∧ (Instr.lookup 104 (.map (some b.ab)) (fO e.key) false).run Tryz.prog W' = .ok (.map none) W') [8] (by kernel_rfl) ?_
  refine y47 ?_
  intro hS
  refine ag (i := 0) (oi := ⟨some 27, _, _, _, _, _⟩) (v := ?_) rfl (by kernel_rfl) (by kernel_rfl) (by kernel_rfl) (by kernel_rfl) (by kernel_rfl) (fun _ _ _ h => h) (Or.inl ⟨by rfl, ?_⟩) (by assumption) ?_
  case refine_2 => exact z24
  try simp only [pS]
  refine ag (i := 1) (oi := ⟨some 28, _, _, _, _, _⟩) (v := ?_) rfl (by kernel_rfl) (by kernel_rfl) (by kernel_rfl) (by kernel_rfl) (by kernel_rfl) (fun _ _ _ h => h) (Or.inl ⟨by rfl, ?_⟩) (by assumption) ?_
  case refine_2 => exact z24
  try simp only [pS]
  refine ag (i := 2) (oi := ⟨some 29, _, _, _, _, _⟩) (v := ?_) rfl (by kernel_rfl) (by kernel_rfl) (by kernel_rfl) (by kernel_rfl) (by kernel_rfl) (fun _ _ _ h => h) (Or.inl ⟨by rfl, ?_⟩) (by assumption) ?_
  case refine_2 => exact z24
  try simp only [pS]
  refine ag (i := 3) (oi := ⟨some 30, _, _, _, _, _⟩) (v := ?_) rfl (by kernel_rfl) (by kernel_rfl) (by kernel_rfl) (by kernel_rfl) (by kernel_rfl) (fun _ _ _ h => h) (Or.inl ⟨by rfl, ?_⟩) (by assumption) ?_
  case refine_2 => exact z24
  try simp only [pS]
  refine ag (i := 4) (oi := ⟨some 31, _, _, _, _, _⟩) (v := ?_) rfl (by kernel_rfl) (by kernel_rfl) (by kernel_rfl) (by kernel_rfl) (by kernel_rfl) (fun _ _ _ h => h) (Or.inl ⟨by rfl, ?_⟩) (by assumption) ?_
  case refine_2 => exact z24
  try simp only [pS]
  refine ag (i := 5) (oi := ⟨some 32, _, _, _, _, _⟩) (v := ?_) rfl (by kernel_rfl) (by kernel_rfl) (by kernel_rfl) (by kernel_rfl) (by kernel_rfl) (fun _ _ _ h => h) (Or.inl ⟨by rfl, ?_⟩) (by assumption) ?_
  case refine_2 => exact z24
  try simp only [pS]
  refine ag (i := 6) (oi := ⟨some 33, _, _, _, _, _⟩) (v := ?_) rfl (by kernel_rfl) (by kernel_rfl) (by kernel_rfl) (by kernel_rfl) (by kernel_rfl) (fun _ _ _ h => h) (Or.inl ⟨by rfl, ?_⟩) (by assumption) ?_
  case refine_2 => exact z24
  try simp only [pS]
  refine ag (i := 7) (oi := ⟨some 34, _, _, _, _, _⟩) (v := ?_) rfl (by kernel_rfl) (by kernel_rfl) (by kernel_rfl) (by kernel_rfl) (by kernel_rfl) (fun _ _ _ h => h) (Or.inl ⟨by rfl, ?_⟩) (by assumption) ?_
  case refine_2 => exact z24
  try simp only [pS]
  refine y66 ?_
  clear hS hl4 hrun5 x0 x1 x2 v0 v1 v2 v6 hex
  go_upto_region 5 with fail
  refine aH (by kernel_rfl) (by kernel_rfl) (fun W hW => ?_)
  rw [hW.out]
  have x7 := fun i : After W4.drew => i.cell v7
  have x8 := fun i : After W4.drew => i.cell v8
  have x9 := fun i : After W4.drew => i.cell v9
  have xm := fun i : After W4.drew => i.cell y1
  have hlen := fun (i : After W4.drew) ty => Maps.len_nil (w := i.w) (P := Tryz.prog) Tryz.underlying105 ty
  clear hW
  iterate 6 go_big_quiet_step (fail)
  refine gm (by rfl) _ (fun X hX => by obtain ⟨i, rfl⟩ := hX; exact kW _ _ _ _ rfl _ ((Tab.kept (w := W4.drew) h4.alive i.h).look_miss qj Tryz.underlying104 (z := .map none) (by kernel_rfl) hkw hno false)) ?_
  try simp only [pS]
  iterate 2 go_big_quiet_step (fail)
  refine wpQuiet_nil ?_
  rintro _ ⟨i, rfl⟩
  have hib := i.h
  generalize i.w = wi at hib ⊢
  have hib : Below W4.heap.size W4 wi := uJ hib
  have hA6 : ATab wi.drew b.ab s.A := h4.alive.kept hib.drew
  have z7 : wi.drew.cell? _ = _ := kept hib.drew v7
  have z8 : wi.drew.cell? _ = _ := kept hib.drew v8
  have z9 : wi.drew.cell? _ = _ := kept hib.drew v9
  have z1 : wi.drew.cell? _ = _ := kept hib.drew y1
  obtain ⟨w6, hrun6, hA7, hf6⟩ := Tab.drop_miss qj hA6 Tryz.underlying104 0 hkw hno
  have H7 := Lib.hid (And.intro hA7 hf6.undrew)
  clear hA7 hf6 hA6 hlen x7 x8 x9 xm v7 v8 v9 y1 h4
  go_upto_region 6 with fail
  refine y37 ?_
  intro hS
  refine ag (i := 0) (oi := ⟨some 44, _, _, _, _, _⟩) (v := ?_) rfl (by kernel_rfl) (by kernel_rfl) (by kernel_rfl) (by kernel_rfl) (by kernel_rfl) (fun _ _ _ h => h) (Or.inl ⟨by rfl, ?_⟩) (by assumption) ?_
  case refine_2 => exact z40
  try simp only [pS]
  refine ag (i := 1) (oi := ⟨some 45, _, _, _, _, _⟩) (v := ?_) rfl (by kernel_rfl) (by kernel_rfl) (by kernel_rfl) (by kernel_rfl) (by kernel_rfl) (fun _ _ _ h => h) (Or.inl ⟨by rfl, ?_⟩) (by assumption) ?_
  case refine_2 => exact z40
  try simp only [pS]
  refine ag (i := 2) (oi := ⟨some 46, _, _, _, _, _⟩) (v := ?_) rfl (by kernel_rfl) (by kernel_rfl) (by kernel_rfl) (by kernel_rfl) (by kernel_rfl) (fun _ _ _ h => h) (Or.inl ⟨by rfl, ?_⟩) (by assumption) ?_
  case refine_2 => exact z40
  try simp only [pS]
  refine ag (i := 3) (oi := ⟨some 47, _, _, _, _, _⟩) (v := ?_) rfl (by kernel_rfl) (by kernel_rfl) (by kernel_rfl) (by kernel_rfl) (by kernel_rfl) (fun _ _ _ h => h) (Or.inl ⟨by rfl, ?_⟩) (by assumption) ?_
  case refine_2 => exact z40
  try simp only [pS]
  refine ag (i := 4) (oi := ⟨some 48, _, _, _, _, _⟩) (v := ?_) rfl (by kernel_rfl) (by kernel_rfl) (by kernel_rfl) (by kernel_rfl) (by kernel_rfl) (fun _ _ _ h => h) (Or.inl ⟨by rfl, ?_⟩) (by assumption) ?_
  case refine_2 => exact z40
  try simp only [pS]
  refine ag (i := 5) (oi := ⟨some 49, _, _, _, _, _⟩) (v := ?_) rfl (by kernel_rfl) (by kernel_rfl) (by kernel_rfl) (by kernel_rfl) (by kernel_rfl) (fun _ _ _ h => h) (Or.inl ⟨by rfl, ?_⟩) (by assumption) ?_
  case refine_2 => exact z40
  refine y50 ?_
  refine y6 ?_
  clear hS hrun6 z7 z8 z9 z1
  go_wp2
  all_goals
   go_end0
   have hfin := (H4.out.kept_w hib).setAlive H7.out.1 H7.out.2
   exact ⟨rfl, s.A, by (show MpIn w6 m b { s with dead := lK d s.dead, pairs := strike s.pairs d }); rw [HE.out]; exact hfin, ((HF4.out.mono (T := foot b s.A) fun k _ hk => by subst hk; exact jI b _).again (Fr.of_below hib)).again (H7.out.2.mono fun k _ hk => by subst hk; exact iC b _), fun k hk => Or.inl hk⟩
end Go.Proofs.YtdlmbflhbecggaaGreat
