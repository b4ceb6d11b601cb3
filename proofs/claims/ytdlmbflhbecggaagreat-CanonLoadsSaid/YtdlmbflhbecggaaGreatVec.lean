/- Vectors: Get, Has. Conditions: as in the text. -/
import Derived.Test.YtdlmbflhbecggaaGreatKeys
import Derived.Test.YtdlmbflhbecggaaGreatCel
import Derived.Test.YtdlmbflhbecggaaGreatMark
import Derived.Test.YtdlmbflhbecggaaGreatLast
import Derived.WalkSpells
set_option linter.unusedSimpArgs false
set_option linter.unusedVariables false
set_option linter.unnecessarySimpa false
set_option maxHeartbeats 16000000
set_option maxRecDepth 100000
namespace Go.Proofs.YtdlmbflhbecggaaGreat
open Go.RowKit
theorem qF {P : Program} {o : Oper} {a : Act} {w : World} (t : TypeId) (m x : Operand) (c : Bool) (ho : o.op = .lookup t m x c) (v : Value) (h : (Instr.lookup t (a.eval m) (a.eval x) c).run P w = .ok v w) : (execOp a.eval o).run P w = .ok (.value v) w := by
 unfold execOp
 simp only [ho]
 simp [Sem.run_bind, h, Result.andThen]
/-- marks: an actor's number -/
def iY (l : List Dot) (a : Actor) : Int := match l.find? fun d => decide (d.a = a) with | some d => d.seq | none => 0
def gX (l : List Dot) (d : Dot) : Bool := bK d && decide (d.seq ≤ iY l d.a)
/-- marks as entries -/
def ug (l : List Dot) : List (Actor × Int) := l.map fun d => (d.a, d.seq)
abbrev jy (n : Int) : Value := .int .i64 n
/-- block v holds a vector whose map lies in block b: marks l -/
structure VecIn (w : World) (v b : Nat) (l : List Dot) : Prop where
 cell : w.heap[v]? = some (.cells #[.map (some b)] 165 (0, 0))
 tab : Tab Tryz.prog 54 fB ActW jy w b (ug l)
theorem VecIn.block {w w' : World} {v b : Nat} {l : List Dot} (h : VecIn w v b l) (h1 : w'.heap[v]? = w.heap[v]?) (h2 : w'.heap[b]? = w.heap[b]?) : VecIn w' v b l := ⟨h1.trans h.cell, h.tab.block h2⟩
theorem VecIn.kept {w w' : World} {v b : Nat} {l : List Dot} (h : VecIn w v b l) (hb : Below w.heap.size w w') : VecIn w' v b l := h.block (hb.block v (lt_of_block h.cell)) (hb.block b h.tab.lt)
theorem VecIn.fr {S : Nat → Prop} {w w' : World} {v b : Nat} {l : List Dot} (h : VecIn w v b l) (hf : Fr S w w') (h1 : ¬ S v) (h2 : ¬ S b) : VecIn w' v b l := h.block (hf.block v (lt_of_block h.cell) h1) (hf.block b h.tab.lt h2)
theorem one_cell {w : World} {R : Nat} {x : Value} {t : TypeId} (h : w.heap[R]? = some (.cells #[x] t (0, 0))) : w.cell? ⟨R, 0, none⟩ = some x ∧ w.frozen? ⟨R, 0, none⟩ = false := by
 simp [World.cell?, World.frozen?, h]
theorem Ag {l : List Dot} {a : Actor} {d : Dot} (h : l.find? (fun d => decide (d.a = a)) = some d) : iY l a = d.seq ∧ d ∈ l ∧ d.a = a := by
 refine ⟨by unfold iY; rw [h], List.mem_of_find?_eq_some h, ?_⟩
 simpa using List.find?_some h
theorem Ah {l : List Dot} {a : Actor} (h : l.find? (fun d => decide (d.a = a)) = none) : iY l a = 0 ∧ ∀ d ∈ l, d.a ≠ a := by
 refine ⟨by unfold iY; rw [h], fun d hd => ?_⟩
 simpa using List.find?_eq_none.1 h d hd
theorem VecIn.look {w : World} {v b : Nat} {l : List Dot} (h : VecIn w v b l) {a : Actor} (ha : ActW a) :
 (Instr.lookup 163 (.map (some b)) (fB a) false).run Tryz.prog w = .ok (.int .i64 (iY l a)) w := by
 cases hf : l.find? fun d => decide (d.a = a) with
 | some d =>
   obtain ⟨h1, h2, h3⟩ := Ag hf
   have := h.tab.look_hit rM Tryz.underlying163 (z := .int .i64 0) (by kernel_rfl) (p := (d.a, d.seq)) (List.mem_map.2 ⟨d, h2, rfl⟩) false
   rw [h1, ← h3]
   exact this
 | none =>
   obtain ⟨h1, h2⟩ := Ah hf
   have := h.tab.look_miss rM Tryz.underlying163 (z := .int .i64 0) (by kernel_rfl) ha (fun p hp => by obtain ⟨d, hd, rfl⟩ := List.mem_map.1 hp; exact h2 d hd) false
   rw [h1]
   exact this
/-! ### Get -/
theorem JC {v b : Nat} {l : List Dot} (a : Actor) (ha : ActW a) (w : World) (h : VecIn w v b l) : Calls Tryz.prog 101 #[.pointer (some ⟨v, 0, none⟩), fB a] w fun e w' => e = .returned (.int .i64 (iY l a)) ∧ Below w.heap.size w w' := by
 go_enter Tryz.func101, Tryz.ntmps101
 go_upto_region 3 with fail
 refine ai (by kernel_rfl) (by kernel_rfl) (fun W hW => ?_)
 have hbw : Below w.heap.size w W := by rw [hW.out]; go_grown
 have h1 := h.kept hbw
 have x0 : ∀ i : After W, i.w.cell? ⟨w.heap.size, 0, none⟩ = some (.int .i64 a.dev) := fun i => i.cell (by rw [hW.out]; go_simp)
 have x1 : ∀ i : After W, i.w.cell? ⟨w.heap.size, 1, none⟩ = some (.int .i64 a.inc) := fun i => i.cell (by rw [hW.out]; go_simp)
 have y0 : ∀ i : After W, i.w.cell? ⟨v, 0, none⟩ = some (.map (some b)) := fun i => i.cell (one_cell h1.cell).1
 clear hW h
 iterate 5 go_big_quiet_step (fail)
 refine jH (by rfl) _ (fun X hX => by obtain ⟨i, rfl⟩ := hX; exact qF _ _ _ _ rfl _ ((h1.kept i.h).look ha)) ?_
 try simp only [pS]
 go_big_quiet_step (fail)
 refine wpQuiet_nil ?_
 rintro _ ⟨i, rfl⟩
 have hib := i.h
 generalize i.w = wi at hib ⊢
 go_wp2
 go_ret
 exact ⟨rfl, below2 hbw hib⟩
/-! ### Has -/
theorem CO {v b : Nat} {l : List Dot} (d : Dot) (w : World) (h : VecIn w v b l) : Calls Tryz.prog 100 #[.pointer (some ⟨v, 0, none⟩), bY d] w fun e w' => e = .returned (.bool (gX l d)) ∧ Below w.heap.size w w' := by
 have HR0 := fun (X : World) => iK d X
 cases hd : bK d with
 | false =>
   have HE : Hid (gX l d = false) := by unfold Hid gX; rw [hd]; rfl
   rw [hd] at HR0
   have HR := Lib.hid HR0
   clear HR0 hd
   go_enter Tryz.func100, Tryz.ntmps100
   go_upto_region 1 with fail
   refine ai (by kernel_rfl) (by kernel_rfl) (fun W hW => ?_)
   have hbw : Below w.heap.size w W := by rw [hW.out]; go_grown
   have x0 : ∀ i : After W, i.w.cell? ⟨w.heap.size, 0, none⟩ = some (.int .i64 d.a.dev) := fun i => i.cell (by rw [hW.out]; go_simp)
   have x1 : ∀ i : After W, i.w.cell? ⟨w.heap.size, 1, none⟩ = some (.int .i64 d.a.inc) := fun i => i.cell (by rw [hW.out]; go_simp)
   have x2 : ∀ i : After W, i.w.cell? ⟨w.heap.size, 2, none⟩ = some (.int .i64 d.seq) := fun i => i.cell (by rw [hW.out]; go_simp)
   clear hW h
   go_big_quiet_step (fail)
   go_big_quiet_step (exact Calls.after (HR.out _))
   iterate 10 go_big_quiet_step (fail)
   refine wpQuiet_nil ?_
   rintro _ ⟨i, rfl⟩
   have hib := i.h
   generalize i.w = wi at hib ⊢
   go_wp2
   go_ret
   exact ⟨ah HE.out.symm, below2 hbw hib⟩
 | true =>
   have hW0 := kU hd
   have HE : Hid (gX l d = decide (d.seq ≤ iY l d.a)) := by unfold Hid gX; rw [hd]; rfl
   rw [hd] at HR0
   have HR := Lib.hid HR0
   have HG := Lib.hid (fun (X : World) (h : VecIn X v b l) => JC d.a hW0.a X h)
   clear HR0 hd hW0
   go_enter Tryz.func100, Tryz.ntmps100
   go_upto_region 1 with fail
   refine ai (by kernel_rfl) (by kernel_rfl) (fun W hW => ?_)
   have hbw : Below w.heap.size w W := by rw [hW.out]; go_grown
   have h1 := h.kept hbw
   have x0 : ∀ i : After W, i.w.cell? ⟨w.heap.size, 0, none⟩ = some (.int .i64 d.a.dev) := fun i => i.cell (by rw [hW.out]; go_simp)
   have x1 : ∀ i : After W, i.w.cell? ⟨w.heap.size, 1, none⟩ = some (.int .i64 d.a.inc) := fun i => i.cell (by rw [hW.out]; go_simp)
   have x2 : ∀ i : After W, i.w.cell? ⟨w.heap.size, 2, none⟩ = some (.int .i64 d.seq) := fun i => i.cell (by rw [hW.out]; go_simp)
   clear hW h
   go_big_quiet_step (fail)
   go_big_quiet_step (exact Calls.after (HR.out _))
   iterate 4 go_big_quiet_step (fail)
   go_big_quiet_step (exact Calls.after (HG.out _ (h1.kept (After.h _))))
   iterate 5 go_big_quiet_step (fail)
   refine wpQuiet_nil ?_
   rintro _ ⟨i, rfl⟩
   have hib := i.h
   generalize i.w = wi at hib ⊢
   go_wp2
   go_ret
   exact ⟨ah (by rw [HE.out]), below2 hbw hib⟩
/-- marks, an actor's number set -/
def setM : List Dot → Actor → Int → List Dot
 | [], a, n => [⟨a, n⟩]
 | d :: l, a, n => if d.a = a then ⟨a, n⟩ :: l else if bP d.a a = true then d :: setM l a n else ⟨a, n⟩ :: d :: l
def oZ (l : List Dot) : Prop := l.Pairwise fun x y => bP x.a y.a = true
theorem iD (a : Actor) : bP a a = false := by unfold bP; simp
theorem iT {a b c : Actor} (h : bP a b = true) (k : bP b c = true) : bP a c = true := by
 unfold bP at *
 simp only [Bool.or_eq_true, Bool.and_eq_true, decide_eq_true_eq] at *
 omega
theorem kW {a b : Actor} (h : a ≠ b) (k : bP a b = false) : bP b a = true := by
 unfold bP at *
 simp only [Bool.or_eq_true, Bool.or_eq_false_iff, Bool.and_eq_true, Bool.and_eq_false_iff, decide_eq_true_eq, decide_eq_false_iff_not] at *
 have : ¬ (a.dev = b.dev ∧ a.inc = b.inc) := fun e => h (by cases a; cases b; simp_all)
 omega
theorem CU : ∀ {l : List Dot} {a : Actor} {n : Int}, (∀ d ∈ l, d.a ≠ a) → (setM l a n).Perm (⟨a, n⟩ :: l)
 | [], a, n, _ => List.Perm.refl _
 | d :: l, a, n, h => by
   unfold setM
   rw [if_neg (h d List.mem_cons_self)]
   split
   ·exact ((CU (fun e he => h e (List.mem_cons_of_mem _ he))).cons d).trans (List.Perm.swap ..)
   ·exact List.Perm.refl _
theorem CS : ∀ {l : List Dot} {a : Actor} {n : Int} {d : Dot}, oZ l → d ∈ l → d.a = a → ∃ r, l.Perm (d :: r) ∧ (setM l a n).Perm (⟨a, n⟩ :: r)
 | [], a, n, d, _, h, _ => by simp at h
 | x :: l, a, n, d, hs, h, hd => by
   obtain ⟨h1, h2⟩ := List.pairwise_cons.1 hs
   unfold setM
   by_cases hx : x.a = a
   ·rw [if_pos hx]
    rcases List.mem_cons.1 h with rfl | h
    ·exact ⟨l, List.Perm.refl _, List.Perm.refl _⟩
    ·have := h1 d h
     rw [hx, hd, iD] at this
     cases this
   ·rw [if_neg hx]
    rcases List.mem_cons.1 h with rfl | h
    ·exact absurd hd hx
    ·have := h1 d h
     rw [hd] at this
     rw [if_pos this]
     obtain ⟨r, p1, p2⟩ := CS (n := n) h2 h hd
     exact ⟨x :: r, (p1.cons x).trans (List.Perm.swap ..), (p2.cons x).trans (List.Perm.swap ..)⟩
theorem yN : ∀ (l : List Dot) (a : Actor) (n : Int) (b : Actor), iY (setM l a n) b = if b = a then n else iY l b
 | [], a, n, b => by
   unfold setM iY
   simp only [List.find?_cons, List.find?_nil]
   by_cases h : a = b
   ·subst h; simp
   ·rw [decide_eq_false h, if_neg (fun e => h e.symm)]
 | d :: l, a, n, b => by
   have ih := yN l a n b
   unfold setM
   split
   ·rename_i hd
    unfold iY at ih ⊢
    simp only [List.find?_cons]
    by_cases h : a = b
    ·subst h; simp
    ·rw [decide_eq_false h, if_neg (fun e => h e.symm), decide_eq_false (fun e => h (by rw [← hd]; exact e))]
   ·rename_i hd
    split
    ·unfold iY at ih ⊢
     simp only [List.find?_cons]
     by_cases h : d.a = b
     ·rw [decide_eq_true h, if_neg (fun e => hd (by rw [h, e]))]
     ·rw [decide_eq_false h]
      exact ih
    ·unfold iY
     simp only [List.find?_cons]
     by_cases h : a = b
     ·subst h; simp
     ·rw [decide_eq_false h, if_neg (fun e => h e.symm)]
theorem xu {l : List Dot} {a : Actor} {n : Int} : ∀ {d : Dot}, d ∈ setM l a n → d = ⟨a, n⟩ ∨ d ∈ l := by
 induction l with
 | nil => intro d h; simp [setM] at h; exact Or.inl h
 | cons x l ih =>
   intro d h
   unfold setM at h
   split at h
   ·rcases List.mem_cons.1 h with h | h
    ·exact Or.inl h
    ·exact Or.inr (List.mem_cons_of_mem _ h)
   ·split at h
    ·rcases List.mem_cons.1 h with h | h
     ·exact Or.inr (by rw [h]; exact List.mem_cons_self)
     ·exact (ih h).imp id (List.mem_cons_of_mem _)
    ·rcases List.mem_cons.1 h with h | h
     ·exact Or.inl h
     ·exact Or.inr h
theorem xq : ∀ {l : List Dot} {a : Actor} {n : Int}, oZ l → oZ (setM l a n)
 | [], a, n, _ => by simp [setM, oZ]
 | d :: l, a, n, h => by
   obtain ⟨h1, h2⟩ := List.pairwise_cons.1 h
   unfold setM
   split
   ·rename_i hd
    exact List.pairwise_cons.2 ⟨fun y hy => by rw [← hd]; exact h1 y hy, h2⟩
   ·rename_i hd
    split
    ·rename_i hlt
     refine List.pairwise_cons.2 ⟨fun y hy => ?_, xq h2⟩
     rcases xu hy with rfl | hy
     ·exact hlt
     ·exact h1 y hy
    ·rename_i hlt
     have hda : bP a d.a = true := kW hd (Bool.eq_false_iff.2 hlt)
     refine List.pairwise_cons.2 ⟨fun y hy => ?_, h⟩
     rcases List.mem_cons.1 hy with rfl | hy
     ·exact hda
     ·exact iT hda (h1 y hy)
theorem uZ (l : List Dot) (a : Actor) (n : Int) : (setM l a n).length ≤ l.length + 1 := by
 induction l with
 | nil => simp [setM]
 | cons d l ih =>
   unfold setM
   split
   ·simp
   ·split
    ·simp only [List.length_cons]; omega
    ·simp
theorem uT {l m : List Dot} (h : l.Perm m) : (ug l).Perm (ug m) := h.map _
theorem Tab.setM {w : World} {b : Nat} {l : List Dot} (h : Tab Tryz.prog 54 fB ActW jy w b (ug l)) (hs : oZ l) (hl : l.length + 1 < maxLen) {a : Actor} (ha : ActW a) (n : Int) :
 ∃ w', (Instr.mapUpdate 163 (.map (some b)) (fB a) (.int .i64 n)).run Tryz.prog w = .ok () w' ∧ Tab Tryz.prog 54 fB ActW jy w' b (ug (Go.Proofs.YtdlmbflhbecggaaGreat.setM l a n)) ∧ Fr (isR b) w w' := by
 cases hf : l.find? fun d => decide (d.a = a) with
 | none =>
   obtain ⟨_, h2⟩ := Ah hf
   obtain ⟨w', h3, h4, h5⟩ := h.store_new rM Tryz.underlying163 (by unfold ug; rw [List.length_map]; omega) ha (fun p hp => by obtain ⟨d, hd, rfl⟩ := List.mem_map.1 hp; exact h2 d hd) n
   exact ⟨w', h3, h4.perm (uT (CU h2)).symm, h5⟩
 | some d =>
   obtain ⟨_, h2, h3⟩ := Ag hf
   obtain ⟨r, p1, p2⟩ := CS (n := n) hs h2 h3
   have hp := h.perm (uT p1)
   have hlr := p1.length_eq
   simp only [List.length_cons] at hlr
   obtain ⟨w', h4, h5, h6⟩ := Tab.store_old (m := ug r) rM (show Tab Tryz.prog 54 fB ActW jy w b ((d.a, d.seq) :: ug r) from hp) Tryz.underlying163 (by unfold ug; rw [List.length_map]; omega) n
   rw [h3] at h4 h5
   exact ⟨w', h4, h5.perm (uT p2).symm, h6⟩
/-! ### New -/
theorem CJ (w : World) : Calls Tryz.prog 55 #[] w fun e w' => e = .returned (.pointer (some ⟨w.heap.size + 1, 0, none⟩)) ∧ VecIn w' (w.heap.size + 1) w.heap.size [] ∧ Below w.heap.size w w' := by
 have hmm := @run_makeMap Tryz.prog
 go_enter Tryz.func55, Tryz.ntmps55
 go_wp2
 go_ret
 refine ⟨by simp, ⟨?_, ?_⟩, by go_grown⟩
 ·have := dK (w.alloc (.map #[] 0)) (.cells #[.map (some w.heap.size)] 165)
  simpa using this
 ·exact (Tab.made w).kept ((Below.refl _ _).alloc (Nat.le_refl _) _)
theorem Nq {S : Nat → Prop} {w w1 w2 : World} (h : Below w.heap.size w w1) (k : Fr S w1 w2) : Fr S w w2 := (Fr.of_below h).again k
theorem VecIn.ne {w : World} {v b : Nat} {l : List Dot} (h : VecIn w v b l) : v ≠ b := by
 obtain ⟨es, cl, h1⟩ := h.tab.mapped
 intro e
 have := h.cell
 rw [e, h1] at this
 cases this
/-! ### Take -/
end Go.Proofs.YtdlmbflhbecggaaGreat
