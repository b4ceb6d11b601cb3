/- The orders of dots and actors as functions for a sort: what they leave behind. Conditions: none. -/
import Derived.Test.YtohcmljigcdmbaaGreatKeys
import Derived.Sort.Grow
import Derived.Deep.Draws
import Derived.Test.YtohcmljigcdmbaaGreatVec
import Derived.Sort.Statements
import Derived.Shelf.SlSortCmp.Insertion
import Derived.Test.YtohcmljigcdmbaaGreatLoad
import Derived.Test.YtohcmljigcdmbaaGreatCel
import Derived.OneCell
import Derived.Test.YtohcmljigcdmbaaGreatKit
import Derived.Lib.AppendStr
import Derived.IntWalk
import Derived.Deep.WholeRow
set_option linter.unusedSimpArgs false
set_option linter.unusedVariables false
set_option linter.unnecessarySimpa false
set_option maxHeartbeats 16000000
set_option maxRecDepth 100000
namespace Go.Proofs.YtohcmljigcdmbaaGreat
open Go.RowKit
/-- nothing that was there has turned; draws alone -/
structure Up (w w' : World) : Prop where
 below : Below w.heap.size w w'
 drawn : w.drawn ≤ w'.drawn
theorem Up.grown {w w' : World} (h : Up w w') : ∃ q os, w' = Go.Sort.grow (w.drewN q) os := by
 obtain ⟨⟨h1, h2, h3, h4, h5⟩, h6⟩ := h
 refine ⟨w'.drawn - w.drawn, w'.heap.extract w.heap.size w'.heap.size, ?_⟩
 obtain ⟨hp, tp, dr, os, out⟩ := w'
 obtain ⟨hp0, tp0, dr0, os0, out0⟩ := w
 simp only [Go.Sort.grow, World.drewN] at *
 subst h1 h2 h3
 simp only [World.mk.injEq, true_and, and_true]
 refine ⟨?_, by omega⟩
 apply Array.ext_getElem?
 intro k
 rw [Array.getElem?_append]
 split
 ·rename_i hk; exact h5 k hk
 ·rename_i hk
  rw [Array.getElem?_extract]
  split
  ·congr 1; omega
  ·rename_i hlt
   exact Array.getElem?_eq_none (by omega)
theorem Up.refl (w : World) : Up w w := ⟨Below.refl _ _, Nat.le_refl _⟩
theorem Up.trans {a b c : World} (h : Up a b) (k : Up b c) : Up a c := ⟨below2 h.below k.below, Nat.le_trans h.drawn k.drawn⟩
theorem cmpActor_up (a b : Actor) (w : World) :
 Calls Tryz.prog 104 #[.agg #[.int .i64 a.dev, .int .i64 a.inc], .agg #[.int .i64 b.dev, .int .i64 b.inc]] w fun e w' => e = .returned (.int .i64 (cmpActor a b)) ∧ Up w w' := by
 go_enter Tryz.func104, Tryz.ntmps104
 go_wp2
 go_region_held3 (fun w' => w'.cell? ⟨w.heap.size, 0, none⟩ = some (.int .i64 a.dev) ∧ w'.cell? ⟨w.heap.size, 1, none⟩ = some (.int .i64 a.inc) ∧ w'.cell? ⟨w.heap.size+1, 0, none⟩ = some (.int .i64 b.dev) ∧ w'.cell? ⟨w.heap.size+1, 1, none⟩ = some (.int .i64 b.inc)) (go_keep)
  (first
   | (go_at_call 85; refine (compare_any _ _ _).mono ?_; rintro e w1 ⟨rfl, rfl⟩)
   | (go_at_call 83; go_call or_any (cmpI a.dev b.dev) (cmpI a.inc b.inc) as e w1 ⟨rfl, rfl⟩))
 go_wp2
 go_ret
 exact ⟨rfl, by go_grown, Nat.le_succ _⟩
theorem sortActor_up (a b : Actor) (w : World) : Calls Tryz.prog 107 #[actVal a, actVal b] w fun e w' => e = .returned (.int .i64 (cmpActor a b)) ∧ Up w w' := by
 have HO := Lib.hid (fun X => cmpActor_up a b X)
 go_enter Tryz.func107, Tryz.ntmps107
 go_wp2_with (go_at_call 104; (with_reducible refine (HO.out _).mono ?_); rintro e w1 ⟨rfl, hb⟩)
 go_ret
 exact ⟨rfl, below2 (by go_grown) hb.below, hb.drawn⟩
end Go.Proofs.YtohcmljigcdmbaaGreat
/- Sorted lists, plainly: dots each once; what a sort leaves. Conditions: none. -/
namespace Go.Proofs.YtohcmljigcdmbaaGreat
open Go.RowKit
/-- strictly rising lists with the same members are one -/
theorem srt_ext {α : Type} {lt : α → α → Bool} (irr : ∀ x, lt x x = false) (tr : ∀ x y z, lt x y = true → lt y z = true → lt x z = true) :
 ∀ {l m : List α}, l.Pairwise (fun x y => lt x y = true) → m.Pairwise (fun x y => lt x y = true) → (∀ x, x ∈ l ↔ x ∈ m) → l = m
 | [], [], _, _, _ => rfl
 | [], b :: s, _, _, h => by have := (h b).2 (by simp); simp at this
 | a :: r, [], _, _, h => by have := (h a).1 (by simp); simp at this
 | a :: r, b :: s, h1, h2, h => by
   obtain ⟨a1, a2⟩ := List.pairwise_cons.1 h1
   obtain ⟨b1, b2⟩ := List.pairwise_cons.1 h2
   have hab : a = b := by
     rcases List.mem_cons.1 ((h a).1 (by simp)) with e | ha
     ·exact e
     ·rcases List.mem_cons.1 ((h b).2 (by simp)) with e | hb
      ·exact e.symm
      ·have := tr _ _ _ (a1 b hb) (b1 a ha)
       rw [irr] at this
       cases this
   subst hab
   rw [srt_ext irr tr a2 b2 (fun p => ⟨fun hp => by
     rcases List.mem_cons.1 ((h p).1 (by simp [hp])) with e | hp'
     ·have := a1 p hp
      rw [e, irr] at this
      cases this
     ·exact hp', fun hp => by
     rcases List.mem_cons.1 ((h p).2 (by simp [hp])) with e | hp'
     ·have := b1 p hp
      rw [e, irr] at this
      cases this
     ·exact hp'⟩)]
theorem dotLt_irrefl (d : Dot) : dotLt d d = false := by unfold dotLt actorLt; simp
theorem dotLt_trans {a b c : Dot} (h : dotLt a b = true) (k : dotLt b c = true) : dotLt a c = true := by
 unfold dotLt actorLt at *
 simp only [Bool.or_eq_true, Bool.and_eq_true, decide_eq_true_eq] at *
 omega
theorem dotLt_total {a b : Dot} (h : a ≠ b) (k : dotLt a b = false) : dotLt b a = true := by
 unfold dotLt actorLt at *
 simp only [Bool.or_eq_true, Bool.or_eq_false_iff, Bool.and_eq_true, Bool.and_eq_false_iff, decide_eq_true_eq, decide_eq_false_iff_not] at *
 have : ¬ (a.a.dev = b.a.dev ∧ a.a.inc = b.a.inc ∧ a.seq = b.seq) := fun e => h (by obtain ⟨⟨a1, a2⟩, a3⟩ := a; obtain ⟨⟨b1, b2⟩, b3⟩ := b; simp_all)
 omega
def SrtD (l : List Dot) : Prop := l.Pairwise fun x y => dotLt x y = true
/-- one dot more, in its place, once -/
def insD (d : Dot) : List Dot → List Dot
 | [] => [d]
 | x :: l => if dotLt x d = true then x :: insD d l else if x = d then x :: l else d :: x :: l
def sortD (l : List Dot) : List Dot := l.foldl (fun o d => insD d o) []
theorem insD_mem {d : Dot} : ∀ {l : List Dot} {x : Dot}, x ∈ insD d l ↔ x = d ∨ x ∈ l
 | [], x => by simp [insD]
 | y :: l, x => by
   unfold insD
   split
   ·rw [List.mem_cons, insD_mem, List.mem_cons]
    constructor
    ·rintro (h | h | h)
     ·exact Or.inr (Or.inl h)
     ·exact Or.inl h
     ·exact Or.inr (Or.inr h)
    ·rintro (h | h | h)
     ·exact Or.inr (Or.inl h)
     ·exact Or.inl h
     ·exact Or.inr (Or.inr h)
   ·split
    ·rename_i h
     subst h
     simp
    ·simp
theorem insD_srt {d : Dot} : ∀ {l : List Dot}, SrtD l → SrtD (insD d l)
 | [], _ => by simp [insD, SrtD]
 | x :: l, h => by
   obtain ⟨h1, h2⟩ := List.pairwise_cons.1 h
   unfold insD
   split
   ·rename_i hlt
    refine List.pairwise_cons.2 ⟨fun y hy => ?_, insD_srt h2⟩
    rcases insD_mem.1 hy with rfl | hy
    ·exact hlt
    ·exact h1 y hy
   ·rename_i hlt
    split
    ·exact h
    ·rename_i hne
     have hdx := dotLt_total hne (Bool.eq_false_iff.2 hlt)
     refine List.pairwise_cons.2 ⟨fun y hy => ?_, h⟩
     rcases List.mem_cons.1 hy with rfl | hy
     ·exact hdx
     ·exact dotLt_trans hdx (h1 y hy)
theorem foldD_srt : ∀ (l : List Dot) {o : List Dot}, SrtD o → SrtD (l.foldl (fun o d => insD d o) o)
 | [], _, h => h
 | _ :: l, _, h => foldD_srt l (insD_srt h)
theorem foldD_mem : ∀ (l : List Dot) {o : List Dot} {x : Dot}, x ∈ l.foldl (fun o d => insD d o) o ↔ x ∈ o ∨ x ∈ l
 | [], o, x => by simp
 | d :: l, o, x => by
   rw [List.foldl_cons, foldD_mem l, insD_mem, List.mem_cons]
   constructor
   ·rintro ((h | h) | h)
    ·exact Or.inr (Or.inl h)
    ·exact Or.inl h
    ·exact Or.inr (Or.inr h)
   ·rintro (h | h | h)
    ·exact Or.inl (Or.inr h)
    ·exact Or.inl (Or.inl h)
    ·exact Or.inr h
theorem sortD_srt (l : List Dot) : SrtD (sortD l) := foldD_srt l List.Pairwise.nil
theorem sortD_mem {l : List Dot} {x : Dot} : x ∈ sortD l ↔ x ∈ l := by unfold sortD; rw [foldD_mem]; simp
theorem srtD_ext {l m : List Dot} (h : SrtD l) (k : SrtD m) (e : ∀ x, x ∈ l ↔ x ∈ m) : l = m := srt_ext dotLt_irrefl (fun _ _ _ => dotLt_trans) h k e
theorem SrtD.nodup {l : List Dot} (h : SrtD l) : l.Nodup := h.imp fun {a b} hab e => by rw [e, dotLt_irrefl] at hab; cases hab
theorem sortD_self {l : List Dot} (h : SrtD l) : sortD l = l := srtD_ext (sortD_srt l) h fun _ => sortD_mem
theorem insD_length (d : Dot) : ∀ l : List Dot, (insD d l).length ≤ l.length + 1
 | [] => by simp [insD]
 | x :: l => by
   have := insD_length d l
   unfold insD
   split
   ·simp only [List.length_cons]; omega
   ·split <;> simp
theorem foldD_length : ∀ (l o : List Dot), (l.foldl (fun o d => insD d o) o).length ≤ o.length + l.length
 | [], o => by simp
 | d :: l, o => by
   have h1 := foldD_length l (insD d o)
   have h2 := insD_length d o
   simp only [List.foldl_cons, List.length_cons]
   omega
theorem sortD_length (l : List Dot) : (sortD l).length ≤ l.length := by have := foldD_length l []; simpa [sortD] using this
theorem cmpActor_iff (a b : Actor) : decide (cmpActor a b < 0) = actorLt a b := by
 unfold cmpActor cmpI orI actorLt
 rw [Bool.eq_iff_iff]
 simp only [Bool.or_eq_true, Bool.and_eq_true, decide_eq_true_eq]
 repeat' split
 all_goals omega
/-- what a sort of unlike elements leaves is strictly rising -/
theorem sorted_strict {α : Type} [Inhabited α] {lt : α → α → Bool} (tot : ∀ x y, x ≠ y → lt x y = false → lt y x = true) {d : Array α} (h : Go.Sort.SortedIn lt 0 d.size d) (hn : d.toList.Nodup) : d.toList.Pairwise fun x y => lt x y = true := by
 rw [List.pairwise_iff_getElem]
 intro i j hi hj hij
 have hi' : i < d.size := by simpa using hi
 have hj' : j < d.size := by simpa using hj
 have h1 := h i j (Nat.zero_le _) hij hj'
 rw [getElem!_pos d j hj', getElem!_pos d i hi'] at h1
 have hne : d.toList[i] ≠ d.toList[j] := List.pairwise_iff_getElem.1 hn i j hi hj hij
 simp only [Array.getElem_toList] at hne ⊢
 exact tot _ _ hne.symm h1
/-- a function whose one result is a struct that lies in a block of its own hands back that block's cells -/
theorem ret_cell {P : Program} {fn : Func} {R : Ending → World → Prop} {a : Act} {w : World} (p : Tmp) (ty t : TypeId) (g : Nat) (c : Array Value) (d : TypeDesc) (hr : fn.results = #[.cell p ty])
 (hp : a.tmps.getD p undef = .pointer (some ⟨g, 0, none⟩)) (hg : w.heap[g]? = some (.cells c t (0, 0))) (hu : P.underlying ty = some d) (hd : d.isRow = true) (hi : (P.info? ty).map (·.size) = some c.size)
 (hde : a.defers = []) (hR : R (.returned (.agg c)) w) : bodyPost P fn R .ret a w := by
 have h1 : w.rangeAt g 0 c.toList := fun j v hv => by
  rw [Nat.zero_add]
  simp only [World.cell?, hg]
  simpa using hv
 have h2 := run_loadVar_mid (P := P) w g 0 ty c.toList d h1 hu hd (by simpa using hi)
 refine bodyPost_ret ?_ hde hR
 have hp' : a.tmps[p]?.getD undef = .pointer (some ⟨g, 0, none⟩) := by simpa using hp
 simp [results, hr, hp', asAddr, h2, Sem.run_bind, Result.andThen]
theorem own_low {w : World} {base b2 : Nat} {e : TypeId} {size : Nat} {v : Value} {n : Nat} {xs : List Value} (h : w.ownsRow base e size v n xs) (hb : b2 ≤ base) : w.ownsRow b2 e size v n xs := by
 rcases h.2 with hn | ⟨g, cap, cur, hv, hbs, rest⟩
 ·exact ⟨h.1, .inl hn⟩
 ·exact ⟨h.1, .inr ⟨g, cap, cur, hv, Nat.le_trans hb hbs, rest⟩⟩
theorem below_setRow {B : Nat} {W w : World} (h : Below B W w) {g : Nat} (hg : B ≤ g) (cs : Array Value) : Below B W (w.setRow g cs) :=
 h.trans ⟨rfl, rfl, rfl, by simp [World.setRow], fun k hk => by simp [World.setRow, Array.getElem?_modify]; omega⟩
theorem wpList_store_new {P : Program} {ops : Array Oper} {rest : List Oper} {a : Act} {w : World} {Q : Exit → Act → World → Prop} {type : TypeId} {pos : String} {after : Array Edge} (ty : TypeId) (x y : Operand) (c c' : Array Value)
 (hx : a.eval x = .pointer (some ⟨w.heap.size, 0, none⟩)) (hy : a.eval y = .agg c') (hi : (P.info? ty).map (·.size) = some c'.size) (hold : c.size = c'.size) (h1 : c'.all (·.oneCell') = true)
 (h : wpList P ops Q rest a (w.alloc (.cells c' ty))) : wpList P ops Q (⟨none, .store ty x y, type, pos, after, none⟩ :: rest) a (w.alloc (.cells c ty)) := by
 refine wpList_store_row rfl ty x y rfl w.heap.size c' hx hy ty c (heap_alloc_last w _) hi hold h1 ?_
 rw [World.setRow_alloc_new]
 exact h
theorem wpList_store_newAt {P : Program} {ops : Array Oper} {rest : List Oper} {a : Act} {w : World} {Q : Exit → Act → World → Prop} {type : TypeId} {pos : String} {after : Array Edge} (ty : TypeId) (x y : Operand) (c c' : Array Value) (N : Nat) (hN : w.heap.size = N)
 (hx : a.eval x = .pointer (some ⟨N, 0, none⟩)) (hy : a.eval y = .agg c') (hi : (P.info? ty).map (·.size) = some c'.size) (hold : c.size = c'.size) (h1 : c'.all (·.oneCell') = true)
 (h : wpList P ops Q rest a (w.alloc (.cells c' ty))) : wpList P ops Q (⟨none, .store ty x y, type, pos, after, none⟩ :: rest) a (w.alloc (.cells c ty)) := by
 subst hN
 exact wpList_store_new ty x y c c' hx hy hi hold h1 h
abbrev EvIt := Ev × Option Addr × Nat
abbrev itEv (x : EvIt) : List Value := evCells x.1 x.2.1 x.2.2
structure EvsIn (w : World) (a : Option Addr) (ls : List EvIt) : Prop where
 rows : ls = [] ∨ ∃ A off, a = some ⟨A, off, none⟩ ∧ ∀ i (h : i < ls.length), w.rangeAt A (off + i * 19) (itEv ls[i])
 dots : ∀ x ∈ ls, DotsIn w x.2.1 x.1.over
theorem EvsIn.kept {w w' : World} {a : Option Addr} {ls : List EvIt} (h : EvsIn w a ls) (hb : Below w.heap.size w w') : EvsIn w' a ls :=
 ⟨h.rows.imp id fun ⟨A, off, h1, h2⟩ => ⟨A, off, h1, fun i hi => rangeAt_kept (h2 i hi) hb⟩, fun x hx => (h.dots x hx).kept hb⟩
theorem EvsIn.at {w : World} {a : Option Addr} {ls : List EvIt} (h : EvsIn w a ls) {k : Nat} (hk : k < ls.length) :
 ∃ A off, a = some ⟨A, off, none⟩ ∧ (∀ i (h : i < ls.length), w.rangeAt A (off + i * 19) (itEv ls[i])) ∧ DotsIn w ls[k].2.1 ls[k].1.over := by
 rcases h.rows with h1 | ⟨A, off, h1, h2⟩
 ·subst h1; simp at hk
 ·exact ⟨A, off, h1, h2, h.dots _ (List.getElem_mem hk)⟩
/-- the events alone -/
def evsOf (ls : List EvIt) : List Ev := ls.map (·.1)
theorem evsOf_length (ls : List EvIt) : (evsOf ls).length = ls.length := by simp [evsOf]
/-! ### are they the same -/
def dotVals (l : List Dot) : List Value := l.flatMap fun d => [.int .i64 d.a.dev, .int .i64 d.a.inc, .int .i64 d.seq]
theorem dotVals_length : ∀ l : List Dot, (dotVals l).length = l.length * 3
 | [] => rfl
 | d :: l => by
   have := dotVals_length l
   simp only [dotVals, List.flatMap_cons, List.length_append, List.length_cons, List.length_nil] at this ⊢
   omega
theorem dotVals_get : ∀ (l : List Dot) (i : Nat) (h : i < l.length), (dotVals l)[i * 3]? = some (.int .i64 l[i].a.dev) ∧ (dotVals l)[i * 3 + 1]? = some (.int .i64 l[i].a.inc) ∧ (dotVals l)[i * 3 + 2]? = some (.int .i64 l[i].seq)
 | [], i, h => by simp at h
 | d :: l, 0, _ => by simp [dotVals]
 | d :: l, i + 1, h => by
   have ih := dotVals_get l i (by simpa using h)
   have e : dotVals (d :: l) = [.int .i64 d.a.dev, .int .i64 d.a.inc, .int .i64 d.seq] ++ dotVals l := rfl
   rw [e, List.getElem?_append_right (by simp; omega), List.getElem?_append_right (by simp; omega), List.getElem?_append_right (by simp; omega)]
   simp only [List.length_cons, List.length_nil, List.getElem_cons_succ]
   rw [show (i + 1) * 3 - (0 + 1 + 1 + 1) = i * 3 by omega, show (i + 1) * 3 + 1 - (0 + 1 + 1 + 1) = i * 3 + 1 by omega, show (i + 1) * 3 + 2 - (0 + 1 + 1 + 1) = i * 3 + 2 by omega]
   exact ih
theorem DotsAt.news {w : World} {A off : Nat} {l : List Dot} (h : DotsAt w A off l) : ∀ j u, (dotVals l)[j]? = some u → w.cell? ((⟨A, off, none⟩ : Addr).add j) = some u := by
 intro j u hj
 have hlt : j < l.length * 3 := by
  have := (List.getElem?_eq_some_iff.1 hj).1
  rwa [dotVals_length] at this
 obtain ⟨g0, g1, g2⟩ := dotVals_get l (j / 3) (by omega)
 rw [Addr.add_mid]
 have h3 : j = j / 3 * 3 ∨ j = j / 3 * 3 + 1 ∨ j = j / 3 * 3 + 2 := by omega
 rcases h3 with e | e | e
 ·rw [← e, hj] at g0
  have := h.dev (j / 3) (by omega)
  rw [← e] at this
  rw [this, g0]
 ·rw [← e, hj] at g1
  have := h.inc (j / 3) (by omega)
  rw [Nat.add_assoc, ← e] at this
  rw [this, g1]
 ·rw [← e, hj] at g2
  have := h.seq (j / 3) (by omega)
  rw [Nat.add_assoc, ← e] at this
  rw [this, g2]
theorem Tryz.infoDot : (Tryz.prog.info? 25).map (fun i => (i.zero, i.size, i.bytes)) = some (some (.agg #[.int .i64 0, .int .i64 0, .int .i64 0]), 3, 24) := by kernel_rfl
theorem own_dots {w : World} {base : Nat} {v : Value} {l : List Dot} (h : w.ownsRow base 25 3 v l.length (dotVals l)) : ∃ a cap, v = .slice a l.length cap ∧ DotsIn w a l := by
 rcases h.2 with ⟨rfl, h0⟩ | ⟨g, cap, cur, rfl, _, hg, hn, _, hsz, htk⟩
 ·exact ⟨none, 0, by rw [h0], Or.inl (List.length_eq_zero_iff.1 h0)⟩
 ·have hcell : ∀ j u, (dotVals l)[j]? = some u → w.cell? ⟨g, j, none⟩ = some u := by
   intro j u hj
   rw [← htk, List.getElem?_take] at hj
   split at hj
   ·simp only [World.cell?, hg]
    simpa using hj
   ·cases hj
  refine ⟨_, cap, rfl, Or.inr ⟨g, 0, rfl, ⟨fun i hi => ?_, fun i hi => ?_, fun i hi => ?_⟩⟩⟩
  ·have := hcell _ _ (dotVals_get l i hi).1; simpa using this
  ·have := hcell _ _ (dotVals_get l i hi).2.1; simpa using this
  ·have := hcell _ _ (dotVals_get l i hi).2.2; simpa using this
/-- slices of events of one's own -/
def evItCells (l : List EvIt) : List Value := l.flatMap itEv
theorem evItCells_snoc (l : List EvIt) (x : EvIt) : evItCells (l ++ [x]) = evItCells l ++ itEv x := by simp [evItCells]
/-- events that grow in a row of one's own, each one's dots in a row of dots -/
structure EvsGr (base : Nat) (v : Value) (ls : List EvIt) (W : World) : Prop where
 own : W.ownsRow base 34 19 v ls.length (evItCells ls)
 dots : ∀ x ∈ ls, DotsIn W x.2.1 x.1.over
 typ : ∀ x ∈ ls, x.1.over = [] ∨ ∃ A off cs f, x.2.1 = some ⟨A, off, none⟩ ∧ W.heap[A]? = some (.cells cs 25 f)
theorem EvsGr.nil (base : Nat) (W : World) : EvsGr base (.slice none 0 0) [] W := ⟨World.ownsRow_nil _ _ _ _, fun x hx => (nomatch hx), fun x hx => (nomatch hx)⟩
theorem EvsGr.kept {base : Nat} {v : Value} {ls : List EvIt} {w w' : World} (h : EvsGr base v ls w) (hb : Below w.heap.size w w') : EvsGr base v ls w' :=
 ⟨ownsRow_below h.own hb, fun x hx => (h.dots x hx).kept hb, fun x hx => (h.typ x hx).imp id fun ⟨A, off, cs, f, h1, h2⟩ => ⟨A, off, cs, f, h1, (hb.block A (lt_of_block h2)).trans h2⟩⟩
theorem EvsGr.app {base : Nat} {v v2 : Value} {ls : List EvIt} {x : EvIt} {w w2 : World} (h : EvsGr base v ls w) (hown : w2.ownsRow base 34 19 v2 (ls.length + 1) (evItCells ls ++ itEv x)) (hg : w.grownBy w2 v.ownBlock)
 (hd : DotsIn w x.2.1 x.1.over) (ht : x.1.over = [] ∨ ∃ A off cs f, x.2.1 = some ⟨A, off, none⟩ ∧ w.heap[A]? = some (.cells cs 25 f)) : EvsGr base v2 (ls ++ [x]) w2 := by
 have hne : ∀ (A : Nat) (cs : Array Value) (f : Nat × Nat), w.heap[A]? = some (Obj.cells cs 25 f) → w2.heap[A]? = w.heap[A]? := fun A cs f hA => hg.block A (lt_of_block hA) (fun e => by
  rcases h.own.2 with ⟨rfl, _⟩ | ⟨g, cap, cur, rfl, _, hgb, _⟩
  ·simp [Value.ownBlock] at e
  ·obtain rfl : A = g := by simpa [Value.ownBlock] using e
   rw [hA] at hgb
   simp only [Option.some.injEq, Obj.cells.injEq] at hgb
   exact absurd hgb.2.1 (by decide))
 have key : ∀ y : EvIt, DotsIn w y.2.1 y.1.over → (y.1.over = [] ∨ ∃ A off cs f, y.2.1 = some ⟨A, off, none⟩ ∧ w.heap[A]? = some (.cells cs 25 f)) → DotsIn w2 y.2.1 y.1.over ∧ (y.1.over = [] ∨ ∃ A off cs f, y.2.1 = some ⟨A, off, none⟩ ∧ w2.heap[A]? = some (.cells cs 25 f)) := by
  intro y h1 h2
  rcases h2 with h2 | ⟨A, off, cs, f, h3, h4⟩
  ·exact ⟨Or.inl h2, Or.inl h2⟩
  ·have hE := hne A cs f h4
   refine ⟨?_, Or.inr ⟨A, off, cs, f, h3, hE.trans h4⟩⟩
   rcases h1 with h1 | ⟨A', off', h5, h6⟩
   ·exact Or.inl h1
   ·rw [h3] at h5
    simp only [Option.some.injEq, Addr.mk.injEq, and_true] at h5
    obtain ⟨rfl, rfl⟩ := h5
    exact Or.inr ⟨A, off, h3, ⟨fun i hi => (World.cell?_of_block hE).trans (h6.dev i hi), fun i hi => (World.cell?_of_block hE).trans (h6.inc i hi), fun i hi => (World.cell?_of_block hE).trans (h6.seq i hi)⟩⟩
 have hall : ∀ y ∈ ls ++ [x], _ := fun y hy => key y (by
  rcases List.mem_append.1 hy with hy | hy
  ·exact h.dots y hy
  ·simp only [List.mem_singleton] at hy; subst hy; exact hd) (by
  rcases List.mem_append.1 hy with hy | hy
  ·exact h.typ y hy
  ·simp only [List.mem_singleton] at hy; subst hy; exact ht)
 exact ⟨by rw [evItCells_snoc, List.length_append]; exact hown, fun y hy => (hall y hy).1, fun y hy => (hall y hy).2⟩
end Go.Proofs.YtohcmljigcdmbaaGreat
