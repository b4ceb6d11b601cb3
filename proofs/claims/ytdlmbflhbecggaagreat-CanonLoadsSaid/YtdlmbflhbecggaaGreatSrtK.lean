/- The orders of dots and actors as functions for a sort: what they leave behind. Conditions: none. -/
import Derived.Test.YtdlmbflhbecggaaGreatKeys
import Derived.Sort.Grow
import Derived.Deep.Draws
import Derived.Test.YtdlmbflhbecggaaGreatVec
import Derived.Sort.Statements
import Derived.Shelf.SlSortCmp.Insertion
import Derived.Test.YtdlmbflhbecggaaGreatLast
import Derived.Test.YtdlmbflhbecggaaGreatSrt
import Derived.Shelf.SlSortCmp.NoneTotal
import Derived.Test.YtdlmbflhbecggaaGreatWriter
set_option linter.unusedSimpArgs false
set_option linter.unusedVariables false
set_option linter.unnecessarySimpa false
set_option maxHeartbeats 16000000
set_option maxRecDepth 100000
namespace Go.Proofs.YtdlmbflhbecggaaGreat
open Go.RowKit
/-- nothing that was there has turned; draws alone -/
structure Up (w w' : World) : Prop where
 below : Below w.heap.size w w'
 drawn : w.drawn ≤ w'.drawn
theorem Up.grown {w w' : World} (h : Up w w') : ∃ q os, w' = Go.Sort.grow (w.drewN q) os := by
 obtain ⟨⟨h1, h2, h3, h4, h5⟩, h6⟩ := h
 refine ⟨w'.drawn - w.drawn, w'.heap.extract w.heap.size w'.heap.size, ?_⟩
 obtain ⟨hp, tp, dr, os, out⟩ := w'
 obtain ⟨hp0, tp0, dr0, os0, Qu⟩ := w
 simp only [Go.Sort.grow, World.drewN] at *
 subst h1 h2 h3
 simp only [World.mk.injEq, true_and, and_true]
 refine ⟨?_, by omega⟩
 apply Array.ext_getElem?
 intro k
 rw [Array.getElem?_append]
 split
 ·rename_i hk; exact h5 k hk
 ·rename_i hk
  rw [Array.getElem?_extract]
  split
  ·congr 1; omega
  ·rename_i hlt
   exact Array.getElem?_eq_none (by omega)
theorem Up.refl (w : World) : Up w w := ⟨Below.refl _ _, Nat.le_refl _⟩
theorem Up.trans {a b c : World} (h : Up a b) (k : Up b c) : Up a c := ⟨below2 h.below k.below, Nat.le_trans h.drawn k.drawn⟩
theorem vX (a b : Actor) (w : World) :
 Calls Tryz.prog 109 #[.agg #[.int .i64 a.dev, .int .i64 a.inc], .agg #[.int .i64 b.dev, .int .i64 b.inc]] w fun e w' => e = .returned (.int .i64 (dQ a b)) ∧ Up w w' := by
 go_enter Tryz.func109, Tryz.ntmps109
 go_wp2
 go_region_held3 (fun w' => w'.cell? ⟨w.heap.size, 0, none⟩ = some (.int .i64 a.dev) ∧ w'.cell? ⟨w.heap.size, 1, none⟩ = some (.int .i64 a.inc) ∧ w'.cell? ⟨w.heap.size+1, 0, none⟩ = some (.int .i64 b.dev) ∧ w'.cell? ⟨w.heap.size+1, 1, none⟩ = some (.int .i64 b.inc)) (go_keep)
  (first
   | (go_at_call 150; refine (jX _ _ _).mono ?_; rintro e w1 ⟨rfl, rfl⟩)
   | (go_at_call 149; go_call uG (lm a.dev b.dev) (lm a.inc b.inc) as e w1 ⟨rfl, rfl⟩))
 go_wp2
 go_ret
 exact ⟨rfl, by go_grown, Nat.le_succ _⟩
theorem JO (a b : Dot) (w : World) :
 Calls Tryz.prog 131 #[.agg #[.int .i64 a.a.dev, .int .i64 a.a.inc, .int .i64 a.seq], .agg #[.int .i64 b.a.dev, .int .i64 b.a.inc, .int .i64 b.seq]] w fun e w' => e = .returned (.int .i64 (mM a b)) ∧ Up w w' := by
 go_enter Tryz.func131, Tryz.ntmps131
 go_wp2
 go_region_held3 (fun w' => w'.cell? ⟨w.heap.size, 0, none⟩ = some (.int .i64 a.a.dev) ∧ w'.cell? ⟨w.heap.size, 1, none⟩ = some (.int .i64 a.a.inc) ∧ w'.cell? ⟨w.heap.size, 2, none⟩ = some (.int .i64 a.seq) ∧ w'.cell? ⟨w.heap.size+1, 0, none⟩ = some (.int .i64 b.a.dev) ∧ w'.cell? ⟨w.heap.size+1, 1, none⟩ = some (.int .i64 b.a.inc) ∧ w'.cell? ⟨w.heap.size+1, 2, none⟩ = some (.int .i64 b.seq)) (first | (refine ⟨?_, ?_, ?_, ?_, ?_, ?_⟩ <;> ((with_reducible refine kept hb ?_); simp [*]; done)) | go_keep)
  (first
   | (go_at_call 150; refine (jX _ _ _).mono ?_; rintro e w1 ⟨rfl, rfl⟩)
   | (go_at_call 109; refine (vX a.a b.a _).mono ?_; rintro e w1 ⟨rfl, hb, hd⟩)
   | (go_at_call 149; go_call uG (dQ a.a b.a) (lm a.seq b.seq) as e w2 ⟨rfl, rfl⟩))
 go_wp2
 go_ret
 have h0 : Below w.heap.size w ((w.alloc (Obj.cells #[.int .i64 a.a.dev, .int .i64 a.a.inc, .int .i64 a.seq] 56)).alloc (Obj.cells #[.int .i64 b.a.dev, .int .i64 b.a.inc, .int .i64 b.seq] 56)).drew := by go_grown
 refine ⟨rfl, (h0.trans (hb.mono h0.size)).alloc (by have := (below2 h0 hb).size; omega) _, ?_⟩
 have hd' : w.drawn + 1 ≤ w1.drawn := hd
 show w.drawn ≤ w1.drawn
 omega
theorem EY (a b : Dot) (w : World) : Calls Tryz.prog 130 #[bY a, bY b] w fun e w' => e = .returned (.int .i64 (mM a b)) ∧ Up w w' := by
 have HO := Lib.hid (fun X => JO a b X)
 go_enter Tryz.func130, Tryz.ntmps130
 go_wp2_with (go_at_call 131; (with_reducible refine (HO.out _).mono ?_); rintro e w1 ⟨rfl, hb⟩)
 go_ret
 exact ⟨rfl, below2 (by go_grown) hb.below, hb.drawn⟩
theorem Ba (a b : Actor) (w : World) : Calls Tryz.prog 165 #[fB a, fB b] w fun e w' => e = .returned (.int .i64 (dQ a b)) ∧ Up w w' := by
 have HO := Lib.hid (fun X => vX a b X)
 go_enter Tryz.func165, Tryz.ntmps165
 go_wp2_with (go_at_call 109; (with_reducible refine (HO.out _).mono ?_); rintro e w1 ⟨rfl, hb⟩)
 go_ret
 exact ⟨rfl, below2 (by go_grown) hb.below, hb.drawn⟩
end Go.Proofs.YtdlmbflhbecggaaGreat
/- Sorted lists, plainly: dots each once; what a sort leaves. Conditions: none. -/
namespace Go.Proofs.YtdlmbflhbecggaaGreat
open Go.RowKit
/-- strictly rising lists with the same members are one -/
theorem wR {α : Type} {lt : α → α → Bool} (irr : ∀ x, lt x x = false) (tr : ∀ x y z, lt x y = true → lt y z = true → lt x z = true) :
 ∀ {l m : List α}, l.Pairwise (fun x y => lt x y = true) → m.Pairwise (fun x y => lt x y = true) → (∀ x, x ∈ l ↔ x ∈ m) → l = m
 | [], [], _, _, _ => rfl
 | [], b :: s, _, _, h => by have := (h b).2 (by simp); simp at this
 | a :: r, [], _, _, h => by have := (h a).1 (by simp); simp at this
 | a :: r, b :: s, h1, h2, h => by
   obtain ⟨a1, a2⟩ := List.pairwise_cons.1 h1
   obtain ⟨b1, b2⟩ := List.pairwise_cons.1 h2
   have hab : a = b := by
     rcases List.mem_cons.1 ((h a).1 (by simp)) with e | ha
     ·exact e
     ·rcases List.mem_cons.1 ((h b).2 (by simp)) with e | hb
      ·exact e.symm
      ·have := tr _ _ _ (a1 b hb) (b1 a ha)
       rw [irr] at this
       cases this
   subst hab
   rw [wR irr tr a2 b2 (fun p => ⟨fun hp => by
     rcases List.mem_cons.1 ((h p).1 (by simp [hp])) with e | hp'
     ·have := a1 p hp
      rw [e, irr] at this
      cases this
     ·exact hp', fun hp => by
     rcases List.mem_cons.1 ((h p).2 (by simp [hp])) with e | hp'
     ·have := b1 p hp
      rw [e, irr] at this
      cases this
     ·exact hp'⟩)]
theorem dY (d : Dot) : dI d d = false := by unfold dI bP; simp
theorem gU {a b c : Dot} (h : dI a b = true) (k : dI b c = true) : dI a c = true := by
 unfold dI bP at *
 simp only [Bool.or_eq_true, Bool.and_eq_true, decide_eq_true_eq] at *
 omega
theorem nD {a b : Dot} (h : a ≠ b) (k : dI a b = false) : dI b a = true := by
 unfold dI bP at *
 simp only [Bool.or_eq_true, Bool.or_eq_false_iff, Bool.and_eq_true, Bool.and_eq_false_iff, decide_eq_true_eq, decide_eq_false_iff_not] at *
 have : ¬ (a.a.dev = b.a.dev ∧ a.a.inc = b.a.inc ∧ a.seq = b.seq) := fun e => h (by obtain ⟨⟨a1, a2⟩, a3⟩ := a; obtain ⟨⟨b1, b2⟩, b3⟩ := b; simp_all)
 omega
def SrtD (l : List Dot) : Prop := l.Pairwise fun x y => dI x y = true
/-- one dot more, in its place, once -/
def rO (d : Dot) : List Dot → List Dot
 | [] => [d]
 | x :: l => if dI x d = true then x :: rO d l else if x = d then x :: l else d :: x :: l
def sortD (l : List Dot) : List Dot := l.foldl (fun o d => rO d o) []
theorem yH {d : Dot} : ∀ {l : List Dot} {x : Dot}, x ∈ rO d l ↔ x = d ∨ x ∈ l
 | [], x => by simp [rO]
 | y :: l, x => by
   unfold rO
   split
   ·rw [List.mem_cons, yH, List.mem_cons]
    constructor
    ·rintro (h | h | h)
     ·exact Or.inr (Or.inl h)
     ·exact Or.inl h
     ·exact Or.inr (Or.inr h)
    ·rintro (h | h | h)
     ·exact Or.inr (Or.inl h)
     ·exact Or.inl h
     ·exact Or.inr (Or.inr h)
   ·split
    ·rename_i h
     subst h
     simp
    ·simp
theorem DF {d : Dot} : ∀ {l : List Dot}, SrtD l → SrtD (rO d l)
 | [], _ => by simp [rO, SrtD]
 | x :: l, h => by
   obtain ⟨h1, h2⟩ := List.pairwise_cons.1 h
   unfold rO
   split
   ·rename_i hlt
    refine List.pairwise_cons.2 ⟨fun y hy => ?_, DF h2⟩
    rcases yH.1 hy with rfl | hy
    ·exact hlt
    ·exact h1 y hy
   ·rename_i hlt
    split
    ·exact h
    ·rename_i hne
     have hdx := nD hne (Bool.eq_false_iff.2 hlt)
     refine List.pairwise_cons.2 ⟨fun y hy => ?_, h⟩
     rcases List.mem_cons.1 hy with rfl | hy
     ·exact hdx
     ·exact gU hdx (h1 y hy)
theorem Ai : ∀ (l : List Dot) {o : List Dot}, SrtD o → SrtD (l.foldl (fun o d => rO d o) o)
 | [], _, h => h
 | _ :: l, _, h => Ai l (DF h)
theorem Aj : ∀ (l : List Dot) {o : List Dot} {x : Dot}, x ∈ l.foldl (fun o d => rO d o) o ↔ x ∈ o ∨ x ∈ l
 | [], o, x => by simp
 | d :: l, o, x => by
   rw [List.foldl_cons, Aj l, yH, List.mem_cons]
   constructor
   ·rintro ((h | h) | h)
    ·exact Or.inr (Or.inl h)
    ·exact Or.inl h
    ·exact Or.inr (Or.inr h)
   ·rintro (h | h | h)
    ·exact Or.inl (Or.inr h)
    ·exact Or.inl (Or.inl h)
    ·exact Or.inr h
theorem jl (l : List Dot) : SrtD (sortD l) := Ai l List.Pairwise.nil
theorem dC {l : List Dot} {x : Dot} : x ∈ sortD l ↔ x ∈ l := by unfold sortD; rw [Aj]; simp
theorem xh {l m : List Dot} (h : SrtD l) (k : SrtD m) (e : ∀ x, x ∈ l ↔ x ∈ m) : l = m := wR dY (fun _ _ _ => gU) h k e
theorem SrtD.nodup {l : List Dot} (h : SrtD l) : l.Nodup := h.imp fun {a b} hab e => by rw [e, dY] at hab; cases hab
theorem EZ {l : List Dot} (h : SrtD l) : sortD l = l := xh (jl l) h fun _ => dC
theorem vH (d : Dot) : ∀ l : List Dot, (rO d l).length ≤ l.length + 1
 | [] => by simp [rO]
 | x :: l => by
   have := vH d l
   unfold rO
   split
   ·simp only [List.length_cons]; omega
   ·split <;> simp
theorem tK : ∀ (l o : List Dot), (l.foldl (fun o d => rO d o) o).length ≤ o.length + l.length
 | [], o => by simp
 | d :: l, o => by
   have h1 := tK l (rO d o)
   have h2 := vH d o
   simp only [List.foldl_cons, List.length_cons]
   omega
theorem iI (l : List Dot) : (sortD l).length ≤ l.length := by have := tK l []; simpa [sortD] using this
theorem y5 (a b : Dot) : decide (mM a b < 0) = dI a b := AB a b
theorem uj (a b : Actor) : decide (dQ a b < 0) = bP a b := by
 unfold dQ lm orI bP
 rw [Bool.eq_iff_iff]
 simp only [Bool.or_eq_true, Bool.and_eq_true, decide_eq_true_eq]
 repeat' split
 all_goals omega
/-- what a sort of unlike elements leaves is strictly rising -/
theorem nI {α : Type} [Inhabited α] {lt : α → α → Bool} (tot : ∀ x y, x ≠ y → lt x y = false → lt y x = true) {d : Array α} (h : Go.Sort.SortedIn lt 0 d.size d) (hn : d.toList.Nodup) : d.toList.Pairwise fun x y => lt x y = true := by
 rw [List.pairwise_iff_getElem]
 intro i j hi hj hij
 have hi' : i < d.size := by simpa using hi
 have hj' : j < d.size := by simpa using hj
 have h1 := h i j (Nat.zero_le _) hij hj'
 rw [getElem!_pos d j hj', getElem!_pos d i hi'] at h1
 have hne : d.toList[i] ≠ d.toList[j] := List.pairwise_iff_getElem.1 hn i j hi hj hij
 simp only [Array.getElem_toList] at hne ⊢
 exact tot _ _ hne.symm h1
end Go.Proofs.YtdlmbflhbecggaaGreat
/- slices.SortFunc at a slice of one's own: dots, actors. Conditions: fewer than 2^30. -/
namespace Go.Proofs.YtdlmbflhbecggaaGreat
open Go.RowKit Go.Shelf
section
variable {α : Type} [Inhabited α] {enc : α → List Value} {k : Nat}
theorem flat_get (hk : ∀ x, (enc x).length = k) (k0 : 0 < k) : ∀ (l : List α) (t : Nat), t < l.length * k → (l.flatMap enc)[t]? = some ((enc l[t / k]!)[t % k]!)
 | [], t, h => by simp at h
 | x :: l, t, h => by
   rw [List.flatMap_cons]
   by_cases ht : t < k
   ·rw [List.getElem?_append_left (by rw [hk]; exact ht), Nat.div_eq_of_lt ht, Nat.mod_eq_of_lt ht]
    have hlt : t < (enc x).length := by rw [hk]; exact ht
    simp [hlt]
   ·have ht' : k ≤ t := by omega
    rw [List.getElem?_append_right (by rw [hk]; exact ht'), hk]
    have h2 : t - k < l.length * k := by
        simp only [List.length_cons, Nat.add_mul, Nat.one_mul] at h
        omega
    rw [flat_get hk k0 l (t - k) h2]
    obtain ⟨u, rfl⟩ : ∃ u, t = u + k := ⟨t - k, by omega⟩
    rw [Nat.add_sub_cancel, Nat.add_div_right u k0, Nat.add_mod_right]
    simp
theorem Ap (hk : ∀ x, (enc x).length = k) (k0 : 0 < k) (l : List α) (t : Nat) (h : t < l.length * k) : (l.flatMap enc)[t]? = some (Go.Sort.flatK enc k l.toArray)[t]! := by
 rw [flat_get hk k0 l t h, Go.Sort.get_flatK _ _ _ _ (by simpa using h)]
 simp
omit [Inhabited α] in
theorem qc (hk : ∀ x, (enc x).length = k) : ∀ l : List α, (l.flatMap enc).length = l.length * k
 | [] => by simp
 | x :: l => by rw [List.flatMap_cons, List.length_append, qc hk l, hk, List.length_cons, Nat.add_mul, Nat.one_mul, Nat.add_comm]
theorem rQ (hk : ∀ x, (enc x).length = k) (k0 : 0 < k) {w : World} {g : Nat} {cur : Array Value} {e : TypeId} {l : List α} (hb : w.heap[g]? = some (.cells cur e (0, 0))) (ht : cur.toList.take (l.length * k) = l.flatMap enc) : Go.Sort.HoldsK enc k w g 0 l.toArray := by
 intro j hj
 have hj' : j < l.length * k := by simpa using hj
 refine ⟨?_, by simp [World.frozen?, hb]⟩
 have h1 : (cur.toList.take (l.length * k))[j]? = (l.flatMap enc)[j]? := by rw [ht]
 rw [List.getElem?_take_of_lt hj', Ap hk k0 l j hj'] at h1
 simp only [World.cell?, hb, Nat.zero_add]
 simp only [Option.isSome_none, Bool.false_eq_true, if_false]
 rw [← Array.getElem?_toList, h1]
 rfl
theorem FY {w : World} {g n : Nat} {os : Array Obj} {cur : Array Value} {e : TypeId} {fr : Nat × Nat} (d : Array α) (hb : w.heap[g]? = some (.cells cur e fr)) :
 (sortWorldK enc k w g 0 n d os).heap[g]? = some (.cells (Go.Sort.putCells id 0 (Go.Sort.flatK enc k d) cur) e fr) := by
 have hg : g < w.heap.size := (Array.getElem?_eq_some_iff.1 hb).1
 unfold sortWorldK Go.Sort.putRowK
 rw [Go.Sort.heap_grow_old _ _ (by simpa [Go.Sort.putRow, Go.Sort.mapBlock, Go.Sort.ahead] using hg)]
 simp [Go.Sort.putRow, Go.Sort.mapBlock, Go.Sort.ahead, Array.getElem?_modify, hb, Go.Sort.onCells]
theorem yO {w : World} {g n : Nat} {os : Array Obj} (d : Array α) : Fr (isR g) w (sortWorldK enc k w g 0 n d os) := by
 unfold sortWorldK Go.Sort.putRowK
 refine ⟨rfl, rfl, rfl, by simp [Go.Sort.putRow, Go.Sort.mapBlock, Go.Sort.ahead], fun j hj hne => ?_⟩
 rw [Go.Sort.heap_grow_old _ _ (by simpa [Go.Sort.putRow, Go.Sort.mapBlock, Go.Sort.ahead] using hj)]
 have : g ≠ j := fun e => hne e.symm
 simp [Go.Sort.putRow, Go.Sort.mapBlock, Go.Sort.ahead, Array.getElem?_modify, this]
theorem H6 (hk : ∀ x, (enc x).length = k) (k0 : 0 < k) (cur : Array Value) (l : List α) (h : l.length * k ≤ cur.size) : (Go.Sort.putCells id 0 (Go.Sort.flatK enc k l.toArray) cur).toList.take (l.length * k) = l.flatMap enc := by
 apply List.ext_getElem?
 intro j
 by_cases hj : j < l.length * k
 ·have hjc : j < cur.size := by omega
  have hjf : j < (Go.Sort.flatK enc k l.toArray).size := by simpa using hj
  rw [List.getElem?_take_of_lt hj, Array.getElem?_toList, Ap hk k0 l j hj]
  simp only [Go.Sort.putCells, Array.getElem?_mapIdx, Array.getElem?_eq_getElem hjc, Option.map_some, Nat.zero_add, Nat.zero_le, true_and, if_pos hjf, Nat.sub_zero, id]
 ·rw [List.getElem?_take_eq_none (by omega), List.getElem?_eq_none (by rw [qc hk]; omega)]
theorem nK (hk : ∀ x, (enc x).length = k) (k0 : 0 < k) {w : World} {base g cap n : Nat} {e : TypeId} {os : Array Obj} {cur : Array Value} {ss ts : List α} (hl : ts.length = ss.length) (hbase : base ≤ g) (hb : w.heap[g]? = some (.cells cur e (0, 0)))
 (h1 : ss.length ≤ cap) (h2 : cap ≤ maxLen) (h3 : cur.size = cap * k) :
 (sortWorldK enc k w g 0 n ts.toArray os).ownsRow base e k (.slice (some ⟨g, 0, none⟩) ss.length cap) ss.length (ts.flatMap enc) :=
 ⟨by rw [qc hk, hl], .inr ⟨g, cap, _, rfl, hbase, FY _ hb, h1, h2, by simp [Go.Sort.putCells, h3], by
  rw [← hl]
  exact H6 hk k0 cur ts (by rw [hl, h3]; exact Nat.mul_le_mul_right k h1)⟩⟩
end
instance : Inhabited Actor := ⟨⟨0, 0⟩⟩
instance : Inhabited Dot := ⟨⟨⟨0, 0⟩, 0⟩⟩
def yV (d : Dot) : List Value := [.int .i64 d.a.dev, .int .i64 d.a.inc, .int .i64 d.seq]
def qg (a : Actor) : List Value := [.int .i64 a.dev, .int .i64 a.inc]
theorem Ny : Go.Sort.SWO (ltOf mM) := by
 have e : ∀ x y, ltOf mM x y = dI x y := fun x y => y5 x y
 refine ⟨fun x => by rw [e]; exact dY x, fun x y z h k => ?_, fun x y z h k => ?_⟩
 ·rw [e] at h k ⊢; exact gU h k
 ·rw [e] at h k ⊢
  cases hh : dI x z with
  | false => rfl
  | true =>
    by_cases hxy : x = y
    ·subst hxy; rw [k] at hh; cases hh
    ·have h1 := nD hxy h
     have h2 := gU h1 hh
     rw [k] at h2; cases h2
theorem JE : Go.Sort.SWO (ltOf dQ) := by
 have e : ∀ x y, ltOf dQ x y = bP x y := fun x y => uj x y
 refine ⟨fun x => by rw [e]; exact iD x, fun x y z h k => ?_, fun x y z h k => ?_⟩
 ·rw [e] at h k ⊢; exact iT h k
 ·rw [e] at h k ⊢
  cases hh : bP x z with
  | false => rfl
  | true =>
    by_cases hxy : x = y
    ·subst hxy; rw [k] at hh; cases hh
    ·have h1 := kW hxy h
     have h2 := iT h1 hh
     rw [k] at h2; cases h2
theorem Gl (blk off size : Nat) (w : World) : CmpLays Tryz.prog 130 #[] yV 3 mM blk off size w :=
 fun _ _ _ _ x y => (EY x y _).mono fun _ _ ⟨he, hu⟩ => ⟨he, hu.grown⟩
theorem JG (base : Nat) (v : Value) (ks : List Dot) (w : World) (hown : w.ownsRow base 56 3 v ks.length (aW ks)) (hl : ks.length ≤ 1073741824) :
 Calls Tryz.prog 161 #[v, .func (.func 130) #[] #[]] w fun e w' => e = .returned (.tuple #[]) ∧ ∃ ts : List Dot, ts.Perm ks ∧ Go.Sort.SortedIn dI 0 ts.toArray.size ts.toArray ∧ w'.ownsRow base 56 3 v ks.length (aW ts) ∧ Fr (fun k => v.ownBlock = some k) w w' := by
 rcases hown.2 with ⟨rfl, hz⟩ | ⟨g, cap, cur, rfl, hbase, hgb, r1, r2, r3, r4⟩
 ·obtain rfl : ks = [] := List.eq_nil_of_length_eq_zero hz
  refine (AnyF.slices_SortFunc_none Tryz.sortDot none 0 _ w).mono ?_
  rintro e w' ⟨rfl, rfl⟩
  exact ⟨rfl, [], List.Perm.refl _, fun i j _ _ h => by simp at h, hown, Fr.refl _ _⟩
 ·have hH : Go.Sort.HoldsK yV 3 w g 0 ks.toArray := rQ (k := 3) (fun _ => rfl) (by decide) hgb r4
  have hgl : g < w.heap.size := (Array.getElem?_eq_some_iff.1 hgb).1
  have hc := AnyQ.slices_SortFunc Tryz.sortDot 3 Tryz.isAgg56 Tryz.sizeOf56 yV (fun _ => rfl) (fun x v hv => by simp [yV] at hv; rcases hv with rfl | rfl | rfl <;> rfl) mM Ny 130 #[] g 0 cap ks.toArray w (enters_of Tryz.func130 (by kernel_rfl) rfl) (Gl g 0 _ w) hH hgl (by simp; omega)
  rw [List.size_toArray] at hc
  refine hc.mono ?_
  rintro e w' ⟨rfl, d', n, os, ⟨p1, p2, p3⟩, hs, rfl⟩
  have hd : d' = d'.toList.toArray := by simp
  have hsz : d'.size = ks.length := by simpa using p1
  have hperm : d'.toList.Perm ks := by
   have := p3
   rwa [show d'.extract 0 ks.length = d' by rw [← hsz]; simp, show ks.toArray.extract 0 ks.length = ks.toArray by simp] at this
  refine ⟨rfl, d'.toList, hperm, ?_, ?_, ?_⟩
  ·have e : ltOf mM = dI := by funext x y; exact y5 x y
   rw [e] at hs
   simpa [hsz] using hs
  ·have h9 := nK (enc := yV) (k := 3) (ts := d'.toList) (ss := ks) (n := n) (os := os) (fun _ => rfl) (by decide) (by simpa using hsz) hbase hgb r1 r2 r3
   rw [← hd] at h9
   exact h9
  ·exact (yO d').mono fun k _ hk => by subst hk; rfl
theorem Cb (blk off size : Nat) (w : World) : CmpLays Tryz.prog 165 #[] qg 2 dQ blk off size w :=
 fun _ _ _ _ x y => (Ba x y _).mono fun _ _ ⟨he, hu⟩ => ⟨he, hu.grown⟩
theorem EX (base : Nat) (v : Value) (ks : List Actor) (w : World) (hown : w.ownsRow base 54 2 v ks.length (gZ ks)) (hl : ks.length ≤ 1073741824) :
 Calls Tryz.prog 194 #[v, .func (.func 165) #[] #[]] w fun e w' => e = .returned (.tuple #[]) ∧ ∃ ts : List Actor, ts.Perm ks ∧ Go.Sort.SortedIn bP 0 ts.toArray.size ts.toArray ∧ w'.ownsRow base 54 2 v ks.length (gZ ts) ∧ Fr (fun k => v.ownBlock = some k) w w' := by
 rcases hown.2 with ⟨rfl, hz⟩ | ⟨g, cap, cur, rfl, hbase, hgb, r1, r2, r3, r4⟩
 ·obtain rfl : ks = [] := List.eq_nil_of_length_eq_zero hz
  refine (AnyF.slices_SortFunc_none Tryz.sortActor none 0 _ w).mono ?_
  rintro e w' ⟨rfl, rfl⟩
  exact ⟨rfl, [], List.Perm.refl _, fun i j _ _ h => by simp at h, hown, Fr.refl _ _⟩
 ·have hH : Go.Sort.HoldsK qg 2 w g 0 ks.toArray := rQ (k := 2) (fun _ => rfl) (by decide) hgb r4
  have hgl : g < w.heap.size := (Array.getElem?_eq_some_iff.1 hgb).1
  have hc := AnyQ.slices_SortFunc Tryz.sortActor 2 Tryz.isAgg54 Tryz.sizeOf54 qg (fun _ => rfl) (fun x v hv => by simp [qg] at hv; rcases hv with rfl | rfl <;> rfl) dQ JE 165 #[] g 0 cap ks.toArray w (enters_of Tryz.func165 (by kernel_rfl) rfl) (Cb g 0 _ w) hH hgl (by simp; omega)
  rw [List.size_toArray] at hc
  refine hc.mono ?_
  rintro e w' ⟨rfl, d', n, os, ⟨p1, p2, p3⟩, hs, rfl⟩
  have hd : d' = d'.toList.toArray := by simp
  have hsz : d'.size = ks.length := by simpa using p1
  have hperm : d'.toList.Perm ks := by
   have := p3
   rwa [show d'.extract 0 ks.length = d' by rw [← hsz]; simp, show ks.toArray.extract 0 ks.length = ks.toArray by simp] at this
  refine ⟨rfl, d'.toList, hperm, ?_, ?_, ?_⟩
  ·have e : ltOf dQ = bP := by funext x y; exact uj x y
   rw [e] at hs
   simpa [hsz] using hs
  ·have h9 := nK (enc := qg) (k := 2) (ts := d'.toList) (ss := ks) (n := n) (os := os) (fun _ => rfl) (by decide) (by simpa using hsz) hbase hgb r1 r2 r3
   rw [← hd] at h9
   exact h9
  ·exact (yO d').mono fun k _ hk => by subst hk; rfl
end Go.Proofs.YtdlmbflhbecggaaGreat
/- The sorted keys of a map; dot.Sort. Conditions: at most 2^30 of them. -/
namespace Go.Proofs.YtdlmbflhbecggaaGreat
open Go.RowKit Go.Shelf
theorem Dy (mb : Option Nat) (w : World) : Calls Tryz.prog 129 #[.map mb] w fun e w' => e = .returned (.func (.func 162) #[] #[.pointer (some ⟨w.heap.size, 0, none⟩)]) ∧ w' = w.alloc (.cells #[.map mb] 105) := by
 go_enter Tryz.func129, Tryz.ntmps129
 go_wp2
 go_ret
 exact ⟨rfl, rfl⟩
theorem zi {β : Type} {vv : β → Value} (Bm b : Nat) (m : List (Dot × β)) (w : World) (hBm : Bm < w.heap.size) (hm : w.cell? ⟨Bm, 0, none⟩ = some (.map (some b))) (htab : Tab Tryz.prog 56 bY DotW vv w b m) (hN : m.length ≤ 1073741824) :
 Calls Tryz.prog 128 #[.func (.func 162) #[] #[.pointer (some ⟨Bm, 0, none⟩)], .func (.func 130) #[] #[]] w fun e w' => ∃ (v : Value) (ts : List Dot), e = .returned v ∧ ts.Perm (m.map (·.1)) ∧
  (ts.Pairwise fun x y => dI x y = true) ∧ w'.ownsRow w.heap.size 56 3 v ts.length (aW ts) ∧ (v = .slice none 0 0 ↔ ts = []) ∧ Below w.heap.size w w' := by
 have hnd : (m.map (·.1)).Nodup := by
  have := htab.apart
  exact List.pairwise_map.2 this
 have HAP := Lib.hid (callsIn_wide.1 (Jp 4 (by omega) Bm b m w hBm hm htab hN))
 have HC : Hid (Calls Tryz.prog 160 #[.func (.func 162) #[] #[.pointer (some ⟨Bm, 0, none⟩)]] w fun e w' => ∃ (v : Value) (ks : List Dot), e = .returned v ∧ ks.Perm (m.map (·.1)) ∧
  w'.ownsRow w.heap.size 56 3 v ks.length (aW ks) ∧ (v = .slice none 0 0 ↔ ks = []) ∧ Below w.heap.size w w') := by
  clear hm htab
  go_enter Tryz.func160, Tryz.ntmps160
  go_wp2_with (go_at_call 191; (with_reducible refine HAP.out.mono ?_); rintro e w1 ⟨v, ks, rfl, h1, h2, h3, h4⟩)
  go_ret
  exact ⟨v, ks, rfl, h1, h2, h3, h4⟩
 have HND := Lib.hid hnd
 have HN := Lib.hid hN
 clear hm htab hnd hN HAP
 go_enter Tryz.func128, Tryz.ntmps128
 go_upto_region 2 with (go_at_call 160; (with_reducible refine HC.out.mono ?_); rintro e w1 ⟨v, ks, rfl, hp, hown, hnil, hb⟩)
 have hlen : ks.length ≤ 1073741824 := by rw [hp.length_eq, List.length_map]; exact HN.out
 have HS := Lib.hid (JG w.heap.size v ks w1 hown hlen)
 have HP := Lib.hid (And.intro hp hnil)
 have HO := Lib.hid hown
 clear hp hnil hown hlen
 go_wp2_with (go_at_call 161; (with_reducible refine HS.out.mono ?_); rintro e w2 ⟨rfl, ts, hts, hsrt, hown2, hf2⟩)
 go_ret
 have hpm := hts.trans HP.out.1
 refine ⟨v, ts, rfl, hpm, ?_, by rw [hts.length_eq]; exact hown2, ?_, hb.trans (hf2.below hb.size (fun k hk => (HO.out.lt k hk).1))⟩
 ·have h5 := nI (lt := dI) (fun x y h k => nD h k) (d := ts.toArray) hsrt (by
   simp only []
   exact (hpm.nodup_iff).2 HND.out)
  simpa using h5
 ·rw [HP.out.2]
  constructor
  ·intro h; subst h; exact List.Perm.eq_nil hts
  ·intro h; subst h; exact (List.Perm.eq_nil hts.symm)
theorem zy (mb : Option Nat) (w : World) : Calls Tryz.prog 164 #[.map mb] w fun e w' => e = .returned (.func (.func 195) #[] #[.pointer (some ⟨w.heap.size, 0, none⟩)]) ∧ w' = w.alloc (.cells #[.map mb] 163) := by
 go_enter Tryz.func164, Tryz.ntmps164
 go_wp2
 go_ret
 exact ⟨rfl, rfl⟩
theorem wK {β : Type} {vv : β → Value} (Bm b : Nat) (m : List (Actor × β)) (w : World) (hBm : Bm < w.heap.size) (hm : w.cell? ⟨Bm, 0, none⟩ = some (.map (some b))) (htab : Tab Tryz.prog 54 fB ActW vv w b m) (hN : m.length ≤ 1073741824) :
 Calls Tryz.prog 163 #[.func (.func 195) #[] #[.pointer (some ⟨Bm, 0, none⟩)], .func (.func 165) #[] #[]] w fun e w' => ∃ (v : Value) (ts : List Actor), e = .returned v ∧ ts.Perm (m.map (·.1)) ∧
  (ts.Pairwise fun x y => bP x y = true) ∧ w'.ownsRow w.heap.size 54 2 v ts.length (gZ ts) ∧ (v = .slice none 0 0 ↔ ts = []) ∧ Below w.heap.size w w' := by
 have hnd : (m.map (·.1)).Nodup := by
  have := htab.apart
  exact List.pairwise_map.2 this
 have HAP := Lib.hid (callsIn_wide.1 (EF 4 (by omega) Bm b m w hBm hm htab hN))
 have HC : Hid (Calls Tryz.prog 193 #[.func (.func 195) #[] #[.pointer (some ⟨Bm, 0, none⟩)]] w fun e w' => ∃ (v : Value) (ks : List Actor), e = .returned v ∧ ks.Perm (m.map (·.1)) ∧
  w'.ownsRow w.heap.size 54 2 v ks.length (gZ ks) ∧ (v = .slice none 0 0 ↔ ks = []) ∧ Below w.heap.size w w') := by
  clear hm htab
  go_enter Tryz.func193, Tryz.ntmps193
  go_wp2_with (go_at_call 221; (with_reducible refine HAP.out.mono ?_); rintro e w1 ⟨v, ks, rfl, h1, h2, h3, h4⟩)
  go_ret
  exact ⟨v, ks, rfl, h1, h2, h3, h4⟩
 have HND := Lib.hid hnd
 have HN := Lib.hid hN
 clear hm htab hnd hN HAP
 go_enter Tryz.func163, Tryz.ntmps163
 go_upto_region 2 with (go_at_call 193; (with_reducible refine HC.out.mono ?_); rintro e w1 ⟨v, ks, rfl, hp, hown, hnil, hb⟩)
 have hlen : ks.length ≤ 1073741824 := by rw [hp.length_eq, List.length_map]; exact HN.out
 have HS := Lib.hid (EX w.heap.size v ks w1 hown hlen)
 have HP := Lib.hid (And.intro hp hnil)
 have HO := Lib.hid hown
 clear hp hnil hown hlen
 go_wp2_with (go_at_call 194; (with_reducible refine HS.out.mono ?_); rintro e w2 ⟨rfl, ts, hts, hsrt, hown2, hf2⟩)
 go_ret
 have hpm := hts.trans HP.out.1
 refine ⟨v, ts, rfl, hpm, ?_, by rw [hts.length_eq]; exact hown2, ?_, hb.trans (hf2.below hb.size (fun k hk => (HO.out.lt k hk).1))⟩
 ·have h5 := nI (lt := bP) (fun x y h k => kW h k) (d := ts.toArray) hsrt (by
   simp only []
   exact (hpm.nodup_iff).2 HND.out)
  simpa using h5
 ·rw [HP.out.2]
  constructor
  ·intro h; subst h; exact List.Perm.eq_nil hts
  ·intro h; subst h; exact (List.Perm.eq_nil hts.symm)
end Go.Proofs.YtdlmbflhbecggaaGreat
/- dot.Sort. Conditions: at most 2^30 dots. -/
namespace Go.Proofs.YtdlmbflhbecggaaGreat
open Go.RowKit Go.Shelf
theorem DotsIn.at {w : World} {a : Option Addr} {l : List Dot} (h : DotsIn w a l) {k : Nat} (hk : k < l.length) :
 ∃ A off, a = some ⟨A, off, none⟩ ∧ w.cell? ⟨A, off + k * 3, none⟩ = some (.int .i64 l[k].a.dev) ∧ w.cell? ⟨A, off + k * 3 + 1, none⟩ = some (.int .i64 l[k].a.inc) ∧ w.cell? ⟨A, off + k * 3 + 2, none⟩ = some (.int .i64 l[k].seq) := by
 rcases h with rfl | ⟨A, off, h1, h2⟩
 ·simp at hk
 ·exact ⟨A, off, h1, h2.dev k hk, h2.inc k hk, h2.seq k hk⟩
/-- a count goes up -/
theorem Tab.count {w : World} {b : Nat} {m : List (Dot × Int)} (h : Tab Tryz.prog 56 bY DotW jy w b m) (hl : m.length + 1 < maxLen) {d : Dot} (hd : DotW d) :
 ∃ (n : Int) (st : Nat) (w1 w2 : World) (m' : List (Dot × Int)), (Instr.lookup 105 (.map (some b)) (bY d) false).run Tryz.prog w = .ok (.int .i64 n) w ∧
   (Instr.lookup 105 (.map (some b)) (bY d) false).run Tryz.prog w1 = .ok (.int .i64 n) w1 ∧
   (∃ v0, (Instr.mapEntry 105 (.map (some b)) (bY d)).run Tryz.prog w = .ok (.tuple #[v0, .int .i64 (st : Int)]) w1) ∧ Fr (isR b) w w1 ∧
   (Instr.entryStore 105 (.map (some b)) (.int .i64 (st : Int)) (.int .i64 (IntKind.i64.wrap (n + 1)))).run Tryz.prog w1 = .ok () w2 ∧ Fr (isR b) w w2 ∧
   Tab Tryz.prog 56 bY DotW jy w2 b m' ∧ (∀ x, x ∈ m'.map (·.1) ↔ x = d ∨ x ∈ m.map (·.1)) ∧ m'.length ≤ m.length + 1 := by
 have hz : ∀ u : World, (zeroValue 3).run Tryz.prog u = .ok (.int .i64 0) u := fun u => by kernel_rfl
 have hkey := ja.lit hd
 have hown := h
 obtain ⟨D, hD, hTD⟩ := hown
 by_cases hm : ∃ c, (d, c) ∈ m
 ·obtain ⟨c, hc⟩ := hm
  obtain ⟨r, hr⟩ := kK hc
  have hlr := hr.length_eq
  have hlook := h.look_hit ja Tryz.underlying105 (hz w) hc false
  obtain ⟨w2, hrun2, yI, hf2⟩ := (h.perm hr).store_old ja Tryz.underlying105 (by simp at hlr; omega) (IntKind.i64.wrap (c + 1))
  rcases xZ ja.law hD Tryz.underlying105 hz hkey with ⟨v0, st, he, hs⟩ | ⟨st, w1, he, hu, hno, hs⟩
  ·refine ⟨c, st, w, w2, _, hlook, hlook, ⟨v0, he⟩, Fr.refl _ _, hs _ _ hrun2, hf2, yI, fun x => ?_, by simp at hlr ⊢; omega⟩
   rw [(hr.map (·.1)).mem_iff]
   simp
  ·exfalso
   have hst : (Instr.lookup 105 (.map (some b)) (bY d) true).run Tryz.prog w = .ok (.tuple #[.int .i64 c, .bool true]) w := h.look_hit ja Tryz.underlying105 (hz w) hc true
   rw [hno] at hst
   simp at hst
 ·have hn : ∀ p ∈ m, p.1 ≠ d := fun p hp e => hm ⟨p.2, by rw [← e]; exact hp⟩
  have hlook := h.look_miss ja Tryz.underlying105 (hz w) hd hn false
  obtain ⟨w2, hrun2, yI, hf2⟩ := h.store_new ja Tryz.underlying105 (by omega) hd hn (IntKind.i64.wrap (0 + 1))
  rcases xZ ja.law hD Tryz.underlying105 hz hkey with ⟨v0, st, he, hs⟩ | ⟨st, w1, he, hu, hno, hs⟩
  ·refine ⟨0, st, w, w2, _, hlook, hlook, ⟨v0, he⟩, Fr.refl _ _, hs _ _ hrun2, hf2, yI, fun x => ?_, by simp⟩
   simp
  ·obtain ⟨w3, hrun3, GX, hf3⟩ := h.store_new ja Tryz.underlying105 (by omega) hd hn 0
   obtain rfl : w1 = w3 := by
        have := hu.symm.trans hrun3
        cases this; rfl
   exact ⟨0, st, w1, w2, _, hlook, GX.look_hit ja Tryz.underlying105 (hz w1) (p := (d, 0)) List.mem_cons_self false, ⟨_, he⟩, hf3, hs _ _ hrun2, hf2, yI, fun x => by simp, by simp⟩
theorem vW (a : Option Addr) (cap : Nat) (l : List Dot) (w : World) (hl : l.length ≤ 1073741824) (hok : ∀ d ∈ l, DotW d) (hin : DotsIn w a l) :
 Calls Tryz.prog 88 #[.slice a l.length cap] w fun e w' => ∃ v, e = .returned v ∧ w'.ownsRow w.heap.size 56 3 v (sortD l).length (aW (sortD l)) ∧ (v = .slice none 0 0 ↔ sortD l = []) ∧ Below w.heap.size w w' := by
 have hmm := @run_makeMap Tryz.prog
 have HO := Lib.hid hok
 go_enter Tryz.func88, Tryz.ntmps88
 go_wp2
 go_loopw [9] (fun i wr => ∃ (k : Nat) (m : List (Dot × Int)), i = .int .i64 k ∧ k ≤ l.length ∧ Tab Tryz.prog 56 bY DotW jy wr w.heap.size m ∧ (∀ x, x ∈ m.map (·.1) ↔ x ∈ l.take k) ∧ m.length ≤ k ∧ Below w.heap.size w wr) (fun i _ => l.length - (intOf i).toNat)
 case atStart => exact ⟨0, [], rfl, Nat.zero_le _, Tab.made w, by simp, Nat.le_refl _, by go_grown⟩
 case round =>
  obtain ⟨k, m, rfl, hk, htab, hmem, hml, hbw⟩ := hrel
  have HM := Lib.hid hmem
  clear hmem
  by_cases hlt : k < l.length
  ·obtain ⟨A, off, rfl, e0, e1, e2⟩ := (hin.kept hbw).at hlt
   have hdw := hok _ (List.getElem_mem hlt)
   have HT : Hid (∀ x, x ∈ l.take (k + 1) ↔ x = l[k] ∨ x ∈ l.take k) := fun x => by
        rw [List.take_add_one, List.getElem?_eq_getElem hlt]
        show x ∈ l.take k ++ [l[k]] ↔ _
        rw [List.mem_append, List.mem_singleton]
        exact Or.comm
   have hzw := hbw.size
   generalize l[k] = d at e0 e1 e2 hdw HT
   go_upto_region 5 with fail
   refine au (fun W hW => ?_)
   have hb1 : Below wr.heap.size wr W := by rw [hW.out]; go_grown
   have x0 : W.drew.cell? ⟨wr.heap.size, 0, none⟩ = some (.int .i64 d.a.dev) := by rw [hW.out]; go_simp
   have x1 : W.drew.cell? ⟨wr.heap.size, 1, none⟩ = some (.int .i64 d.a.inc) := by rw [hW.out]; go_simp
   have x2 : W.drew.cell? ⟨wr.heap.size, 2, none⟩ = some (.int .i64 d.seq) := by rw [hW.out]; go_simp
   clear hW e0 e1 e2
   have hbd : Below w.heap.size w W.drew := hbw.trans (hb1.drew.mono hzw)
   have htw : Tab Tryz.prog 56 bY DotW jy W.drew w.heap.size m := (htab.kept hb1.drew)
   have hne : wr.heap.size ≠ w.heap.size := by have := htab.lt; omega
   obtain ⟨n, st, w1, w2, m', hl0, hl1, ⟨v0, he⟩, hf1, hs, hf2, yI, hm2, OX⟩ := htw.count (by unfold maxLen; omega) hdw
   have HR := Lib.hid (And.intro yI (And.intro hm2 OX))
   have y0 : w1.cell? ⟨wr.heap.size, 0, none⟩ = some (.int .i64 d.a.dev) := hf1.kept x0 hne
   have y1 : w1.cell? ⟨wr.heap.size, 1, none⟩ = some (.int .i64 d.a.inc) := hf1.kept x1 hne
   have y2 : w1.cell? ⟨wr.heap.size, 2, none⟩ = some (.int .i64 d.seq) := hf1.kept x2 hne
   have HF := Lib.hid (And.intro hf1 hf2)
   have hS := And.intro x0 (And.intro x1 (And.intro x2 hl0))
   have hS1 := And.intro y0 (And.intro y1 (And.intro y2 hl1))
   clear yI hm2 OX htw htab hf1 hf2 x0 x1 x2 y0 y1 y2 hl0 hl1 hb1
   refine wp_region_noPanic ?_
   refine dE (fun W' => W'.cell? ⟨wr.heap.size, 0, none⟩ = some (.int .i64 d.a.dev) ∧ W'.cell? ⟨wr.heap.size, 1, none⟩ = some (.int .i64 d.a.inc) ∧ W'.cell? ⟨wr.heap.size, 2, none⟩ = some (.int .i64 d.seq) ∧ (Instr.lookup 105 (.map (some w.heap.size)) (bY d) false).run Tryz.prog W' = .ok (.int .i64 n) W') [6] (by kernel_rfl) ?_
   refine aB (i := 0) (oi := ⟨some 13, _, _, _, _, _⟩) (v := ?_) rfl (by kernel_rfl) (by kernel_rfl) (by kernel_rfl) (by kernel_rfl) (by kernel_rfl) (fun _ _ _ h => h) (Or.inl ⟨by rfl, ?_⟩) (by assumption) ?_
   case refine_2 => (rintro w ⟨s0, s1, s2, s3⟩; go_simp; try with_reducible rfl)
   try simp only [pS]
   refine aB (i := 1) (oi := ⟨some 14, _, _, _, _, _⟩) (v := ?_) rfl (by kernel_rfl) (by kernel_rfl) (by kernel_rfl) (by kernel_rfl) (by kernel_rfl) (fun _ _ _ h => h) (Or.inl ⟨by rfl, ?_⟩) (by assumption) ?_
   case refine_2 => (rintro w ⟨s0, s1, s2, s3⟩; go_simp; try with_reducible rfl)
   try simp only [pS]
   refine aB (i := 2) (oi := ⟨some 15, _, _, _, _, _⟩) (v := ?_) rfl (by kernel_rfl) (by kernel_rfl) (by kernel_rfl) (by kernel_rfl) (by kernel_rfl) (fun _ _ _ h => h) (Or.inl ⟨by rfl, ?_⟩) (by assumption) ?_
   case refine_2 => (rintro w ⟨s0, s1, s2, s3⟩; go_simp; try with_reducible rfl)
   try simp only [pS]
   refine aB (i := 3) (oi := ⟨some 16, _, _, _, _, _⟩) (v := ?_) rfl (by kernel_rfl) (by kernel_rfl) (by kernel_rfl) (by kernel_rfl) (by kernel_rfl) (fun _ _ _ h => h) (Or.inl ⟨by rfl, ?_⟩) (by assumption) ?_
   case refine_2 => (rintro w ⟨s0, s1, s2, s3⟩; go_simp; try with_reducible rfl)
   try simp only [pS]
   refine cZ (i := 4) (o := ⟨some 17, _, _, _, _, _⟩) (by kernel_rfl) rfl ?_
   intro K hK
   go_simp
   refine hK.out _ _ (Or.inr (hS1)) ?_
   clear hK K
   try simp only [pS]
   refine cZ (i := 5) (o := ⟨some 18, _, _, _, _, _⟩) (by kernel_rfl) rfl ?_
   intro K hK
   go_simp
   refine hK.out _ _ (Or.inr (hS1)) ?_
   clear hK K
   try simp only [pS]
   refine cZ (i := 6) (o := ⟨none, _, _, _, _, _⟩) (by kernel_rfl) rfl ?_
   intro K hK
   go_simp
   refine hK.out _ _ (Or.inl (by kernel_rfl)) ?_
   clear hK K
   try simp only [pS]
   refine eU (by kernel_rfl) ?_ _
   refine NoPanic.normal ?_
   have HK := Lib.hid hlt
   clear hS hS1 he hs
   go_wp2
   go_roundw
   case rel => exact ⟨k + 1, m', by go_num, HK.out, HR.out.1, fun x => by rw [HR.out.2.1, HT.out, HM.out], by have := HR.out.2.2; omega, hbd.trans (HF.out.2.below hbd.size (fun j hj => by subst hj; exact Nat.le_refl _))⟩
   case measure => have := HK.out; simp [intOf] <;> omega
  ·obtain rfl : k = l.length := by omega
   have hM := HM.out
   rw [List.take_length] at hM
   have HMM := Lib.hid hM
   have hz := hbw.size
   have HS := Lib.hid (zi wr.heap.size w.heap.size m (wr.alloc (.cells #[.map (some w.heap.size)] 105)) (by simp) (Boxed.new wr _ _).cell (htab.kept ((Below.refl _ _).alloc (Nat.le_refl _) _)) (by omega))
   have HKS := Lib.hid (Dy (some w.heap.size) wr)
   clear htab hM
   go_wp2_with (first
        | (go_at_call 129; (with_reducible refine HKS.out.mono ?_); rintro e w1 ⟨rfl, rfl⟩)
        | (go_at_call 128; (with_reducible refine HS.out.mono ?_); rintro e w2 ⟨v, ts, rfl, hp, hsr, hown, hnil, hb2⟩))
   go_ret
   obtain rfl : ts = sortD l := xh hsr (jl l) fun x => by rw [hp.mem_iff, HMM.out, dC]
   exact ⟨v, rfl, lL hown (by simp; omega), hnil, hbw.trans (((Below.refl _ _).alloc (Nat.le_refl _) _).mono hz |>.trans (hb2.mono (by simp; omega)))⟩
end Go.Proofs.YtdlmbflhbecggaaGreat
