/- The orders of dots and actors as functions for a sort: what they leave behind. Conditions: none. -/
import Derived.Test.YtdlmbflhbecggaaGreatKeys
import Derived.Sort.Grow
import Derived.Deep.Draws
import Derived.Test.YtdlmbflhbecggaaGreatVec
import Derived.Sort.Statements
import Derived.Shelf.SlSortCmp.Insertion
set_option linter.unusedSimpArgs false
set_option linter.unusedVariables false
set_option linter.unnecessarySimpa false
set_option maxHeartbeats 16000000
set_option maxRecDepth 100000
namespace Go.Proofs.YtdlmbflhbecggaaGreat
open Go.RowKit
/-- nothing that was there has turned; draws alone -/
structure Up (w w' : World) : Prop where
 below : Below w.heap.size w w'
 drawn : w.drawn ≤ w'.drawn
theorem Up.grown {w w' : World} (h : Up w w') : ∃ q os, w' = Go.Sort.grow (w.drewN q) os := by
 obtain ⟨⟨h1, h2, h3, h4, h5⟩, h6⟩ := h
 refine ⟨w'.drawn - w.drawn, w'.heap.extract w.heap.size w'.heap.size, ?_⟩
 obtain ⟨hp, tp, dr, os, out⟩ := w'
 obtain ⟨hp0, tp0, dr0, os0, TA⟩ := w
 simp only [Go.Sort.grow, World.drewN] at *
 subst h1 h2 h3
 simp only [World.mk.injEq, true_and, and_true]
 refine ⟨?_, by omega⟩
 apply Array.ext_getElem?
 intro k
 rw [Array.getElem?_append]
 split
 ·rename_i hk; exact h5 k hk
 ·rename_i hk
  rw [Array.getElem?_extract]
  split
  ·congr 1; omega
  ·rename_i hlt
   exact Array.getElem?_eq_none (by omega)
theorem Up.refl (w : World) : Up w w := ⟨Below.refl _ _, Nat.le_refl _⟩
theorem Up.trans {a b c : World} (h : Up a b) (k : Up b c) : Up a c := ⟨below2 h.below k.below, Nat.le_trans h.drawn k.drawn⟩
theorem xg (a b : Actor) (w : World) :
 Calls Tryz.prog 109 #[.agg #[.int .i64 a.dev, .int .i64 a.inc], .agg #[.int .i64 b.dev, .int .i64 b.inc]] w fun e w' => e = .returned (.int .i64 (ed a b)) ∧ Up w w' := by
 go_enter Tryz.func109, Tryz.ntmps109
 go_wp2
 go_region_held3 (fun w' => w'.cell? ⟨w.heap.size, 0, none⟩ = some (.int .i64 a.dev) ∧ w'.cell? ⟨w.heap.size, 1, none⟩ = some (.int .i64 a.inc) ∧ w'.cell? ⟨w.heap.size+1, 0, none⟩ = some (.int .i64 b.dev) ∧ w'.cell? ⟨w.heap.size+1, 1, none⟩ = some (.int .i64 b.inc)) (go_keep)
  (first
   | (go_at_call 150; refine (kD _ _ _).mono ?_; rintro e w1 ⟨rfl, rfl⟩)
   | (go_at_call 149; go_call uX (lD a.dev b.dev) (lD a.inc b.inc) as e w1 ⟨rfl, rfl⟩))
 go_wp2
 go_ret
 exact ⟨rfl, by go_grown, Nat.le_succ _⟩
theorem LM (a b : Dot) (w : World) :
 Calls Tryz.prog 131 #[.agg #[.int .i64 a.a.dev, .int .i64 a.a.inc, .int .i64 a.seq], .agg #[.int .i64 b.a.dev, .int .i64 b.a.inc, .int .i64 b.seq]] w fun e w' => e = .returned (.int .i64 (mW a b)) ∧ Up w w' := by
 go_enter Tryz.func131, Tryz.ntmps131
 go_wp2
 go_region_held3 (fun w' => w'.cell? ⟨w.heap.size, 0, none⟩ = some (.int .i64 a.a.dev) ∧ w'.cell? ⟨w.heap.size, 1, none⟩ = some (.int .i64 a.a.inc) ∧ w'.cell? ⟨w.heap.size, 2, none⟩ = some (.int .i64 a.seq) ∧ w'.cell? ⟨w.heap.size+1, 0, none⟩ = some (.int .i64 b.a.dev) ∧ w'.cell? ⟨w.heap.size+1, 1, none⟩ = some (.int .i64 b.a.inc) ∧ w'.cell? ⟨w.heap.size+1, 2, none⟩ = some (.int .i64 b.seq)) (first | (refine ⟨?_, ?_, ?_, ?_, ?_, ?_⟩ <;> ((with_reducible refine kept hb ?_); simp [*]; done)) | go_keep)
  (first
   | (go_at_call 150; refine (kD _ _ _).mono ?_; rintro e w1 ⟨rfl, rfl⟩)
   | (go_at_call 109; refine (xg a.a b.a _).mono ?_; rintro e w1 ⟨rfl, hb, hd⟩)
   | (go_at_call 149; go_call uX (ed a.a b.a) (lD a.seq b.seq) as e w2 ⟨rfl, rfl⟩))
 go_wp2
 go_ret
 have h0 : Below w.heap.size w ((w.alloc (Obj.cells #[.int .i64 a.a.dev, .int .i64 a.a.inc, .int .i64 a.seq] 56)).alloc (Obj.cells #[.int .i64 b.a.dev, .int .i64 b.a.inc, .int .i64 b.seq] 56)).drew := by go_grown
 refine ⟨rfl, (h0.trans (hb.mono h0.size)).alloc (by have := (below2 h0 hb).size; omega) _, ?_⟩
 have hd' : w.drawn + 1 ≤ w1.drawn := hd
 show w.drawn ≤ w1.drawn
 omega
theorem Gn (a b : Dot) (w : World) : Calls Tryz.prog 130 #[bT a, bT b] w fun e w' => e = .returned (.int .i64 (mW a b)) ∧ Up w w' := by
 have HO := Lib.hid (fun X => LM a b X)
 go_enter Tryz.func130, Tryz.ntmps130
 go_wp2_with (go_at_call 131; (with_reducible refine (HO.out _).mono ?_); rintro e w1 ⟨rfl, hb⟩)
 go_ret
 exact ⟨rfl, below2 (by go_grown) hb.below, hb.drawn⟩
theorem CG (a b : Actor) (w : World) : Calls Tryz.prog 165 #[fA a, fA b] w fun e w' => e = .returned (.int .i64 (ed a b)) ∧ Up w w' := by
 have HO := Lib.hid (fun X => xg a b X)
 go_enter Tryz.func165, Tryz.ntmps165
 go_wp2_with (go_at_call 109; (with_reducible refine (HO.out _).mono ?_); rintro e w1 ⟨rfl, hb⟩)
 go_ret
 exact ⟨rfl, below2 (by go_grown) hb.below, hb.drawn⟩
end Go.Proofs.YtdlmbflhbecggaaGreat
/- Sorted lists, plainly: dots each once; what a sort leaves. Conditions: none. -/
namespace Go.Proofs.YtdlmbflhbecggaaGreat
/-- strictly rising lists with the same members are one -/
theorem xP {α : Type} {lt : α → α → Bool} (irr : ∀ x, lt x x = false) (tr : ∀ x y z, lt x y = true → lt y z = true → lt x z = true) :
 ∀ {l m : List α}, l.Pairwise (fun x y => lt x y = true) → m.Pairwise (fun x y => lt x y = true) → (∀ x, x ∈ l ↔ x ∈ m) → l = m
 | [], [], _, _, _ => rfl
 | [], b :: s, _, _, h => by have := (h b).2 (by simp); simp at this
 | a :: r, [], _, _, h => by have := (h a).1 (by simp); simp at this
 | a :: r, b :: s, h1, h2, h => by
   obtain ⟨a1, a2⟩ := List.pairwise_cons.1 h1
   obtain ⟨b1, b2⟩ := List.pairwise_cons.1 h2
   have hab : a = b := by
     rcases List.mem_cons.1 ((h a).1 (by simp)) with e | ha
     ·exact e
     ·rcases List.mem_cons.1 ((h b).2 (by simp)) with e | hb
      ·exact e.symm
      ·have := tr _ _ _ (a1 b hb) (b1 a ha)
       rw [irr] at this
       cases this
   subst hab
   rw [xP irr tr a2 b2 (fun p => ⟨fun hp => by
     rcases List.mem_cons.1 ((h p).1 (by simp [hp])) with e | hp'
     ·have := a1 p hp
      rw [e, irr] at this
      cases this
     ·exact hp', fun hp => by
     rcases List.mem_cons.1 ((h p).2 (by simp [hp])) with e | hp'
     ·have := b1 p hp
      rw [e, irr] at this
      cases this
     ·exact hp'⟩)]
theorem eG (d : Dot) : cZ d d = false := by unfold cZ bG; simp
theorem iO {a b c : Dot} (h : cZ a b = true) (k : cZ b c = true) : cZ a c = true := by
 unfold cZ bG at *
 simp only [Bool.or_eq_true, Bool.and_eq_true, decide_eq_true_eq] at *
 omega
theorem nM {a b : Dot} (h : a ≠ b) (k : cZ a b = false) : cZ b a = true := by
 unfold cZ bG at *
 simp only [Bool.or_eq_true, Bool.or_eq_false_iff, Bool.and_eq_true, Bool.and_eq_false_iff, decide_eq_true_eq, decide_eq_false_iff_not] at *
 have : ¬ (a.a.dev = b.a.dev ∧ a.a.inc = b.a.inc ∧ a.seq = b.seq) := fun e => h (by obtain ⟨⟨a1, a2⟩, a3⟩ := a; obtain ⟨⟨b1, b2⟩, b3⟩ := b; simp_all)
 omega
def SrtD (l : List Dot) : Prop := l.Pairwise fun x y => cZ x y = true
/-- one dot more, in its place, once -/
def jH (d : Dot) : List Dot → List Dot
 | [] => [d]
 | x :: l => if cZ x d = true then x :: jH d l else if x = d then x :: l else d :: x :: l
def sortD (l : List Dot) : List Dot := l.foldl (fun o d => jH d o) []
theorem z55 {p : Prop} (h : p := by
 rintro (h | h | h)
 ·exact Or.inr (Or.inl h)
 ·exact Or.inl h
 ·exact Or.inr (Or.inr h)) : p := h
theorem zB {d : Dot} : ∀ {l : List Dot} {x : Dot}, x ∈ jH d l ↔ x = d ∨ x ∈ l
 | [], x => by simp [jH]
 | y :: l, x => by
   unfold jH
   split
   ·rw [List.mem_cons, zB, List.mem_cons]
    constructor
    ·exact z55
    ·exact z55
   ·split
    ·rename_i h
     subst h
     simp
    ·simp
theorem ET {d : Dot} : ∀ {l : List Dot}, SrtD l → SrtD (jH d l)
 | [], _ => by simp [jH, SrtD]
 | x :: l, h => by
   obtain ⟨h1, h2⟩ := List.pairwise_cons.1 h
   unfold jH
   split
   ·rename_i hlt
    refine List.pairwise_cons.2 ⟨fun y hy => ?_, ET h2⟩
    rcases zB.1 hy with rfl | hy
    ·exact hlt
    ·exact h1 y hy
   ·rename_i hlt
    split
    ·exact h
    ·rename_i hne
     have hdx := nM hne (Bool.eq_false_iff.2 hlt)
     refine List.pairwise_cons.2 ⟨fun y hy => ?_, h⟩
     rcases List.mem_cons.1 hy with rfl | hy
     ·exact hdx
     ·exact iO hdx (h1 y hy)
theorem BG : ∀ (l : List Dot) {o : List Dot}, SrtD o → SrtD (l.foldl (fun o d => jH d o) o)
 | [], _, h => h
 | _ :: l, _, h => BG l (ET h)
theorem BH : ∀ (l : List Dot) {o : List Dot} {x : Dot}, x ∈ l.foldl (fun o d => jH d o) o ↔ x ∈ o ∨ x ∈ l
 | [], o, x => by simp
 | d :: l, o, x => by
   rw [List.foldl_cons, BH l, zB, List.mem_cons]
   constructor
   ·rintro ((h | h) | h)
    ·exact Or.inr (Or.inl h)
    ·exact Or.inl h
    ·exact Or.inr (Or.inr h)
   ·rintro (h | h | h)
    ·exact Or.inl (Or.inr h)
    ·exact Or.inl (Or.inl h)
    ·exact Or.inr h
theorem iI (l : List Dot) : SrtD (sortD l) := BG l List.Pairwise.nil
theorem df {l : List Dot} {x : Dot} : x ∈ sortD l ↔ x ∈ l := by unfold sortD; rw [BH]; simp
theorem yl {l m : List Dot} (h : SrtD l) (k : SrtD m) (e : ∀ x, x ∈ l ↔ x ∈ m) : l = m := xP eG (fun _ _ _ => iO) h k e
theorem SrtD.nodup {l : List Dot} (h : SrtD l) : l.Nodup := h.imp fun {a b} hab e => by rw [e, eG] at hab; cases hab
theorem Gp {l : List Dot} (h : SrtD l) : sortD l = l := yl (iI l) h fun _ => df
theorem wR (d : Dot) : ∀ l : List Dot, (jH d l).length ≤ l.length + 1
 | [] => by simp [jH]
 | x :: l => by
   have := wR d l
   unfold jH
   split
   ·simp only [List.length_cons]; omega
   ·split <;> simp
theorem uq : ∀ (l o : List Dot), (l.foldl (fun o d => jH d o) o).length ≤ o.length + l.length
 | [], o => by simp
 | d :: l, o => by
   have h1 := uq l (jH d o)
   have h2 := wR d o
   simp only [List.foldl_cons, List.length_cons]
   omega
theorem fG (l : List Dot) : (sortD l).length ≤ l.length := by have := uq l []; simpa [sortD] using this
theorem Ad (a b : Dot) : decide (mW a b < 0) = cZ a b := BU a b
theorem uG (a b : Actor) : decide (ed a b < 0) = bG a b := by
 unfold ed lD orI bG
 rw [Bool.eq_iff_iff]
 simp only [Bool.or_eq_true, Bool.and_eq_true, decide_eq_true_eq]
 repeat' split
 all_goals omega
/-- what a sort of unlike elements leaves is strictly rising -/
theorem nR {α : Type} [Inhabited α] {lt : α → α → Bool} (tot : ∀ x y, x ≠ y → lt x y = false → lt y x = true) {d : Array α} (h : Go.Sort.SortedIn lt 0 d.size d) (hn : d.toList.Nodup) : d.toList.Pairwise fun x y => lt x y = true := by
 rw [List.pairwise_iff_getElem]
 intro i j hi hj hij
 have hi' : i < d.size := by simpa using hi
 have hj' : j < d.size := by simpa using hj
 have h1 := h i j (Nat.zero_le _) hij hj'
 rw [getElem!_pos d j hj', getElem!_pos d i hi'] at h1
 have hne : d.toList[i] ≠ d.toList[j] := List.pairwise_iff_getElem.1 hn i j hi hj hij
 simp only [Array.getElem_toList] at hne ⊢
 exact tot _ _ hne.symm h1
end Go.Proofs.YtdlmbflhbecggaaGreat
