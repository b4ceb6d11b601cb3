/- The orders of dots and actors as functions for a sort: what they leave behind. Conditions: none. -/
import Derived.Test.YtohmadchgacafaaKeys
import Derived.Sort.Grow
import Derived.Deep.Draws
import Derived.Test.YtohmadchgacafaaVec
import Derived.Sort.Statements
import Derived.Shelf.SlSortCmp.Insertion
set_option linter.unusedSimpArgs false
set_option linter.unusedVariables false
set_option linter.unnecessarySimpa false
namespace Go.Proofs.Ytohmadchgacafaa
open Go.RowKit

/-- nothing that was there has turned; draws alone -/
structure Up (w w' : World) : Prop where
  below : Below w.heap.size w w'
  drawn : w.drawn ≤ w'.drawn
theorem Up.grown {w w' : World} (h : Up w w') : ∃ q os, w' = Go.Sort.grow (w.drewN q) os := by
  obtain ⟨⟨h1, h2, h3, h4, h5⟩, h6⟩ := h
  refine ⟨w'.drawn - w.drawn, w'.heap.extract w.heap.size w'.heap.size, ?_⟩
  obtain ⟨hp, tp, dr, os, out⟩ := w'
  obtain ⟨hp0, tp0, dr0, os0, out0⟩ := w
  simp only [Go.Sort.grow, World.drewN] at *
  subst h1 h2 h3
  simp only [World.mk.injEq, true_and, and_true]
  refine ⟨?_, by omega⟩
  apply Array.ext_getElem?
  intro k
  rw [Array.getElem?_append]
  split
  · rename_i hk; exact h5 k hk
  · rename_i hk
    rw [Array.getElem?_extract]
    split
    · congr 1; omega
    · rename_i hlt
      exact Array.getElem?_eq_none (by omega)
theorem Up.refl (w : World) : Up w w := ⟨Below.refl _ _, Nat.le_refl _⟩
theorem Up.trans {a b c : World} (h : Up a b) (k : Up b c) : Up a c := ⟨below2 h.below k.below, Nat.le_trans h.drawn k.drawn⟩

end Go.Proofs.Ytohmadchgacafaa

/- Sorted lists, plainly: dots each once; what a sort leaves. Conditions: none. -/
namespace Go.Proofs.Ytohmadchgacafaa

/-- strictly rising lists with the same members are one -/
theorem srt_ext {α : Type} {lt : α → α → Bool} (irr : ∀ x, lt x x = false) (tr : ∀ x y z, lt x y = true → lt y z = true → lt x z = true) :
    ∀ {l m : List α}, l.Pairwise (fun x y => lt x y = true) → m.Pairwise (fun x y => lt x y = true) → (∀ x, x ∈ l ↔ x ∈ m) → l = m
  | [], [], _, _, _ => rfl
  | [], b :: s, _, _, h => by have := (h b).2 (by simp); simp at this
  | a :: r, [], _, _, h => by have := (h a).1 (by simp); simp at this
  | a :: r, b :: s, h1, h2, h => by
    obtain ⟨a1, a2⟩ := List.pairwise_cons.1 h1
    obtain ⟨b1, b2⟩ := List.pairwise_cons.1 h2
    have hab : a = b := by
      rcases List.mem_cons.1 ((h a).1 (by simp)) with e | ha
      · exact e
      · rcases List.mem_cons.1 ((h b).2 (by simp)) with e | hb
        · exact e.symm
        · have := tr _ _ _ (a1 b hb) (b1 a ha)
          rw [irr] at this
          cases this
    subst hab
    rw [srt_ext irr tr a2 b2 (fun p => ⟨fun hp => by
      rcases List.mem_cons.1 ((h p).1 (by simp [hp])) with e | hp'
      · have := a1 p hp
        rw [e, irr] at this
        cases this
      · exact hp', fun hp => by
      rcases List.mem_cons.1 ((h p).2 (by simp [hp])) with e | hp'
      · have := b1 p hp
        rw [e, irr] at this
        cases this
      · exact hp'⟩)]

theorem dotLt_irrefl (d : Dot) : dotLt d d = false := by unfold dotLt actorLt; simp
theorem dotLt_trans {a b c : Dot} (h : dotLt a b = true) (k : dotLt b c = true) : dotLt a c = true := by
  unfold dotLt actorLt at *
  simp only [Bool.or_eq_true, Bool.and_eq_true, decide_eq_true_eq] at *
  omega
theorem dotLt_total {a b : Dot} (h : a ≠ b) (k : dotLt a b = false) : dotLt b a = true := by
  unfold dotLt actorLt at *
  simp only [Bool.or_eq_true, Bool.or_eq_false_iff, Bool.and_eq_true, Bool.and_eq_false_iff, decide_eq_true_eq, decide_eq_false_iff_not] at *
  have : ¬ (a.a.dev = b.a.dev ∧ a.a.inc = b.a.inc ∧ a.seq = b.seq) := fun e => h (by obtain ⟨⟨a1, a2⟩, a3⟩ := a; obtain ⟨⟨b1, b2⟩, b3⟩ := b; simp_all)
  omega
def SrtD (l : List Dot) : Prop := l.Pairwise fun x y => dotLt x y = true
/-- one dot more, in its place, once -/
def insD (d : Dot) : List Dot → List Dot
  | [] => [d]
  | x :: l => if dotLt x d = true then x :: insD d l else if x = d then x :: l else d :: x :: l
def sortD (l : List Dot) : List Dot := l.foldl (fun o d => insD d o) []
theorem insD_mem {d : Dot} : ∀ {l : List Dot} {x : Dot}, x ∈ insD d l ↔ x = d ∨ x ∈ l
  | [], x => by simp [insD]
  | y :: l, x => by
    unfold insD
    split
    · rw [List.mem_cons, insD_mem, List.mem_cons]
      constructor
      · rintro (h | h | h)
        · exact Or.inr (Or.inl h)
        · exact Or.inl h
        · exact Or.inr (Or.inr h)
      · rintro (h | h | h)
        · exact Or.inr (Or.inl h)
        · exact Or.inl h
        · exact Or.inr (Or.inr h)
    · split
      · rename_i h
        subst h
        simp
      · simp
theorem insD_srt {d : Dot} : ∀ {l : List Dot}, SrtD l → SrtD (insD d l)
  | [], _ => by simp [insD, SrtD]
  | x :: l, h => by
    obtain ⟨h1, h2⟩ := List.pairwise_cons.1 h
    unfold insD
    split
    · rename_i hlt
      refine List.pairwise_cons.2 ⟨fun y hy => ?_, insD_srt h2⟩
      rcases insD_mem.1 hy with rfl | hy
      · exact hlt
      · exact h1 y hy
    · rename_i hlt
      split
      · exact h
      · rename_i hne
        have hdx := dotLt_total hne (Bool.eq_false_iff.2 hlt)
        refine List.pairwise_cons.2 ⟨fun y hy => ?_, h⟩
        rcases List.mem_cons.1 hy with rfl | hy
        · exact hdx
        · exact dotLt_trans hdx (h1 y hy)
theorem foldD_srt : ∀ (l : List Dot) {o : List Dot}, SrtD o → SrtD (l.foldl (fun o d => insD d o) o)
  | [], _, h => h
  | _ :: l, _, h => foldD_srt l (insD_srt h)
theorem foldD_mem : ∀ (l : List Dot) {o : List Dot} {x : Dot}, x ∈ l.foldl (fun o d => insD d o) o ↔ x ∈ o ∨ x ∈ l
  | [], o, x => by simp
  | d :: l, o, x => by
    rw [List.foldl_cons, foldD_mem l, insD_mem, List.mem_cons]
    constructor
    · rintro ((h | h) | h)
      · exact Or.inr (Or.inl h)
      · exact Or.inl h
      · exact Or.inr (Or.inr h)
    · rintro (h | h | h)
      · exact Or.inl (Or.inr h)
      · exact Or.inl (Or.inl h)
      · exact Or.inr h
theorem sortD_srt (l : List Dot) : SrtD (sortD l) := foldD_srt l List.Pairwise.nil
theorem sortD_mem {l : List Dot} {x : Dot} : x ∈ sortD l ↔ x ∈ l := by unfold sortD; rw [foldD_mem]; simp
theorem srtD_ext {l m : List Dot} (h : SrtD l) (k : SrtD m) (e : ∀ x, x ∈ l ↔ x ∈ m) : l = m := srt_ext dotLt_irrefl (fun _ _ _ => dotLt_trans) h k e
theorem SrtD.nodup {l : List Dot} (h : SrtD l) : l.Nodup := h.imp fun {a b} hab e => by rw [e, dotLt_irrefl] at hab; cases hab
theorem sortD_self {l : List Dot} (h : SrtD l) : sortD l = l := srtD_ext (sortD_srt l) h fun _ => sortD_mem
theorem insD_length (d : Dot) : ∀ l : List Dot, (insD d l).length ≤ l.length + 1
  | [] => by simp [insD]
  | x :: l => by
    have := insD_length d l
    unfold insD
    split
    · simp only [List.length_cons]; omega
    · split <;> simp
theorem foldD_length : ∀ (l o : List Dot), (l.foldl (fun o d => insD d o) o).length ≤ o.length + l.length
  | [], o => by simp
  | d :: l, o => by
    have h1 := foldD_length l (insD d o)
    have h2 := insD_length d o
    simp only [List.foldl_cons, List.length_cons]
    omega
theorem sortD_length (l : List Dot) : (sortD l).length ≤ l.length := by have := foldD_length l []; simpa [sortD] using this

theorem cmpDot_iff (a b : Dot) : decide (cmpDot a b < 0) = dotLt a b := cmpDot_lt a b
theorem cmpActor_iff (a b : Actor) : decide (cmpActor a b < 0) = actorLt a b := by
  unfold cmpActor cmpI orI actorLt
  rw [Bool.eq_iff_iff]
  simp only [Bool.or_eq_true, Bool.and_eq_true, decide_eq_true_eq]
  repeat' split
  all_goals omega
/-- what a sort of unlike elements leaves is strictly rising -/
theorem sorted_strict {α : Type} [Inhabited α] {lt : α → α → Bool} (tot : ∀ x y, x ≠ y → lt x y = false → lt y x = true) {d : Array α} (h : Go.Sort.SortedIn lt 0 d.size d) (hn : d.toList.Nodup) : d.toList.Pairwise fun x y => lt x y = true := by
  rw [List.pairwise_iff_getElem]
  intro i j hi hj hij
  have hi' : i < d.size := by simpa using hi
  have hj' : j < d.size := by simpa using hj
  have h1 := h i j (Nat.zero_le _) hij hj'
  rw [getElem!_pos d j hj', getElem!_pos d i hi'] at h1
  have hne : d.toList[i] ≠ d.toList[j] := List.pairwise_iff_getElem.1 hn i j hi hj hij
  simp only [Array.getElem_toList] at hne ⊢
  exact tot _ _ hne.symm h1
end Go.Proofs.Ytohmadchgacafaa
