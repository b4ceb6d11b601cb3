/- The map of events: Apply. Conditions: as in the text. -/
import Derived.Test.YtohcmljigcdmbaaGreatOrmD
import Derived.Test.YtohcmljigcdmbaaGreatLoad
set_option linter.unusedSimpArgs false
set_option linter.unusedVariables false
set_option linter.unnecessarySimpa false
set_option maxHeartbeats 16000000
set_option maxRecDepth 100000
namespace Go.Proofs.YtohcmljigcdmbaaGreat
open Go.RowKit
def apOk (s : MS) (e : Ev) : Bool := evOk e && (!hasM s.ctx e.dot && (decide (getM s.ctx e.dot.a + 1 = e.dot.seq) && decide (s.K.length < 2048)))
def apErr (s : MS) (e : Ev) : Int := if evOk e = true then (if hasM s.ctx e.dot = true then 0 else if getM s.ctx e.dot.a + 1 = e.dot.seq then (if s.K.length < 2048 then 0 else 9) else 6) else 1
/-- the alive dots as soon as an event is kept -/
def pairs0 (s : MS) (e : Ev) : List (Key × Dot) := if e.kind = 1 ∧ e.dot ∉ s.dead then (e.key, e.dot) :: s.pairs else s.pairs
structure Applied (s : MS) (e : Ev) (s' : MS) : Prop where
 ctx : s'.ctx = setM s.ctx e.dot.a e.dot.seq
 kept : ∃ a c, s'.K.Perm ((e, a, c) :: s.K)
 dead : s'.dead = e.over.foldl (fun l d => addD d l) s.dead
 pairs : s'.pairs = e.over.foldl strike (pairs0 s e)
/-- what holds of every map -/
structure MInv (s : MS) : Prop where
 ctx : SrtM s.ctx
 ctxOk : ∀ d ∈ s.ctx, dotOk d = true
 kept : ∀ x ∈ s.K, evOk x.1 = true ∧ hasM s.ctx x.1.dot = true
 pairs : ∀ k d, (k, d) ∈ s.pairs ↔ ∃ x ∈ s.K, x.1.kind = 1 ∧ x.1.dot = d ∧ x.1.key = k ∧ d ∉ s.dead
 pnd : s.pairs.Nodup
 dead : ∀ d ∈ s.dead, dotOk d = true
 len : s.K.length ≤ 2048
/-- an event's dots lie in a block of dots -/
def TypD (w : World) (e : Ev) (a : Option Addr) : Prop := e.over = [] ∨ ∃ A off cs f, a = some ⟨A, off, none⟩ ∧ w.heap[A]? = some (.cells cs 25 f)
theorem TypD.kept {w w' : World} {e : Ev} {a : Option Addr} (h : TypD w e a) (hb : Below w.heap.size w w') : TypD w' e a := h.imp id fun ⟨A, off, cs, f, h1, h2⟩ => ⟨A, off, cs, f, h1, (hb.block A (lt_of_block h2)).trans h2⟩
def RetAp (m : Nat) (b : MB) (s : MS) (e : Ev) (w : World) (x : Ending) (w' : World) : Prop :=
 ∃ s', x = .returned (.tuple #[.bool (apOk s e), .int .i64 (apErr s e)]) ∧ MpIn w' m b s' ∧ Fr (foot b s.A) w w' ∧ (∀ k, foot b s'.A k → foot b s.A k ∨ w.heap.size ≤ k) ∧ (if apOk s e = true then Applied s e s' else s' = s)
theorem over_all {d : Dot} : ∀ {l : List Dot} {p : Option Dot}, overFrom d p l = true → ∀ x ∈ l, dotOk x = true
 | [], _, _, x, hx => by simp at hx
 | y :: l, p, h, x, hx => by
   unfold overFrom at h
   rw [Bool.and_eq_true] at h
   rcases List.mem_cons.1 hx with rfl | hx
   ·have := h.1
    unfold overOne at this
    rw [Bool.and_eq_true] at this
    exact this.1
   ·exact over_all h.2 x hx
theorem evOk_parts {e : Ev} (h : evOk e = true) : dotOk e.dot = true ∧ (∀ d ∈ e.over, dotOk d = true) ∧ e.over.length ≤ 64 ∧ KeyW e.key ∧ (e.kind = 1 ∨ e.kind = 2) := by
 unfold evOk at h
 simp only [Bool.and_eq_true, decide_eq_true_eq] at h
 obtain ⟨h1, _, _, h4, h5⟩ := h
 unfold overOk at h4
 simp only [Bool.and_eq_true, decide_eq_true_eq] at h4
 refine ⟨h1, over_all h4.2, h4.1, ?_⟩
 unfold kindOk at h5
 by_cases hk2 : e.kind = 2
 ·rw [if_pos hk2] at h5
  simp only [Bool.and_eq_true, decide_eq_true_eq] at h5
  obtain ⟨⟨h6, _⟩, _⟩ := h5
  rw [h6]
  exact ⟨⟨Nat.zero_le _, Nat.zero_le _, Nat.zero_le _⟩, Or.inr hk2⟩
 ·rw [if_neg hk2] at h5
  by_cases hk1 : e.kind = 1
  ·rw [if_pos hk1] at h5
   unfold itemOk pathOk plainOk canonical at h5
   simp only [Bool.and_eq_true, decide_eq_true_eq, bl_length] at h5
   obtain ⟨_, ⟨hn, _⟩, ⟨hv, _⟩, ⟨hd, _⟩, ⟨_, _, hp⟩, _⟩ := h5
   exact ⟨⟨by unfold maxLen; omega, by unfold maxLen; omega, by unfold maxLen; omega⟩, Or.inl hk1⟩
  ·rw [if_neg hk1] at h5
   cases h5
theorem nodup_len {α : Type} : ∀ {l m : List α}, l.Nodup → (∀ x ∈ l, x ∈ m) → l.length ≤ m.length
 | [], _, _, _ => Nat.zero_le _
 | x :: l, m, hn, hs => by
   obtain ⟨h1, h2⟩ := List.nodup_cons.1 hn
   obtain ⟨r, hr⟩ := perm_split (hs x List.mem_cons_self)
   have h3 : ∀ y ∈ l, y ∈ r := fun y hy => by
     rcases List.mem_cons.1 (hr.mem_iff.1 (hs y (List.mem_cons_of_mem _ hy))) with rfl | h
     ·exact absurd hy h1
     ·exact h
   have h4 := nodup_len h2 h3
   have h5 := hr.length_eq
   simp only [List.length_cons] at h5 ⊢
   omega
theorem foldAdd_len : ∀ (l dead : List Dot), (l.foldl (fun l d => addD d l) dead).length ≤ dead.length + l.length
 | [], dead => by simp
 | d :: l, dead => by
   have h1 := foldAdd_len l (addD d dead)
   have h2 : (addD d dead).length ≤ dead.length + 1 := by unfold addD; split <;> simp
   simp only [List.foldl_cons, List.length_cons]
   omega
theorem addD_mem {d x : Dot} {l : List Dot} : x ∈ addD d l ↔ x = d ∨ x ∈ l := by
 unfold addD
 split
 ·rename_i h
  constructor
  ·exact Or.inr
  ·rintro (rfl | h2)
   ·exact h
   ·exact h2
 ·exact List.mem_cons
theorem foldAdd_mem : ∀ {l dead : List Dot} {x : Dot}, x ∈ l.foldl (fun l d => addD d l) dead ↔ x ∈ l ∨ x ∈ dead
 | [], dead, x => by simp
 | d :: l, dead, x => by
   rw [List.foldl_cons, foldAdd_mem, addD_mem, List.mem_cons]
   constructor
   ·rintro (h | h | h)
    ·exact Or.inl (Or.inr h)
    ·exact Or.inl (Or.inl h)
    ·exact Or.inr h
   ·rintro ((h | h) | h)
    ·exact Or.inr (Or.inl h)
    ·exact Or.inl h
    ·exact Or.inr (Or.inr h)
theorem strike_mem {pairs : List (Key × Dot)} {d : Dot} {q : Key × Dot} : q ∈ strike pairs d ↔ q ∈ pairs ∧ q.2 ≠ d := by
 unfold strike
 rw [List.mem_filter, decide_eq_true_eq]
theorem foldStrike_mem : ∀ {l : List Dot} {P : List (Key × Dot)} {q : Key × Dot}, q ∈ l.foldl strike P ↔ q ∈ P ∧ q.2 ∉ l
 | [], P, q => by simp
 | d :: l, P, q => by
   rw [List.foldl_cons, foldStrike_mem, strike_mem, List.mem_cons]
   constructor
   ·rintro ⟨⟨h1, h2⟩, h3⟩
    exact ⟨h1, fun h => h.elim h2 h3⟩
   ·rintro ⟨h1, h2⟩
    exact ⟨⟨h1, fun h => h2 (Or.inl h)⟩, fun h => h2 (Or.inr h)⟩
theorem foldStrike_nodup : ∀ (l : List Dot) {P : List (Key × Dot)}, P.Nodup → (l.foldl strike P).Nodup
 | [], _, h => h
 | _ :: l, _, h => foldStrike_nodup l (h.filter _)
theorem apOk_parts {s : MS} {e : Ev} (h : apOk s e = true) : evOk e = true ∧ hasM s.ctx e.dot = false ∧ getM s.ctx e.dot.a + 1 = e.dot.seq ∧ s.K.length < 2048 := by
 unfold apOk at h
 simpa using h
theorem hasM_set {l : List Dot} {e d : Dot} (hd : dotOk d = true) (he : getM l e.a + 1 = e.seq) : hasM (setM l e.a e.seq) d = (hasM l d || decide (d = e)) := by
 unfold hasM
 rw [hd, getM_set, Bool.true_and, Bool.true_and, Bool.eq_iff_iff]
 simp only [Bool.or_eq_true, decide_eq_true_eq]
 by_cases h : d.a = e.a
 ·rw [if_pos h]
  constructor
  ·intro h2
   by_cases h3 : d.seq = e.seq
   ·exact Or.inr (by cases d; cases e; simp_all)
   ·exact Or.inl (by rw [h]; omega)
  ·rintro (h2 | h2)
   ·rw [h] at h2; omega
   ·rw [h2]; omega
 ·rw [if_neg h]
  constructor
  ·exact Or.inl
  ·rintro (h2 | h2)
   ·exact h2
   ·exact absurd (by rw [h2]) h
theorem MInv.applied {s s' : MS} {e : Ev} (hi : MInv s) (h : apOk s e = true) (ha : Applied s e s') : MInv s' := by
 obtain ⟨h1, h2, h3, h4⟩ := apOk_parts h
 obtain ⟨p1, p2, p3, p4, p5⟩ := evOk_parts h1
 obtain ⟨a, c, hK⟩ := ha.kept
 have hold : ∀ x ∈ s.K, x.1.dot ≠ e.dot := fun x hx e2 => by
  have := (hi.kept x hx).2
  rw [e2, h2] at this
  cases this
 have hpe : ∀ k, (k, e.dot) ∉ s.pairs := fun k hk => by
  obtain ⟨x, hx, _, q, _⟩ := (hi.pairs _ _).1 hk
  exact hold x hx q
 refine ⟨by rw [ha.ctx]; exact setM_srt hi.ctx, fun d hd => ?_, fun x hx => ?_, fun k d => ?_, ?_, fun d hd => ?_, ?_⟩
 ·rw [ha.ctx] at hd
  rcases setM_mem hd with rfl | hd
  ·exact p1
  ·exact hi.ctxOk d hd
 ·rcases List.mem_cons.1 (hK.mem_iff.1 hx) with rfl | hx
  ·refine ⟨h1, ?_⟩
   rw [ha.ctx, hasM_set p1 h3]
   simp
  ·obtain ⟨q1, q2⟩ := hi.kept x hx
   refine ⟨q1, ?_⟩
   rw [ha.ctx, hasM_set (evOk_parts q1).1 h3, q2]
   rfl
 ·rw [ha.pairs, foldStrike_mem, ha.dead, foldAdd_mem]
  unfold pairs0
  by_cases hp : e.kind = 1 ∧ e.dot ∉ s.dead
  ·rw [if_pos hp, List.mem_cons]
   constructor
   ·rintro ⟨hq | hq, hno⟩
    ·simp only [Prod.mk.injEq] at hq
     obtain ⟨rfl, rfl⟩ := hq
     exact ⟨(e, a, c), hK.mem_iff.2 List.mem_cons_self, hp.1, rfl, rfl, fun h => h.elim hno hp.2⟩
    ·obtain ⟨x, hx, y1, y2, y3, y4⟩ := (hi.pairs _ _).1 hq
     exact ⟨x, hK.mem_iff.2 (List.mem_cons_of_mem _ hx), y1, y2, y3, fun h => h.elim hno y4⟩
   ·rintro ⟨x, hx, y1, y2, y3, y4⟩
    refine ⟨?_, fun h => y4 (Or.inl h)⟩
    rcases List.mem_cons.1 (hK.mem_iff.1 hx) with rfl | hx
    ·exact Or.inl (by rw [← y2, ← y3])
    ·exact Or.inr ((hi.pairs _ _).2 ⟨x, hx, y1, y2, y3, fun h => y4 (Or.inr h)⟩)
  ·rw [if_neg hp]
   constructor
   ·rintro ⟨hq, hno⟩
    obtain ⟨x, hx, y1, y2, y3, y4⟩ := (hi.pairs _ _).1 hq
    exact ⟨x, hK.mem_iff.2 (List.mem_cons_of_mem _ hx), y1, y2, y3, fun h => h.elim hno y4⟩
   ·rintro ⟨x, hx, y1, y2, y3, y4⟩
    refine ⟨?_, fun h => y4 (Or.inl h)⟩
    rcases List.mem_cons.1 (hK.mem_iff.1 hx) with rfl | hx
    ·exact absurd ⟨y1, fun h => y4 (Or.inr (by rw [← y2]; exact h))⟩ hp
    ·exact (hi.pairs _ _).2 ⟨x, hx, y1, y2, y3, fun h => y4 (Or.inr h)⟩
 ·rw [ha.pairs]
  apply foldStrike_nodup
  unfold pairs0
  split
  ·exact List.nodup_cons.2 ⟨hpe _, hi.pnd⟩
  ·exact hi.pnd
 ·rw [ha.dead, foldAdd_mem] at hd
  rcases hd with hd | hd
  ·exact p2 d hd
  ·exact hi.dead d hd
 ·rw [hK.length_eq]
  simp only [List.length_cons]
  omega
theorem MInv.empty : MInv MS.empty := ⟨List.Pairwise.nil, fun d hd => (nomatch hd), fun x hx => (nomatch hx), fun k d => ⟨fun h => (nomatch h), fun ⟨x, hx, _⟩ => (nomatch hx)⟩, List.nodup_nil, fun d hd => (nomatch hd), Nat.zero_le _⟩
/-- behind Apply, whatever was answered -/
theorem RetAp.inv {m : Nat} {b : MB} {s s' : MS} {e : Ev} (hi : MInv s) (h : if apOk s e = true then Applied s e s' else s' = s) : MInv s' := by
 split at h
 ·rename_i h1; exact hi.applied h1 h
 ·rw [h]; exact hi
theorem RetAp.sizes {s s' : MS} {e : Ev} (h : if apOk s e = true then Applied s e s' else s' = s) : s'.ctx.length ≤ s.ctx.length + 1 ∧ s'.dead.length ≤ s.dead.length + 64 := by
 split at h
 ·rename_i h1
  have h2 := (evOk_parts (apOk_parts h1).1).2.2.1
  rw [h.ctx, h.dead]
  have h3 := setM_length s.ctx e.dot.a e.dot.seq
  have h4 := foldAdd_len e.over s.dead
  omega
 ·rw [h]; omega
end Go.Proofs.YtohcmljigcdmbaaGreat
