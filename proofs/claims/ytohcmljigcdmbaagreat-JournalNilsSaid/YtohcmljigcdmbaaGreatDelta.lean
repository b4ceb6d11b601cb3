/- The reference's marks and dots: Get, Has, Sort, Set. Conditions: at most 2^30 of them. -/
import Derived.Test.YtohcmljigcdmbaaGreatSrtK
import Derived.Test.YtohcmljigcdmbaaGreatVecD
import Derived.Test.YtohcmljigcdmbaaGreatOrmH
import Derived.Test.YtohcmljigcdmbaaGreatDStep
import Derived.OwnWalk
set_option linter.unusedSimpArgs false
set_option linter.unusedVariables false
set_option linter.unnecessarySimpa false
set_option maxHeartbeats 16000000
set_option maxRecDepth 100000
namespace Go.Proofs.YtohcmljigcdmbaaGreat
open Go.RowKit
/-! ### 17.Get -/
/-! ### 17.Has -/
/-! ### 16.Has -/
def rsetStep (x : Actor) (n : Int) (st : List Dot × Bool) (d : Dot) : List Dot × Bool :=
 ((if d.a = x then (if !st.2 && !actorLt d.a x then st.1 ++ [⟨x, n⟩] else st.1) else (if !st.2 && !actorLt d.a x then st.1 ++ [⟨x, n⟩] else st.1) ++ [d]), st.2 || !actorLt d.a x)
def rsetM (l : List Dot) (x : Actor) (n : Int) : List Dot :=
 if (l.foldl (rsetStep x n) ([], false)).2 = true then (l.foldl (rsetStep x n) ([], false)).1 else (l.foldl (rsetStep x n) ([], false)).1 ++ [⟨x, n⟩]
theorem rset_in (x : Actor) (n : Int) : ∀ (l o : List Dot), (∀ d ∈ l, actorLt x d.a = true) → l.foldl (rsetStep x n) (o, true) = (o ++ l, true)
 | [], o, _ => by simp
 | d :: l, o, h => by
   have h1 := h d List.mem_cons_self
   have h2 : d.a ≠ x := fun e => by rw [e, actorLt_irrefl] at h1; cases h1
   rw [List.foldl_cons]
   have : rsetStep x n (o, true) d = (o ++ [d], true) := by simp [rsetStep, h2]
   rw [this, rset_in x n l _ (fun e he => h e (List.mem_cons_of_mem _ he))]
   simp
theorem rset_out (x : Actor) (n : Int) : ∀ (l o : List Dot), SrtM l → (if (l.foldl (rsetStep x n) (o, false)).2 = true then (l.foldl (rsetStep x n) (o, false)).1 else (l.foldl (rsetStep x n) (o, false)).1 ++ [⟨x, n⟩]) = o ++ setM l x n
 | [], o, _ => by simp [setM]
 | d :: l, o, h => by
   obtain ⟨h1, h2⟩ := List.pairwise_cons.1 h
   rw [List.foldl_cons]
   by_cases hx : d.a = x
   ·have hs : rsetStep x n (o, false) d = (o ++ [⟨x, n⟩], true) := by simp [rsetStep, hx, actorLt_irrefl]
    rw [hs, rset_in x n l _ (fun e he => by rw [← hx]; exact h1 e he), if_pos rfl]
    unfold setM
    rw [if_pos hx]
    simp
   ·cases hl : actorLt d.a x with
    | true =>
      have hs : rsetStep x n (o, false) d = (o ++ [d], false) := by simp [rsetStep, hx, hl]
      rw [hs, rset_out x n l _ h2]
      rw [show setM (d :: l) x n = d :: setM l x n from by rw [setM, if_neg hx, if_pos hl]]
      simp
    | false =>
      have hs : rsetStep x n (o, false) d = (o ++ [⟨x, n⟩] ++ [d], true) := by simp [rsetStep, hx, hl]
      have hg := actorLt_total hx hl
      rw [hs, rset_in x n l _ (fun e he => actorLt_trans hg (h1 e he)), if_pos rfl]
      unfold setM
      rw [if_neg hx, if_neg (by rw [hl]; decide)]
      simp
theorem rsetM_srt {l : List Dot} (h : SrtM l) (x : Actor) (n : Int) : rsetM l x n = setM l x n := by
 have := rset_out x n l [] h
 unfold rsetM
 rw [this]
 rfl
theorem itEv_len (x : EvIt) : (itEv x).length = 19 := rfl
theorem EvsIn.cells {w : World} {a : Option Addr} {ls : List EvIt} (h : EvsIn w a ls) : CellsIn w a (evItCells ls) := by
 rcases h.rows with h1 | ⟨A, off, h1, h2⟩
 ·exact Or.inl (by rw [h1]; rfl)
 ·exact Or.inr ⟨A, off, h1, range_flat itEv 19 ls off fun i hi => ⟨itEv_len _, h2 i hi⟩⟩
/-- one event more, by its dot -/
def insE (e : Ev) : List Ev → List Ev
 | [] => [e]
 | x :: l => if dotLt x.dot e.dot = true then x :: insE e l else e :: x :: l
/-- the reference's map, plainly -/
structure RM where
 ctx : List Dot
 kept : List Ev
 dead : List Dot
/-- and with the addresses of its lists -/
structure RMIt where
 ac : Option Addr
 ctx : List Dot
 cc : Nat
 aK : Option Addr
 K : List EvIt
 cK : Nat
 ad : Option Addr
 dead : List Dot
 cd : Nat
def RMIt.rm (x : RMIt) : RM := ⟨x.ctx, evsOf x.K, x.dead⟩
structure RMIn (w : World) (x : RMIt) : Prop where
 ctx : DotsIn w x.ac x.ctx
 kept : EvsIn w x.aK x.K
 dead : DotsIn w x.ad x.dead
 cc : x.ctx.length ≤ x.cc
 cK : x.K.length ≤ x.cK
 cd : x.dead.length ≤ x.cd
theorem RMIn.keep {w w' : World} {x : RMIt} (h : RMIn w x) (hb : Below w.heap.size w w') : RMIn w' x := ⟨h.ctx.kept hb, h.kept.kept hb, h.dead.kept hb, h.cc, h.cK, h.cd⟩
structure RMSize (x : RMIt) : Prop where
 ctx : x.ctx.length ≤ 1048576
 K : x.K.length ≤ 524288
 dead : x.dead.length ≤ 524288
 ok : ∀ d ∈ x.ctx, dotOk d = true
def rmOk (r : RM) (e : Ev) : Bool := evOk e && (!hasM r.ctx e.dot && (decide (getM r.ctx e.dot.a + 1 = e.dot.seq) && decide (r.kept.length < 2048)))
def rmAp (r : RM) (e : Ev) : RM := if rmOk r e = true then ⟨rsetM r.ctx e.dot.a e.dot.seq, insE e r.kept, sortD (r.dead ++ e.over)⟩ else r
theorem MInv.marks {s : MS} (h : MInv s) (hl : s.ctx.length ≤ 4096) : marksErr s.ctx = 0 := by
 have key : ∀ (l : List Dot) (p : Option Dot), SrtM l → (∀ d ∈ l, dotOk d = true) → (∀ y, p = some y → ∀ d ∈ l, actorLt y.a d.a = true) → marksFrom p l = 0 := by
  intro l
  induction l with
  | nil => intro p _ _ _; rfl
  | cons x r ih =>
    intro p h1 h2 h3
    obtain ⟨h4, h5⟩ := List.pairwise_cons.1 h1
    unfold marksFrom
    rw [if_pos (h2 x List.mem_cons_self), if_pos]
    ·exact ih _ h5 (fun d hd => h2 d (List.mem_cons_of_mem _ hd)) (fun y hy d hd => by cases hy; exact h4 d hd)
    ·cases p with
     | none => rfl
     | some y => exact h3 y rfl x List.mem_cons_self
 unfold marksErr
 rw [if_neg (by omega)]
 exact key _ _ h.ctx h.ctxOk (fun y hy => (nomatch hy))
/-! ### a nil map -/
theorem MInv.overs {s : MS} (h : MInv s) : ∀ x ∈ s.K, x.1.over.length ≤ 64 := fun x hx => (evOk_parts (h.kept x hx).1).2.2.1
theorem MInv.dots {s : MS} (h : MInv s) : ∀ x ∈ s.K, DotW x.1.dot := fun x hx => dotOk_W (evOk_parts (h.kept x hx).1).1
/-- what the closure holds: the map's address, how many, the first error -/
structure MgBox (w : World) (m X Y Z : Nat) (n f : Int) : Prop where
 x : w.heap[X]? = some (.cells #[.pointer (some ⟨m, 0, none⟩)] 48 (0, 0))
 y : w.heap[Y]? = some (.cells #[.int .i64 n] 3 (0, 0))
 z : w.heap[Z]? = some (.cells #[.int .i64 f] 38 (0, 0))
 ne : X ≠ Y ∧ X ≠ Z ∧ Y ≠ Z
theorem MgBox.blocks {w w' : World} {m X Y Z : Nat} {n f : Int} (h : MgBox w m X Y Z n f) (hx : w'.heap[X]? = w.heap[X]?) (hy : w'.heap[Y]? = w.heap[Y]?) (hz : w'.heap[Z]? = w.heap[Z]?) : MgBox w' m X Y Z n f := ⟨hx.trans h.x, hy.trans h.y, hz.trans h.z, h.ne⟩
theorem MgBox.keeps {w w' : World} {m X Y Z : Nat} {n f : Int} (h : MgBox w m X Y Z n f) (hk : KeepsC w w') : MgBox w' m X Y Z n f := ⟨hk _ _ _ _ h.x, hk _ _ _ _ h.y, hk _ _ _ _ h.z, h.ne⟩
/-- events merged one after the other: the map behind them, how many were applied, the first error -/
inductive Merged (s : MS) : List Ev → MS → Nat → Int → Prop
 | nil : Merged s [] s 0 0
 | snoc {l : List Ev} {s1 s2 : MS} {n : Nat} {f : Int} {e : Ev} : Merged s l s1 n f → (if apOk s1 e = true then Applied s1 e s2 else s2 = s1) → Merged s (l ++ [e]) s2 (if apOk s1 e = true then n + 1 else n) (if f = 0 then apErr s1 e else f)
theorem Merged.facts {s : MS} {l : List Ev} {s' : MS} {n : Nat} {f : Int} (h : Merged s l s' n f) (hi : MInv s) : MInv s' ∧ s'.ctx.length ≤ s.ctx.length + l.length ∧ s'.dead.length ≤ s.dead.length + 64 * l.length ∧ n ≤ l.length := by
 induction h with
 | nil => exact ⟨hi, by simp, by simp, Nat.le_refl _⟩
 | snoc _ hap ih =>
   obtain ⟨i1, i2, i3, i4⟩ := ih
   obtain ⟨g1, g2⟩ := RetAp.sizes hap
   refine ⟨RetAp.inv (m := 0) (b := ⟨0, 0, 0, 0, 0⟩) i1 hap, ?_, ?_, ?_⟩
   ·simp only [List.length_append, List.length_cons, List.length_nil]; omega
   ·simp only [List.length_append, List.length_cons, List.length_nil]; omega
   ·simp only [List.length_append, List.length_cons, List.length_nil]; split <;> omega
theorem Merged.none {s s' : MS} {l : List Ev} {n : Nat} {f : Int} (h : Merged s l s' n f) (hl : l = []) : s' = s ∧ n = 0 ∧ f = 0 := by
 cases h with
 | nil => exact ⟨rfl, rfl, rfl⟩
 | snoc _ _ => simp at hl
theorem Merged.one {s s' : MS} {l : List Ev} {e : Ev} {n : Nat} {f : Int} (h : Merged s l s' n f) (hl : l = [e]) : (if apOk s e = true then Applied s e s' else s' = s) ∧ n = (if apOk s e = true then 1 else 0) ∧ f = apErr s e := by
 cases h with
 | nil => simp at hl
 | snoc h2 hap =>
   rename_i l2 s1 n2 f2 e2
   have h3 : l2 = [] ∧ e2 = e := by
    have h4 := congrArg List.length hl
    simp at h4
    subst h4
    simpa using hl
   obtain ⟨rfl, rfl⟩ := h3
   obtain ⟨rfl, rfl, rfl⟩ := h2.none rfl
   exact ⟨hap, by simp, by simp⟩
end Go.Proofs.YtohcmljigcdmbaaGreat
