/- A clone of an event, its dots in memory of their own. Conditions: at most 2^30 dots. -/
import Derived.Test.YtdlmbflhbecggaaGreatLoad
import Derived.Test.YtdlmbflhbecggaaGreatEq
import Derived.OneCell
import Derived.Test.YtdlmbflhbecggaaGreatKit
import Derived.Lib.AppendStr
import Derived.IntWalk
import Derived.Test.YtdlmbflhbecggaaGreatWriter
import Derived.Test.YtdlmbflhbecggaaGreatEvs
set_option linter.unusedSimpArgs false
set_option linter.unusedVariables false
set_option linter.unnecessarySimpa false
set_option maxHeartbeats 16000000
set_option maxRecDepth 100000
namespace Go.Proofs.YtdlmbflhbecggaaGreat
open Go.RowKit
def aW (l : List Dot) : List Value := l.flatMap fun d => [.int .i64 d.a.dev, .int .i64 d.a.inc, .int .i64 d.seq]
theorem gq : ∀ l : List Dot, (aW l).length = l.length * 3
 | [] => rfl
 | d :: l => by
   have := gq l
   simp only [aW, List.flatMap_cons, List.length_append, List.length_cons, List.length_nil] at this ⊢
   omega
theorem Ei (l : List Dot) : ∀ u ∈ aW l, u.oneCell' = true := by
 intro u hu
 simp only [aW, List.mem_flatMap, List.mem_cons, List.not_mem_nil, or_false] at hu
 obtain ⟨d, _, rfl | rfl | rfl⟩ := hu <;> rfl
theorem gQ : ∀ (l : List Dot) (i : Nat) (h : i < l.length), (aW l)[i * 3]? = some (.int .i64 l[i].a.dev) ∧ (aW l)[i * 3 + 1]? = some (.int .i64 l[i].a.inc) ∧ (aW l)[i * 3 + 2]? = some (.int .i64 l[i].seq)
 | [], i, h => by simp at h
 | d :: l, 0, _ => by simp [aW]
 | d :: l, i + 1, h => by
   have ih := gQ l i (by simpa using h)
   have e : aW (d :: l) = [.int .i64 d.a.dev, .int .i64 d.a.inc, .int .i64 d.seq] ++ aW l := rfl
   rw [e, List.getElem?_append_right (by simp; omega), List.getElem?_append_right (by simp; omega), List.getElem?_append_right (by simp; omega)]
   simp only [List.length_cons, List.length_nil, List.getElem_cons_succ]
   rw [show (i + 1) * 3 - (0 + 1 + 1 + 1) = i * 3 by omega, show (i + 1) * 3 + 1 - (0 + 1 + 1 + 1) = i * 3 + 1 by omega, show (i + 1) * 3 + 2 - (0 + 1 + 1 + 1) = i * 3 + 2 by omega]
   exact ih
theorem DotsAt.news {w : World} {A off : Nat} {l : List Dot} (h : DotsAt w A off l) : ∀ j u, (aW l)[j]? = some u → w.cell? ((⟨A, off, none⟩ : Addr).add j) = some u := by
 intro j u hj
 have hlt : j < l.length * 3 := by
  have := (List.getElem?_eq_some_iff.1 hj).1
  rwa [gq] at this
 obtain ⟨g0, g1, g2⟩ := gQ l (j / 3) (by omega)
 rw [Addr.add_mid]
 have h3 : j = j / 3 * 3 ∨ j = j / 3 * 3 + 1 ∨ j = j / 3 * 3 + 2 := by omega
 rcases h3 with e | e | e
 ·rw [← e, hj] at g0
  have := h.dev (j / 3) (by omega)
  rw [← e] at this
  rw [this, g0]
 ·rw [← e, hj] at g1
  have := h.inc (j / 3) (by omega)
  rw [Nat.add_assoc, ← e] at this
  rw [this, g1]
 ·rw [← e, hj] at g2
  have := h.seq (j / 3) (by omega)
  rw [Nat.add_assoc, ← e] at this
  rw [this, g2]
/-- what hands back dots in memory of its own -/
def MQ (l : List Dot) (w : World) (e : Ending) (w' : World) : Prop :=
 ∃ v, e = .returned v ∧ w'.ownsRow w.heap.size 56 3 v l.length (aW l) ∧ Below w.heap.size w w'
theorem Tryz.infoDot : (Tryz.prog.info? 56).map (fun i => (i.zero, i.size, i.bytes)) = some (some (.agg #[.int .i64 0, .int .i64 0, .int .i64 0]), 3, 24) := by kernel_rfl
theorem fZ {w : World} {base : Nat} {v : Value} {l : List Dot} (h : w.ownsRow base 56 3 v l.length (aW l)) : ∃ a cap, v = .slice a l.length cap ∧ DotsIn w a l := by
 rcases h.2 with ⟨rfl, h0⟩ | ⟨g, cap, cur, rfl, _, hg, hn, _, hsz, htk⟩
 ·exact ⟨none, 0, by rw [h0], Or.inl (List.length_eq_zero_iff.1 h0)⟩
 ·have hcell : ∀ j u, (aW l)[j]? = some u → w.cell? ⟨g, j, none⟩ = some u := by
   intro j u hj
   rw [← htk, List.getElem?_take] at hj
   split at hj
   ·simp only [World.cell?, hg]
    simpa using hj
   ·cases hj
  refine ⟨_, cap, rfl, Or.inr ⟨g, 0, rfl, ⟨fun i hi => ?_, fun i hi => ?_, fun i hi => ?_⟩⟩⟩
  ·have := hcell _ _ (gQ l i hi).1; simpa using this
  ·have := hcell _ _ (gQ l i hi).2.1; simpa using this
  ·have := hcell _ _ (gQ l i hi).2.2; simpa using this
theorem zM (a : Option Addr) (cap : Nat) (l : List Dot) (w : World) (hl : l.length ≤ 1073741824) (hn : a = none → l = []) (h : DotsIn w a l) :
 Calls Tryz.prog 118 #[.slice a l.length cap] w (MQ l w) := by
 obtain ⟨i0, hi, hz0, hz1, hz2⟩ := info_parts Tryz.infoDot
 have hnil := fun (W : World) => Lib.run_eql_slice_nil (P := Tryz.prog) W 30 56 a l.length cap 0 0 Tryz.underlying30
 cases a with
 | none =>
   have hl0 : l = [] := hn rfl
   subst hl0
   simp only [List.length_nil] at hnil ⊢
   go_enter Tryz.func118, Tryz.ntmps118
   go_wp2
   go_ret
   exact ⟨_, rfl, World.ownsRow_nil _ _ _ _, Below.refl _ _⟩
 | some ad =>
   have hnews : ∀ j u, (aW l)[j]? = some u → w.cell? (ad.add j) = some u := by
    rcases h with rfl | ⟨A, off, h1, h2⟩
    ·intro j u hj; simp [aW] at hj
    ·obtain rfl : ad = ⟨A, off, none⟩ := by simpa using h1
     exact h2.news
   have HN : Hid (∀ j u, (aW l)[j]? = some u → (w.alloc (Obj.cells #[] 56)).cell? (ad.add j) = some u) := fun j u hj => kept ((Below.refl _ _).alloc (Nat.le_refl _) _) (hnews j u hj)
   have hown : (w.alloc (Obj.cells #[] 56)).ownsRow w.heap.size 56 3 (.slice (some ⟨w.heap.size, 0, none⟩) 0 0) 0 [] := World.ownsRow_made _ _ _ (Nat.le_refl _) (by decide) rfl
   have hbv := gq l
   clear hnews h hn
   go_enter Tryz.func118, Tryz.ntmps118
   go_wp2_with (at_builtin; go_loud (refine wpList_append_own _ rfl _ _ 30 rfl w.heap.size 56 i0 (.agg #[.int .i64 0, .int .i64 0, .int .i64 0]) 3 24 Tryz.underlying30 hi hz0 hz1 hz2 rfl (by decide) _ _ _ rfl hown ad l.length cap (aW l) rfl hbv HN.out (Ei l) (by unfold maxLen; omega) (by omega) (by simp) ?_))
   intro v' w2 hown2 hgrow _
   have hb2 := ((Below.refl w.heap.size w).alloc (Nat.le_refl _) (Obj.cells #[] 56)).grown hgrow (by simp) (fun k hk => (hown.lt k hk).1)
   go_wp2
   go_ret
   exact ⟨_, rfl, by simpa using hown2, hb2⟩
/-- behind event.Clone -/
def EJ (e : Ev) (w : World) (x : Ending) (w' : World) : Prop :=
 ∃ a cap, x = .returned (jF e a cap) ∧ w'.ownsRow w.heap.size 56 3 (.slice a e.over.length cap) e.over.length (aW e.over) ∧ Below w.heap.size w w'
theorem vV (e : Ev) (a : Option Addr) (cap : Nat) (w : World) (hl : e.over.length ≤ 1073741824) (hn : a = none → e.over = []) (h : DotsIn w a e.over) :
 Calls Tryz.prog 69 #[jF e a cap] w (EJ e w) := by
 have HC := Lib.hid (fun (W : World) (h : DotsIn W a e.over) => zM a cap e.over W hl hn h)
 go_enter Tryz.func69, Tryz.ntmps69
 go_upto_region 1 with fail
 refine au (fun W hW => ?_)
 have hbt : Below w.heap.size w W := by rw [hW.out]; go_grown
 have hz : W.heap.size = w.heap.size + 2 := by rw [hW.out]; simp
 have hR : W.rangeAt w.heap.size 0 (ag e a cap) := by rw [hW.out]; exact World.rangeAt_alloc (dP e a cap w _) _
 have hf : W.frozen? ⟨w.heap.size, 18, none⟩ = false := by rw [hW.out]; go_simp
 obtain ⟨C, hC, hCs⟩ : ∃ C : Array Value, W.heap[w.heap.size + 1]? = some (.cells C 64 (0, 0)) ∧ C.size = 19 := by rw [hW.out]; exact ⟨_, by simpa using heap_alloc_last (w.alloc _) _, rfl⟩
 have q18 := hR 18 _ rfl
 rw [Nat.zero_add] at q18
 have ho := h.kept hbt
 clear hW h hn
 go_upto_region 2 with (go_at_call 118; (with_reducible refine (HC.out _ ho).mono ?_); rintro x w1 ⟨v, rfl, hown, hb⟩; obtain ⟨a', cap', rfl, _⟩ := fZ hown; replace q18 := kept hb q18; replace hR := aj hR hb; replace hf : w1.frozen? ⟨w.heap.size, 18, none⟩ = false := (hb.frozen (p := ⟨w.heap.size, 18, none⟩) (by simp only; omega)).trans hf; replace hC := (hb.block (w.heap.size + 1) (by omega)).trans hC; have hz1 := hb.size; replace hbt := below2 hbt hb; clear hb)
 refine au (fun W2 hW2 => ?_)
 have hR2 : W2.rangeAt w.heap.size 0 (ag e a' cap') := by rw [hW2.out]; exact Ie hR
 have nN : Below w.heap.size w W2 := by rw [hW2.out]; exact hbt.setCell (by simp) _
 have hC2 : W2.heap[w.heap.size + 1]? = some (.cells C 64 (0, 0)) := by rw [hW2.out, heap_setCell_other _ _ _ _ (by simp)]; exact hC
 have hown2 : W2.ownsRow W.heap.size 56 3 (.slice a' e.over.length cap') e.over.length (aW e.over) := by rw [hW2.out]; exact jT hown (fun k hk => heap_setCell_other _ _ _ _ (by simp only; omega))
 clear hW2 hR hbt hC hown hf q18
 go_wp2_with (first
  | ((with_reducible refine aZ _ w.heap.size e a' cap' hR2 ?_ rfl ?_); exact rfl)
  | (refine wpList_store_row rfl 64 _ _ rfl (w.heap.size + 1) (ag e a' cap').toArray rfl rfl 64 C hC2 (by kernel_rfl) hCs (by kernel_rfl) ?_))
 refine dn 2 64 64 (w.heap.size + 1) (ag e a' cap').toArray _ rfl rfl (setRow_heap _ _ _ _ _ _ hC2) Tryz.underlying64 rfl (by kernel_rfl) rfl ?_
 exact ⟨a', cap', rfl, lL (jT hown2 (fun k hk => aI _ _ _ _ (by omega))) (by omega), below_setRow nN (by omega) _⟩
/-- slices of events of one's own -/
def aS (l : List bJ) : List Value := l.flatMap kN
theorem nz (x : Ev) (a : Option Addr) (cap : Nat) : (ag x a cap).length = 19 := rfl
theorem jg (l : List bJ) (x : bJ) : aS (l ++ [x]) = aS l ++ kN x := by simp [aS]
theorem dO (x : Ev) (a : Option Addr) (cap : Nat) : ∀ u ∈ ag x a cap, u.oneCell' = true := by
 intro u hu
 simp only [ag, List.mem_cons, List.not_mem_nil, or_false] at hu
 rcases hu with rfl | rfl | rfl | rfl | rfl | rfl | rfl | rfl | rfl | rfl | rfl | rfl | rfl | rfl | rfl | rfl | rfl | rfl | rfl <;> rfl
theorem tZ : ∀ (l : List bJ) (i j : Nat) (u : Value) (hi : i < l.length), (kN l[i])[j]? = some u → (aS l)[i * 19 + j]? = some u
 | [], i, _, _, hi, _ => by simp at hi
 | x :: r, i, j, u, hi, h => by
   have e : aS (x :: r) = kN x ++ aS r := by simp [aS]
   have hj : j < 19 := by
     have := (List.getElem?_eq_some_iff.1 h).1
     rwa [nz] at this
   rw [e]
   cases i with
   | zero =>
     rw [List.getElem?_append_left (by rw [nz]; omega)]
     simpa using h
   | succ i =>
     rw [List.getElem?_append_right (by rw [nz]; omega), nz, show (i + 1) * 19 + j - 19 = i * 19 + j by omega]
     exact tZ r i j u (by simpa using hi) (by simpa using h)
theorem jV {w : World} {base : Nat} {t : TypeId} {v : Value} {ls : List bJ} (h : w.ownsRow base t 19 v ls.length (aS ls)) (hd : ∀ x ∈ ls, DotsIn w x.2.1 x.1.over) : ∃ a cap, v = .slice a ls.length cap ∧ EvsIn w a ls := by
 rcases h.2 with ⟨rfl, hn⟩ | ⟨g, cap, cur, hv, rest⟩
 ·have : ls = [] := List.length_eq_zero_iff.1 hn
  subst this
  exact ⟨none, 0, rfl, ⟨Or.inl rfl, hd⟩⟩
 ·refine ⟨some ⟨g, 0, none⟩, cap, hv, ⟨Or.inr ⟨g, 0, rfl, fun i hi j u hu => ?_⟩, hd⟩⟩
  have := World.ownsRow.cells (g := g) h (by rw [hv]; rfl) (i * 19 + j) u (tZ ls i j u hi hu)
  rw [Addr.add_mid, Nat.zero_add] at this
  rwa [Nat.zero_add]
theorem qG (w : World) (x : Ev) (a : Option Addr) (c : Nat) (t : TypeId) : ∀ j u, (ag x a c)[j]? = some u → (w.alloc (Obj.cells (ag x a c).toArray t)).cell? ((⟨w.heap.size, 0, none⟩ : Addr).add j) = some u := by
 intro j u hj
 rw [Addr.add_mid, Nat.zero_add, World.cell?_alloc_new]
 simpa using hj
theorem Tryz.infoEv : (Tryz.prog.info? 64).map (fun i => (i.zero, i.size, i.bytes)) = some (some (.agg (ag ev0 none 0).toArray), 19, 176) := by kernel_rfl
/-- events that grow in a row of one's own, each one's dots in a row of dots -/
structure EvsGr (base : Nat) (v : Value) (ls : List bJ) (W : World) : Prop where
 own : W.ownsRow base 64 19 v ls.length (aS ls)
 dots : ∀ x ∈ ls, DotsIn W x.2.1 x.1.over
 typ : ∀ x ∈ ls, x.1.over = [] ∨ ∃ A off cs f, x.2.1 = some ⟨A, off, none⟩ ∧ W.heap[A]? = some (.cells cs 56 f)
theorem EvsGr.nil (base : Nat) (W : World) : EvsGr base (.slice none 0 0) [] W := ⟨World.ownsRow_nil _ _ _ _, fun x hx => (nomatch hx), fun x hx => (nomatch hx)⟩
theorem EvsGr.kept {base : Nat} {v : Value} {ls : List bJ} {w w' : World} (h : EvsGr base v ls w) (hb : Below w.heap.size w w') : EvsGr base v ls w' :=
 ⟨ownsRow_below h.own hb, fun x hx => (h.dots x hx).kept hb, fun x hx => (h.typ x hx).imp id fun ⟨A, off, cs, f, h1, h2⟩ => ⟨A, off, cs, f, h1, (hb.block A (lt_of_block h2)).trans h2⟩⟩
theorem EvsGr.app {base : Nat} {v v2 : Value} {ls : List bJ} {x : bJ} {w w2 : World} (h : EvsGr base v ls w) (hown : w2.ownsRow base 64 19 v2 (ls.length + 1) (aS ls ++ kN x)) (hg : w.grownBy w2 v.ownBlock)
 (hd : DotsIn w x.2.1 x.1.over) (ht : x.1.over = [] ∨ ∃ A off cs f, x.2.1 = some ⟨A, off, none⟩ ∧ w.heap[A]? = some (.cells cs 56 f)) : EvsGr base v2 (ls ++ [x]) w2 := by
 have hne : ∀ (A : Nat) (cs : Array Value) (f : Nat × Nat), w.heap[A]? = some (Obj.cells cs 56 f) → w2.heap[A]? = w.heap[A]? := fun A cs f hA => hg.block A (lt_of_block hA) (fun e => by
  rcases h.own.2 with ⟨rfl, _⟩ | ⟨g, cap, cur, rfl, _, hgb, _⟩
  ·simp [Value.ownBlock] at e
  ·obtain rfl : A = g := by simpa [Value.ownBlock] using e
   rw [hA] at hgb
   simp only [Option.some.injEq, Obj.cells.injEq] at hgb
   exact absurd hgb.2.1 (by decide))
 have key : ∀ y : bJ, DotsIn w y.2.1 y.1.over → (y.1.over = [] ∨ ∃ A off cs f, y.2.1 = some ⟨A, off, none⟩ ∧ w.heap[A]? = some (.cells cs 56 f)) → DotsIn w2 y.2.1 y.1.over ∧ (y.1.over = [] ∨ ∃ A off cs f, y.2.1 = some ⟨A, off, none⟩ ∧ w2.heap[A]? = some (.cells cs 56 f)) := by
  intro y h1 h2
  rcases h2 with h2 | ⟨A, off, cs, f, h3, h4⟩
  ·exact ⟨Or.inl h2, Or.inl h2⟩
  ·have hE := hne A cs f h4
   refine ⟨?_, Or.inr ⟨A, off, cs, f, h3, hE.trans h4⟩⟩
   rcases h1 with h1 | ⟨A', off', h5, h6⟩
   ·exact Or.inl h1
   ·rw [h3] at h5
    simp only [Option.some.injEq, Addr.mk.injEq, and_true] at h5
    obtain ⟨rfl, rfl⟩ := h5
    exact Or.inr ⟨A, off, h3, ⟨fun i hi => (World.cell?_of_block hE).trans (h6.dev i hi), fun i hi => (World.cell?_of_block hE).trans (h6.inc i hi), fun i hi => (World.cell?_of_block hE).trans (h6.seq i hi)⟩⟩
 have hall : ∀ y ∈ ls ++ [x], _ := fun y hy => key y (by
  rcases List.mem_append.1 hy with hy | hy
  ·exact h.dots y hy
  ·simp only [List.mem_singleton] at hy; subst hy; exact hd) (by
  rcases List.mem_append.1 hy with hy | hy
  ·exact h.typ y hy
  ·simp only [List.mem_singleton] at hy; subst hy; exact ht)
 exact ⟨by rw [jg, List.length_append]; exact hown, fun y hy => (hall y hy).1, fun y hy => (hall y hy).2⟩
theorem EvsGr.evs {base : Nat} {v : Value} {ls : List bJ} {w : World} (h : EvsGr base v ls w) : ∃ a cap, v = .slice a ls.length cap ∧ EvsIn w a ls := jV h.own h.dots
/-- a row of dots of one's own: its block's type -/
theorem LC {w : World} {base c n : Nat} {a : Option Addr} {l : List Dot} (h : w.ownsRow base 56 3 (.slice a n c) n (aW l)) (hn : n = l.length) : DotsIn w a l ∧ (l = [] ∨ ∃ A off cs f, a = some ⟨A, off, none⟩ ∧ w.heap[A]? = some (.cells cs 56 f)) := by
 subst hn
 obtain ⟨a', c', he, hd⟩ := fZ h
 simp only [Value.slice.injEq] at he
 refine ⟨by rw [he.1]; exact hd, ?_⟩
 rcases h.2 with ⟨_, h0⟩ | ⟨g, cap, cur, hv, _, hg, _⟩
 ·exact Or.inl (List.length_eq_zero_iff.1 h0)
 ·simp only [Value.slice.injEq] at hv
  exact Or.inr ⟨g, 0, cur, _, hv.1, hg⟩
end Go.Proofs.YtdlmbflhbecggaaGreat
