/- The index in memory: what turns it. Conditions: none. -/
import Derived.Test.YtkklcpmbgfgcmaaGreatIxA
set_option linter.unusedSimpArgs false
set_option linter.unusedVariables false
set_option linter.unnecessarySimpa false
namespace Go.Proofs.YtkklcpmbgfgcmaaGreat
open Go.RowKit
variable {lo : Nat}
theorem snoc_inj {p q : Path} {s t : Bytes} (h : p ++ [s] = q ++ [t]) : p = q ∧ s = t := by
 have := List.append_inj' h rfl
 exact ⟨this.1, by simpa using this.2⟩
theorem snoc_ne (p : Path) (s : Bytes) : p ++ [s] ≠ p := fun e => by
 have := congrArg List.length e
 simp at this
theorem snoc_ne_nil (p : Path) (s : Bytes) : p ++ [s] ≠ [] := by simp
theorem three_set0 {w : World} {R : Nat} {x y z : Value} {t : TypeId} {f : Nat × Nat} (h : w.heap[R]? = some (.cells #[x, y, z] t f)) (v : Value) : (w.setCell ⟨R, 0, none⟩ v).heap[R]? = some (.cells #[v, y, z] t f) := by
 simp [World.setCell, Array.getElem?_modify, h]
theorem three_setI1 {w : World} {R : Nat} {x y z : Value} {t : TypeId} {f : Nat × Nat} (h : w.heap[R]? = some (.cells #[x, y, z] t f)) (v : Value) : (w.setCell ⟨R, 1, none⟩ v).heap[R]? = some (.cells #[x, v, z] t f) := by
 simp [World.setCell, Array.getElem?_modify, h]
theorem three_setI2 {w : World} {R : Nat} {x y z : Value} {t : TypeId} {f : Nat × Nat} (h : w.heap[R]? = some (.cells #[x, y, z] t f)) (v : Value) : (w.setCell ⟨R, 2, none⟩ v).heap[R]? = some (.cells #[x, y, v] t f) := by
 simp [World.setCell, Array.getElem?_modify, h]
section
variable {w w' : World} {x : Nat} {n : Int} {B : Nat} {T T' : Tree} {p : Path} {nd : Nd}
theorem NdIn.to (g : NdIn w T p nd B) (hc0 : w'.cell? ⟨nd.b, 0, none⟩ = w.cell? ⟨nd.b, 0, none⟩) (hc1 : w'.cell? ⟨nd.b, 1, none⟩ = w.cell? ⟨nd.b, 1, none⟩) (hits : IxFr lo w w')
 (hm : ∀ m, nd.mb = some m → w'.heap[m]? = w.heap[m]?) (hT : ∀ s, (T' (p ++ [s])).map (·.b) = (T (p ++ [s])).map (·.b)) : NdIn w' T' p nd B := by
 have hT1 : ∀ s, T (p ++ [s]) = none → T' (p ++ [s]) = none := fun s h => by
  have := hT s
  rw [h] at this
  simpa using this
 have hT2 : ∀ s c, T' (p ++ [s]) = some c → ∃ c', T (p ++ [s]) = some c' ∧ c'.b = c.b := fun s c h => by
  have := hT s
  rw [h, Option.map_some, eq_comm, Option.map_eq_some_iff] at this
  exact this
 have hT3 : ∀ s c, T (p ++ [s]) = some c → ∃ c', T' (p ++ [s]) = some c' ∧ c'.b = c.b := fun s c h => by
  have := hT s
  rw [h, Option.map_some, Option.map_eq_some_iff] at this
  exact this
 obtain ⟨a, cap, h1, h2, h3⟩ := g.its
 refine ⟨⟨a, cap, hc0.trans h1, h2, h3.ix hits⟩, hc1.trans g.bel, fun h s => hT1 s (g.no h s), fun m hm' => ?_⟩
 obtain ⟨t, g1, g2, g3, g4⟩ := g.tab m hm'
 refine ⟨t, g1.block (hm m hm'), g2, fun q hq => ?_, fun s c hc => ?_⟩
 ·obtain ⟨c, hc, hcb⟩ := g3 q hq
  obtain ⟨c', hc', hcb'⟩ := hT3 _ _ hc
  exact ⟨c', hc', hcb'.trans hcb⟩
 ·obtain ⟨c', hc', hcb'⟩ := hT2 _ _ hc
  rw [← hcb']
  exact g4 s c' hc'
/-- a node's items are others -/
theorem TrIn.setIts (h : TrIn lo w x n B T) (hp : T p = some nd) {a : Option Addr} {cap : Nat} {l : List It} (hl : l.length ≤ cap) (hin : ItsIn w a l) :
 TrIn lo (w.setCell ⟨nd.b, 0, none⟩ (.slice a l.length cap)) x n B (T.upd p (some { nd with its := l })) ∧ IxFr lo w (w.setCell ⟨nd.b, 0, none⟩ (.slice a l.length cap)) := by
 obtain ⟨v, hv⟩ : ∃ v, v = Value.slice a l.length cap := ⟨_, rfl⟩
 rw [← hv]
 have hoth : ∀ k, k ≠ nd.b → (w.setCell ⟨nd.b, 0, none⟩ v).heap[k]? = w.heap[k]? := fun k hk => heap_setCell_other _ _ _ _ (fun e => hk e.symm)
 have hfr : IxFr lo w (w.setCell ⟨nd.b, 0, none⟩ v) := (fr_set v).mono fun k _ e => by rw [show k = nd.b from e]; exact h.ixb hp
 obtain ⟨w', hw'⟩ : ∃ w', w' = w.setCell ⟨nd.b, 0, none⟩ v := ⟨_, rfl⟩
 have hself : (w'.cell? ⟨nd.b, 0, none⟩ = some v) ∧ w'.cell? ⟨nd.b, 1, none⟩ = w.cell? ⟨nd.b, 1, none⟩ := by
  obtain ⟨a1, cap1, h1, _⟩ := (h.nodes p nd hp).its
  rw [hw']
  exact ⟨World.cell?_setCell_same _ _ _ h1, World.cell?_setCell_other _ _ _ _ (by simp)⟩
 have hidx : ∃ v mv, w'.heap[x]? = some (.cells #[v, mv, .int .i64 n] 49 (0, 0)) := by
  obtain ⟨v0, mv, h1⟩ := h.idx
  by_cases e : x = nd.b
  ·rw [hw']; subst e; exact ⟨v, mv, three_set0 h1 v⟩
  ·rw [hw']; exact ⟨v0, mv, (hoth x e).trans h1⟩
 have hblk : ∀ q i, q ≠ [] → T q = some i → ∃ v mv, w'.heap[i.b]? = some (.cells #[v, mv] 47 (0, 0)) := fun q i hq hT => by
  obtain ⟨v0, mv, h1⟩ := h.blk q i hq hT
  by_cases e : i.b = nd.b
  ·rw [hw', e]
   rw [e] at h1
   exact ⟨v, mv, two_set0 h1 v⟩
  ·rw [hw']; exact ⟨v0, mv, (hoth _ e).trans h1⟩
 rw [← hw'] at hfr hoth ⊢
 have hsim : ∀ q i, T.upd p (some { nd with its := l }) q = some i → ∃ i0, T q = some i0 ∧ i0.b = i.b ∧ i0.mb = i.mb := fun q i hq => by
  unfold Tree.upd at hq
  split at hq
  ·rename_i e; subst e; cases hq; exact ⟨nd, hp, rfl, rfl⟩
  ·exact ⟨i, hq, rfl, rfl⟩
 have hsim2 : ∀ q i, T q = some i → ∃ i0, T.upd p (some { nd with its := l }) q = some i0 ∧ i0.b = i.b ∧ i0.mb = i.mb := fun q i hq => by
  by_cases e : q = p
  ·subst e; rw [Tree.upd_same]; rw [hp] at hq; cases hq; exact ⟨_, rfl, rfl, rfl⟩
  ·rw [Tree.upd_other _ _ e]; exact ⟨i, hq, rfl, rfl⟩
 have hmap : ∀ q, (T.upd p (some { nd with its := l }) q).map (·.b) = (T q).map (·.b) := fun q => by
  cases hq : T q with
  | some i =>
    obtain ⟨i0, h1, h2, _⟩ := hsim2 q i hq
    rw [h1, Option.map_some, Option.map_some, h2]
  | none =>
    cases hu : T.upd p (some { nd with its := l }) q with
    | none => rfl
    | some i =>
      obtain ⟨i0, h1, _⟩ := hsim q i hu
      rw [hq] at h1; cases h1
 refine ⟨⟨fun q i hq => ?_, ?_, hidx, ?_, ?_, ?_, ?_, ?_⟩, hfr⟩
 ·obtain ⟨i0, h1, h2, h3⟩ := hsim q i hq
  rw [← h2, ← h3]
  exact h.low q i0 h1
 ·obtain ⟨r, h1, h2⟩ := h.top
  obtain ⟨r', h3, h4, _⟩ := hsim2 _ _ h1
  exact ⟨r', h3, h4.trans h2⟩
 ·intro q i hq hT
  obtain ⟨i0, h1, h2, _⟩ := hsim q i hT
  rw [← h2]
  exact hblk q i0 hq h1
 ·intro q i hq
  by_cases e : q = p
  ·subst e
   rw [Tree.upd_same] at hq
   cases hq
   have g := h.nodes q nd hp
   obtain ⟨a1, cap1, h1, h2, h3⟩ := g.its
   refine ⟨⟨a, cap, by rw [← hv]; exact hself.1, hl, hin.ix hfr⟩, hself.2.trans g.bel, fun h0 s => ?_, fun m hm => ?_⟩
   ·have h9 := g.no h0 s
    have h8 := hmap (q ++ [s])
    rw [h9] at h8
    simpa using h8
   ·obtain ⟨t, g1, g2, g3, g4⟩ := g.tab m hm
    refine ⟨t, g1.block (hoth m (fun e => h.map_ne hp hp hm e.symm)), g2, fun r hr => ?_, fun s c hc => ?_⟩
    ·obtain ⟨c, hc, hcb⟩ := g3 r hr
     obtain ⟨c', hc', hcb', _⟩ := hsim2 _ _ hc
     exact ⟨c', hc', hcb'.trans hcb⟩
    ·obtain ⟨c', hc', hcb', _⟩ := hsim _ _ hc
     rw [← hcb']
     exact g4 s c' hc'
  ·rw [Tree.upd_other _ _ e] at hq
   have hne : i.b ≠ nd.b := fun e2 => e (h.ab q p i nd hq hp e2)
   exact (h.nodes q i hq).to (World.cell?_of_block (hoth _ hne)) (World.cell?_of_block (hoth _ hne)) hfr (fun m hm => hoth m (fun e2 => h.map_ne hq hp hm e2.symm)) (fun s => hmap _)
 ·intro q s i hq
  obtain ⟨i0, h1, _⟩ := hsim _ _ hq
  obtain ⟨j, hj⟩ := h.up q s i0 h1
  obtain ⟨j0, h2, _⟩ := hsim2 _ _ hj
  exact ⟨j0, h2⟩
 ·intro q r i j hq hr e
  obtain ⟨i0, h1, h2, _⟩ := hsim _ _ hq
  obtain ⟨j0, h3, h4, _⟩ := hsim _ _ hr
  exact h.ab q r i0 j0 h1 h3 (by rw [h2, h4, e])
 ·intro q r i j m hq hr hi hj
  obtain ⟨i0, h1, _, h2⟩ := hsim _ _ hq
  obtain ⟨j0, h3, _, h4⟩ := hsim _ _ hr
  exact h.am q r i0 j0 m h1 h3 (h2.trans hi) (h4.trans hj)
/-- a node's map is made -/
theorem TrIn.setMap (h : TrIn lo w x n B T) (hp : T p = some nd) (hn : nd.mb = none) {m : Nat} (hmlo : lo ≤ m) (htab : STab w m []) (hfresh : ∀ q i, T q = some i → i.mb ≠ some m) :
 TrIn lo (w.setCell ⟨nd.b, 1, none⟩ (.map (some m))) x n B (T.upd p (some { nd with mb := some m })) ∧ IxFr lo w (w.setCell ⟨nd.b, 1, none⟩ (.map (some m))) := by
 obtain ⟨v, hv⟩ : ∃ v, v = Value.map (some m) := ⟨_, rfl⟩
 rw [← hv]
 have hoth : ∀ k, k ≠ nd.b → (w.setCell ⟨nd.b, 1, none⟩ v).heap[k]? = w.heap[k]? := fun k hk => heap_setCell_other _ _ _ _ (fun e => hk e.symm)
 have hfr : IxFr lo w (w.setCell ⟨nd.b, 1, none⟩ v) := (fr_set v).mono fun k _ e => by rw [show k = nd.b from e]; exact h.ixb hp
 obtain ⟨w', hw'⟩ : ∃ w', w' = w.setCell ⟨nd.b, 1, none⟩ v := ⟨_, rfl⟩
 have hself : (w'.cell? ⟨nd.b, 1, none⟩ = some v) ∧ w'.cell? ⟨nd.b, 0, none⟩ = w.cell? ⟨nd.b, 0, none⟩ := by
  have h1 := (h.nodes p nd hp).bel
  rw [hw']
  exact ⟨World.cell?_setCell_same _ _ _ h1, World.cell?_setCell_other _ _ _ _ (by simp)⟩
 have hidx : ∃ v mv, w'.heap[x]? = some (.cells #[v, mv, .int .i64 n] 49 (0, 0)) := by
  obtain ⟨v0, mv, h1⟩ := h.idx
  by_cases e : x = nd.b
  ·rw [hw']; subst e; exact ⟨v0, v, three_setI1 h1 v⟩
  ·rw [hw']; exact ⟨v0, mv, (hoth x e).trans h1⟩
 have hblk : ∀ q i, q ≠ [] → T q = some i → ∃ v mv, w'.heap[i.b]? = some (.cells #[v, mv] 47 (0, 0)) := fun q i hq hT => by
  obtain ⟨v0, mv, h1⟩ := h.blk q i hq hT
  by_cases e : i.b = nd.b
  ·rw [hw', e]
   rw [e] at h1
   exact ⟨v0, v, two_set1 h1 v⟩
  ·rw [hw']; exact ⟨v0, mv, (hoth _ e).trans h1⟩
 rw [← hw'] at hfr hoth ⊢
 have hsim : ∀ q i, T.upd p (some { nd with mb := some m }) q = some i → ∃ i0, T q = some i0 ∧ i0.b = i.b ∧ (q ≠ p → i0 = i) := fun q i hq => by
  unfold Tree.upd at hq
  split at hq
  ·rename_i e; subst e; cases hq; exact ⟨nd, hp, rfl, fun e => absurd rfl e⟩
  ·exact ⟨i, hq, rfl, fun _ => rfl⟩
 have hsim2 : ∀ q i, T q = some i → ∃ i0, T.upd p (some { nd with mb := some m }) q = some i0 ∧ i0.b = i.b := fun q i hq => by
  by_cases e : q = p
  ·subst e; rw [Tree.upd_same]; rw [hp] at hq; cases hq; exact ⟨_, rfl, rfl⟩
  ·rw [Tree.upd_other _ _ e]; exact ⟨i, hq, rfl⟩
 have hmap : ∀ q, (T.upd p (some { nd with mb := some m }) q).map (·.b) = (T q).map (·.b) := fun q => by
  cases hq : T q with
  | some i =>
    obtain ⟨i0, h1, h2⟩ := hsim2 q i hq
    rw [h1, Option.map_some, Option.map_some, h2]
  | none =>
    cases hu : T.upd p (some { nd with mb := some m }) q with
    | none => rfl
    | some i =>
      obtain ⟨i0, h1, _⟩ := hsim q i hu
      rw [hq] at h1; cases h1
 have hmne : m ≠ nd.b := fun e => by
  obtain ⟨es, c, h1⟩ := htab.mapped
  obtain ⟨cs, t, h2, _⟩ := h.block hp
  rw [← e, h1] at h2
  cases h2
 refine ⟨⟨fun q i hq => ?_, ?_, hidx, ?_, ?_, ?_, ?_, ?_⟩, hfr⟩
 ·obtain ⟨i0, h1, h2, h3⟩ := hsim q i hq
  rw [← h2]
  refine ⟨(h.low q i0 h1).1, fun m' hm' => ?_⟩
  by_cases e : q = p
  ·subst e
   rw [Tree.upd_same] at hq
   cases hq
   cases hm'
   exact hmlo
  ·obtain rfl := h3 e
   exact (h.low q _ h1).2 m' hm'
 ·obtain ⟨r, h1, h2⟩ := h.top
  obtain ⟨r', h3, h4⟩ := hsim2 _ _ h1
  exact ⟨r', h3, h4.trans h2⟩
 ·intro q i hq hT
  obtain ⟨i0, h1, h2, _⟩ := hsim q i hT
  rw [← h2]
  exact hblk q i0 hq h1
 ·intro q i hq
  by_cases e : q = p
  ·subst e
   rw [Tree.upd_same] at hq
   cases hq
   have g := h.nodes q nd hp
   obtain ⟨a1, cap1, h1, h2, h3⟩ := g.its
   refine ⟨⟨a1, cap1, hself.2.trans h1, h2, h3.ix hfr⟩, by rw [← hv]; exact hself.1, fun h0 => (nomatch h0), fun m' hm => ?_⟩
   cases hm
   refine ⟨[], htab.block (hoth m hmne), Nat.zero_le _, fun r hr => (nomatch hr), fun s c hc => ?_⟩
   obtain ⟨c', hc', _⟩ := hsim _ _ hc
   rw [g.no hn s] at hc'
   cases hc'
  ·rw [Tree.upd_other _ _ e] at hq
   have hne : i.b ≠ nd.b := fun e2 => e (h.ab q p i nd hq hp e2)
   exact (h.nodes q i hq).to (World.cell?_of_block (hoth _ hne)) (World.cell?_of_block (hoth _ hne)) hfr (fun m hm => hoth m (fun e2 => h.map_ne hq hp hm e2.symm)) (fun s => hmap _)
 ·intro q s i hq
  obtain ⟨i0, h1, _⟩ := hsim _ _ hq
  obtain ⟨j, hj⟩ := h.up q s i0 h1
  obtain ⟨j0, h2, _⟩ := hsim2 _ _ hj
  exact ⟨j0, h2⟩
 ·intro q r i j hq hr e
  obtain ⟨i0, h1, h2, _⟩ := hsim _ _ hq
  obtain ⟨j0, h3, h4, _⟩ := hsim _ _ hr
  exact h.ab q r i0 j0 h1 h3 (by rw [h2, h4, e])
 ·intro q r i j m' hq hr hi hj
  obtain ⟨i0, h1, _, h2⟩ := hsim _ _ hq
  obtain ⟨j0, h3, _, h4⟩ := hsim _ _ hr
  by_cases e : q = p
  ·by_cases e' : r = p
   ·rw [e, e']
   ·obtain rfl := h4 e'
    subst e
    rw [Tree.upd_same] at hq
    cases hq
    cases hi
    exact absurd hj (hfresh r _ h3)
  ·obtain rfl := h2 e
   by_cases e' : r = p
   ·subst e'
    rw [Tree.upd_same] at hr
    cases hr
    cases hj
    exact absurd hi (hfresh q _ h1)
   ·obtain rfl := h4 e'
    exact h.am q r _ _ m' h1 h3 hi hj
/-- a child is laid into a node's map -/
theorem TrIn.add (h : TrIn lo w x n B T) (hp : T p = some nd) {m : Nat} (hm : nd.mb = some m) (s : ByteArray) (hs : s.size ≤ maxLen) (hno : T (p ++ [bl s]) = none) {c : Nat}
 (hc : w.heap[c]? = some (.cells #[.slice none 0 0, .map none] 47 (0, 0))) (hclo : lo ≤ c) (hcf : ∀ q i, T q = some i → i.b ≠ c) (hB : B < maxLen) :
 ∃ w', (Instr.mapUpdate 45 (.map (some m)) (.string s) (ndVal c)).run Tryz.prog w = .ok () w' ∧ TrIn lo w' x n (B + 1) (T.upd (p ++ [bl s]) (some ⟨c, [], none⟩)) ∧ IxFr lo w w' := by
 have g := h.nodes p nd hp
 obtain ⟨t, g1, g2, g3, g4⟩ := g.tab m hm
 obtain ⟨w', hrun, htab, hfr0⟩ := Tab.store_new kStr g1 Tryz.underlying45 (by omega) hs (fun q hq e => by
  obtain ⟨i, hi, _⟩ := g3 q hq
  rw [e, hno] at hi
  cases hi) c
 have hoth : ∀ k, k < w.heap.size → k ≠ m → w'.heap[k]? = w.heap[k]? := fun k hk hne => hfr0.block k hk hne
 have hfr : IxFr lo w w' := hfr0.mono fun k _ e => by
  obtain ⟨es, cl, h1⟩ := g1.mapped
  rw [show k = m from e]
  exact ⟨(h.low _ _ hp).2 m hm, Or.inr (Or.inr ⟨es, cl, h1⟩)⟩
 have hcl : c < w.heap.size := (Array.getElem?_eq_some_iff.1 hc).1
 have hcm : c ≠ m := fun e => by
  obtain ⟨es, cl, h1⟩ := g1.mapped
  rw [e, h1] at hc
  cases hc
 have hpre : ∀ s', T ((p ++ [bl s]) ++ [s']) = none := fun s' => by
  cases hh : T ((p ++ [bl s]) ++ [s']) with
  | none => rfl
  | some i =>
    obtain ⟨j, hj⟩ := h.up _ _ _ hh
    rw [hno] at hj; cases hj
 have hb : ∀ q i, T q = some i → w'.heap[i.b]? = w.heap[i.b]? := fun q i hq => hoth _ (h.lt hq) (h.map_ne hp hq hm)
 have hT' : ∀ q, q ≠ p ++ [bl s] → T.upd (p ++ [bl s]) (some ⟨c, [], none⟩) q = T q := fun q hq => Tree.upd_other _ _ hq
 have hs' : T.upd (p ++ [bl s]) (some ⟨c, [], none⟩) (p ++ [bl s]) = some ⟨c, [], none⟩ := Tree.upd_same _ _ _
 refine ⟨w', hrun, ⟨fun q i hq => ?_, ?_, ?_, ?_, ?_, ?_, ?_, ?_⟩, hfr⟩
 ·by_cases e : q = p ++ [bl s]
  ·rw [e, hs'] at hq
   cases hq
   exact ⟨hclo, fun m' hm' => (nomatch hm')⟩
  ·rw [hT' _ e] at hq
   exact h.low q i hq
 ·obtain ⟨r, h1, h2⟩ := h.top
  exact ⟨r, by rw [hT' _ (snoc_ne_nil _ _).symm]; exact h1, h2⟩
 ·obtain ⟨v, mv, h1⟩ := h.idx
  exact ⟨v, mv, (hoth x h.x_lt (h.x_ne hp hm)).trans h1⟩
 ·intro q i hq hT
  by_cases e : q = p ++ [bl s]
  ·subst e
   rw [hs'] at hT
   cases hT
   exact ⟨_, _, (hoth c hcl hcm).trans hc⟩
  ·rw [hT' _ e] at hT
   obtain ⟨v, mv, h1⟩ := h.blk q i hq hT
   exact ⟨v, mv, (hb q i hT).trans h1⟩
 ·intro q i hq
  by_cases e : q = p ++ [bl s]
  ·subst e
   rw [hs'] at hq
   cases hq
   have hcc := (hoth c hcl hcm).trans hc
   refine ⟨⟨none, 0, by simp [World.cell?, hcc], Nat.le_refl _, Or.inl rfl⟩, by simp [World.cell?, hcc], fun _ s' => ?_, fun m' hm' => (nomatch hm')⟩
   rw [hT' _ (snoc_ne _ _)]
   exact hpre s'
  ·rw [hT' _ e] at hq
   have hcell : ∀ o, w'.cell? ⟨i.b, o, none⟩ = w.cell? ⟨i.b, o, none⟩ := fun o => World.cell?_of_block (hb q i hq)
   by_cases e2 : q = p
   ·subst e2
    rw [hp] at hq
    cases hq
    obtain ⟨a, cap, h1, h2, h3⟩ := g.its
    refine ⟨⟨a, cap, (hcell 0).trans h1, h2, h3.ix hfr⟩, (hcell 1).trans g.bel, fun h0 => (by rw [hm] at h0; cases h0), fun m' hm' => ?_⟩
    rw [hm] at hm'
    cases hm'
    refine ⟨(s, c) :: t, htab, by simp; omega, fun r hr => ?_, fun s' c' hc' => ?_⟩
    ·rcases List.mem_cons.1 hr with rfl | hr
     ·exact ⟨_, hs', rfl⟩
     ·obtain ⟨j, hj, hjb⟩ := g3 r hr
      refine ⟨j, ?_, hjb⟩
      rw [hT' _ (fun e3 => by rw [e3, hno] at hj; cases hj)]
      exact hj
    ·by_cases e3 : q ++ [s'] = q ++ [bl s]
     ·rw [e3, hs'] at hc'
      cases hc'
      obtain ⟨_, rfl⟩ := snoc_inj e3
      rw [mkS_bl]
      exact List.mem_cons_self
     ·rw [hT' _ e3] at hc'
      exact List.mem_cons_of_mem _ (g4 s' c' hc')
   ·have hto := (h.nodes q i hq).to (T' := T.upd (p ++ [bl s]) (some ⟨c, [], none⟩)) (hcell 0) (hcell 1) hfr (fun m' hm' => hoth m' (h.mapped hq hm').2 (fun e3 => e2 (h.am q p i nd m' hq hp hm' (by rw [hm, e3])))) (fun s' => by rw [hT' _ (fun e3 => e2 (snoc_inj e3).1)])
    exact ⟨hto.its, hto.bel, hto.no, fun m' hm' => by
       obtain ⟨t', k1, k2, k3⟩ := hto.tab m' hm'
       exact ⟨t', k1, Nat.le_succ_of_le k2, k3⟩⟩
 ·intro q s' i hq
  by_cases e : q ++ [s'] = p ++ [bl s]
  ·obtain ⟨rfl, _⟩ := snoc_inj e
   exact ⟨nd, by rw [hT' _ (snoc_ne _ _).symm]; exact hp⟩
  ·rw [hT' _ e] at hq
   obtain ⟨j, hj⟩ := h.up q s' i hq
   exact ⟨j, by rw [hT' _ (fun e2 => by rw [e2, hno] at hj; cases hj)]; exact hj⟩
 ·intro q r i j hq hr e
  by_cases e1 : q = p ++ [bl s]
  ·by_cases e2 : r = p ++ [bl s]
   ·rw [e1, e2]
   ·rw [hT' _ e2] at hr
    rw [e1, hs'] at hq
    cases hq
    exact absurd e.symm (hcf r j hr)
  ·rw [hT' _ e1] at hq
   by_cases e2 : r = p ++ [bl s]
   ·rw [e2, hs'] at hr
    cases hr
    exact absurd e (hcf q i hq)
   ·rw [hT' _ e2] at hr
    exact h.ab q r i j hq hr e
 ·intro q r i j m' hq hr hi hj
  by_cases e1 : q = p ++ [bl s]
  ·rw [e1, hs'] at hq
   cases hq
   cases hi
  ·by_cases e2 : r = p ++ [bl s]
   ·rw [e2, hs'] at hr
    cases hr
    cases hj
   ·rw [hT' _ e1] at hq
    rw [hT' _ e2] at hr
    exact h.am q r i j m' hq hr hi hj
/-- a child with nothing ahead of it is struck out of a node's map -/
theorem TrIn.drop (h : TrIn lo w x n B T) (hp : T p = some nd) {m : Nat} (hm : nd.mb = some m) (s : ByteArray) {c : Nd} (hc : T (p ++ [bl s]) = some c) (hno : ∀ s', T ((p ++ [bl s]) ++ [s']) = none) (ty : TypeId) :
 ∃ w', (Builtin.delete_ #[45, 9] ty #[.map (some m), .string s]).run Tryz.prog w = .ok (.tuple #[]) w' ∧ TrIn lo w' x n B (T.upd (p ++ [bl s]) none) ∧ IxFr lo w w' := by
 have g := h.nodes p nd hp
 obtain ⟨t, g1, g2, g3, g4⟩ := g.tab m hm
 have hmem := g4 _ _ hc
 rw [mkS_bl] at hmem
 obtain ⟨r, hr⟩ := perm_split hmem
 obtain ⟨w', hrun, htab, hfr0⟩ := Tab.drop_old kStr (Tab.perm g1 hr) Tryz.underlying45 ty
 have hap := List.pairwise_cons.1 ((Tab.perm g1 hr).apart)
 have hoth : ∀ k, k < w.heap.size → k ≠ m → w'.heap[k]? = w.heap[k]? := fun k hk hne => hfr0.block k hk hne
 have hfr : IxFr lo w w' := hfr0.mono fun k _ e => by
  obtain ⟨es, cl, h1⟩ := g1.mapped
  rw [show k = m from e]
  exact ⟨(h.low _ _ hp).2 m hm, Or.inr (Or.inr ⟨es, cl, h1⟩)⟩
 have hb : ∀ q i, T q = some i → w'.heap[i.b]? = w.heap[i.b]? := fun q i hq => hoth _ (h.lt hq) (h.map_ne hp hq hm)
 have hT' : ∀ q, q ≠ p ++ [bl s] → T.upd (p ++ [bl s]) none q = T q := fun q hq => Tree.upd_other _ _ hq
 have hs' : T.upd (p ++ [bl s]) none (p ++ [bl s]) = none := Tree.upd_same _ _ _
 have hsub : ∀ q i, T.upd (p ++ [bl s]) none q = some i → T q = some i ∧ q ≠ p ++ [bl s] := fun q i hq => by
  by_cases e : q = p ++ [bl s]
  ·rw [e, hs'] at hq; cases hq
  ·rw [hT' _ e] at hq; exact ⟨hq, e⟩
 refine ⟨w', hrun, ⟨fun q i hq => h.low q i (hsub q i hq).1, ?_, ?_, ?_, ?_, ?_, ?_, ?_⟩, hfr⟩
 ·obtain ⟨r, h1, h2⟩ := h.top
  exact ⟨r, by rw [hT' _ (snoc_ne_nil _ _).symm]; exact h1, h2⟩
 ·obtain ⟨v, mv, h1⟩ := h.idx
  exact ⟨v, mv, (hoth x h.x_lt (h.x_ne hp hm)).trans h1⟩
 ·intro q i hq hT
  obtain ⟨hT1, _⟩ := hsub q i hT
  obtain ⟨v, mv, h1⟩ := h.blk q i hq hT1
  exact ⟨v, mv, (hb q i hT1).trans h1⟩
 ·intro q i hq
  obtain ⟨hq1, hqne⟩ := hsub q i hq
  have hcell : ∀ o, w'.cell? ⟨i.b, o, none⟩ = w.cell? ⟨i.b, o, none⟩ := fun o => World.cell?_of_block (hb q i hq1)
  by_cases e2 : q = p
  ·subst e2
   rw [hp] at hq1
   cases hq1
   obtain ⟨a, cap, h1, h2, h3⟩ := g.its
   refine ⟨⟨a, cap, (hcell 0).trans h1, h2, h3.ix hfr⟩, (hcell 1).trans g.bel, fun h0 => (by rw [hm] at h0; cases h0), fun m' hm' => ?_⟩
   rw [hm] at hm'
   cases hm'
   have hlen : r.length ≤ B := by have := hr.length_eq; simp at this; omega
   refine ⟨r, htab, hlen, fun y hy => ?_, fun s' c' hc' => ?_⟩
   ·obtain ⟨j, hj, hjb⟩ := g3 y (hr.mem_iff.2 (List.mem_cons_of_mem _ hy))
    refine ⟨j, ?_, hjb⟩
    rw [hT' _ (fun e3 => hap.1 y hy (by rw [bl_inj (snoc_inj e3).2]))]
    exact hj
   ·obtain ⟨hc1, hcne⟩ := hsub _ _ hc'
    rcases List.mem_cons.1 (hr.mem_iff.1 (g4 s' c' hc1)) with e3 | e3
    ·have e4 : mkS s' = s := (Prod.mk.inj e3).1
     exact absurd (by rw [← e4]; rfl) hcne
    ·exact e3
  ·exact (h.nodes q i hq1).to (T' := T.upd (p ++ [bl s]) none) (hcell 0) (hcell 1) hfr (fun m' hm' => hoth m' (h.mapped hq1 hm').2 (fun e3 => e2 (h.am q p i nd m' hq1 hp hm' (by rw [hm, e3])))) (fun s' => by rw [hT' _ (fun e3 => e2 (snoc_inj e3).1)])
 ·intro q s' i hq
  obtain ⟨hq1, hqne⟩ := hsub _ _ hq
  obtain ⟨j, hj⟩ := h.up q s' i hq1
  refine ⟨j, ?_⟩
  rw [hT' _ (fun e2 => by rw [e2, hno s'] at hq1; cases hq1)]
  exact hj
 ·intro q r i j hq hr e
  exact h.ab q r i j (hsub _ _ hq).1 (hsub _ _ hr).1 e
 ·intro q r i j m' hq hr hi hj
  exact h.am q r i j m' (hsub _ _ hq).1 (hsub _ _ hr).1 hi hj
/-- how many items there are -/
theorem TrIn.setN (h : TrIn lo w x n B T) (k : Int) : TrIn lo (w.setCell ⟨x, 2, none⟩ (.int .i64 k)) x k B T ∧ IxFr lo w (w.setCell ⟨x, 2, none⟩ (.int .i64 k)) := by
 obtain ⟨v0, mv0, h1⟩ := h.idx
 have hoth : ∀ k', k' ≠ x → (w.setCell ⟨x, 2, none⟩ (.int .i64 k)).heap[k']? = w.heap[k']? := fun k' hk => heap_setCell_other _ _ _ _ (fun e => hk e.symm)
 have hfr : IxFr lo w (w.setCell ⟨x, 2, none⟩ (.int .i64 k)) := (fr_set _).mono fun k' _ e => by rw [show k' = x from e]; exact ⟨h.x_low, Or.inr (Or.inl ⟨_, _, _, _, h1⟩)⟩
 have hcell : ∀ (b o : Nat), o ≠ 2 → (w.setCell ⟨x, 2, none⟩ (.int .i64 k)).cell? ⟨b, o, none⟩ = w.cell? ⟨b, o, none⟩ := fun b o ho => World.cell?_setCell_other _ _ _ _ (fun e => ho (by simp only [Addr.mk.injEq] at e; omega))
 refine ⟨⟨h.low, h.top, ⟨v0, mv0, three_setI2 h1 _⟩, fun q i hq hT => ?_, fun q i hq => ?_, h.up, h.ab, h.am⟩, hfr⟩
 ·obtain ⟨v, mv, h2⟩ := h.blk q i hq hT
  refine ⟨v, mv, (hoth _ fun e => ?_).trans h2⟩
  rw [e, h1] at h2
  simp at h2
 ·exact (h.nodes q i hq).to (hcell _ _ (by decide)) (hcell _ _ (by decide)) hfr (fun m hm => hoth m (fun e => h.x_ne hq hm e.symm)) (fun s => rfl)
/-- an index of nothing -/
def tree0 (x : Nat) : Tree := fun p => if p = [] then some ⟨x, [], none⟩ else none
theorem TrIn.made (w : World) (hlo : lo ≤ w.heap.size) : TrIn lo (w.alloc (.cells #[.slice none 0 0, .map none, .int .i64 0] 49)) w.heap.size 0 0 (tree0 w.heap.size) := by
 have hb := heap_last0 w (.cells #[.slice none 0 0, .map none, .int .i64 0] 49)
 have hone : ∀ q i, tree0 w.heap.size q = some i → q = [] ∧ i = ⟨w.heap.size, [], none⟩ := fun q i hq => by
  unfold tree0 at hq
  split at hq
  ·rename_i e; cases hq; exact ⟨e, rfl⟩
  ·cases hq
 have hsn : ∀ q s, tree0 w.heap.size (q ++ [s]) = none := fun q s => by unfold tree0; rw [if_neg (snoc_ne_nil q s)]
 refine ⟨fun q i hq => (by rw [(hone q i hq).2]; exact ⟨hlo, fun m hm => (nomatch hm)⟩), ⟨_, rfl, rfl⟩, ⟨_, _, hb⟩, fun q i hq hT => absurd (hone q i hT).1 hq, fun q i hq => ?_, fun q s i hq => (by rw [hsn] at hq; cases hq), fun q r i j hq hr _ => (by rw [(hone q i hq).1, (hone r j hr).1]), fun q r i j m hq hr hi _ => (by rw [(hone q i hq).2] at hi; cases hi)⟩
 obtain ⟨rfl, rfl⟩ := hone q i hq
 exact ⟨⟨none, 0, by show World.cell? _ ⟨w.heap.size, 0, none⟩ = _; rw [World.cell?_alloc_new]; rfl, Nat.le_refl _, Or.inl rfl⟩, by show World.cell? _ ⟨w.heap.size, 1, none⟩ = _; rw [World.cell?_alloc_new]; rfl, fun _ s => hsn _ s, fun m hm => (nomatch hm)⟩
end
end Go.Proofs.YtkklcpmbgfgcmaaGreat
