/- The index, plainly: items by keys; a domain's labels; what a tree of labels holds. Conditions: none. -/
import Derived.Test.YtkklcpmbgfgcmaaGreatKeyOrd
set_option linter.unusedSimpArgs false
set_option linter.unusedVariables false
set_option linter.unnecessarySimpa false
namespace Go.Proofs.YtkklcpmbgfgcmaaGreat
structure It where
 key : Key
 ck : Ck
 deriving DecidableEq
/-- by keys -/
abbrev SrtI (l : List It) : Prop := l.Pairwise fun x y => keyLt x.key y.key = true
theorem strict_ext {α : Type} {lt : α → α → Prop} (irr : ∀ x, ¬ lt x x) (tr : ∀ x y z, lt x y → lt y z → lt x z) : ∀ {l m : List α}, l.Pairwise lt → m.Pairwise lt → (∀ x, x ∈ l ↔ x ∈ m) → l = m
 | [], [], _, _, _ => rfl
 | [], y :: m, _, _, h => absurd ((h y).2 List.mem_cons_self) List.not_mem_nil
 | x :: l, [], _, _, h => absurd ((h x).1 List.mem_cons_self) List.not_mem_nil
 | x :: l, y :: m, hl, hm, h => by
   have hl' := List.pairwise_cons.1 hl
   have hm' := List.pairwise_cons.1 hm
   have e : x = y := by
     rcases List.mem_cons.1 ((h x).1 List.mem_cons_self) with e | e
     ·exact e
     ·rcases List.mem_cons.1 ((h y).2 List.mem_cons_self) with e' | e'
      ·exact e'.symm
      ·exact absurd (tr _ _ _ (hl'.1 _ e') (hm'.1 _ e)) (irr _)
   subst e
   rw [strict_ext irr tr hl'.2 hm'.2 fun z => ⟨fun hz => ?_, fun hz => ?_⟩]
   ·rcases List.mem_cons.1 ((h z).1 (List.mem_cons_of_mem _ hz)) with e | e
    ·subst e; exact absurd (hl'.1 _ hz) (irr _)
    ·exact e
   ·rcases List.mem_cons.1 ((h z).2 (List.mem_cons_of_mem _ hz)) with e | e
    ·subst e; exact absurd (hm'.1 _ hz) (irr _)
    ·exact e
theorem srtI_ext {l m : List It} (h : SrtI l) (k : SrtI m) (e : ∀ x, x ∈ l ↔ x ∈ m) : l = m :=
 strict_ext (lt := fun x y : It => keyLt x.key y.key = true) (fun x h => by rw [keyLt_irrefl] at h; cases h) (fun _ _ _ => keyLt_trans) h k e
theorem srtI_uniq {l : List It} (h : SrtI l) {x y : It} (hx : x ∈ l) (hy : y ∈ l) (e : x.key = y.key) : x = y := by
 induction l with
 | nil => cases hx
 | cons z l ih =>
   obtain ⟨h1, h2⟩ := List.pairwise_cons.1 h
   rcases List.mem_cons.1 hx with rfl | hx'
   ·rcases List.mem_cons.1 hy with rfl | hy'
    ·rfl
    ·have := h1 _ hy'
     rw [e, keyLt_irrefl] at this
     cases this
   ·rcases List.mem_cons.1 hy with rfl | hy'
    ·have := h1 _ hx'
     rw [e, keyLt_irrefl] at this
     cases this
    ·exact ih h2 hx' hy'
theorem srtI_nodup {l : List It} (h : SrtI l) : l.Nodup := List.Pairwise.imp (fun {a b} hab e => by subst e; rw [keyLt_irrefl] at hab; cases hab) h
/-- an item more, or instead of one of its key -/
def putI (S : List It) (y : It) : List It := (S.filter fun x => keyLt x.key y.key) ++ y :: S.filter fun x => keyLt y.key x.key
/-- items without a key -/
def woI (S : List It) (k : Key) : List It := S.filter fun x => decide (x.key ≠ k)
/-- the item of a key -/
def getI (S : List It) (k : Key) : Option It := S.find? fun x => decide (x.key = k)
/-- the items of a domain -/
def domI (S : List It) (d : ByteArray) : List It := S.filter fun x => decide (x.key.domain = d)
def byI (l : List It) : List It := l.foldl putI []
theorem mem_putI {S : List It} {x y : It} : x ∈ putI S y ↔ x = y ∨ (x ∈ S ∧ x.key ≠ y.key) := by
 unfold putI
 rw [List.mem_append, List.mem_cons, List.mem_filter, List.mem_filter]
 constructor
 ·rintro (⟨h1, h2⟩ | h | ⟨h1, h2⟩)
  ·exact Or.inr ⟨h1, fun e => by rw [e, keyLt_irrefl] at h2; cases h2⟩
  ·exact Or.inl h
  ·exact Or.inr ⟨h1, fun e => by rw [e, keyLt_irrefl] at h2; cases h2⟩
 ·rintro (h | ⟨h1, h2⟩)
  ·exact Or.inr (Or.inl h)
  ·cases hh : keyLt x.key y.key with
   | true => exact Or.inl ⟨h1, rfl⟩
   | false => exact Or.inr (Or.inr ⟨h1, keyLt_total h2 hh⟩)
theorem putI_srt {S : List It} {y : It} (h : SrtI S) : SrtI (putI S y) := by
 unfold putI
 refine List.pairwise_append.2 ⟨h.filter _, List.pairwise_cons.2 ⟨fun z hz => (List.mem_filter.1 hz).2, h.filter _⟩, fun a ha z hz => ?_⟩
 have h1 : keyLt a.key y.key = true := (List.mem_filter.1 ha).2
 rcases List.mem_cons.1 hz with rfl | hz
 ·exact h1
 ·exact keyLt_trans h1 (List.mem_filter.1 hz).2
theorem putI_length (S : List It) (y : It) : (putI S y).length ≤ S.length + 1 := by
 unfold putI
 rw [List.length_append, List.length_cons]
 have h : ∀ T : List It, (T.filter fun x => keyLt x.key y.key).length + (T.filter fun x => keyLt y.key x.key).length ≤ T.length := by
  intro T
  induction T with
  | nil => simp
  | cons x T ih =>
    simp only [List.filter_cons, List.length_cons]
    cases h1 : keyLt x.key y.key with
    | true =>
      cases h2 : keyLt y.key x.key with
      | true =>
        have := keyLt_trans h1 h2
        rw [keyLt_irrefl] at this; cases this
      | false => simp; omega
    | false =>
      cases h2 : keyLt y.key x.key with
      | true => simp; omega
      | false => simp; omega
 have := h S
 omega
theorem mem_woI {S : List It} {k : Key} {x : It} : x ∈ woI S k ↔ x ∈ S ∧ x.key ≠ k := by
 unfold woI
 rw [List.mem_filter, decide_eq_true_eq]
theorem woI_srt {S : List It} {k : Key} (h : SrtI S) : SrtI (woI S k) := h.filter _
theorem byI_srt (l : List It) : SrtI (byI l) := by
 unfold byI
 suffices h : ∀ S, SrtI S → SrtI (l.foldl putI S) from h [] List.Pairwise.nil
 induction l with
 | nil => exact fun S h => h
 | cons x l ih => exact fun S h => ih _ (putI_srt h)
theorem byI_snoc (l : List It) (x : It) : byI (l ++ [x]) = putI (byI l) x := by simp [byI]
theorem byI_length (l : List It) : (byI l).length ≤ l.length := by
 unfold byI
 suffices h : ∀ S, (l.foldl putI S).length ≤ S.length + l.length by simpa using h []
 induction l with
 | nil => simp
 | cons x l ih =>
   intro S
   have h1 := ih (putI S x)
   have h2 := putI_length S x
   simp only [List.foldl_cons, List.length_cons]
   omega
theorem mem_byI_sub {l : List It} {x : It} (h : x ∈ byI l) : x ∈ l := by
 unfold byI at h
 suffices g : ∀ S, x ∈ l.foldl putI S → x ∈ S ∨ x ∈ l by
  rcases g [] h with g | g
  ·cases g
  ·exact g
 clear h
 induction l with
 | nil => exact fun S h => Or.inl h
 | cons y l ih =>
   intro S h
   rcases ih _ h with h | h
   ·rcases mem_putI.1 h with rfl | h
    ·exact Or.inr List.mem_cons_self
    ·exact Or.inl h.1
   ·exact Or.inr (List.mem_cons_of_mem _ h)
theorem getI_some {S : List It} (h : SrtI S) {k : Key} {x : It} : getI S k = some x ↔ x ∈ S ∧ x.key = k := by
 unfold getI
 constructor
 ·intro g
  have h1 := List.find?_some g
  exact ⟨List.mem_of_find?_eq_some g, by simpa using h1⟩
 ·rintro ⟨h1, h2⟩
  cases g : S.find? fun x => decide (x.key = k) with
  | none =>
    have := List.find?_eq_none.1 g x h1
    simp [h2] at this
  | some y =>
    have h3 := List.find?_some g
    have h4 := List.mem_of_find?_eq_some g
    rw [srtI_uniq h h4 h1 (by rw [h2]; simpa using h3)]
theorem getI_none {S : List It} {k : Key} : getI S k = none ↔ ∀ x ∈ S, x.key ≠ k := by
 unfold getI
 rw [List.find?_eq_none]
 constructor
 ·intro g x hx; simpa using g x hx
 ·intro g x hx; simpa using g x hx
theorem putI_len_new {S : List It} (h : SrtI S) {y : It} (hn : getI S y.key = none) : (putI S y).length = S.length + 1 := by
 have hp : (putI S y).Perm (y :: S) := (List.perm_ext_iff_of_nodup (srtI_nodup (putI_srt h)) (List.nodup_cons.2 ⟨fun hm => getI_none.1 hn y hm rfl, srtI_nodup h⟩)).2 fun x => by
  rw [mem_putI, List.mem_cons]
  exact ⟨fun g => g.imp id fun g => g.1, fun g => g.imp id fun g => ⟨g, getI_none.1 hn x g⟩⟩
 rw [hp.length_eq, List.length_cons]
theorem woI_len_old {S : List It} (h : SrtI S) {k : Key} {x : It} (hs : getI S k = some x) : (woI S k).length + 1 = S.length := by
 obtain ⟨h1, h2⟩ := (getI_some h).1 hs
 have hp : (x :: woI S k).Perm S := (List.perm_ext_iff_of_nodup (List.nodup_cons.2 ⟨fun hm => (mem_woI.1 hm).2 h2, srtI_nodup (woI_srt h)⟩) (srtI_nodup h)).2 fun y => by
  rw [List.mem_cons, mem_woI]
  constructor
  ·rintro (rfl | g)
   ·exact h1
   ·exact g.1
  ·intro g
   by_cases e : y.key = k
   ·exact Or.inl (srtI_uniq h g h1 (by rw [e, h2]))
   ·exact Or.inr ⟨g, e⟩
 rw [← hp.length_eq, List.length_cons]
theorem putI_len_old {S : List It} (h : SrtI S) {y x : It} (hs : getI S y.key = some x) : (putI S y).length = S.length := by
 have h1 := woI_len_old h hs
 have hp : (putI S y).Perm (y :: woI S y.key) := (List.perm_ext_iff_of_nodup (srtI_nodup (putI_srt h)) (List.nodup_cons.2 ⟨fun hm => (mem_woI.1 hm).2 rfl, srtI_nodup (woI_srt h)⟩)).2 fun z => by
  rw [mem_putI, List.mem_cons, mem_woI]
 rw [hp.length_eq, List.length_cons]
 exact h1
/-! ### labels -/
/-- a domain's labels, the last one first -/
def labs (d : ByteArray) : List Bytes := (splitB 46 (bl d)).reverse
def joinD : List Bytes → Bytes
 | [] => []
 | [x] => x
 | x :: y :: r => x ++ 46 :: joinD (y :: r)
theorem joinD_cons (x : Bytes) {l : List Bytes} (h : l ≠ []) : joinD (x :: l) = x ++ 46 :: joinD l := by
 cases l with
 | nil => exact absurd rfl h
 | cons y r => rfl
theorem split_join : ∀ l : Bytes, joinD (splitB 46 l) = l
 | [] => by simp [splitB, joinD]
 | x :: r => by
   have ih := split_join r
   have hne := splitB_ne 46 r
   unfold splitB
   split
   ·rename_i hx
    rw [joinD_cons _ hne, ih]
    have : x = 46 := by
        have h2 : x.toNat = (46 : UInt8).toNat := hx
        exact UInt8.toNat_inj.1 h2
    rw [this]; rfl
   ·split
    ·rename_i h; exact absurd h hne
    ·rename_i h t heq
     rw [heq] at ih
     cases t with
     | nil => simp only [joinD] at ih ⊢; rw [ih]
     | cons y t => simp only [joinD, List.cons_append] at ih ⊢; rw [ih]
theorem split_inj {a b : Bytes} (h : splitB 46 a = splitB 46 b) : a = b := by rw [← split_join a, ← split_join b, h]
theorem labs_inj {d e : ByteArray} (h : labs d = labs e) : d = e := by
 unfold labs at h
 exact bl_inj (split_inj (List.reverse_inj.1 h))
theorem labs_ne (d : ByteArray) : labs d ≠ [] := fun h => splitB_ne 46 (bl d) (List.reverse_eq_nil_iff.1 h)
theorem labs_length (d : ByteArray) : (labs d).length ≤ d.size + 1 := by
 have := splitB_length 46 (bl d)
 unfold labs
 rw [List.length_reverse]
 rw [bl_length] at this
 exact this
theorem split_sizes : ∀ (l : Bytes), ∀ s ∈ splitB 46 l, s.length ≤ l.length
 | [], s, hs => by simp [splitB] at hs; simp [hs]
 | x :: r, s, hs => by
   have ih := split_sizes r
   unfold splitB at hs
   split at hs
   ·rcases List.mem_cons.1 hs with rfl | hs
    ·simp
    ·have := ih s hs; simp; omega
   ·split at hs
    ·rename_i h; exact absurd h (splitB_ne 46 r)
    ·rename_i h t heq
     rw [heq] at ih
     rcases List.mem_cons.1 hs with rfl | hs
     ·have := ih h List.mem_cons_self; simp; omega
     ·have := ih s (List.mem_cons_of_mem _ hs); simp; omega
theorem labs_sizes (d : ByteArray) : ∀ s ∈ labs d, s.length ≤ d.size := fun s hs => split_sizes _ s (List.mem_reverse.1 hs)
/-! ### what a tree holds -/
abbrev Path := List Bytes
def itsAt (S : List It) (p : Path) : List It := S.filter fun x => decide (labs x.key.domain = p)
/-- is there a node? -/
def There (S : List It) (p : Path) : Prop := p = [] ∨ ∃ x ∈ S, p <+: labs x.key.domain
theorem mem_itsAt {S : List It} {p : Path} {x : It} : x ∈ itsAt S p ↔ x ∈ S ∧ labs x.key.domain = p := by
 unfold itsAt
 rw [List.mem_filter, decide_eq_true_eq]
theorem itsAt_labs (S : List It) (d : ByteArray) : itsAt S (labs d) = domI S d := by
 unfold itsAt domI
 refine List.filter_congr fun x _ => ?_
 exact decide_eq_decide.2 ⟨labs_inj, fun h => by rw [h]⟩
theorem itsAt_srt {S : List It} (h : SrtI S) (p : Path) : SrtI (itsAt S p) := h.filter _
theorem itsAt_length (S : List It) (p : Path) : (itsAt S p).length ≤ S.length := List.length_filter_le ..
theorem There.up {S : List It} {p q : Path} (h : There S p) (hq : q <+: p) : There S q := by
 rcases h with rfl | ⟨x, hx, hp⟩
 ·exact Or.inl (List.prefix_nil.1 hq)
 ·exact Or.inr ⟨x, hx, hq.trans hp⟩
theorem there_labs {S : List It} {x : It} (h : x ∈ S) : There S (labs x.key.domain) := Or.inr ⟨x, h, List.prefix_refl _⟩
theorem itsAt_none {S : List It} {p : Path} (h : ¬ There S p) : itsAt S p = [] := by
 unfold itsAt
 rw [List.filter_eq_nil_iff]
 intro x hx
 rw [decide_eq_true_eq]
 intro e
 exact h (e ▸ there_labs hx)
/-- what a tree holds, told by its nodes' items -/
structure TreeOf (S : List It) (A : Path → Option (List It)) : Prop where
 its : ∀ p l, A p = some l → l = itsAt S p ∧ There S p
 all : ∀ p, There S p → (A p).isSome = true
theorem treeOf_nil : TreeOf [] fun p => if p = [] then some [] else none := by
 constructor
 ·intro p l h
  by_cases hp : p = []
  ·rw [if_pos hp] at h
   cases h
   exact ⟨by simp [itsAt], Or.inl hp⟩
  ·rw [if_neg hp] at h; cases h
 ·intro p h
  rcases h with rfl | ⟨x, hx, _⟩
  ·simp
  ·cases hx
theorem itsAt_put_other {S : List It} (h : SrtI S) {y : It} {p : Path} (hp : p ≠ labs y.key.domain) : itsAt (putI S y) p = itsAt S p := by
 refine srtI_ext (itsAt_srt (putI_srt h) p) (itsAt_srt h p) fun x => ?_
 rw [mem_itsAt, mem_itsAt, mem_putI]
 constructor
 ·rintro ⟨rfl | h1, h2⟩
  ·exact absurd h2.symm hp
  ·exact ⟨h1.1, h2⟩
 ·rintro ⟨h1, h2⟩
  exact ⟨Or.inr ⟨h1, fun e => hp (by rw [← h2, e])⟩, h2⟩
theorem itsAt_put {S : List It} (h : SrtI S) (y : It) : itsAt (putI S y) (labs y.key.domain) = putI (itsAt S (labs y.key.domain)) y := by
 refine srtI_ext (itsAt_srt (putI_srt h) _) (putI_srt (itsAt_srt h _)) fun x => ?_
 rw [mem_itsAt, mem_putI, mem_putI, mem_itsAt]
 constructor
 ·rintro ⟨rfl | h1, h2⟩
  ·exact Or.inl rfl
  ·exact Or.inr ⟨⟨h1.1, h2⟩, h1.2⟩
 ·rintro (rfl | ⟨h1, h2⟩)
  ·exact ⟨Or.inl rfl, rfl⟩
  ·exact ⟨Or.inr ⟨h1.1, h2⟩, h1.2⟩
theorem there_put {S : List It} {y : It} {p : Path} : There (putI S y) p ↔ There S p ∨ p <+: labs y.key.domain := by
 constructor
 ·rintro (rfl | ⟨x, hx, hp⟩)
  ·exact Or.inl (Or.inl rfl)
  ·rcases mem_putI.1 hx with rfl | hx
   ·exact Or.inr hp
   ·exact Or.inl (Or.inr ⟨x, hx.1, hp⟩)
 ·rintro ((rfl | ⟨x, hx, hp⟩) | hp)
  ·exact Or.inl rfl
  ·by_cases e : x.key = y.key
   ·exact Or.inr ⟨y, mem_putI.2 (Or.inl rfl), by rw [← e]; exact hp⟩
   ·exact Or.inr ⟨x, mem_putI.2 (Or.inr ⟨hx, e⟩), hp⟩
  ·exact Or.inr ⟨y, mem_putI.2 (Or.inl rfl), hp⟩
/-- the nodes of some labels are made -/
def grownA (A : Path → Option (List It)) (l : Path) (q : Path) : Option (List It) := match A q with | some x => some x | none => if q.isPrefixOf l then some [] else none
/-- a node's items are others -/
def setA (A : Path → Option (List It)) (l : Path) (its : List It) (q : Path) : Option (List It) := if q = l then some its else A q
theorem TreeOf.put {S : List It} (hs : SrtI S) {A : Path → Option (List It)} (h : TreeOf S A) (y : It) : TreeOf (putI S y) (setA (grownA A (labs y.key.domain)) (labs y.key.domain) (putI (itsAt S (labs y.key.domain)) y)) := by
 refine ⟨fun p l hl => ?_, fun p hp => ?_⟩
 ·unfold setA at hl
  split at hl
  ·rename_i e
   subst e
   cases hl
   exact ⟨(itsAt_put hs y).symm, there_put.2 (Or.inr (List.prefix_refl _))⟩
  ·rename_i hne
   unfold grownA at hl
   split at hl
   ·rename_i x hx
    cases hl
    obtain ⟨h1, h2⟩ := h.its p _ hx
    exact ⟨by rw [itsAt_put_other hs hne]; exact h1, there_put.2 (Or.inl h2)⟩
   ·rename_i hx
    split at hl
    ·rename_i hpre
     cases hl
     have hn : ¬ There S p := fun ht => by have := h.all p ht; rw [hx] at this; cases this
     exact ⟨by rw [itsAt_put_other hs hne, itsAt_none hn], there_put.2 (Or.inr (List.isPrefixOf_iff_prefix.1 hpre))⟩
    ·cases hl
 ·unfold setA
  split
  ·rfl
  ·unfold grownA
   split
   ·rfl
   ·rename_i hx
    rcases there_put.1 hp with ht | ht
    ·have := h.all p ht
     rw [hx] at this; cases this
    ·rw [if_pos (List.isPrefixOf_iff_prefix.2 ht)]; rfl
end Go.Proofs.YtkklcpmbgfgcmaaGreat
