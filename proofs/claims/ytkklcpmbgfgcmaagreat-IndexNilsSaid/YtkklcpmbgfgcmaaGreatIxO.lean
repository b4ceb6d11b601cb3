/- The index, told by its items: what each of its functions does. Conditions: as in the text. -/
import Derived.Test.YtkklcpmbgfgcmaaGreatIxN
set_option linter.unusedSimpArgs false
set_option linter.unusedVariables false
set_option linter.unnecessarySimpa false
namespace Go.Proofs.YtkklcpmbgfgcmaaGreat
open Go.RowKit
variable {lo : Nat}
/-- items by keys, few and with short texts -/
structure Good (S : List It) : Prop where
 srt : SrtI S
 len : S.length ≤ 1000
 dom : ∀ y ∈ S, y.key.domain.size ≤ 300
/-- block x holds an index of the items S -/
def IxAt (lo : Nat) (w : World) (x : Nat) (S : List It) (K : Nat) : Prop := ∃ T, TrIn lo w x S.length K T ∧ TreeOf S T.its
section
variable {w : World} {x K : Nat} {S : List It} {T : Tree}
theorem IxAt.kept {w' : World} (h : IxAt lo w x S K) (hb : Below w.heap.size w w') : IxAt lo w' x S K := by
 obtain ⟨T, h1, h2⟩ := h
 exact ⟨T, h1.kept hb, h2⟩
theorem itsOf_at (h : TreeOf S T.its) (p : Path) : itsOf T p = itsAt S p := by
 cases hT : T p with
 | some i => exact itsOf_tree h (by rw [hT]; rfl)
 | none =>
   have hn : ¬ There S p := fun ht => by
    have := h.all p ht
    unfold Tree.its at this
    rw [hT] at this
    cases this
   unfold itsOf
   rw [hT, itsAt_none hn]
theorem getI_at (k : Key) : getI (itsAt S (labs k.domain)) k = getI S k := by
 unfold getI itsAt
 rw [List.find?_filter]
 congr 1
 funext y
 by_cases e : y.key = k
 ·subst e; simp
 ·simp [e]
theorem few_of (h : TreeOf S T.its) (hg : Good S) : Few T := ⟨fun p nd hp => by
 have h1 := itsOf_at h p
 unfold itsOf at h1
 rw [hp] at h1
 simp only at h1
 rw [h1]
 have := itsAt_length S p
 have := hg.len
 omega⟩
theorem there_of (h : TreeOf S T.its) (p : Path) : (T p).isSome = true ↔ There S p := by
 constructor
 ·intro hp
  obtain ⟨i, hi⟩ := Option.isSome_iff_exists.1 hp
  exact (h.its p _ (its_some hi)).2
 ·intro hp
  have := h.all p hp
  obtain ⟨l, hl⟩ := Option.isSome_iff_exists.1 this
  obtain ⟨i, hi, _⟩ := its_inv hl
  rw [hi]; rfl
theorem short_of (h : TreeOf S T.its) (hg : Good S) : ∀ q, (T q).isSome = true → q.length ≤ 301 := fun q hq => by
 rcases (there_of h q).1 hq with rfl | ⟨y, hy, hp⟩
 ·simp
 ·have h1 := hp.length_le
  have h2 := labs_length y.key.domain
  have h3 := hg.dom y hy
  omega
theorem Good.put (hg : Good S) {y : It} (hy : y.key.domain.size ≤ 300) (hl : S.length ≤ 999) : Good (putI S y) :=
 ⟨putI_srt hg.srt, by have := putI_length S y; omega, fun z hz => by
  rcases mem_putI.1 hz with rfl | hz
  ·exact hy
  ·exact hg.dom z hz.1⟩
theorem Good.nil : Good [] := ⟨List.Pairwise.nil, by simp, fun y hy => (nomatch hy)⟩
def RetPutS (lo : Nat) (x : Nat) (S : List It) (y : It) (K : Nat) (w : World) (e : Ending) (w' : World) : Prop := e = .returned (.bool (getI S y.key).isNone) ∧ IxAt lo w' x (putI S y) K ∧ IxFr lo w w'
theorem put_s (h : IxAt lo w x S K) (hg : Good S) (y : It) (hd : y.key.domain.size ≤ 300) (hK : K ≤ 536870912) : Calls Tryz.prog 9 #[ndVal x, itVal y] w (RetPutS lo x S y (K + 301) w) := by
 obtain ⟨T, h1, h2⟩ := h
 refine (ixPut_any h1 (few_of h2 hg) y (by omega) (fun p => by rw [itsOf_at h2]; exact itsAt_srt hg.srt p) (by omega) (by have := hg.len; omega)).mono ?_
 rintro e w' ⟨T', rfl, h3, h4, h5⟩
 rw [itsOf_at h2, getI_at] at *
 have hlen : ((putI S y).length : Int) = if (getI S y.key).isNone then (S.length : Int) + 1 else S.length := by
  cases hgi : getI S y.key with
  | none => rw [putI_len_new hg.srt hgi]; simp
  | some z => rw [putI_len_old hg.srt hgi]; simp
 refine ⟨rfl, ⟨T', ?_, ?_⟩, h5⟩
 ·rw [← hlen] at h3
  refine h3.mono ?_
  have := labs_length y.key.domain
  omega
 ·rw [h4]
  exact TreeOf.put hg.srt h2 y
theorem len_s (h : IxAt lo w x S K) : Calls Tryz.prog 14 #[ndVal x] w fun e w' => e = .returned (.int .i64 S.length) ∧ w = w' := by
 obtain ⟨T, h1, h2⟩ := h
 exact ixLen_any h1
theorem sub_length {α : Type} : ∀ {l m : List α}, l.Nodup → (∀ x ∈ l, x ∈ m) → l.length ≤ m.length
 | [], _, _, _ => Nat.zero_le _
 | x :: l, m, hn, hs => by
   obtain ⟨m', hm⟩ := perm_split (hs x List.mem_cons_self)
   have hn' := List.nodup_cons.1 hn
   have ih := sub_length (l := l) (m := m') hn'.2 fun y hy => by
     rcases List.mem_cons.1 (hm.mem_iff.1 (hs y (List.mem_cons_of_mem _ hy))) with rfl | h
     ·exact absurd hy hn'.1
     ·exact h
   rw [hm.length_eq, List.length_cons, List.length_cons]
   omega
/-- all nodes but the root -/
def nodesP (S : List It) : List Path := S.flatMap fun y => (List.range (labs y.key.domain).length).map fun k => (labs y.key.domain).take (k + 1)
theorem mem_nodesP {S : List It} {q : Path} : q ∈ nodesP S ↔ (q ≠ [] ∧ There S q) := by
 unfold nodesP
 rw [List.mem_flatMap]
 constructor
 ·rintro ⟨y, hy, hq⟩
  obtain ⟨k, hk, rfl⟩ := List.mem_map.1 hq
  have hk' := List.mem_range.1 hk
  refine ⟨fun e => ?_, Or.inr ⟨y, hy, List.take_prefix _ _⟩⟩
  have := congrArg List.length e
  rw [List.length_take, List.length_nil] at this
  omega
 ·rintro ⟨hq, rfl | ⟨y, hy, hp⟩⟩
  ·exact absurd rfl hq
  ·refine ⟨y, hy, List.mem_map.2 ⟨q.length - 1, List.mem_range.2 ?_, ?_⟩⟩
   ·have := hp.length_le
    have := List.length_pos_iff.2 hq
    omega
   ·have := List.length_pos_iff.2 hq
    rw [show q.length - 1 + 1 = q.length by omega]
    exact (List.prefix_iff_eq_take.1 hp).symm
theorem nodesP_length {S : List It} (hg : Good S) : (nodesP S).length ≤ S.length * 301 := by
 unfold nodesP
 have h : ∀ l : List It, (∀ y ∈ l, y.key.domain.size ≤ 300) → (l.flatMap fun y => (List.range (labs y.key.domain).length).map fun k => (labs y.key.domain).take (k + 1)).length ≤ l.length * 301 := by
  intro l
  induction l with
  | nil => intro _; simp
  | cons y l ih =>
    intro hl
    have h1 := ih fun z hz => hl z (List.mem_cons_of_mem _ hz)
    have h2 := hl y List.mem_cons_self
    have h3 := labs_length y.key.domain
    rw [List.flatMap_cons, List.length_append, List.length_map, List.length_range, List.length_cons]
    omega
 exact h S hg.dom
/-- how many nodes: of any list of them, none twice -/
theorem nodes_s (h : IxAt lo w x S K) (hg : Good S) (hK : K ≤ 536870912) (us : List Path) (hu : us.Nodup) (hm : ∀ q, q ∈ us ↔ q ∈ nodesP S) : Calls Tryz.prog 15 #[ndVal x] w fun e w' => e = .returned (.int .i64 us.length) ∧ Below w.heap.size w w' := by
 obtain ⟨T, h1, h2⟩ := h
 refine (ixNodes_any h1 (by omega) 301 (short_of h2 hg)).mono ?_
 rintro e w' ⟨vs, rfl, g1, g2, hb⟩
 have hp : vs.Perm us := (List.perm_ext_iff_of_nodup g1 hu).2 fun q => by
  rw [g2 q, hm q, mem_nodesP, there_of h2]
 have hle : us.length ≤ (nodesP S).length := sub_length hu fun q hq => (hm q).1 hq
 have h6 := nodesP_length hg
 have h7 := hg.len
 refine ⟨?_, hb⟩
 rw [hp.length_eq, IntWalk.i64_in _ (by omega)]
theorem domain_s (h : IxAt lo w x S K) (hg : Good S) (d : ByteArray) (hd : d.size ≤ 600) : Calls Tryz.prog 8 #[ndVal x, .string d] w (RetIts (domI S d) w) := by
 obtain ⟨T, h1, h2⟩ := h
 have := ixDomain_any h1 (few_of h2 hg) d (by omega)
 rw [itsOf_at h2, itsAt_labs] at this
 exact this
/-- the items of a name's domains -/
def nearI (S : List It) (d : ByteArray) : List It := S.filter fun y => (labs y.key.domain).isPrefixOf (labs d)
theorem nearTo_at (h : TreeOf S T.its) (l : Path) : ∀ k, k ≤ l.length → ∀ y, y ∈ nearTo T l k ↔ (y ∈ S ∧ labs y.key.domain <+: l ∧ (labs y.key.domain).length ≤ k)
 | 0, _, y => by
   simp only [nearTo, List.not_mem_nil, false_iff]
   rintro ⟨_, _, h0⟩
   exact labs_ne y.key.domain (List.eq_nil_of_length_eq_zero (by omega))
 | k + 1, hk, y => by
   rw [nearTo, List.mem_append, nearTo_at h l k (by omega) y, itsOf_at h, mem_itsAt]
   constructor
   ·rintro (⟨h1, h2, h3⟩ | ⟨h1, h2⟩)
    ·exact ⟨h1, h2, by omega⟩
    ·exact ⟨h1, by rw [h2]; exact List.take_prefix _ _, by rw [h2, List.length_take]; omega⟩
   ·rintro ⟨h1, h2, h3⟩
    by_cases e : (labs y.key.domain).length ≤ k
    ·exact Or.inl ⟨h1, h2, e⟩
    ·refine Or.inr ⟨h1, ?_⟩
     have e1 : (labs y.key.domain).length = k + 1 := by omega
     rw [← e1]
     exact List.prefix_iff_eq_take.1 h2
theorem nearTo_nodup (h : TreeOf S T.its) (hs : SrtI S) (l : Path) : ∀ k, k ≤ l.length → (nearTo T l k).Nodup
 | 0, _ => List.nodup_nil
 | k + 1, hk => by
   rw [nearTo]
   refine List.nodup_append.2 ⟨nearTo_nodup h hs l k (by omega), by rw [itsOf_at h]; exact srtI_nodup (itsAt_srt hs _), fun a ha b hb e => ?_⟩
   subst e
   have h1 := ((nearTo_at h l k (by omega) a).1 ha).2.2
   rw [itsOf_at h] at hb
   have h2 := (mem_itsAt.1 hb).2
   rw [h2, List.length_take] at h1
   omega
theorem near_s (h : IxAt lo w x S K) (hg : Good S) (d : ByteArray) (hd : d.size ≤ 600) : Calls Tryz.prog 11 #[ndVal x, .string d] w (RetIts (nearI S d) w) := by
 obtain ⟨T, h1, h2⟩ := h
 refine ixNear_any h1 (few_of h2 hg) d (by omega) (nearI S d) (hg.srt.filter _) (fun y => ?_) (nearTo_nodup h2 hg.srt _ _ (Nat.le_refl _)) (by
  have := List.length_filter_le (fun y : It => (labs y.key.domain).isPrefixOf (labs d)) S
  have := hg.len
  unfold nearI
  omega)
 rw [nearTo_at h2 _ _ (Nat.le_refl _)]
 unfold nearI
 rw [List.mem_filter, List.isPrefixOf_iff_prefix]
 exact ⟨fun g => ⟨g.1, g.2.1⟩, fun g => ⟨g.1, g.2, g.2.length_le⟩⟩
end
set_option maxRecDepth 100000 in
set_option maxHeartbeats 2000000 in
theorem new_s (a : Option Addr) (cap : Nat) (l : List It) (w : World) (hlo : lo ≤ w.heap.size) (hin : ItsIn w a l) (hl : l.length ≤ 900) (hd : ∀ y ∈ l, y.key.domain.size ≤ 300) :
 Calls Tryz.prog 7 #[.slice a l.length cap] w fun e w' => e = .returned (ndVal w.heap.size) ∧ IxAt lo w' w.heap.size (byI l) (l.length * 301) ∧ IxFr lo w w' := by
 have HG : Hid (∀ k, Good (byI (l.take k))) := Lib.hid fun k => ⟨byI_srt _, by have := byI_length (l.take k); rw [List.length_take] at this; omega, fun y hy => hd y (List.mem_of_mem_take (mem_byI_sub hy))⟩
 have HD := Lib.hid hd
 clear hd
 go_enter Tryz.func7, Tryz.ntmps7
 go_upto_region 3 with fail
 refine wp_name (fun W hW => ?_)
 have hb : Below w.heap.size w W := by rw [hW.out]; go_grown
 have hI0 : IxAt lo W w.heap.size [] 0 := by
  rw [hW.out]
  refine ⟨tree0 w.heap.size, TrIn.made w hlo, ?_⟩
  have e : (tree0 w.heap.size).its = fun p => if p = [] then some [] else none := by
   funext p
   unfold Tree.its tree0
   split <;> rfl
  rw [e]
  exact treeOf_nil
 clear hW
 go_loopw [10] (fun i wr => ∃ k : Nat, i = .int .i64 k ∧ k ≤ l.length ∧ IxAt lo wr w.heap.size (byI (l.take k)) (k * 301) ∧ IxFr lo w wr) (fun i _ => l.length - (intOf i).toNat)
 case atStart => exact ⟨0, rfl, Nat.zero_le _, hI0, IxFr.of_below hb⟩
 case round =>
  obtain ⟨k, rfl, hk, hI, hfr⟩ := hrel
  by_cases hlt : k < l.length
  ·obtain ⟨A, off, rfl, hr⟩ := ItsIn.at (hin.ix hfr) hlt
   have hdy := HD.out _ (List.getElem_mem hlt)
   have HT : Hid (byI (l.take (k + 1)) = putI (byI (l.take k)) l[k]) := by
        unfold Hid
        rw [List.take_succ_eq_append_getElem hlt, byI_snoc]
   have hgk := HG.out k
   generalize l[k] = y at *
   generalize byI (l.take k) = S at *
   have HLT := Lib.hid hlt
   clear hlt
   go_upto_region 5 with (first
        | ((with_reducible refine wpList_load_to 27 _ A (off + k * 11) (itCells y) (itVal y) rfl _ Tryz.underlying27 rfl (by kernel_rfl) hr ?_ rfl ?_); exact rfl)
        | (refine wpList_store_new 27 _ _ _ (itCells y).toArray rfl rfl (by kernel_rfl) rfl (by kernel_rfl) ?_))
   refine wp_name (fun V hV => ?_)
   have hbV : Below wr.heap.size wr V := by rw [hV.out]; exact (Below.refl _ _).alloc (Nat.le_refl _) _
   have hyV : V.rangeAt wr.heap.size 0 (itCells y) := by rw [hV.out]; exact itCells_box y wr _
   have HP := Lib.hid (put_s (hI.kept hbV) hgk y hdy (by omega))
   have HF := Lib.hid (hfr.trans (IxFr.of_below hbV))
   clear hV hbV hI hfr hr
   go_wp2_with (first
        | ((with_reducible refine wpList_load_to 27 _ wr.heap.size 0 (itCells y) (itVal y) rfl _ Tryz.underlying27 rfl (by kernel_rfl) hyV ?_ rfl ?_); exact rfl)
        | (go_at_call 9; refine HP.out.mono ?_; rintro e w3 ⟨rfl, hI3, hf3⟩))
   have HZ : Hid (IxAt lo w3 w.heap.size (byI (l.take (k + 1))) ((k + 1) * 301) ∧ IxFr lo w w3) := Lib.hid ⟨by rw [HT.out, show (k + 1) * 301 = k * 301 + 301 by omega]; exact hI3, HF.out.trans hf3⟩
   clear hI3 hf3
   go_roundw
   case rel => exact ⟨k + 1, by go_num, HLT.out, HZ.out.1, HZ.out.2⟩
   case measure => have := HLT.out; simp [intOf]; omega
  ·obtain rfl : k = l.length := by omega
   rw [List.take_length] at hI
   have HZ := Lib.hid (And.intro hI hfr)
   clear hI hfr
   go_wp2
   all_goals
        go_ret
        exact ⟨rfl, HZ.out.1, HZ.out.2⟩
end Go.Proofs.YtkklcpmbgfgcmaaGreat
