/- The index: a domain's labels; the node of labels. Conditions: as in the text. -/
import Derived.Test.YtkklcpmbgfgcmaaGreatIxB
import Derived.Deep.LoopGhost
import Derived.Sort.WalkB12
import Derived.Sort.EncStr
import Derived.Lib.SlicesMore
import Derived.Shelf.RegionOpenPlain
set_option linter.unusedSimpArgs false
set_option linter.unusedVariables false
set_option linter.unnecessarySimpa false
namespace Go.Proofs.YtkklcpmbgfgcmaaGreat
open Go.RowKit Go.Sort
variable {lo : Nat}
/-! ### slices.Reverse at strings -/
theorem strVals_enc (l : List Bytes) : strVals l = l.map encStr := by
 unfold strVals
 refine List.map_congr_left fun x _ => ?_
 simp [encStr, mkS]
theorem take_put1 {α : Type} [Inhabited α] (enc : α → Value) (cur : Array Value) (l : List α) (h : l.length ≤ cur.size) : (Go.Sort.putCells enc 0 l.toArray cur).toList.take l.length = l.map enc := by
 apply List.ext_getElem?
 intro j
 by_cases hj : j < l.length
 ·have hjc : j < cur.size := by omega
  rw [List.getElem?_take_of_lt hj, Array.getElem?_toList]
  simp only [Go.Sort.putCells, Array.getElem?_mapIdx, Array.getElem?_eq_getElem hjc, Option.map_some, Nat.zero_add, Nat.zero_le, true_and, Nat.sub_zero]
  simp [hj]
 ·rw [List.getElem?_take_eq_none (by omega), List.getElem?_eq_none (by simp; omega)]
theorem heap_put1 {α : Type} [Inhabited α] (enc : α → Value) {w : World} {g q : Nat} {cur : Array Value} {e : TypeId} {fr : Nat × Nat} (d : Array α) (hb : w.heap[g]? = some (.cells cur e fr)) :
 (putRow enc (Go.Sort.ahead w q) g 0 d).heap[g]? = some (.cells (Go.Sort.putCells enc 0 d cur) e fr) := by
 simp [Go.Sort.putRow, Go.Sort.mapBlock, Go.Sort.ahead, Array.getElem?_modify, hb, Go.Sort.onCells]
theorem fr_put1 {α : Type} [Inhabited α] (enc : α → Value) {w : World} {g q : Nat} (d : Array α) : Fr (isR g) w (putRow enc (Go.Sort.ahead w q) g 0 d) := by
 refine ⟨rfl, rfl, rfl, by simp [Go.Sort.putRow, Go.Sort.mapBlock, Go.Sort.ahead], fun j hj hne => ?_⟩
 have : g ≠ j := fun e => hne e.symm
 simp [Go.Sort.putRow, Go.Sort.mapBlock, Go.Sort.ahead, Array.getElem?_modify, this]
theorem holds_own1 {w : World} {g : Nat} {cur : Array Value} {e : TypeId} {l : List Bytes} (hb : w.heap[g]? = some (.cells cur e (0, 0))) (ht : cur.toList.take (l.length * 1) = strVals l) : Holds encStr w g 0 l.toArray := by
 intro j hj
 have hj' : j < l.length := by simpa using hj
 refine ⟨?_, by simp [World.frozen?, hb]⟩
 have h1 : (cur.toList.take (l.length * 1))[j]? = (strVals l)[j]? := by rw [ht]
 rw [strVals_enc, List.getElem?_take_of_lt (by omega), List.getElem?_map, List.getElem?_eq_getElem hj'] at h1
 simp only [World.cell?, hb, Nat.zero_add]
 simp only [Option.isSome_none, Bool.false_eq_true, if_false]
 rw [← Array.getElem?_toList, h1]
 simp [hj']
set_option maxHeartbeats 1600000 in
set_option maxRecDepth 1000000 in
theorem revStr_arr (blk off cap : Nat) (d : Array (List UInt8)) (w : World) (hH : Holds encStr w blk off d) (hsz : d.size ≤ 9223372036854775807) :
 Calls Tryz.prog 30 #[.slice (some ⟨blk, off, none⟩) d.size cap] w fun e w' => e = .returned (.tuple #[]) ∧ ∃ n, w' = putRow encStr (Sort.ahead w n) blk off d.reverse := by
 have mixed : Tryz.prog.follows .mixedOrders = true := by kernel_rfl
 go_enter Tryz.func30, Tryz.ntmps30
 go_wp2
 go_loopg [2, 3] d.size (fun k s2 s3 wr => ∃ (i jn : Nat) (jz : Int) (dk : Array (List UInt8)) (n : Nat), s2 = .int .i64 i ∧ s3 = .int .i64 jz ∧ ((i : Int) < jz → jz = jn ∧ jn < d.size) ∧ (¬ (i : Int) < jz → ¬ i < jn) ∧ jn - i ≤ k ∧
  dk.size = d.size ∧ wr = putRow encStr (Sort.ahead w n) blk off dk ∧ reverseLoop i jn dk = reverseLoop 0 (d.size - 1) d)
 case atStart => exact ⟨0, d.size - 1, (d.size : Int) - 1, d, 0, rfl, rfl, fun h => ⟨by omega, by omega⟩, fun h => by omega, by omega, rfl, (putRow_self encStr w blk off d hH).symm, rfl⟩
 case round =>
  obtain ⟨i, jn, jz, dk, n, rfl, rfl, h1, h2, hk, hds, hwr, heq⟩ := hrel
  by_cases hlt : (i : Int) < jz
  ·obtain ⟨rfl, hjn⟩ := h1 hlt
   have hij : i < jn := by omega
   have hid : i < d.size := by omega
   have hid' : (i : Int) < (d.size : Int) := by omega
   have hjd' : (jn : Int) < (d.size : Int) := by omega
   have hHk : Holds encStr wr blk off dk := by rw [hwr]; exact holds_putRow encStr _ blk off d dk (holds_ahead encStr w n blk off d hH) hds
   obtain ⟨ci, fi⟩ := hHk i (by omega)
   obtain ⟨cj, fj⟩ := hHk jn (by omega)
   have A : Aside (wr = putRow encStr (Sort.ahead w n) blk off dk) := hwr
   clear hwr hHk hH h1 h2
   go_wp2_with fail
   go_region_o
   go_wp2
   go_roundg (jn - 1 - (i + 1))
   case measure => omega
   case rel =>
        rw [reverseLoop, if_pos hij] at heq
        exact ⟨i + 1, jn - 1, (jn : Int) - 1, swp dk i jn, n + 1, by simp, rfl, fun h => ⟨by omega, by omega⟩, fun h => by omega, Nat.le_refl _, by rw [size_swp]; exact hds,
         swap_world encStr (by omega) (by omega) A.out (by first | rfl | simp [encStr, getElem!_pos, show jn < dk.size by omega]) (by first | rfl | simp [encStr, getElem!_pos, show i < dk.size by omega]), heq⟩
  ·have hnot := h2 hlt
   go_wp2
   go_end0
   refine ⟨rfl, n, ?_⟩
   rw [reverseLoop, if_neg hnot] at heq
   rw [← Lib.reverseLoop_reverse, ← heq]
set_option maxHeartbeats 1000000 in
theorem revStr_none (a : Option Addr) (cap : Nat) (w : World) :
 Calls Tryz.prog 30 #[.slice a 0 cap] w fun e w' => e = .returned (.tuple #[]) ∧ w' = w := by
 go_enter Tryz.func30, Tryz.ntmps30
 go_wp2
 go_loopg [2, 3] 0 (fun _ s2 s3 wr => s2 = .int .i64 0 ∧ s3 = .int .i64 (-1) ∧ wr = w)
 case atStart => exact ⟨rfl, rfl, rfl⟩
 case round =>
  obtain ⟨rfl, rfl, rfl⟩ := hrel
  go_wp2
  go_end0
  exact ⟨rfl, rfl⟩
theorem revStr_any (base : Nat) (v : Value) (l : List Bytes) (w : World) (hown : w.ownsRow base 9 1 v l.length (strVals l)) (hl : l.length ≤ 1073741824) :
 Calls Tryz.prog 30 #[v] w fun e w' => e = .returned (.tuple #[]) ∧ w'.ownsRow base 9 1 v l.length (strVals l.reverse) ∧ Fr (fun k => v.ownBlock = some k) w w' := by
 rcases hown.2 with ⟨rfl, hz⟩ | ⟨g, cap, cur, rfl, hbase, hgb, r1, r2, r3, r4⟩
 ·obtain rfl : l = [] := List.eq_nil_of_length_eq_zero hz
  refine (revStr_none none 0 w).mono ?_
  rintro e w' ⟨rfl, rfl⟩
  exact ⟨rfl, hown, Fr.refl _ _⟩
 ·have h := revStr_arr g 0 cap l.toArray w (holds_own1 hgb r4) (by simp; omega)
  rw [List.size_toArray] at h
  refine h.mono ?_
  rintro e w' ⟨rfl, q, rfl⟩
  have hrev : l.toArray.reverse = l.reverse.toArray := by simp
  rw [hrev]
  refine ⟨rfl, ⟨by simp [strVals], .inr ⟨g, cap, _, rfl, hbase, heap_put1 encStr _ hgb, r1, r2, by simp [Go.Sort.putCells, r3], ?_⟩⟩, (fr_put1 encStr _).mono fun k _ hk => by subst hk; rfl⟩
  have := take_put1 encStr cur l.reverse (by rw [List.length_reverse, r3]; omega)
  rw [List.length_reverse] at this
  rw [Nat.mul_one, this, strVals_enc]
set_option maxHeartbeats 1000000 in
theorem labels_any (s : ByteArray) (w : World) (hs : s.size ≤ 1073741823) : Calls Tryz.prog 17 #[.string s] w (RetStrs 9 (labs s) w) := by
 obtain ⟨l, hl⟩ : ∃ l, l = splitB 46 (bl s) := ⟨_, rfl⟩
 have hS := fun (W : World) => Split_any s 46 W (by omega)
 have HL : Hid (l.length ≤ 1073741824) := by
  have := splitB_length 46 (bl s)
  rw [bl_length] at this
  unfold Hid
  rw [hl]
  omega
 have HE : Hid (l.reverse = labs s) := by unfold Hid labs; rw [hl]
 rw [← hl] at hS
 have HS := Lib.hid hS
 clear hS hl
 go_enter Tryz.func17, Tryz.ntmps17
 go_wp2_with (first
  | (go_at_call 29; refine (HS.out _).mono ?_; rintro e w1 ⟨v, rfl, hown, hb⟩; have HV := Lib.hid (revStr_any _ v l w1 hown HL.out); have HB := Lib.hid hb)
  | (go_at_call 30; refine HV.out.mono ?_; rintro e w2 ⟨rfl, hown2, hfr⟩))
 all_goals
  go_ret
  exact ⟨v, rfl, by rw [← HE.out, List.length_reverse]; exact hown2, HB.out.trans (hfr.below HB.out.size fun k hk => (hown.lt k hk).1)⟩
/-- texts in memory, in a block of texts -/
def StrsIn (w : World) (a : Option Addr) (l : List Bytes) : Prop := l = [] ∨ ∃ A off, a = some ⟨A, off, none⟩ ∧ w.rangeAt A off (strVals l) ∧ ∃ cs f, w.heap[A]? = some (.cells cs 9 f)
theorem StrsIn.at {w : World} {a : Option Addr} {l : List Bytes} (h : StrsIn w a l) {k : Nat} (hk : k < l.length) : ∃ A off, a = some ⟨A, off, none⟩ ∧ w.cell? ⟨A, off + k, none⟩ = some (.string (mkS l[k])) := by
 rcases h with h | ⟨A, off, h1, h2, _⟩
 ·rw [h] at hk; simp at hk
 ·exact ⟨A, off, h1, h2 k _ (by simp [strVals, hk])⟩
theorem StrsIn.ix {w w' : World} {a : Option Addr} {l : List Bytes} (h : StrsIn w a l) (hf : IxFr lo w w') : StrsIn w' a l := by
 rcases h with h | ⟨A, off, h1, h2, cs, f, h3⟩
 ·exact Or.inl h
 ·have hn : ¬ IxB lo w A := by
   rintro ⟨_, (⟨c0, c1, g, hx⟩ | ⟨c0, c1, c2, g, hx⟩ | ⟨es, c, hx⟩)⟩
   ·rw [h3] at hx; simp at hx
   ·rw [h3] at hx; simp at hx
   ·rw [h3] at hx; cases hx
  have hb := hf.block A (Array.getElem?_eq_some_iff.1 h3).1 hn
  exact Or.inr ⟨A, off, h1, fun j v hv => (World.cell?_of_block (w := w) hb).trans (h2 j v hv), cs, f, hb.trans h3⟩
theorem StrsIn.kept {w w' : World} {a : Option Addr} {l : List Bytes} (h : StrsIn w a l) (hb : Below w.heap.size w w') : StrsIn w' a l := h.ix (IxFr.of_below (lo := 0) hb)
theorem strs_own {w : World} {base : Nat} {v : Value} {l : List Bytes} (h : w.ownsRow base 9 1 v l.length (strVals l)) : ∃ a cap, v = .slice a l.length cap ∧ StrsIn w a l ∧ l.length ≤ cap := by
 obtain ⟨a, cap, rfl, hin, hc⟩ := own_cellsIn h
 refine ⟨a, cap, rfl, ?_, hc⟩
 rcases h.2 with ⟨hn, h0⟩ | ⟨g, cap', cur, hv, _, hg, _⟩
 ·exact Or.inl (List.eq_nil_of_length_eq_zero h0)
 ·cases hv
  rcases hin with h0 | ⟨A, off, h1, h2⟩
  ·exact Or.inl (by simpa [strVals] using h0)
  ·cases h1
   exact Or.inr ⟨_, _, rfl, h2, _, _, hg⟩
theorem StrsIn.cut {w : World} {a : Option Addr} {l : List Bytes} (h : StrsIn w a l) {cap : Nat} (hc : l.length ≤ cap) : StrsIn w (cutA a cap 1 1) (l.drop 1) := by
 unfold cutA
 split
 ·rename_i h0; exact Or.inl (List.drop_eq_nil_of_le (by omega))
 ·rcases h with h | ⟨A, off, rfl, h2, h3⟩
  ·exact Or.inl (by rw [h]; rfl)
  ·refine Or.inr ⟨A, off + 1 * 1, by simp [Addr.add_mid], fun j v hv => ?_, h3⟩
   have := h2 (1 + j) v (by unfold strVals at *; rw [List.map_drop, List.getElem?_drop] at hv; exact hv)
   rwa [← Nat.add_assoc] at this
/-! ### down -/
def downVal (T : Tree) (l : Path) : Value := match T l with | some c => ndVal c.b | none => .pointer none
theorem TrIn.pre {w : World} {x : Nat} {n : Int} {B : Nat} {T : Tree} (h : TrIn lo w x n B T) : ∀ (r : Path) (p : Path), T p = none → T (p ++ r) = none
 | [], p, hp => by rw [List.append_nil]; exact hp
 | s :: r, p, hp => by
   rw [show p ++ s :: r = (p ++ [s]) ++ r by simp]
   refine TrIn.pre h r _ ?_
   cases hh : T (p ++ [s]) with
   | none => rfl
   | some i =>
     obtain ⟨j, hj⟩ := h.up p s i hh
     rw [hp] at hj; cases hj
theorem TrIn.none_of {w : World} {x : Nat} {n : Int} {B : Nat} {T : Tree} (h : TrIn lo w x n B T) {p q : Path} (hpq : p <+: q) (hp : T p = none) : T q = none := by
 obtain ⟨r, rfl⟩ := hpq
 exact h.pre r p hp
theorem take_snoc {l : Path} {k : Nat} (h : k < l.length) : l.take (k + 1) = l.take k ++ [l[k]] := List.take_succ_eq_append_getElem h
set_option maxHeartbeats 1000000 in
theorem downNo_any {w : World} {x : Nat} {n : Int} {B : Nat} {T : Tree} (h : TrIn lo w x n B T) (l : Path) (a : Option Addr) (cap : Nat) (hs : ∀ s ∈ l, s.length ≤ maxLen) (hll : l.length ≤ 1073741824) (hin : StrsIn w a l) :
 Calls Tryz.prog 16 #[ndVal x, .slice a l.length cap, .bool false] w fun e w' => e = .returned (downVal T l) ∧ w = w' := by
 obtain ⟨r, hr, hrb⟩ := h.top
 have HH := Lib.hid h
 clear h
 go_enter Tryz.func16, Tryz.ntmps16
 go_wp2
 go_loop [0, 12] (fun d i => ∃ (k : Nat) (nd : Nd), i = .int .i64 k ∧ k ≤ l.length ∧ d = ndVal nd.b ∧ T (l.take k) = some nd) (fun _ i => l.length - (intOf i).toNat)
 case atStart => exact ⟨0, r, rfl, Nat.zero_le _, by rw [hrb], by simpa using hr⟩
 case round =>
  obtain ⟨k, nd, rfl, hk, rfl, hT⟩ := hrel
  by_cases hlt : k < l.length
  ·obtain ⟨A, off, rfl, hc⟩ := hin.at hlt
   have hbel := (HH.out.nodes _ _ hT).bel
   have hlook := HH.out.look hT (mkS l[k]) (hs _ (List.getElem_mem hlt))
   have HT := Lib.hid hT
   have HK : Hid (l.take (k + 1) = l.take k ++ [bl (mkS l[k])]) := Lib.hid (take_snoc hlt)
   generalize mkS l[k] = s at *
   clear hT
   cases hc2 : T (l.take k ++ [bl s]) with
   | none =>
     have hv : kidVal T (l.take k) (bl s) = .pointer none := by unfold kidVal; rw [hc2]
     rw [hv] at hlook
     have HE : Hid (downVal T l = .pointer none) := by
      unfold Hid downVal
      rw [HH.out.none_of (p := l.take (k + 1)) (List.take_prefix _ _) (by rw [HK.out]; exact hc2)]
     clear hv hc2
     go_wp2
     all_goals
      go_ret
      exact ⟨ret_val HE.out.symm, rfl⟩
   | some c =>
     have hv : kidVal T (l.take k) (bl s) = ndVal c.b := by unfold kidVal; rw [hc2]
     rw [hv] at hlook
     have HC := Lib.hid hc2
     clear hv hc2
     go_wp2
     go_round
     case rel => exact ⟨k + 1, c, by go_num, by omega, rfl, by rw [HK.out]; exact HC.out⟩
     case measure => simp [intOf]; omega
  ·obtain rfl : k = l.length := by omega
   rw [List.take_length] at hT
   have HE : Hid (downVal T l = ndVal nd.b) := by unfold Hid downVal; rw [hT]
   clear hT
   go_wp2
   all_goals
        go_ret
        exact ⟨ret_val HE.out.symm, rfl⟩
/-- the nodes of some labels are made -/
structure Grown (T T' : Tree) (l : Path) : Prop where
 old : ∀ q i, T q = some i → ∃ i', T' q = some i' ∧ i'.b = i.b ∧ i'.its = i.its
 new : ∀ q i', T' q = some i' → T q = none → q <+: l ∧ i'.its = []
 all : ∀ q, q <+: l → ∃ i', T' q = some i'
theorem Grown.its {T T' : Tree} {l : Path} (h : Grown T T' l) : T'.its = grownA T.its l := by
 funext q
 cases hq : T q with
 | some i =>
   obtain ⟨i', h1, _, h2⟩ := h.old q i hq
   have e1 : T.its q = some i.its := by unfold Tree.its; rw [hq]; rfl
   have e2 : T'.its q = some i.its := by unfold Tree.its; rw [h1, ← h2]; rfl
   unfold grownA
   rw [e1, e2]
 | none =>
   have e1 : T.its q = none := by unfold Tree.its; rw [hq]; rfl
   unfold grownA
   rw [e1]
   simp only
   by_cases hp : q.isPrefixOf l = true
   ·rw [if_pos hp]
    obtain ⟨i', h1⟩ := h.all q (List.isPrefixOf_iff_prefix.1 hp)
    unfold Tree.its
    rw [h1, ← (h.new q i' h1 hq).2]
    rfl
   ·rw [if_neg hp]
    cases h1 : T' q with
    | none => unfold Tree.its; rw [h1]; rfl
    | some i' => exact absurd (List.isPrefixOf_iff_prefix.2 (h.new q i' h1 hq).1) hp
theorem Grown.start {T : Tree} {r : Nd} (h : T [] = some r) : Grown T T [] :=
 ⟨fun q i hq => ⟨i, hq, rfl, rfl⟩, fun q i hq hn => (by rw [hn] at hq; cases hq), fun q hq => (by rw [List.prefix_nil.1 hq]; exact ⟨r, h⟩)⟩
theorem prefix_snoc {q p : Path} {s : Bytes} (h : q <+: p ++ [s]) : q <+: p ∨ q = p ++ [s] := by
 obtain ⟨r, hr⟩ := h
 rcases List.eq_nil_or_concat r with rfl | ⟨r', t, rfl⟩
 ·right; simpa using hr
 ·left
  rw [List.concat_eq_append, ← List.append_assoc] at hr
  exact ⟨r', (snoc_inj hr).1⟩
theorem Grown.keep {T T' : Tree} {p : Path} {s : Bytes} {c : Nd} (h : Grown T T' p) (hc : T' (p ++ [s]) = some c) : Grown T T' (p ++ [s]) :=
 ⟨h.old, fun q i hq hn => ⟨(h.new q i hq hn).1.trans (List.prefix_append _ _), (h.new q i hq hn).2⟩, fun q hq => by
  rcases prefix_snoc hq with hq | rfl
  ·exact h.all q hq
  ·exact ⟨c, hc⟩⟩
theorem Grown.mapSet {T T' : Tree} {p q : Path} {nd : Nd} {mb : Option Nat} (h : Grown T T' q) (hp : T' p = some nd) : Grown T (T'.upd p (some { nd with mb := mb })) q := by
 refine ⟨fun r i hr => ?_, fun r i hr hn => ?_, fun r hr => ?_⟩
 ·obtain ⟨i', h1, h2, h3⟩ := h.old r i hr
  by_cases e : r = p
  ·subst e
   rw [hp] at h1; cases h1
   exact ⟨_, Tree.upd_same _ _ _, h2, h3⟩
  ·exact ⟨i', (Tree.upd_other _ _ e).trans h1, h2, h3⟩
 ·by_cases e : r = p
  ·subst e
   rw [Tree.upd_same] at hr
   cases hr
   exact h.new r nd hp hn
  ·rw [Tree.upd_other _ _ e] at hr
   exact h.new r i hr hn
 ·by_cases e : r = p
  ·subst e; exact ⟨_, Tree.upd_same _ _ _⟩
  ·obtain ⟨i', h1⟩ := h.all r hr
   exact ⟨i', (Tree.upd_other _ _ e).trans h1⟩
theorem Grown.add {T T' : Tree} {p : Path} {s : Bytes} {b : Nat} (h : Grown T T' p) (hn : T' (p ++ [s]) = none) : Grown T (T'.upd (p ++ [s]) (some ⟨b, [], none⟩)) (p ++ [s]) := by
 refine ⟨fun r i hr => ?_, fun r i hr hn' => ?_, fun r hr => ?_⟩
 ·obtain ⟨i', h1, h2, h3⟩ := h.old r i hr
  have e : r ≠ p ++ [s] := fun e => by rw [e, hn] at h1; cases h1
  exact ⟨i', (Tree.upd_other _ _ e).trans h1, h2, h3⟩
 ·by_cases e : r = p ++ [s]
  ·subst e
   rw [Tree.upd_same] at hr
   cases hr
   exact ⟨List.prefix_refl _, rfl⟩
  ·rw [Tree.upd_other _ _ e] at hr
   exact ⟨(h.new r i hr hn').1.trans (List.prefix_append _ _), (h.new r i hr hn').2⟩
 ·rcases prefix_snoc hr with hr | rfl
  ·by_cases e : r = p ++ [s]
   ·exact ⟨_, by rw [e]; exact Tree.upd_same _ _ _⟩
   ·obtain ⟨i', h1⟩ := h.all r hr
    exact ⟨i', (Tree.upd_other _ _ e).trans h1⟩
  ·exact ⟨_, Tree.upd_same _ _ _⟩
def RetDown (lo : Nat) (w : World) (x : Nat) (n : Int) (B : Nat) (T : Tree) (l : Path) (e : Ending) (w' : World) : Prop :=
 ∃ (T' : Tree) (c : Nd), e = .returned (ndVal c.b) ∧ T' l = some c ∧ TrIn lo w' x n (B + l.length) T' ∧ Grown T T' l ∧ IxFr lo w w'
set_option maxRecDepth 100000 in
set_option maxHeartbeats 2000000 in
theorem downGrow_any {w : World} {x : Nat} {n : Int} {B : Nat} {T : Tree} (h : TrIn lo w x n B T) (l : Path) (a : Option Addr) (cap : Nat) (hs : ∀ s ∈ l, s.length ≤ maxLen) (hll : l.length ≤ 1073741824) (hB : B ≤ 1073741824) (hin : StrsIn w a l) :
 Calls Tryz.prog 16 #[ndVal x, .slice a l.length cap, .bool true] w (RetDown lo w x n B T l) := by
 obtain ⟨r, hr, hrb⟩ := h.top
 have HH := Lib.hid h
 clear h
 have hmm := @run_makeMap Tryz.prog
 have qT : ∀ (w : World) (r : Option Nat), (binOp .eql 45 (.map r) (.map none)).run Tryz.prog w = .ok (.bool r.isNone) w := fun w r => run_eql_map_nil w _ _ _ r Tryz.underlying45
 go_enter Tryz.func16, Tryz.ntmps16
 go_wp2
 go_loopw [0, 12] (fun d i wr => ∃ (k : Nat) (nd : Nd) (T' : Tree), i = .int .i64 k ∧ k ≤ l.length ∧ d = ndVal nd.b ∧ T' (l.take k) = some nd ∧ TrIn lo wr x n (B + k) T' ∧ Grown T T' (l.take k) ∧ IxFr lo w wr) (fun _ i _ => l.length - (intOf i).toNat)
 case atStart => exact ⟨0, r, T, rfl, Nat.zero_le _, by rw [hrb], by simpa using hr, HH.out, by simpa using Grown.start hr, Fr.refl _ _⟩
 case round =>
  obtain ⟨k, nd, T', rfl, hk, rfl, hT, htr, hgr, hfr⟩ := hrel
  by_cases hlt : k < l.length
  ·obtain ⟨A, off, rfl, hc⟩ := (hin.ix hfr).at hlt
   have hbel := (htr.nodes _ _ hT).bel
   have hsz := hs _ (List.getElem_mem hlt)
   have hsz' : (mkS l[k]).size ≤ maxLen := hsz
   have hlook := htr.look hT (mkS l[k]) hsz'
   have HT := Lib.hid hT
   have HK : Hid (l.take (k + 1) = l.take k ++ [bl (mkS l[k])]) := Lib.hid (take_snoc hlt)
   have HSZ := Lib.hid hsz'
   clear hsz hsz'
   generalize mkS l[k] = s at *
   generalize l.take k = p at *
   have HTR := Lib.hid htr
   have HGR := Lib.hid hgr
   have HFR := Lib.hid hfr
   have hfz0 := htr.unfrozen hT 0
   have hfz1 := htr.unfrozen hT 1
   have hnl := htr.lt hT
   clear hT htr hgr hfr
   cases hc2 : T' (p ++ [bl s]) with
   | some c =>
     have hv : kidVal T' p (bl s) = ndVal c.b := by unfold kidVal; rw [hc2]
     rw [hv] at hlook
     have HC := Lib.hid hc2
     clear hv hc2
     go_wp2
     go_roundw
     case rel => exact ⟨k + 1, c, T', by go_num, by omega, rfl, by rw [HK.out]; exact HC.out, HTR.out.mono (by omega), by rw [HK.out]; exact HGR.out.keep HC.out, HFR.out⟩
     case measure => simp [intOf]; omega
   | none =>
     have hv : kidVal T' p (bl s) = .pointer none := by unfold kidVal; rw [hc2]
     rw [hv] at hlook
     have HN := Lib.hid hc2
     clear hv hc2
     obtain ⟨nb, nits, nmb⟩ := nd
     simp only at hbel hlook hfz0 hfz1 hnl
     cases nmb with
     | some m =>
       go_upto_region 11 with fail
       refine wp_name (fun V hV => ?_)
       have hbV : Below wr.heap.size wr V := by rw [hV.out]; go_grown
       have hcV : V.heap[wr.heap.size]? = some (.cells #[.slice none 0 0, .map none] 47 (0, 0)) := by rw [hV.out]; exact heap_last0 _ _
       have htV := HTR.out.kept hbV
       have hbelV := kept hbV hbel
       obtain ⟨w4, hrun, htr4, hfr4⟩ := htV.add HT.out (m := m) rfl s HSZ.out HN.out hcV (by have := HTR.out.x_low; have := HTR.out.x_lt; omega) (fun q i hq => by have := HTR.out.lt hq; omega) (by unfold maxLen; omega)
       have hfrA : IxFr lo w w4 := HFR.out.trans ((IxFr.of_below hbV).trans hfr4)
       have HZ := Lib.hid (And.intro htr4 (And.intro hfrA (HGR.out.add (b := wr.heap.size) HN.out)))
       clear hV hbV hcV htV hfr4 htr4 hfrA hbel hlook hc
       go_wp2
       go_roundw
       case rel => exact ⟨k + 1, ⟨wr.heap.size, [], none⟩, _, by go_num, by omega, rfl, by rw [HK.out]; exact Tree.upd_same _ _ _, HZ.out.1, by rw [HK.out]; exact HZ.out.2.2, HZ.out.2.1⟩
       case measure => simp [intOf]; omega
     | none =>
       go_upto_region 11 with fail
       refine wp_name (fun V hV => ?_)
       have hb1 : Below wr.heap.size wr ((wr.alloc (.cells #[.slice none 0 0, .map none] 47)).alloc (.map #[] 0)) := ((Below.refl _ _).alloc (Nat.le_refl _) _).alloc (by simp) _
       have htV0 := HTR.out.kept hb1
       have htab : STab ((wr.alloc (.cells #[.slice none 0 0, .map none] 47)).alloc (.map #[] 0)) (wr.heap.size + 1) [] := by
        have := Tab.made (P := Tryz.prog) (k := 9) (kv := Value.string) (ok := fun s : ByteArray => s.size ≤ maxLen) (vv := ndVal) (wr.alloc (.cells #[.slice none 0 0, .map none] 47))
        rwa [show (wr.alloc (.cells #[.slice none 0 0, .map none] 47)).heap.size = wr.heap.size + 1 by simp] at this
       obtain ⟨htV, hfV⟩ := htV0.setMap HT.out rfl (by have := HTR.out.x_low; have := HTR.out.x_lt; omega) htab (fun q i hq e => by have := (HTR.out.mapped hq e).2; omega)
       have hVe : V = (((wr.alloc (.cells #[.slice none 0 0, .map none] 47)).alloc (.map #[] 0)).setCell ⟨nb, 1, none⟩ (.map (some (wr.heap.size + 1)))) := by rw [hV.out, World.setCell_alloc_past _ _ _ _ (by simp; omega), World.setCell_alloc_past _ _ _ _ hnl]
       rw [← hVe] at htV hfV
       have hcV : V.heap[wr.heap.size]? = some (.cells #[.slice none 0 0, .map none] 47 (0, 0)) := by
        rw [hVe, heap_setCell_other _ _ _ _ (by show nb ≠ _; omega), Below.heap_alloc _ _ _ (by simp)]
        exact heap_last0 _ _
       have hbelV : V.cell? ⟨nb, 1, none⟩ = some (.map (some (wr.heap.size + 1))) := by
        have := (htV.nodes p _ (Tree.upd_same _ _ _)).bel
        exact this
       obtain ⟨w4, hrun, htr4, hfr4⟩ := htV.add (Tree.upd_same _ _ _) (m := wr.heap.size + 1) rfl s HSZ.out (by rw [Tree.upd_other _ _ (snoc_ne _ _)]; exact HN.out) hcV (by have := HTR.out.x_low; have := HTR.out.x_lt; omega) (fun q i hq => by
        unfold Tree.upd at hq
        split at hq
        ·cases hq
         show nb ≠ _
         omega
        ·have := HTR.out.lt hq; omega) (by unfold maxLen; omega)
       have hfrA : IxFr lo w w4 := HFR.out.trans ((IxFr.of_below hb1).trans (hfV.trans hfr4))
       have HZ := Lib.hid (And.intro htr4 (And.intro hfrA ((HGR.out.mapSet (mb := some (wr.heap.size + 1)) HT.out).add (s := bl s) (b := wr.heap.size) (by rw [Tree.upd_other _ _ (snoc_ne _ _)]; exact HN.out))))
       clear hV hVe hb1 hcV htV htV0 hfV htab hfr4 htr4 hfrA hbel hlook hc
       go_wp2
       go_roundw
       case rel => exact ⟨k + 1, ⟨wr.heap.size, [], none⟩, _, by go_num, by omega, rfl, by rw [HK.out]; exact Tree.upd_same _ _ _, HZ.out.1, by rw [HK.out]; exact HZ.out.2.2, HZ.out.2.1⟩
       case measure => simp [intOf]; omega
  ·obtain rfl : k = l.length := by omega
   rw [List.take_length] at hT hgr
   have HZ := Lib.hid (And.intro hT (And.intro htr (And.intro hgr hfr)))
   clear hT htr hgr hfr
   go_wp2
   all_goals
        go_ret
        exact ⟨T', nd, rfl, HZ.out.1, HZ.out.2.1, HZ.out.2.2.1, HZ.out.2.2.2⟩
end Go.Proofs.YtkklcpmbgfgcmaaGreat
