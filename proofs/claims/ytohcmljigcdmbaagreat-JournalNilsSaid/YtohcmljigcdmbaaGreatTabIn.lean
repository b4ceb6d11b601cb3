/- Maps as lists of entries: ranged over within a fence. Conditions: none. -/
import Derived.Test.YtohcmljigcdmbaaGreatEq
import Derived.Sort.MapsRangeIn
import Derived.RangeFuncSeq
import Derived.Test.YtohcmljigcdmbaaGreatKeys
import Derived.Test.YtohcmljigcdmbaaGreatCel
import Derived.RangeFuncNested
import Derived.RangeFuncBound
import Derived.RangeFuncCalls
import Derived.RangeFuncLeaves
import Derived.Shelf.Abstract
import Derived.Shelf.AbstractIn
import Derived.WalkKit
import Derived.OwnWalkIn
import Derived.TacticsInMore
import Derived.LoopNIn
import Derived.LoopIn
import Derived.Sort.CutIn
import Derived.Test.YtohcmljigcdmbaaGreatClone
import Derived.Maps.AppendAt
set_option linter.unusedSimpArgs false
set_option linter.unusedVariables false
set_option linter.unnecessarySimpa false
set_option maxHeartbeats 16000000
set_option maxRecDepth 100000
namespace Go.Proofs.YtohcmljigcdmbaaGreat
open Go.RowKit
section
variable {P : Program} {k : TypeId} {α β : Type} {kv : α → Value} {ok : α → Prop} {vv : β → Value}
theorem TabIt.of_walks {w w' : World} {b r cnt : Nat} {m rest : List (α × β)} (h : TabIt P k kv ok vv w b r m rest cnt) (hk : KeepsWalks w w') : TabIt P k kv ok vv w' b r m rest cnt := by
 obtain ⟨D, left, h1, h2⟩ := h
 exact ⟨D, left, h1.of_walks hk, h2⟩
theorem TabIt.iter_walk {w : World} {b r cnt : Nat} {m rest : List (α × β)} (h : TabIt P k kv ok vv w b r m rest cnt) : ∃ o : Obj, w.heap[r]? = some o ∧ o.isWalk = true := by
 obtain ⟨D, left, h1, h2⟩ := h
 exact h1.iter_walk
theorem grown_of_below {w w' : World} (h : Below w.heap.size w w') (row : Option Nat) : w.grownBy w' row := ⟨h.os, h.tape, h.output, h.size, fun i hi _ => h.block i hi⟩
variable {F : Fence} {n : Nat} {ops : Array Oper} {rest0 : List Oper} {o : Oper} {a : Act} {Q : Exit → Act → World → Prop}
theorem wpListIn_range_tab (K : Kind P k kv ok) (w : World) (hg : o.guard = none) (mo : Operand) (t : TypeId) (hop : o.op = Op.range t mo) (e : TypeId) (ht : P.underlying t = some (.map k e)) (b : Nat) {m : List (α × β)}
 (hm : a.eval mo = .map (some b)) (h : Tab P k kv ok vv w b m)
 (hK : ∀ w' cnt, TabIt P k kv ok vv w' b w.heap.size m m cnt → Below w.heap.size w w' → w'.heap.size = w.heap.size + 1 → wpListIn F n P ops Q rest0 (a.put o.dst (.pointer (some ⟨w.heap.size, 0, none⟩))) w') :
 wpListIn F n P ops Q (o :: rest0) a w := by
 obtain ⟨D, h1, h2⟩ := h
 exact wpListIn_range_own w hg mo t hop k e K.law ht rawR b _ D hm h1 fun w' hr hgr hs => hK w' _ ⟨D, _, hr, h2, h2.has, fun _ h => h, h2.apart⟩ (below_grown hgr) hs
theorem TabIt.step (K : Kind P k kv ok) {w : World} {b r cnt : Nat} {m rest : List (α × β)} (h : TabIt P k kv ok vv w b r m rest cnt) (ty : TypeId) :
 (rest = [] ∧ (Instr.next (.pointer (some ⟨r, 0, none⟩)) false ty).run P w = .ok (.tuple #[.bool false]) w) ∨
 ∃ (p : α × β) (rest' : List (α × β)) (w' : World) (cnt' : Nat), rest.Perm (p :: rest') ∧ p ∈ m ∧ TabIt P k kv ok vv w' b r m rest' cnt' ∧ cnt' < cnt ∧ w.grownBy w' (some r) ∧ w'.heap.size = w.heap.size ∧
   (Instr.next (.pointer (some ⟨r, 0, none⟩)) false ty).run P w = .ok (.tuple #[.bool true, kv p.1, vv p.2]) w' ∧ (Instr.entry (.pointer (some ⟨r, 0, none⟩))).run P w' = .ok (.tuple #[kv p.1, vv p.2]) w' := by
 obtain ⟨D, left, hr, hD, hleft, hsub, hap⟩ := h
 rcases hr.next K.law ty with ⟨h0, hl, hrun⟩ | ⟨key, v, kl, y, w', cnt', hkey, hlk, hv, hat, hrun, hrg, hlt, hgr, hsz, hen⟩
 ·refine Or.inl ⟨?_, hrun⟩
  cases rest with
  | nil => rfl
  | cons p rest =>
    have := hl (klit P k (kv p.1))
    rw [hleft, List.any_cons, WideAt.sameKey_self (K.isKey (hD.okk p (hsub p List.mem_cons_self)))] at this
    cases this
 ·rw [hleft, List.any_eq_true] at hlk
  obtain ⟨p, hp, hpk⟩ := hlk
  have hpm := hsub p hp
  have hok := hD.okk p hpm
  have hkl : klit P k (kv p.1) = kl := WideAt.sameKey_eq hpk
  obtain rfl : key = kv p.1 := K.law.inj hkey (by rw [← hkl]; exact K.lit hok)
  have hy : DataW.held v = y.1 := by
   have : y = (.held v, []) := by have := hv; unfold rawR at this; exact (Option.some.inj this).symm
   rw [this]
  have hvv : v = vv p.2 := by
   have h1 := hat (.held v)
   rw [← hkl, hD.hit p hpm, ← hy] at h1
   exact (DataW.held.inj h1).symm
  subst hvv
  obtain ⟨rest', hperm⟩ := perm_split hp
  have hap' := (hperm.pairwise_iff (fun {_ _} hne => Ne.symm hne)).1 hap
  have hap2 := List.pairwise_cons.1 hap'
  refine Or.inr ⟨p, rest', w', cnt', hperm, hpm, ⟨D, _, hrg, hD, fun l => ?_, fun q hq => hsub q (hperm.mem_iff.2 (List.mem_cons_of_mem _ hq)), hap2.2⟩, hlt, hgr, hsz, hrun, hen⟩
  show (left l && !l.sameKey kl) = _
  rw [hleft, hperm.any_eq, List.any_cons, ← hkl]
  by_cases e : l = klit P k (kv p.1)
  ·subst e
   rw [WideAt.sameKey_self (K.isKey hok)]
   simp only [Bool.not_true, Bool.and_false]
   rw [eq_comm, List.any_eq_false]
   intro q hq
   rw [Maps.sameKey_ne (fun e => (hap2.1 q hq) (K.lit_inj (hD.okk q (hsub q (hperm.mem_iff.2 (List.mem_cons_of_mem _ hq)))) hok e).symm)]
   simp
  ·rw [Maps.sameKey_ne e, Maps.sameKey_ne (Ne.symm e)]
   simp
theorem wpListIn_next_tab (K : Kind P k kv ok) (w : World) (hg : o.guard = none) (it : Operand) (hop : o.op = Op.next it false) (b r cnt : Nat) {m rest : List (α × β)}
 (hit : a.eval it = .pointer (some ⟨r, 0, none⟩)) (h : TabIt P k kv ok vv w b r m rest cnt)
 (hDone : rest = [] → wpListIn F n P ops Q rest0 (a.put o.dst (.tuple #[.bool false])) w)
 (hMore : ∀ (p : α × β) (rest' : List (α × β)) (w' : World) (cnt' : Nat), rest.Perm (p :: rest') → p ∈ m → TabIt P k kv ok vv w' b r m rest' cnt' → cnt' < cnt → w.grownBy w' (some r) → w'.heap.size = w.heap.size →
  (Instr.entry (.pointer (some ⟨r, 0, none⟩))).run P w' = .ok (.tuple #[kv p.1, vv p.2]) w' → wpListIn F n P ops Q rest0 (a.put o.dst (.tuple #[.bool true, kv p.1, vv p.2])) w') :
 wpListIn F n P ops Q (o :: rest0) a w := by
 refine wpListIn_plain hg fun K' hK' => ?_
 unfold Oper.wpIn
 refine ⟨by simp [Oper.about, hop], ?_⟩
 rw [Oper.semAt_plain F _ _ (by rw [hop]; intro c hc'; cases hc')]
 rcases h.step K o.type with ⟨h0, hrun⟩ | ⟨p, rest', w', cnt', h1, h2, h3, h4, h5, h6, hrun, h7⟩
 ·simp [execOp, hop, hit, hrun, Result.andThen]
  exact hK' _ _ (hDone h0)
 ·simp [execOp, hop, hit, hrun, Result.andThen]
  exact hK' _ _ (hMore p rest' w' cnt' h1 h2 h3 h4 h5 h6 h7)
end
theorem wpIn_name {F : Fence} {n : Nat} {P : Program} {c : Code} {Q : Exit → Act → World → Prop} {a : Act} {w : World} (h : ∀ W, Hid (W = w) → Code.wpIn F n P c Q a W) : Code.wpIn F n P c Q a w := h w rfl
end Go.Proofs.YtohcmljigcdmbaaGreat
/- The keys of a map, one by one: maps.Keys and its iterator, at dots and at actors. Conditions: none. -/
namespace Go.Proofs.YtohcmljigcdmbaaGreat
open Go.RowKit Go.Shelf
theorem iterActor {β : Type} {vv : β → Value} (n : Nat) (hn : 1 ≤ n) (l Bm b : Nat) (m : List (Actor × β)) (J Jx : List Actor → World → Prop)
 (hY : ∀ pre x W, J pre W → pre.length < m.length → YieldAt Fence.wide (n - 1) Tryz.prog l #[actVal x] W fun e W' =>
  (e = .returned (.bool true) ∧ J (pre ++ [x]) W' ∧ KeepsWalks W W') ∨ (e = .returned (.bool false) ∧ Jx (pre ++ [x]) W'))
 (W : World) (hJ : AbidesFrom W.heap.size J) (hm : W.cell? ⟨Bm, 0, none⟩ = some (.map (some b))) (htab : Tab Tryz.prog 23 actVal ActW vv W b m) (h0 : J [] W) :
 CallsIn Fence.wide n Tryz.prog 143 #[.func (.yield l) #[] #[], .pointer (some ⟨Bm, 0, none⟩)] W fun e W' => (∃ v, e = .returned v) ∧
  ((∃ ks : List Actor, ks.Perm (m.map (·.1)) ∧ J ks W') ∨ (∃ pre, True ∧ Jx pre W')) := by
 refine callsIn_of_wp Tryz.func143 rfl trivial ?_ rfl
 simp only [Tryz.ntmps143, List.size_toArray, List.length_cons, List.length_nil, Nat.reduceAdd, Nat.reduceSub, Array.replicate_succ, Array.replicate_zero, List.push_toArray, List.append_toArray, List.nil_append, List.cons_append]
 gi_wp2_with (first
  | (gi_at_range; refine wpListIn_range_tab kActor _ rfl _ 113 rfl 3 Tryz.underlying113 b rfl htab ?_; intro w0 cnt0 hrg0 hb0 hs0)
  | gi_in)
 go_frame
 gi_loopw [3] (fun _ wr => ∃ (rest : List (Actor × β)) (cnt : Nat) (ks : List Actor), TabIt Tryz.prog 23 actVal ActW vv wr b W.heap.size m rest cnt ∧ (ks ++ rest.map (·.1)).Perm (m.map (·.1)) ∧ J ks wr)
  (fun _ wr => wr.rangeLeft b W.heap.size)
 case atStart =>
  exact ⟨m, _, [], hrg0, List.Perm.refl _, hJ [] W w0 none h0 (grown_of_below hb0 none) (fun r e => by cases e)⟩
 case round =>
  obtain ⟨rest, cnt, ks, hrg, hC, hJs⟩ := hrel
  gi_wp2_with (first
   | (gi_at_next; refine wpListIn_next_tab kActor _ rfl _ rfl b W.heap.size cnt rfl hrg ?_ ?_)
   | gi_in)
  ·intro hr0
   subst hr0
   gi_wp2
   go_end0
   exact ⟨⟨_, rfl⟩, .inl ⟨ks, by simpa using hC, hJs⟩⟩
  ·intro x y rest' w2 cnt2 hperm hpm hrg2 hlt hg2 hs2 hen
   have hlen : ks.length < m.length := by
        have h1 := hC.length_eq
        have h2 := hperm.length_eq
        simp at h1 h2
        omega
   have hC2 : ((ks ++ [x]) ++ rest'.map (·.1)).Perm (m.map (·.1)) := by
        have h3 : (ks ++ rest.map (·.1)).Perm ((ks ++ [x]) ++ rest'.map (·.1)) := by
         have := (hperm.map (·.1)).append_left ks
         simpa using this
        exact h3.symm.trans hC
   have hJ2 : J ks w2 := hJ ks wr w2 (some W.heap.size) hJs hg2 (fun r e => by cases e; exact ⟨Nat.le_refl _, hrg.iter_walk⟩)
   clear hs2
   gi_upto_region 3 with gi_in
   refine wpIn_name (fun W3 hW3 => ?_)
   have hb3 : Below w2.heap.size w2 W3 := by rw [hW3.out]; go_grown
   have x0 : W3.cell? ⟨w2.heap.size, 0, none⟩ = some (.int .i64 x.dev) := by rw [hW3.out]; go_simp
   have x1 : W3.cell? ⟨w2.heap.size, 1, none⟩ = some (.int .i64 x.inc) := by rw [hW3.out]; go_simp
   clear hW3
   have hJ3 : J ks W3 := hJ ks w2 W3 none hJ2 (grown_of_below hb3 none) (fun r e => by cases e)
   have hrg3 := hrg2.kept hb3
   obtain ⟨fn, tmps, assign, body, hy, hR⟩ := hY ks x W3 hJ3 hlen
   gi_wp2
   refine hR.mono ?_
   rintro e W4 (⟨rfl, hJ4, hk4⟩ | ⟨rfl, hJx4⟩)
   ·have hrg4 := hrg3.of_walks hk4
    clear x0 x1 
    gi_wp2
    go_roundw
    case rel => exact ⟨rest', cnt2, ks ++ [x], hrg4, hC2, hJ4⟩
    case measure => rw [hrg4.left_eq, hrg.left_eq]; exact hlt
   ·clear x0 x1 
    gi_wp2
    refine bodyPost_ret (results_none rfl _ _ _) rfl ?_
    exact ⟨⟨_, rfl⟩, .inr ⟨ks ++ [x], trivial, hJx4⟩⟩
end Go.Proofs.YtohcmljigcdmbaaGreat
/- The keys of a map, collected: slices.AppendSeq, slices.Collect, at dots and at actors. Conditions: at most 2^30 keys. -/
namespace Go.Proofs.YtohcmljigcdmbaaGreat
open Go.RowKit Go.Shelf
def actVals (l : List Actor) : List Value := l.flatMap fun a => [.int .i64 a.dev, .int .i64 a.inc]
theorem Tryz.infoActor : (Tryz.prog.info? 23).map (fun i => (i.zero, i.size, i.bytes)) = some (some (.agg #[.int .i64 0, .int .i64 0]), 2, 16) := by kernel_rfl
theorem cells_new (w : World) (cs : List Value) (t : TypeId) : ∀ j u, cs[j]? = some u → (w.alloc (.cells cs.toArray t)).cell? ((⟨w.heap.size, 0, none⟩ : Addr).add j) = some u := by
 intro j u hj
 rw [Addr.add_mid, Nat.zero_add, World.cell?_alloc_new]
 simpa using hj
theorem cells2_of {w : World} {b : Nat} {c0 c1 : Value} {t : TypeId} (h : w.heap[b]? = some (.cells #[c0, c1] t (0, 0))) : w.cell? ⟨b, 0, none⟩ = some c0 ∧ w.cell? ⟨b, 1, none⟩ = some c1 := by simp [World.cell?, h]
theorem block_own {β : Type} (B : Nat) (f : β → Array Value) (t : TypeId) : Own (fun s W => W.heap[B]? = some (.cells (f s) t (0, 0))) := fun s X Y row hs hg hrow => by
 refine (hg.block B (Array.getElem?_eq_some_iff.1 hs).1 (fun e => ?_)).trans hs
 obtain ⟨o, ho, hc⟩ := hrow B e.symm
 rw [hs] at ho; cases ho; cases hc
theorem iterActor_stops {β : Type} {vv : β → Value} (n : Nat) (hn : 1 ≤ n) (Bm b : Nat) (m : List (Actor × β)) (w : World) (hBm : Bm < w.heap.size) (hm : w.cell? ⟨Bm, 0, none⟩ = some (.map (some b))) (htab : Tab Tryz.prog 23 actVal ActW vv w b m) :
 SeqStopsK Fence.wide n Tryz.prog 143 #[.pointer (some ⟨Bm, 0, none⟩)] (fun x : Actor => #[actVal x]) KeepsWalks (fun ks => ks.Perm (m.map (·.1))) (fun _ => True) m.length w := fun l J Jx W hW hJ _ hY h0 =>
 iterActor n hn l Bm b m J Jx hY W hJ ((hW.cell (p := ⟨Bm, 0, none⟩) hBm).trans hm) (htab.kept hW) h0
theorem appendActor {β : Type} {vv : β → Value} (n : Nat) (hn : 4 ≤ n) (Bm b : Nat) (m : List (Actor × β)) (w : World) (hBm : Bm < w.heap.size) (hm : w.cell? ⟨Bm, 0, none⟩ = some (.map (some b))) (htab : Tab Tryz.prog 23 actVal ActW vv w b m) (hN : m.length ≤ 1073741824) :
 CallsIn Fence.wide n Tryz.prog 171 #[.slice none 0 0, .func (.func 143) #[] #[.pointer (some ⟨Bm, 0, none⟩)]] w fun e w' => ∃ (v : Value) (ks : List Actor), e = .returned v ∧ ks.Perm (m.map (·.1)) ∧
  w'.ownsRow w.heap.size 23 2 v ks.length (actVals ks) ∧ (v = .slice none 0 0 ↔ ks = []) ∧ Below w.heap.size w w' := by
 have h1 : 1 ≤ n := by omega
 obtain ⟨i0, hi, hz0, hz1, hz2⟩ := info_parts Tryz.infoActor
 refine callsIn_of_wp_marks Tryz.func171 rfl trivial ?_ rfl
 simp only [Tryz.ntmps171, List.size_toArray, List.length_cons, List.length_nil, Nat.reduceAdd, Nat.reduceSub, Array.replicate_succ, Array.replicate_zero, List.push_toArray, List.append_toArray, List.nil_append, List.cons_append]
 gi_wp2
 have bS := Boxed.new w 116 (.slice none 0 0)
 have hB0 : Below w.heap.size w (w.alloc (.cells #[.slice none 0 0] 116)) := (Below.refl _ w).alloc (Nat.le_refl _) _
 have hsz : (w.alloc (.cells #[.slice none 0 0] 116)).heap.size = w.heap.size + 1 := by simp
 obtain ⟨W0, hW0⟩ : ∃ W0, w.alloc (.cells #[.slice none 0 0] 116) = W0 := ⟨_, rfl⟩
 rw [hW0] at bS hB0 hsz ⊢
 clear hW0
 refine wpIn_rangeFunc_ownH (n := n) rfl h1 (gf := 143) (lb := #[.pointer (some ⟨Bm, 0, none⟩)]) rfl trivial (enters_of Tryz.func143 (by kernel_rfl) rfl)
  (iterActor_stops (n - 1) (by omega) Bm b m W0 (by omega) ((hB0.cell (p := ⟨Bm, 0, none⟩) hBm).trans hm) (htab.kept hB0)) walksK_t walksK_b (Below.refl _ _) (fun _ => rfl)
  (fun pre W => (∃ v, Boxed W w.heap.size 116 v ∧ W.ownsRow w.heap.size 23 2 v pre.length (actVals pre) ∧ (v = .slice none 0 0 ↔ pre = [])) ∧ Below w.heap.size w W)
  (fun _ _ _ => False)
  (OwnFrom.and (Own.from (holdsRow_own w.heap.size w.heap.size 116 23 2 (fun pre : List Actor => pre.length) (fun pre => actVals pre) (fun pre v => v = .slice none 0 0 ↔ pre = [])) _) (ownFrom_below (Nat.le_refl _) (by omega)))
  (fun _ _ _ _ _ hs _ _ => hs)
  ⟨⟨_, bS, World.ownsRow_nil _ _ _ _, by simp⟩, hB0⟩
  (fun x a' W => ∃ Bx, w.heap.size < Bx ∧ W.heap[Bx]? = some (.cells #[.int .i64 x.dev, .int .i64 x.inc] 23 (0, 0)) ∧ a' = { tmps := #[.slice none 0 0, .func (.func 143) #[] #[.pointer (some ⟨Bm, 0, none⟩)], .pointer (some ⟨w.heap.size, 0, none⟩), undef, .slice none 0 0, .pointer (some ⟨Bx, 0, none⟩), .func (.func 143) #[] #[.pointer (some ⟨Bm, 0, none⟩)], actVal x, undef, undef, undef, undef, undef], defers := [] })
  (fun x a' _ X Y row hs hg hr => by obtain ⟨Bx, h1, h2, h3⟩ := hs; exact ⟨Bx, h1, block_own Bx (fun (_ : Unit) => #[.int .i64 x.dev, .int .i64 x.inc]) 23 () X Y row h2 hg (fun r e => (hr r e).2), h3⟩)
  ?assign ?body ?done ?stop
 case assign =>
  rintro l pre x W K ⟨⟨v, bS1, hr1, hn1⟩, hB1⟩ hK
  gi_wp2_with (rw [Oper.semAt_eq _ _ _ (fun c h => by cases h)]; go_simp; try go_bits)
  exact hK _ _ ((KeepsOthers.alloc _ _).from _) (KeepsWalks.alloc _ _) ⟨⟨v, bS1.alloc _, hr1.alloc _, hn1⟩, hB1.alloc hB1.size _⟩ ⟨W.heap.size, bS1.lt, World.alloc_heap_new W _, rfl⟩
 case body =>
  rintro l pre x a' W hl ⟨r, hr⟩ ⟨⟨v, bS1, hr1, hn1⟩, hB1⟩ ⟨Bx, hBx, bX, rfl⟩ hlt
  have cS := bS1.cell
  obtain ⟨x0, x1⟩ := cells2_of bX
  have h1' : 1 ≤ n - 1 - 1 := by omega
  clear bX
  gi_wp2_with (first
   | (gi_at_builtin; refine wpListIn_append_own _ rfl _ _ 116 rfl w.heap.size 23 i0 (.agg #[.int .i64 0, .int .i64 0]) 2 16 Tryz.underlying116 hi hz0 hz1 hz2 rfl (by decide) _ _ _ rfl (hr1.alloc _) ⟨W.heap.size, 0, none⟩ 1 1 [.int .i64 x.dev, .int .i64 x.inc] rfl rfl (cells_new _ _ _) (by simp [Value.oneCell']) (by unfold maxLen; omega) (by omega) (by have := hB1.size; simp; omega) ?_; intro v' w1 hown' hgrow _; obtain ⟨g', cap', rfl⟩ := ownsRow_succ hown'; obtain ⟨hv1, hv2, hr2, hk2, hb2⟩ := bS1.appended (by decide) hr1 hB1.size (Nat.le_refl _) hown' hgrow; have hc1 := hv1.cell; have hf1 := hv1.frozen)
   | (rw [Oper.semAt_eq _ _ _ (fun c h => by cases h)]; go_simp; try go_bits))
  exact ⟨hk2.from _, ⟨hk2.size, fun k o h hw => hk2.same k o h (by cases o <;> simp_all [Obj.isWalk, Obj.isCells])⟩, ⟨⟨_, hv2, by simpa [actVals] using hr2, by simp⟩, hB1.trans hb2⟩⟩
 case done =>
  rintro D zs W hD hS ⟨⟨v, bS1, hr1, hn1⟩, hB1⟩ hK
  have cS := bS1.cell
  gi_wp2
  refine ⟨by simp, .inl ⟨_, _, rfl, run_takeDeferred hK, ?_⟩⟩
  exact ⟨_, results_tmp rfl _ _ _, v, zs, rfl, hS, ownsRow_putObj hr1 _ hK rfl, hn1, hB1.trans (belowK_b (w := w) (Nat.le_refl _) W D _ _ (by omega) hK rfl rfl)⟩
 case stop =>
  rintro D c pre W _ _ h _
  exact h.elim
end Go.Proofs.YtohcmljigcdmbaaGreat
