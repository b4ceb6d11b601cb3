/- Maps as lists of entries: ranged over within a fence. Conditions: none. -/
import Derived.Test.YtdlmbflhbecggaaGreatKeys
import Derived.Sort.MapsRangeIn
import Derived.RangeFuncSeq
import Derived.Test.YtdlmbflhbecggaaGreatCel
import Derived.RangeFuncNested
import Derived.RangeFuncBound
import Derived.RangeFuncCalls
import Derived.RangeFuncLeaves
import Derived.Shelf.Abstract
import Derived.Shelf.AbstractIn
import Derived.WalkKit
import Derived.OwnWalkIn
import Derived.TacticsInMore
import Derived.LoopNIn
import Derived.LoopIn
import Derived.Sort.CutIn
import Derived.Test.YtdlmbflhbecggaaGreatClone
import Derived.Maps.AppendAt
import Derived.Deep.RegionHeld
import Derived.Deep.RegionHeld3
set_option linter.unusedSimpArgs false
set_option linter.unusedVariables false
set_option linter.unnecessarySimpa false
set_option maxHeartbeats 16000000
set_option maxRecDepth 100000
namespace Go.Proofs.YtdlmbflhbecggaaGreat
open Go.RowKit
section
variable {P : Program} {k : TypeId} {α β : Type} {kv : α → Value} {ok : α → Prop} {vv : β → Value}
theorem TabIt.of_walks {w w' : World} {b r cnt : Nat} {m rest : List (α × β)} (h : TabIt P k kv ok vv w b r m rest cnt) (hk : KeepsWalks w w') : TabIt P k kv ok vv w' b r m rest cnt := by
 obtain ⟨D, left, h1, h2⟩ := h
 exact ⟨D, left, h1.of_walks hk, h2⟩
theorem TabIt.iter_walk {w : World} {b r cnt : Nat} {m rest : List (α × β)} (h : TabIt P k kv ok vv w b r m rest cnt) : ∃ o : Obj, w.heap[r]? = some o ∧ o.isWalk = true := by
 obtain ⟨D, left, h1, h2⟩ := h
 exact h1.iter_walk
theorem kz {w w' : World} (h : Below w.heap.size w w') (row : Option Nat) : w.grownBy w' row := ⟨h.os, h.tape, h.output, h.size, fun i hi _ => h.block i hi⟩
variable {F : Fence} {n : Nat} {ops : Array Oper} {rest0 : List Oper} {o : Oper} {a : Act} {Q : Exit → Act → World → Prop}
theorem lV (K : Kind P k kv ok) (w : World) (hg : o.guard = none) (mo : Operand) (t : TypeId) (hop : o.op = Op.range t mo) (e : TypeId) (ht : P.underlying t = some (.map k e)) (b : Nat) {m : List (α × β)}
 (hm : a.eval mo = .map (some b)) (h : Tab P k kv ok vv w b m)
 (hK : ∀ w' cnt, TabIt P k kv ok vv w' b w.heap.size m m cnt → Below w.heap.size w w' → w'.heap.size = w.heap.size + 1 → wpListIn F n P ops Q rest0 (a.put o.dst (.pointer (some ⟨w.heap.size, 0, none⟩))) w') :
 wpListIn F n P ops Q (o :: rest0) a w := by
 obtain ⟨D, h1, h2⟩ := h
 exact wpListIn_range_own w hg mo t hop k e K.law ht Bf b _ D hm h1 fun w' hr hgr hs => hK w' _ ⟨D, _, hr, h2, h2.has, fun _ h => h, h2.apart⟩ (below_grown hgr) hs
theorem TabIt.step (K : Kind P k kv ok) {w : World} {b r cnt : Nat} {m rest : List (α × β)} (h : TabIt P k kv ok vv w b r m rest cnt) (ty : TypeId) :
 (rest = [] ∧ (Instr.next (.pointer (some ⟨r, 0, none⟩)) false ty).run P w = .ok (.tuple #[.bool false]) w) ∨
 ∃ (p : α × β) (rest' : List (α × β)) (w' : World) (cnt' : Nat), rest.Perm (p :: rest') ∧ p ∈ m ∧ TabIt P k kv ok vv w' b r m rest' cnt' ∧ cnt' < cnt ∧ w.grownBy w' (some r) ∧ w'.heap.size = w.heap.size ∧
   (Instr.next (.pointer (some ⟨r, 0, none⟩)) false ty).run P w = .ok (.tuple #[.bool true, kv p.1, vv p.2]) w' ∧ (Instr.entry (.pointer (some ⟨r, 0, none⟩))).run P w' = .ok (.tuple #[kv p.1, vv p.2]) w' := by
 obtain ⟨D, left, hr, hD, hleft, hsub, hap⟩ := h
 rcases hr.next K.law ty with ⟨h0, hl, hrun⟩ | ⟨key, v, kl, y, w', cnt', hkey, hlk, hv, hat, hrun, hrg, hlt, hgr, hsz, hen⟩
 ·refine Or.inl ⟨?_, hrun⟩
  cases rest with
  | nil => rfl
  | cons p rest =>
    have := hl (klit P k (kv p.1))
    rw [hleft, List.any_cons, WideAt.sameKey_self (K.isKey (hD.okk p (hsub p List.mem_cons_self)))] at this
    cases this
 ·rw [hleft, List.any_eq_true] at hlk
  obtain ⟨p, hp, hpk⟩ := hlk
  have hpm := hsub p hp
  have hok := hD.okk p hpm
  have hkl : klit P k (kv p.1) = kl := WideAt.sameKey_eq hpk
  obtain rfl : key = kv p.1 := K.law.inj hkey (by rw [← hkl]; exact K.lit hok)
  have hy : DataW.held v = y.1 := by
   have : y = (.held v, []) := by have := hv; unfold Bf at this; exact (Option.some.inj this).symm
   rw [this]
  have hvv : v = vv p.2 := by
   have h1 := hat (.held v)
   rw [← hkl, hD.hit p hpm, ← hy] at h1
   exact (DataW.held.inj h1).symm
  subst hvv
  obtain ⟨rest', hperm⟩ := kK hp
  have hap' := (hperm.pairwise_iff (fun {_ _} hne => Ne.symm hne)).1 hap
  have KD := List.pairwise_cons.1 hap'
  refine Or.inr ⟨p, rest', w', cnt', hperm, hpm, ⟨D, _, hrg, hD, fun l => ?_, fun q hq => hsub q (hperm.mem_iff.2 (List.mem_cons_of_mem _ hq)), KD.2⟩, hlt, hgr, hsz, hrun, hen⟩
  show (left l && !l.sameKey kl) = _
  rw [hleft, hperm.any_eq, List.any_cons, ← hkl]
  by_cases e : l = klit P k (kv p.1)
  ·subst e
   rw [WideAt.sameKey_self (K.isKey hok)]
   simp only [Bool.not_true, Bool.and_false]
   rw [eq_comm, List.any_eq_false]
   intro q hq
   rw [Maps.sameKey_ne (fun e => (KD.1 q hq) (K.lit_inj (hD.okk q (hsub q (hperm.mem_iff.2 (List.mem_cons_of_mem _ hq)))) hok e).symm)]
   simp
  ·rw [Maps.sameKey_ne e, Maps.sameKey_ne (Ne.symm e)]
   simp
theorem mX (K : Kind P k kv ok) (w : World) (hg : o.guard = none) (it : Operand) (hop : o.op = Op.next it false) (b r cnt : Nat) {m rest : List (α × β)}
 (hit : a.eval it = .pointer (some ⟨r, 0, none⟩)) (h : TabIt P k kv ok vv w b r m rest cnt)
 (hDone : rest = [] → wpListIn F n P ops Q rest0 (a.put o.dst (.tuple #[.bool false])) w)
 (hMore : ∀ (p : α × β) (rest' : List (α × β)) (w' : World) (cnt' : Nat), rest.Perm (p :: rest') → p ∈ m → TabIt P k kv ok vv w' b r m rest' cnt' → cnt' < cnt → w.grownBy w' (some r) → w'.heap.size = w.heap.size →
  (Instr.entry (.pointer (some ⟨r, 0, none⟩))).run P w' = .ok (.tuple #[kv p.1, vv p.2]) w' → wpListIn F n P ops Q rest0 (a.put o.dst (.tuple #[.bool true, kv p.1, vv p.2])) w') :
 wpListIn F n P ops Q (o :: rest0) a w := by
 refine wpListIn_plain hg fun K' hK' => ?_
 unfold Oper.wpIn
 refine ⟨by simp [Oper.about, hop], ?_⟩
 rw [Oper.semAt_plain F _ _ (by rw [hop]; intro c hc'; cases hc')]
 rcases h.step K o.type with ⟨h0, hrun⟩ | ⟨p, rest', w', cnt', h1, h2, h3, h4, h5, h6, hrun, h7⟩
 ·simp [execOp, hop, hit, hrun, Result.andThen]
  exact hK' _ _ (hDone h0)
 ·simp [execOp, hop, hit, hrun, Result.andThen]
  exact hK' _ _ (hMore p rest' w' cnt' h1 h2 h3 h4 h5 h6 h7)
end
theorem wpIn_name {F : Fence} {n : Nat} {P : Program} {c : Code} {Q : Exit → Act → World → Prop} {a : Act} {w : World} (h : ∀ W, Hid (W = w) → Code.wpIn F n P c Q a W) : Code.wpIn F n P c Q a w := h w rfl
end Go.Proofs.YtdlmbflhbecggaaGreat
/- The keys of a map, one by one: maps.Keys and its iterator, at dots and at actors. Conditions: none. -/
namespace Go.Proofs.YtdlmbflhbecggaaGreat
open Go.RowKit Go.Shelf
theorem LM {β : Type} {vv : β → Value} (n : Nat) (hn : 1 ≤ n) (l Bm b : Nat) (m : List (Dot × β)) (J Jx : List Dot → World → Prop)
 (hY : ∀ pre x W, J pre W → pre.length < m.length → YieldAt Fence.wide (n - 1) Tryz.prog l #[bY x] W fun e W' =>
  (e = .returned (.bool true) ∧ J (pre ++ [x]) W' ∧ KeepsWalks W W') ∨ (e = .returned (.bool false) ∧ Jx (pre ++ [x]) W'))
 (W : World) (hJ : AbidesFrom W.heap.size J) (hm : W.cell? ⟨Bm, 0, none⟩ = some (.map (some b))) (htab : Tab Tryz.prog 56 bY DotW vv W b m) (h0 : J [] W) :
 CallsIn Fence.wide n Tryz.prog 162 #[.func (.yield l) #[] #[], .pointer (some ⟨Bm, 0, none⟩)] W fun e W' => (∃ v, e = .returned v) ∧
  ((∃ ks : List Dot, ks.Perm (m.map (·.1)) ∧ J ks W') ∨ (∃ pre, True ∧ Jx pre W')) := by
 refine callsIn_of_wp Tryz.func162 rfl trivial ?_ rfl
 simp only [Tryz.ntmps162, List.size_toArray, List.length_cons, List.length_nil, Nat.reduceAdd, Nat.reduceSub, Array.replicate_succ, Array.replicate_zero, List.push_toArray, List.append_toArray, List.nil_append, List.cons_append]
 gi_wp2_with (first
  | (gi_at_range; refine lV ja _ rfl _ 105 rfl 3 Tryz.underlying105 b rfl htab ?_; intro w0 Jh hrg0 hb0 hs0)
  | gi_in)
 go_frame
 gi_loopw [3] (fun _ wr => ∃ (rest : List (Dot × β)) (cnt : Nat) (ks : List Dot), TabIt Tryz.prog 56 bY DotW vv wr b W.heap.size m rest cnt ∧ (ks ++ rest.map (·.1)).Perm (m.map (·.1)) ∧ J ks wr)
  (fun _ wr => wr.rangeLeft b W.heap.size)
 case atStart =>
  exact ⟨m, _, [], hrg0, List.Perm.refl _, hJ [] W w0 none h0 (kz hb0 none) (fun r e => by cases e)⟩
 case round =>
  obtain ⟨rest, cnt, ks, hrg, hC, hJs⟩ := hrel
  gi_wp2_with (first
   | (gi_at_next; refine mX ja _ rfl _ rfl b W.heap.size cnt rfl hrg ?_ ?_)
   | gi_in)
  ·intro hr0
   subst hr0
   gi_wp2
   go_end0
   exact ⟨⟨_, rfl⟩, .inl ⟨ks, by simpa using hC, hJs⟩⟩
  ·intro x y rest' w2 cnt2 hperm hpm hrg2 hlt hg2 hs2 hen
   have hlen : ks.length < m.length := by
        have h1 := hC.length_eq
        have h2 := hperm.length_eq
        simp at h1 h2
        omega
   have hC2 : ((ks ++ [x]) ++ rest'.map (·.1)).Perm (m.map (·.1)) := by
        have h3 : (ks ++ rest.map (·.1)).Perm ((ks ++ [x]) ++ rest'.map (·.1)) := by
         have := (hperm.map (·.1)).append_left ks
         simpa using this
        exact h3.symm.trans hC
   have hJ2 : J ks w2 := hJ ks wr w2 (some W.heap.size) hJs hg2 (fun r e => by cases e; exact ⟨Nat.le_refl _, hrg.iter_walk⟩)
   clear hs2
   gi_upto_region 3 with gi_in
   refine wpIn_name (fun W3 hW3 => ?_)
   have hb3 : Below w2.heap.size w2 W3 := by rw [hW3.out]; go_grown
   have x0 : W3.cell? ⟨w2.heap.size, 0, none⟩ = some (.int .i64 x.a.dev) := by rw [hW3.out]; go_simp
   have x1 : W3.cell? ⟨w2.heap.size, 1, none⟩ = some (.int .i64 x.a.inc) := by rw [hW3.out]; go_simp
   have x2 : W3.cell? ⟨w2.heap.size, 2, none⟩ = some (.int .i64 x.seq) := by rw [hW3.out]; go_simp
   clear hW3
   have hJ3 : J ks W3 := hJ ks w2 W3 none hJ2 (kz hb3 none) (fun r e => by cases e)
   have hrg3 := hrg2.kept hb3
   obtain ⟨fn, tmps, assign, body, hy, hR⟩ := hY ks x W3 hJ3 hlen
   gi_wp2
   refine hR.mono ?_
   rintro e W4 (⟨rfl, hJ4, hk4⟩ | ⟨rfl, N7⟩)
   ·have hrg4 := hrg3.of_walks hk4
    clear x0 x1 x2
    gi_wp2
    go_roundw
    case rel => exact ⟨rest', cnt2, ks ++ [x], hrg4, hC2, hJ4⟩
    case measure => rw [hrg4.left_eq, hrg.left_eq]; exact hlt
   ·clear x0 x1 x2
    gi_wp2
    refine bodyPost_ret (results_none rfl _ _ _) rfl ?_
    exact ⟨⟨_, rfl⟩, .inr ⟨ks ++ [x], trivial, N7⟩⟩
theorem IX {β : Type} {vv : β → Value} (n : Nat) (hn : 1 ≤ n) (l Bm b : Nat) (m : List (Actor × β)) (J Jx : List Actor → World → Prop)
 (hY : ∀ pre x W, J pre W → pre.length < m.length → YieldAt Fence.wide (n - 1) Tryz.prog l #[fB x] W fun e W' =>
  (e = .returned (.bool true) ∧ J (pre ++ [x]) W' ∧ KeepsWalks W W') ∨ (e = .returned (.bool false) ∧ Jx (pre ++ [x]) W'))
 (W : World) (hJ : AbidesFrom W.heap.size J) (hm : W.cell? ⟨Bm, 0, none⟩ = some (.map (some b))) (htab : Tab Tryz.prog 54 fB ActW vv W b m) (h0 : J [] W) :
 CallsIn Fence.wide n Tryz.prog 195 #[.func (.yield l) #[] #[], .pointer (some ⟨Bm, 0, none⟩)] W fun e W' => (∃ v, e = .returned v) ∧
  ((∃ ks : List Actor, ks.Perm (m.map (·.1)) ∧ J ks W') ∨ (∃ pre, True ∧ Jx pre W')) := by
 refine callsIn_of_wp Tryz.func195 rfl trivial ?_ rfl
 simp only [Tryz.ntmps195, List.size_toArray, List.length_cons, List.length_nil, Nat.reduceAdd, Nat.reduceSub, Array.replicate_succ, Array.replicate_zero, List.push_toArray, List.append_toArray, List.nil_append, List.cons_append]
 gi_wp2_with (first
  | (gi_at_range; refine lV rM _ rfl _ 163 rfl 3 Tryz.underlying163 b rfl htab ?_; intro w0 Jh hrg0 hb0 hs0)
  | gi_in)
 go_frame
 gi_loopw [3] (fun _ wr => ∃ (rest : List (Actor × β)) (cnt : Nat) (ks : List Actor), TabIt Tryz.prog 54 fB ActW vv wr b W.heap.size m rest cnt ∧ (ks ++ rest.map (·.1)).Perm (m.map (·.1)) ∧ J ks wr)
  (fun _ wr => wr.rangeLeft b W.heap.size)
 case atStart =>
  exact ⟨m, _, [], hrg0, List.Perm.refl _, hJ [] W w0 none h0 (kz hb0 none) (fun r e => by cases e)⟩
 case round =>
  obtain ⟨rest, cnt, ks, hrg, hC, hJs⟩ := hrel
  gi_wp2_with (first
   | (gi_at_next; refine mX rM _ rfl _ rfl b W.heap.size cnt rfl hrg ?_ ?_)
   | gi_in)
  ·intro hr0
   subst hr0
   gi_wp2
   go_end0
   exact ⟨⟨_, rfl⟩, .inl ⟨ks, by simpa using hC, hJs⟩⟩
  ·intro x y rest' w2 cnt2 hperm hpm hrg2 hlt hg2 hs2 hen
   have hlen : ks.length < m.length := by
        have h1 := hC.length_eq
        have h2 := hperm.length_eq
        simp at h1 h2
        omega
   have hC2 : ((ks ++ [x]) ++ rest'.map (·.1)).Perm (m.map (·.1)) := by
        have h3 : (ks ++ rest.map (·.1)).Perm ((ks ++ [x]) ++ rest'.map (·.1)) := by
         have := (hperm.map (·.1)).append_left ks
         simpa using this
        exact h3.symm.trans hC
   have hJ2 : J ks w2 := hJ ks wr w2 (some W.heap.size) hJs hg2 (fun r e => by cases e; exact ⟨Nat.le_refl _, hrg.iter_walk⟩)
   clear hs2
   gi_upto_region 3 with gi_in
   refine wpIn_name (fun W3 hW3 => ?_)
   have hb3 : Below w2.heap.size w2 W3 := by rw [hW3.out]; go_grown
   have x0 : W3.cell? ⟨w2.heap.size, 0, none⟩ = some (.int .i64 x.dev) := by rw [hW3.out]; go_simp
   have x1 : W3.cell? ⟨w2.heap.size, 1, none⟩ = some (.int .i64 x.inc) := by rw [hW3.out]; go_simp
   clear hW3
   have hJ3 : J ks W3 := hJ ks w2 W3 none hJ2 (kz hb3 none) (fun r e => by cases e)
   have hrg3 := hrg2.kept hb3
   obtain ⟨fn, tmps, assign, body, hy, hR⟩ := hY ks x W3 hJ3 hlen
   gi_wp2
   refine hR.mono ?_
   rintro e W4 (⟨rfl, hJ4, hk4⟩ | ⟨rfl, N7⟩)
   ·have hrg4 := hrg3.of_walks hk4
    clear x0 x1 
    gi_wp2
    go_roundw
    case rel => exact ⟨rest', cnt2, ks ++ [x], hrg4, hC2, hJ4⟩
    case measure => rw [hrg4.left_eq, hrg.left_eq]; exact hlt
   ·clear x0 x1 
    gi_wp2
    refine bodyPost_ret (results_none rfl _ _ _) rfl ?_
    exact ⟨⟨_, rfl⟩, .inr ⟨ks ++ [x], trivial, N7⟩⟩
end Go.Proofs.YtdlmbflhbecggaaGreat
/- The keys of a map, collected: slices.AppendSeq, slices.Collect, at dots and at actors. Conditions: at most 2^30 keys. -/
namespace Go.Proofs.YtdlmbflhbecggaaGreat
open Go.RowKit Go.Shelf
def gZ (l : List Actor) : List Value := l.flatMap fun a => [.int .i64 a.dev, .int .i64 a.inc]
theorem Tryz.infoActor : (Tryz.prog.info? 54).map (fun i => (i.zero, i.size, i.bytes)) = some (some (.agg #[.int .i64 0, .int .i64 0]), 2, 16) := by kernel_rfl
theorem jY (w : World) (cs : List Value) (t : TypeId) : ∀ j u, cs[j]? = some u → (w.alloc (.cells cs.toArray t)).cell? ((⟨w.heap.size, 0, none⟩ : Addr).add j) = some u := by
 intro j u hj
 rw [Addr.add_mid, Nat.zero_add, World.cell?_alloc_new]
 simpa using hj
theorem Jj {w : World} {b : Nat} {c0 c1 : Value} {t : TypeId} (h : w.heap[b]? = some (.cells #[c0, c1] t (0, 0))) : w.cell? ⟨b, 0, none⟩ = some c0 ∧ w.cell? ⟨b, 1, none⟩ = some c1 := by simp [World.cell?, h]
theorem Ji {w : World} {b : Nat} {c0 c1 c2 : Value} {t : TypeId} (h : w.heap[b]? = some (.cells #[c0, c1, c2] t (0, 0))) : w.cell? ⟨b, 0, none⟩ = some c0 ∧ w.cell? ⟨b, 1, none⟩ = some c1 ∧ w.cell? ⟨b, 2, none⟩ = some c2 := by simp [World.cell?, h]
theorem AL {β : Type} (B : Nat) (f : β → Array Value) (t : TypeId) : Own (fun s W => W.heap[B]? = some (.cells (f s) t (0, 0))) := fun s X Y row hs hg hrow => by
 refine (hg.block B (Array.getElem?_eq_some_iff.1 hs).1 (fun e => ?_)).trans hs
 obtain ⟨o, ho, hc⟩ := hrow B e.symm
 rw [hs] at ho; cases ho; cases hc
theorem zA {β : Type} {vv : β → Value} (n : Nat) (hn : 1 ≤ n) (Bm b : Nat) (m : List (Dot × β)) (w : World) (hBm : Bm < w.heap.size) (hm : w.cell? ⟨Bm, 0, none⟩ = some (.map (some b))) (htab : Tab Tryz.prog 56 bY DotW vv w b m) :
 SeqStopsK Fence.wide n Tryz.prog 162 #[.pointer (some ⟨Bm, 0, none⟩)] (fun x : Dot => #[bY x]) KeepsWalks (fun ks => ks.Perm (m.map (·.1))) (fun _ => True) m.length w := fun l J Jx W hW hJ _ hY h0 =>
 LM n hn l Bm b m J Jx hY W hJ ((hW.cell (p := ⟨Bm, 0, none⟩) hBm).trans hm) (htab.kept hW) h0
theorem Jp {β : Type} {vv : β → Value} (n : Nat) (hn : 4 ≤ n) (Bm b : Nat) (m : List (Dot × β)) (w : World) (hBm : Bm < w.heap.size) (hm : w.cell? ⟨Bm, 0, none⟩ = some (.map (some b))) (htab : Tab Tryz.prog 56 bY DotW vv w b m) (hN : m.length ≤ 1073741824) :
 CallsIn Fence.wide n Tryz.prog 191 #[.slice none 0 0, .func (.func 162) #[] #[.pointer (some ⟨Bm, 0, none⟩)]] w fun e w' => ∃ (v : Value) (ks : List Dot), e = .returned v ∧ ks.Perm (m.map (·.1)) ∧
  w'.ownsRow w.heap.size 56 3 v ks.length (aW ks) ∧ (v = .slice none 0 0 ↔ ks = []) ∧ Below w.heap.size w w' := by
 have h1 : 1 ≤ n := by omega
 obtain ⟨i0, hi, hz0, hz1, hz2⟩ := info_parts Tryz.infoDot
 refine callsIn_of_wp_marks Tryz.func191 rfl trivial ?_ rfl
 simp only [Tryz.ntmps191, List.size_toArray, List.length_cons, List.length_nil, Nat.reduceAdd, Nat.reduceSub, Array.replicate_succ, Array.replicate_zero, List.push_toArray, List.append_toArray, List.nil_append, List.cons_append]
 gi_wp2
 have bS := Boxed.new w 30 (.slice none 0 0)
 have hB0 : Below w.heap.size w (w.alloc (.cells #[.slice none 0 0] 30)) := (Below.refl _ w).alloc (Nat.le_refl _) _
 have hsz : (w.alloc (.cells #[.slice none 0 0] 30)).heap.size = w.heap.size + 1 := by simp
 obtain ⟨W0, hW0⟩ : ∃ W0, w.alloc (.cells #[.slice none 0 0] 30) = W0 := ⟨_, rfl⟩
 rw [hW0] at bS hB0 hsz ⊢
 clear hW0
 refine wpIn_rangeFunc_ownH (n := n) rfl h1 (gf := 162) (lb := #[.pointer (some ⟨Bm, 0, none⟩)]) rfl trivial (enters_of Tryz.func162 (by kernel_rfl) rfl)
  (zA (n - 1) (by omega) Bm b m W0 (by omega) ((hB0.cell (p := ⟨Bm, 0, none⟩) hBm).trans hm) (htab.kept hB0)) walksK_t walksK_b (Below.refl _ _) (fun _ => rfl)
  (fun pre W => (∃ v, Boxed W w.heap.size 30 v ∧ W.ownsRow w.heap.size 56 3 v pre.length (aW pre) ∧ (v = .slice none 0 0 ↔ pre = [])) ∧ Below w.heap.size w W)
  (fun _ _ _ => False)
  (OwnFrom.and (Own.from (holdsRow_own w.heap.size w.heap.size 30 56 3 (fun pre : List Dot => pre.length) (fun pre => aW pre) (fun pre v => v = .slice none 0 0 ↔ pre = [])) _) (ownFrom_below (Nat.le_refl _) (by omega)))
  (fun _ _ _ _ _ hs _ _ => hs)
  ⟨⟨_, bS, World.ownsRow_nil _ _ _ _, by simp⟩, hB0⟩
  (fun x a' W => ∃ Bx, w.heap.size < Bx ∧ W.heap[Bx]? = some (.cells #[.int .i64 x.a.dev, .int .i64 x.a.inc, .int .i64 x.seq] 56 (0, 0)) ∧ a' = { tmps := #[.slice none 0 0, .func (.func 162) #[] #[.pointer (some ⟨Bm, 0, none⟩)], .pointer (some ⟨w.heap.size, 0, none⟩), undef, .slice none 0 0, .pointer (some ⟨Bx, 0, none⟩), .func (.func 162) #[] #[.pointer (some ⟨Bm, 0, none⟩)], bY x, undef, undef, undef, undef, undef], defers := [] })
  (fun x a' _ X Y row hs hg hr => by obtain ⟨Bx, h1, h2, h3⟩ := hs; exact ⟨Bx, h1, AL Bx (fun (_ : Unit) => #[.int .i64 x.a.dev, .int .i64 x.a.inc, .int .i64 x.seq]) 56 () X Y row h2 hg (fun r e => (hr r e).2), h3⟩)
  ?assign ?body ?done ?stop
 case assign =>
  rintro l pre x W K ⟨⟨v, bS1, hr1, hn1⟩, hB1⟩ hK
  gi_wp2_with (rw [Oper.semAt_eq _ _ _ (fun c h => by cases h)]; go_simp; try go_bits)
  exact hK _ _ ((KeepsOthers.alloc _ _).from _) (KeepsWalks.alloc _ _) ⟨⟨v, bS1.alloc _, hr1.alloc _, hn1⟩, hB1.alloc hB1.size _⟩ ⟨W.heap.size, bS1.lt, World.alloc_heap_new W _, rfl⟩
 case body =>
  rintro l pre x a' W hl ⟨r, hr⟩ ⟨⟨v, bS1, hr1, hn1⟩, hB1⟩ ⟨Bx, hBx, bX, rfl⟩ hlt
  have cS := bS1.cell
  obtain ⟨x0, x1, x2⟩ := Ji bX
  have h1' : 1 ≤ n - 1 - 1 := by omega
  clear bX
  gi_wp2_with (first
   | (gi_at_builtin; refine wpListIn_append_own _ rfl _ _ 30 rfl w.heap.size 56 i0 (.agg #[.int .i64 0, .int .i64 0, .int .i64 0]) 3 24 Tryz.underlying30 hi hz0 hz1 hz2 rfl (by decide) _ _ _ rfl (hr1.alloc _) ⟨W.heap.size, 0, none⟩ 1 1 [.int .i64 x.a.dev, .int .i64 x.a.inc, .int .i64 x.seq] rfl rfl (jY _ _ _) (by simp [Value.oneCell']) (by unfold maxLen; omega) (by omega) (by have := hB1.size; simp; omega) ?_; intro v' w1 hown' hgrow _; obtain ⟨g', cap', rfl⟩ := ownsRow_succ hown'; obtain ⟨hv1, hv2, hr2, hk2, hb2⟩ := bS1.appended (by decide) hr1 hB1.size (Nat.le_refl _) hown' hgrow; have hc1 := hv1.cell; have hf1 := hv1.frozen)
   | (rw [Oper.semAt_eq _ _ _ (fun c h => by cases h)]; go_simp; try go_bits))
  exact ⟨hk2.from _, ⟨hk2.size, fun k o h hw => hk2.same k o h (by cases o <;> simp_all [Obj.isWalk, Obj.isCells])⟩, ⟨⟨_, hv2, by simpa [aW] using hr2, by simp⟩, hB1.trans hb2⟩⟩
 case done =>
  rintro D zs W hD hS ⟨⟨v, bS1, hr1, hn1⟩, hB1⟩ hK
  have cS := bS1.cell
  gi_wp2
  refine ⟨by simp, .inl ⟨_, _, rfl, run_takeDeferred hK, ?_⟩⟩
  exact ⟨_, results_tmp rfl _ _ _, v, zs, rfl, hS, ownsRow_putObj hr1 _ hK rfl, hn1, hB1.trans (belowK_b (w := w) (Nat.le_refl _) W D _ _ (by omega) hK rfl rfl)⟩
 case stop =>
  rintro D c pre W _ _ h _
  exact h.elim
theorem wM {β : Type} {vv : β → Value} (n : Nat) (hn : 1 ≤ n) (Bm b : Nat) (m : List (Actor × β)) (w : World) (hBm : Bm < w.heap.size) (hm : w.cell? ⟨Bm, 0, none⟩ = some (.map (some b))) (htab : Tab Tryz.prog 54 fB ActW vv w b m) :
 SeqStopsK Fence.wide n Tryz.prog 195 #[.pointer (some ⟨Bm, 0, none⟩)] (fun x : Actor => #[fB x]) KeepsWalks (fun ks => ks.Perm (m.map (·.1))) (fun _ => True) m.length w := fun l J Jx W hW hJ _ hY h0 =>
 IX n hn l Bm b m J Jx hY W hJ ((hW.cell (p := ⟨Bm, 0, none⟩) hBm).trans hm) (htab.kept hW) h0
theorem EF {β : Type} {vv : β → Value} (n : Nat) (hn : 4 ≤ n) (Bm b : Nat) (m : List (Actor × β)) (w : World) (hBm : Bm < w.heap.size) (hm : w.cell? ⟨Bm, 0, none⟩ = some (.map (some b))) (htab : Tab Tryz.prog 54 fB ActW vv w b m) (hN : m.length ≤ 1073741824) :
 CallsIn Fence.wide n Tryz.prog 221 #[.slice none 0 0, .func (.func 195) #[] #[.pointer (some ⟨Bm, 0, none⟩)]] w fun e w' => ∃ (v : Value) (ks : List Actor), e = .returned v ∧ ks.Perm (m.map (·.1)) ∧
  w'.ownsRow w.heap.size 54 2 v ks.length (gZ ks) ∧ (v = .slice none 0 0 ↔ ks = []) ∧ Below w.heap.size w w' := by
 have h1 : 1 ≤ n := by omega
 obtain ⟨i0, hi, hz0, hz1, hz2⟩ := info_parts Tryz.infoActor
 refine callsIn_of_wp_marks Tryz.func221 rfl trivial ?_ rfl
 simp only [Tryz.ntmps221, List.size_toArray, List.length_cons, List.length_nil, Nat.reduceAdd, Nat.reduceSub, Array.replicate_succ, Array.replicate_zero, List.push_toArray, List.append_toArray, List.nil_append, List.cons_append]
 gi_wp2
 have bS := Boxed.new w 194 (.slice none 0 0)
 have hB0 : Below w.heap.size w (w.alloc (.cells #[.slice none 0 0] 194)) := (Below.refl _ w).alloc (Nat.le_refl _) _
 have hsz : (w.alloc (.cells #[.slice none 0 0] 194)).heap.size = w.heap.size + 1 := by simp
 obtain ⟨W0, hW0⟩ : ∃ W0, w.alloc (.cells #[.slice none 0 0] 194) = W0 := ⟨_, rfl⟩
 rw [hW0] at bS hB0 hsz ⊢
 clear hW0
 refine wpIn_rangeFunc_ownH (n := n) rfl h1 (gf := 195) (lb := #[.pointer (some ⟨Bm, 0, none⟩)]) rfl trivial (enters_of Tryz.func195 (by kernel_rfl) rfl)
  (wM (n - 1) (by omega) Bm b m W0 (by omega) ((hB0.cell (p := ⟨Bm, 0, none⟩) hBm).trans hm) (htab.kept hB0)) walksK_t walksK_b (Below.refl _ _) (fun _ => rfl)
  (fun pre W => (∃ v, Boxed W w.heap.size 194 v ∧ W.ownsRow w.heap.size 54 2 v pre.length (gZ pre) ∧ (v = .slice none 0 0 ↔ pre = [])) ∧ Below w.heap.size w W)
  (fun _ _ _ => False)
  (OwnFrom.and (Own.from (holdsRow_own w.heap.size w.heap.size 194 54 2 (fun pre : List Actor => pre.length) (fun pre => gZ pre) (fun pre v => v = .slice none 0 0 ↔ pre = [])) _) (ownFrom_below (Nat.le_refl _) (by omega)))
  (fun _ _ _ _ _ hs _ _ => hs)
  ⟨⟨_, bS, World.ownsRow_nil _ _ _ _, by simp⟩, hB0⟩
  (fun x a' W => ∃ Bx, w.heap.size < Bx ∧ W.heap[Bx]? = some (.cells #[.int .i64 x.dev, .int .i64 x.inc] 54 (0, 0)) ∧ a' = { tmps := #[.slice none 0 0, .func (.func 195) #[] #[.pointer (some ⟨Bm, 0, none⟩)], .pointer (some ⟨w.heap.size, 0, none⟩), undef, .slice none 0 0, .pointer (some ⟨Bx, 0, none⟩), .func (.func 195) #[] #[.pointer (some ⟨Bm, 0, none⟩)], fB x, undef, undef, undef, undef, undef], defers := [] })
  (fun x a' _ X Y row hs hg hr => by obtain ⟨Bx, h1, h2, h3⟩ := hs; exact ⟨Bx, h1, AL Bx (fun (_ : Unit) => #[.int .i64 x.dev, .int .i64 x.inc]) 54 () X Y row h2 hg (fun r e => (hr r e).2), h3⟩)
  ?assign ?body ?done ?stop
 case assign =>
  rintro l pre x W K ⟨⟨v, bS1, hr1, hn1⟩, hB1⟩ hK
  gi_wp2_with (rw [Oper.semAt_eq _ _ _ (fun c h => by cases h)]; go_simp; try go_bits)
  exact hK _ _ ((KeepsOthers.alloc _ _).from _) (KeepsWalks.alloc _ _) ⟨⟨v, bS1.alloc _, hr1.alloc _, hn1⟩, hB1.alloc hB1.size _⟩ ⟨W.heap.size, bS1.lt, World.alloc_heap_new W _, rfl⟩
 case body =>
  rintro l pre x a' W hl ⟨r, hr⟩ ⟨⟨v, bS1, hr1, hn1⟩, hB1⟩ ⟨Bx, hBx, bX, rfl⟩ hlt
  have cS := bS1.cell
  obtain ⟨x0, x1⟩ := Jj bX
  have h1' : 1 ≤ n - 1 - 1 := by omega
  clear bX
  gi_wp2_with (first
   | (gi_at_builtin; refine wpListIn_append_own _ rfl _ _ 194 rfl w.heap.size 54 i0 (.agg #[.int .i64 0, .int .i64 0]) 2 16 Tryz.underlying194 hi hz0 hz1 hz2 rfl (by decide) _ _ _ rfl (hr1.alloc _) ⟨W.heap.size, 0, none⟩ 1 1 [.int .i64 x.dev, .int .i64 x.inc] rfl rfl (jY _ _ _) (by simp [Value.oneCell']) (by unfold maxLen; omega) (by omega) (by have := hB1.size; simp; omega) ?_; intro v' w1 hown' hgrow _; obtain ⟨g', cap', rfl⟩ := ownsRow_succ hown'; obtain ⟨hv1, hv2, hr2, hk2, hb2⟩ := bS1.appended (by decide) hr1 hB1.size (Nat.le_refl _) hown' hgrow; have hc1 := hv1.cell; have hf1 := hv1.frozen)
   | (rw [Oper.semAt_eq _ _ _ (fun c h => by cases h)]; go_simp; try go_bits))
  exact ⟨hk2.from _, ⟨hk2.size, fun k o h hw => hk2.same k o h (by cases o <;> simp_all [Obj.isWalk, Obj.isCells])⟩, ⟨⟨_, hv2, by simpa [gZ] using hr2, by simp⟩, hB1.trans hb2⟩⟩
 case done =>
  rintro D zs W hD hS ⟨⟨v, bS1, hr1, hn1⟩, hB1⟩ hK
  have cS := bS1.cell
  gi_wp2
  refine ⟨by simp, .inl ⟨_, _, rfl, run_takeDeferred hK, ?_⟩⟩
  exact ⟨_, results_tmp rfl _ _ _, v, zs, rfl, hS, ownsRow_putObj hr1 _ hK rfl, hn1, hB1.trans (belowK_b (w := w) (Nat.le_refl _) W D _ _ (by omega) hK rfl rfl)⟩
 case stop =>
  rintro D c pre W _ _ h _
  exact h.elim
end Go.Proofs.YtdlmbflhbecggaaGreat
/- A region whose order is open, and whose last operations turn what the others read: the reads may be taken first. Conditions: none. -/
namespace Go.Proofs.YtdlmbflhbecggaaGreat
open Go
section
variable {P : Program} {md : Region.Mode} {ops : Array Oper} {Q : Exit → Act → World → Prop} {S : World → Prop} {L : List Nat}
/-- one of the late operations has come up -/
def BM (L : List Nat) (listed : Array Bool) : Bool := L.any fun l => listed.getD l false
/-- whatever has come up, so has all that it waits for -/
def nG (md : Region.Mode) (ops : Array Oper) (listed : Array Bool) : Bool :=
 (List.range ops.size).all fun k => !listed.getD k false || ((ops[k]?).map (·.after.all fun e => !Region.binds md e || listed.getD e.on false)).getD true
/-- j waits for i, directly or not -/
def jA (md : Region.Mode) (ops : Array Oper) : Nat → Nat → Nat → Bool
 | 0, _, _ => false
 | f + 1, j, i => ((ops[j]?).map (·.after.any fun e => Region.binds md e && (e.on == i || jA md ops f e.on i))).getD false
def wpAnyL (P : Program) (md : Region.Mode) (ops : Array Oper) (Q : Exit → Act → World → Prop) (S : World → Prop) (L : List Nat) : Nat → Array Bool → Act → World → Prop
 | 0, listed, a, w => Region.ready md ops listed = [] ∧ Q .normal a w
 | fuel + 1, listed, a, w =>
   (Region.ready md ops listed = [] → Q .normal a w) ∧
   ∀ i ∈ Region.ready md ops listed, wpOp P ops Q i (fun a' w' => (BM L (listed.setIfInBounds i true) = true ∨ S w') ∧ wpAnyL P md ops Q S L fuel (listed.setIfInBounds i true) a' w') a w
theorem qO : ∀ (fuel : Nat) (listed : Array Bool) (a : Act) (w : World), wpAnyL P md ops Q S L fuel listed a w → wpAny P md ops Q fuel listed a w
 | 0, _, _, _, h => h
 | fuel + 1, _, _, _, h => ⟨h.1, fun i hi => wpOp_mono (fun a' w' h' => qO fuel _ a' w' h'.2) (h.2 i hi)⟩
theorem vY {listed : Array Bool} (hc : nG md ops listed = true) {j : Nat} {o : Oper} (ho : ops[j]? = some o) (hj : listed.getD j false = true) : ∀ e ∈ o.after, Region.binds md e = true → listed.getD e.on false = true := by
 intro e he hb
 have hlt := (Array.getElem?_eq_some_iff.1 ho).1
 have := (List.all_eq_true.1 hc) j (List.mem_range.2 hlt)
 rw [hj, ho] at this
 simp only [Bool.not_true, Option.map_some, Option.getD_some, Bool.false_or, Array.all_eq_true_iff_forall_mem] at this
 have h1 := this e he
 rw [hb] at h1
 simpa using h1
theorem qQ {f j i : Nat} (h : jA md ops (f + 1) j i = true) : ∃ o, ops[j]? = some o ∧ ∃ e ∈ o.after, Region.binds md e = true ∧ (e.on = i ∨ jA md ops f e.on i = true) := by
 unfold jA at h
 cases ho : ops[j]? with
 | none => rw [ho] at h; simp at h
 | some o =>
   rw [ho] at h
   simp only [Option.map_some, Option.getD_some, Array.any_eq_true'] at h
   obtain ⟨e, he, h⟩ := h
   simp only [Bool.and_eq_true, Bool.or_eq_true, beq_iff_eq] at h
   exact ⟨o, rfl, e, he, h.1, h.2⟩
theorem rG {listed : Array Bool} (hc : nG md ops listed = true) {i : Nat} (hi : listed.getD i false = false) : ∀ {f j : Nat}, jA md ops f j i = true → listed.getD j false = false
 | 0, _, h => by simp [jA] at h
 | f + 1, j, h => by
   obtain ⟨o, ho, e, he, hb, h2⟩ := qQ h
   cases hj : listed.getD j false with
   | false => rfl
   | true =>
     have h3 := vY hc ho hj e he hb
     rcases h2 with rfl | h2
     ·rw [hi] at h3; cases h3
     ·rw [rG hc hi h2] at h3; cases h3
theorem IC {listed : Array Bool} (hc : nG md ops listed = true) {i : Nat} (hi : listed.getD i false = false) {f j : Nat} (h : jA md ops f j i = true) : j ∉ Region.ready md ops listed := by
 intro hr
 obtain ⟨_, o, ho, hall⟩ := mem_ready.1 hr
 cases f with
 | zero => simp [jA] at h
 | succ f =>
   obtain ⟨o', ho', e, he, hb, h2⟩ := qQ h
   obtain rfl : o = o' := by rw [ho] at ho'; exact Option.some.inj ho'
   have h3 := hall e he hb
   rcases h2 with rfl | h2
   ·rw [hi] at h3; cases h3
   ·rw [rG hc hi h2] at h3; cases h3
theorem Et {listed : Array Bool} (hc : nG md ops listed = true) {j : Nat} (hr : j ∈ Region.ready md ops listed) : nG md ops (listed.setIfInBounds j true) = true := by
 unfold nG
 rw [List.all_eq_true]
 intro k hk
 cases ho : ops[k]? with
 | none => simp
 | some o =>
   simp only [Option.map_some, Option.getD_some, Bool.or_eq_true, Bool.not_eq_true', Array.all_eq_true_iff_forall_mem]
   by_cases hkl : (listed.setIfInBounds j true).getD k false = true
   ·right
    intro e he
    cases hb : Region.binds md e with
    | false => left; rfl
    | true =>
      right
      refine getD_set_true ?_
      by_cases hkj : j = k
      ·subst hkj
       obtain ⟨_, o', ho', hall⟩ := mem_ready.1 hr
       obtain rfl : o = o' := by rw [ho] at ho'; exact Option.some.inj ho'
       exact hall e he hb
      ·have : listed.getD k false = true := by
        have h1 : (listed.setIfInBounds j true).getD k false = listed.getD k false := by simp [Array.getElem?_setIfInBounds_ne hkj]
        rwa [h1] at hkl
       exact vY hc ho this e he hb
   ·left
    exact Bool.eq_false_iff.2 hkl
theorem zF {listed : Array Bool} {i : Nat} (h : listed.getD i true = false) : listed.getD i false = false := by
 rcases Nat.lt_or_ge i listed.size with h' | h'
 ·simp [h'] at h ⊢; exact h
 ·simp [Array.getElem?_eq_none h'] at h
theorem pX {listed : Array Bool} {j l : Nat} (h : j ≠ l) : (listed.setIfInBounds j true).getD l false = listed.getD l false := by simp [Array.getElem?_setIfInBounds_ne h]
theorem wpAnyL_first {i : Nat} {oi : Oper} {v : Value} (hi : ops[i]? = some oi) (hsel : ∀ (j : Nat) (o : Oper) cs b, ops[j]? = some o → o.op ≠ .select cs b)
 (hQ : ∀ c a w, Q (.panic c) (a.put oi.dst v) w → Q (.panic c) a w) (hL : ∀ l ∈ L, l ≠ i ∧ ∃ f, jA md ops f l i = true) :
 ∀ (fuel : Nat) (listed : Array Bool) (a : Act) (w : World), nG md ops listed = true →
   (∀ j oj, ops[j]? = some oj → j ≠ i → listed.getD j true = false → (∀ e ∈ oj.after, Region.binds md e = true → e.on ≠ i) → oi.apart ops oj = true) →
   i ∈ Region.ready md ops listed → YieldsIf P ops S oi v a → S w →
   wpAnyL P md ops Q S L fuel (listed.setIfInBounds i true) (a.put oi.dst v) w → wpAnyL P md ops Q S L (fuel + 1) listed a w := by
 intro fuel
 induction fuel with
 | zero =>
   intro listed a w hc _ hr hy hS H
   refine ⟨fun h => (by rw [h] at hr; cases hr), fun j hj => ?_⟩
   by_cases hji : j = i
   ·subst hji; exact hy.wpOp hi hS ⟨Or.inr hS, H⟩
   ·have := ready_mono hj hji
    rw [H.1] at this
    cases this
 | succ fuel ih =>
   intro listed a w hc hfree hr hy hS H
   refine ⟨fun h => (by rw [h] at hr; cases hr), fun j hj => ?_⟩
   by_cases hji : j = i
   ·subst hji; exact hy.wpOp hi hS ⟨Or.inr hS, H⟩
   ·have hil := zF (mem_ready.1 hr).1
    have hjL : ∀ l ∈ L, l ≠ j := fun l hl e => by
        obtain ⟨_, f, hf⟩ := hL l hl
        exact IC hc hil hf (e ▸ hj)
    have OY : BM L ((listed.setIfInBounds i true).setIfInBounds j true) = false := by
        unfold BM
        rw [List.any_eq_false]
        intro l hl
        obtain ⟨hli, f, hf⟩ := hL l hl
        rw [pX (hjL l hl).symm, pX hli.symm, rG hc hil hf]
        simp
    have h1 := H.2 j (ready_mono hj hji)
    obtain ⟨hjun, oj, hoj, hall⟩ := mem_ready.1 hj
    have hnot : ∀ e ∈ oj.after, Region.binds md e = true → e.on ≠ i := fun e he hb heq => by
        have h1 := hall e he hb
        rw [heq, hil] at h1
        cases h1
    have h2 := wpOp_putIf hoj (hfree j oj hoj hji hjun hnot) (fun cs b => hsel i oi cs b hi) (fun cs b => hsel j oj cs b hoj) hQ hy h1
    have hfree' : ∀ k ok, ops[k]? = some ok → k ≠ i → (listed.setIfInBounds j true).getD k true = false →
     (∀ e ∈ ok.after, Region.binds md e = true → e.on ≠ i) → oi.apart ops ok = true := fun k ok hk hki hun hno => by
        refine hfree k ok hk hki ?_ hno
        by_cases hjk : j = k
        ·subst hjk; exact hjun
        ·rw [getD_set_ne true hjk] at hun; exact hun
    refine wpOp_mono (fun a' w' h3 => ?_) h2
    have hS' : S w' := by
        rcases h3.2.1 with h4 | h4
        ·rw [OY] at h4; cases h4
        ·exact h4
    refine ⟨Or.inr hS', ih (listed.setIfInBounds j true) a' w' (Et hc hj) hfree' (ready_mono hr (Ne.symm hji)) h3.1 hS' ?_⟩
    rw [Array.setIfInBounds_comm _ _ hji]
    exact h3.2.2
theorem aB {i : Nat} {oi : Oper} {v : Value} {fuel : Nat} {listed : Array Bool} {a : Act} {w : World} (hi : ops[i]? = some oi)
 (hs : Region.noSelect ops = true) (hf : Region.free md ops listed i = true) (hr : (Region.ready md ops listed).contains i = true) (hc : nG md ops listed = true)
 (hL : (L.all fun l => (l != i) && jA md ops ops.size l i) = true)
 (hQ : ∀ c a w, Q (.panic c) (a.put oi.dst v) w → Q (.panic c) a w) (hy : YieldsIf P ops S oi v a) (hS : S w)
 (h : wpAnyL P md ops Q S L fuel (listed.setIfInBounds i true) (a.put oi.dst v) w) : wpAnyL P md ops Q S L (fuel + 1) listed a w :=
 wpAnyL_first hi (Region.noSelect_spec hs) hQ (fun l hl => by have := (List.all_eq_true.1 hL) l hl; simp only [Bool.and_eq_true, bne_iff_ne] at this; exact ⟨this.1, _, this.2⟩) fuel listed a w hc (Region.free_spec hi hf) (by simpa using hr) hy hS h
theorem eU {listed : Array Bool} {a : Act} {w : World} (hr : Region.ready md ops listed = []) (h : Q .normal a w) : ∀ fuel, wpAnyL P md ops Q S L fuel listed a w
 | 0 => ⟨hr, h⟩
 | _ + 1 => ⟨fun _ => h, by rw [hr]; simp⟩
/-- one operation alone may come up -/
theorem cZ {i : Nat} {o : Oper} {fuel : Nat} {listed : Array Bool} {a : Act} {w : World} (hr : Region.ready md ops listed = [i]) (ho : ops[i]? = some o)
 (h : ∀ K' : Act → World → Prop, Shut (∀ a w, (BM L (listed.setIfInBounds i true) = true ∨ S w) → wpAnyL P md ops Q S L fuel (listed.setIfInBounds i true) a w → K' a w) → if Region.wanted o (yielded ops a.tmps) = true then Oper.wp P o a w K' Q else K' (a.put o.dst undef) w) :
 wpAnyL P md ops Q S L (fuel + 1) listed a w := by
 refine ⟨fun h0 => absurd (hr ▸ h0) (by simp), ?_⟩
 rw [hr]
 intro j hj
 obtain rfl : j = i := by simpa using hj
 exact wpOp_step ho (fun K' hK => h K' (fun a w hS hW => hK a w ⟨hS, hW⟩))
theorem dE {id : Nat} {a : Act} {w : World} (S : World → Prop) (L : List Nat) (hm : P.follows .mixedOrders = true) (h : wpAnyL P .any ops Q S L ops.size (Array.replicate ops.size false) a w.drew) : (Code.region id ops true).wp P Q a w :=
 wp_region_any hm (qO _ _ _ _ h)
end
section
variable {P : Program} {md : Region.Mode} {ops : Array Oper} {Q : Exit → Act → World → Prop} {S : World → Prop}
theorem tH {op : Op} {ty : TypeId} {ps : String} {af : Array Edge} {gd : Option (Nat × Bool)} {v : Value} {fuel : Nat} {listed : Array Bool} {a : Act} {w : World} (i d : Nat) (hi : ops[i]? = some ⟨some d, op, ty, ps, af, gd⟩) (hy : YieldsIf P ops S ⟨some d, op, ty, ps, af, gd⟩ v a)
 (h : wpAnyH P md ops Q S fuel (listed.setIfInBounds i true) (a.put (some d) v) w) (hs : Region.noSelect ops = true := by kernel_rfl) (hf : Region.free md ops listed i = true := by kernel_rfl) (hr : (Region.ready md ops listed).contains i = true := by kernel_rfl)
 (hQ : ∀ c a w, Q (.panic c) (a.put (some d) v) w → Q (.panic c) a w := by exact fun _ _ _ h => h) (hS : S w := by assumption) : wpAnyH P md ops Q S (fuel + 1) listed a w := wpAnyH_take hi hs hf hr hQ hy hS h
theorem rH {op : Op} {ty : TypeId} {ps : String} {af : Array Edge} {gd : Option (Nat × Bool)} {fuel : Nat} {listed : Array Bool} {a : Act} {w : World} (i d : Nat) (ho : ops[i]? = some ⟨some d, op, ty, ps, af, gd⟩)
 (h : ∀ K' : Act → World → Prop, Shut (∀ a w, S w → (S w → wpAnyH P md ops Q S fuel (listed.setIfInBounds i true) a w) → K' a w) → if Region.wanted ⟨some d, op, ty, ps, af, gd⟩ (yielded ops a.tmps) = true then Oper.wp P ⟨some d, op, ty, ps, af, gd⟩ a w K' Q else K' (a.put (some d) undef) w)
 (hr : Region.ready md ops listed = [i] := by kernel_rfl) : wpAnyH P md ops Q S (fuel + 1) listed a w := wpAnyH_ready hr (by simp) (AllReadyH.cons ho h AllReadyH.nil)
end
end Go.Proofs.YtdlmbflhbecggaaGreat
