/- slices.SortFunc at a slice of one's own: dots, actors. Conditions: fewer than 2^30. -/
import Derived.Test.YtohcmljigcdmbaaGreatTabIn
import Derived.Test.YtohcmljigcdmbaaGreatClone
import Derived.Test.YtohcmljigcdmbaaGreatSrt
import Derived.Shelf.SlSortCmp.NoneTotal
import Derived.Test.YtohcmljigcdmbaaGreatEq
import Derived.Test.YtohcmljigcdmbaaGreatLast
import Derived.Test.YtohcmljigcdmbaaGreatVec
set_option linter.unusedSimpArgs false
set_option linter.unusedVariables false
set_option linter.unnecessarySimpa false
set_option maxHeartbeats 16000000
set_option maxRecDepth 100000
namespace Go.Proofs.YtohcmljigcdmbaaGreat
open Go.RowKit Go.Shelf
section
variable {α : Type} [Inhabited α] {enc : α → List Value} {k : Nat}
theorem flat_get (hk : ∀ x, (enc x).length = k) (k0 : 0 < k) : ∀ (l : List α) (t : Nat), t < l.length * k → (l.flatMap enc)[t]? = some ((enc l[t / k]!)[t % k]!)
 | [], t, h => by simp at h
 | x :: l, t, h => by
   rw [List.flatMap_cons]
   by_cases ht : t < k
   ·rw [List.getElem?_append_left (by rw [hk]; exact ht), Nat.div_eq_of_lt ht, Nat.mod_eq_of_lt ht]
    have hlt : t < (enc x).length := by rw [hk]; exact ht
    simp [hlt]
   ·have ht' : k ≤ t := by omega
    rw [List.getElem?_append_right (by rw [hk]; exact ht'), hk]
    have h2 : t - k < l.length * k := by
        simp only [List.length_cons, Nat.add_mul, Nat.one_mul] at h
        omega
    rw [flat_get hk k0 l (t - k) h2]
    obtain ⟨u, rfl⟩ : ∃ u, t = u + k := ⟨t - k, by omega⟩
    rw [Nat.add_sub_cancel, Nat.add_div_right u k0, Nat.add_mod_right]
    simp
theorem flatK_get (hk : ∀ x, (enc x).length = k) (k0 : 0 < k) (l : List α) (t : Nat) (h : t < l.length * k) : (l.flatMap enc)[t]? = some (Go.Sort.flatK enc k l.toArray)[t]! := by
 rw [flat_get hk k0 l t h, Go.Sort.get_flatK _ _ _ _ (by simpa using h)]
 simp
omit [Inhabited α] in
theorem flatMap_len (hk : ∀ x, (enc x).length = k) : ∀ l : List α, (l.flatMap enc).length = l.length * k
 | [] => by simp
 | x :: l => by rw [List.flatMap_cons, List.length_append, flatMap_len hk l, hk, List.length_cons, Nat.add_mul, Nat.one_mul, Nat.add_comm]
theorem holdsK_own (hk : ∀ x, (enc x).length = k) (k0 : 0 < k) {w : World} {g : Nat} {cur : Array Value} {e : TypeId} {l : List α} (hb : w.heap[g]? = some (.cells cur e (0, 0))) (ht : cur.toList.take (l.length * k) = l.flatMap enc) : Go.Sort.HoldsK enc k w g 0 l.toArray := by
 intro j hj
 have hj' : j < l.length * k := by simpa using hj
 refine ⟨?_, by simp [World.frozen?, hb]⟩
 have h1 : (cur.toList.take (l.length * k))[j]? = (l.flatMap enc)[j]? := by rw [ht]
 rw [List.getElem?_take_of_lt hj', flatK_get hk k0 l j hj'] at h1
 simp only [World.cell?, hb, Nat.zero_add]
 simp only [Option.isSome_none, Bool.false_eq_true, if_false]
 rw [← Array.getElem?_toList, h1]
 rfl
theorem heap_sortK {w : World} {g n : Nat} {os : Array Obj} {cur : Array Value} {e : TypeId} {fr : Nat × Nat} (d : Array α) (hb : w.heap[g]? = some (.cells cur e fr)) :
 (sortWorldK enc k w g 0 n d os).heap[g]? = some (.cells (Go.Sort.putCells id 0 (Go.Sort.flatK enc k d) cur) e fr) := by
 have hg : g < w.heap.size := (Array.getElem?_eq_some_iff.1 hb).1
 unfold sortWorldK Go.Sort.putRowK
 rw [Go.Sort.heap_grow_old _ _ (by simpa [Go.Sort.putRow, Go.Sort.mapBlock, Go.Sort.ahead] using hg)]
 simp [Go.Sort.putRow, Go.Sort.mapBlock, Go.Sort.ahead, Array.getElem?_modify, hb, Go.Sort.onCells]
theorem fr_sortK {w : World} {g n : Nat} {os : Array Obj} (d : Array α) : Fr (isR g) w (sortWorldK enc k w g 0 n d os) := by
 unfold sortWorldK Go.Sort.putRowK
 refine ⟨rfl, rfl, rfl, by simp [Go.Sort.putRow, Go.Sort.mapBlock, Go.Sort.ahead], fun j hj hne => ?_⟩
 rw [Go.Sort.heap_grow_old _ _ (by simpa [Go.Sort.putRow, Go.Sort.mapBlock, Go.Sort.ahead] using hj)]
 have : g ≠ j := fun e => hne e.symm
 simp [Go.Sort.putRow, Go.Sort.mapBlock, Go.Sort.ahead, Array.getElem?_modify, this]
theorem take_putK (hk : ∀ x, (enc x).length = k) (k0 : 0 < k) (cur : Array Value) (l : List α) (h : l.length * k ≤ cur.size) : (Go.Sort.putCells id 0 (Go.Sort.flatK enc k l.toArray) cur).toList.take (l.length * k) = l.flatMap enc := by
 apply List.ext_getElem?
 intro j
 by_cases hj : j < l.length * k
 ·have hjc : j < cur.size := by omega
  have hjf : j < (Go.Sort.flatK enc k l.toArray).size := by simpa using hj
  rw [List.getElem?_take_of_lt hj, Array.getElem?_toList, flatK_get hk k0 l j hj]
  simp only [Go.Sort.putCells, Array.getElem?_mapIdx, Array.getElem?_eq_getElem hjc, Option.map_some, Nat.zero_add, Nat.zero_le, true_and, if_pos hjf, Nat.sub_zero, id]
 ·rw [List.getElem?_take_eq_none (by omega), List.getElem?_eq_none (by rw [flatMap_len hk]; omega)]
theorem ownsRow_sortK (hk : ∀ x, (enc x).length = k) (k0 : 0 < k) {w : World} {base g cap n : Nat} {e : TypeId} {os : Array Obj} {cur : Array Value} {ss ts : List α} (hl : ts.length = ss.length) (hbase : base ≤ g) (hb : w.heap[g]? = some (.cells cur e (0, 0)))
 (h1 : ss.length ≤ cap) (h2 : cap ≤ maxLen) (h3 : cur.size = cap * k) :
 (sortWorldK enc k w g 0 n ts.toArray os).ownsRow base e k (.slice (some ⟨g, 0, none⟩) ss.length cap) ss.length (ts.flatMap enc) :=
 ⟨by rw [flatMap_len hk, hl], .inr ⟨g, cap, _, rfl, hbase, heap_sortK _ hb, h1, h2, by simp [Go.Sort.putCells, h3], by
  rw [← hl]
  exact take_putK hk k0 cur ts (by rw [hl, h3]; exact Nat.mul_le_mul_right k h1)⟩⟩
end
instance : Inhabited Actor := ⟨⟨0, 0⟩⟩
instance : Inhabited Dot := ⟨⟨⟨0, 0⟩, 0⟩⟩
def encActor (a : Actor) : List Value := [.int .i64 a.dev, .int .i64 a.inc]
theorem swoActor : Go.Sort.SWO (ltOf cmpActor) := by
 have e : ∀ x y, ltOf cmpActor x y = actorLt x y := fun x y => cmpActor_iff x y
 refine ⟨fun x => by rw [e]; exact actorLt_irrefl x, fun x y z h k => ?_, fun x y z h k => ?_⟩
 ·rw [e] at h k ⊢; exact actorLt_trans h k
 ·rw [e] at h k ⊢
  cases hh : actorLt x z with
  | false => rfl
  | true =>
    by_cases hxy : x = y
    ·subst hxy; rw [k] at hh; cases hh
    ·have h1 := actorLt_total hxy h
     have h2 := actorLt_trans h1 hh
     rw [k] at h2; cases h2
theorem cmpLaysActor (blk off size : Nat) (w : World) : CmpLays Tryz.prog 107 #[] encActor 2 cmpActor blk off size w :=
 fun _ _ _ _ x y => (sortActor_up x y _).mono fun _ _ ⟨he, hu⟩ => ⟨he, hu.grown⟩
theorem sortsActor (base : Nat) (v : Value) (ks : List Actor) (w : World) (hown : w.ownsRow base 23 2 v ks.length (actVals ks)) (hl : ks.length ≤ 1073741824) :
 Calls Tryz.prog 142 #[v, .func (.func 107) #[] #[]] w fun e w' => e = .returned (.tuple #[]) ∧ ∃ ts : List Actor, ts.Perm ks ∧ Go.Sort.SortedIn actorLt 0 ts.toArray.size ts.toArray ∧ w'.ownsRow base 23 2 v ks.length (actVals ts) ∧ Fr (fun k => v.ownBlock = some k) w w' := by
 rcases hown.2 with ⟨rfl, hz⟩ | ⟨g, cap, cur, rfl, hbase, hgb, r1, r2, r3, r4⟩
 ·obtain rfl : ks = [] := List.eq_nil_of_length_eq_zero hz
  refine (AnyF.slices_SortFunc_none Tryz.sortActor none 0 _ w).mono ?_
  rintro e w' ⟨rfl, rfl⟩
  exact ⟨rfl, [], List.Perm.refl _, fun i j _ _ h => by simp at h, hown, Fr.refl _ _⟩
 ·have hH : Go.Sort.HoldsK encActor 2 w g 0 ks.toArray := holdsK_own (k := 2) (fun _ => rfl) (by decide) hgb r4
  have hgl : g < w.heap.size := (Array.getElem?_eq_some_iff.1 hgb).1
  have hc := AnyQ.slices_SortFunc Tryz.sortActor 2 Tryz.isAgg23 Tryz.sizeOf23 encActor (fun _ => rfl) (fun x v hv => by simp [encActor] at hv; rcases hv with rfl | rfl <;> rfl) cmpActor swoActor 107 #[] g 0 cap ks.toArray w (enters_of Tryz.func107 (by kernel_rfl) rfl) (cmpLaysActor g 0 _ w) hH hgl (by simp; omega)
  rw [List.size_toArray] at hc
  refine hc.mono ?_
  rintro e w' ⟨rfl, d', n, os, ⟨p1, p2, p3⟩, hs, rfl⟩
  have hd : d' = d'.toList.toArray := by simp
  have hsz : d'.size = ks.length := by simpa using p1
  have hperm : d'.toList.Perm ks := by
   have := p3
   rwa [show d'.extract 0 ks.length = d' by rw [← hsz]; simp, show ks.toArray.extract 0 ks.length = ks.toArray by simp] at this
  refine ⟨rfl, d'.toList, hperm, ?_, ?_, ?_⟩
  ·have e : ltOf cmpActor = actorLt := by funext x y; exact cmpActor_iff x y
   rw [e] at hs
   simpa [hsz] using hs
  ·have h9 := ownsRow_sortK (enc := encActor) (k := 2) (ts := d'.toList) (ss := ks) (n := n) (os := os) (fun _ => rfl) (by decide) (by simpa using hsz) hbase hgb r1 r2 r3
   rw [← hd] at h9
   exact h9
  ·exact (fr_sortK d').mono fun k _ hk => by subst hk; rfl
theorem keysActor_any (mb : Option Nat) (w : World) : Calls Tryz.prog 106 #[.map mb] w fun e w' => e = .returned (.func (.func 143) #[] #[.pointer (some ⟨w.heap.size, 0, none⟩)]) ∧ w' = w.alloc (.cells #[.map mb] 113) := by
 go_enter Tryz.func106, Tryz.ntmps106
 go_wp2
 go_ret
 exact ⟨rfl, rfl⟩
theorem sortedActor_any {β : Type} {vv : β → Value} (Bm b : Nat) (m : List (Actor × β)) (w : World) (hBm : Bm < w.heap.size) (hm : w.cell? ⟨Bm, 0, none⟩ = some (.map (some b))) (htab : Tab Tryz.prog 23 actVal ActW vv w b m) (hN : m.length ≤ 1073741824) :
 Calls Tryz.prog 105 #[.func (.func 143) #[] #[.pointer (some ⟨Bm, 0, none⟩)], .func (.func 107) #[] #[]] w fun e w' => ∃ (v : Value) (ts : List Actor), e = .returned v ∧ ts.Perm (m.map (·.1)) ∧
  (ts.Pairwise fun x y => actorLt x y = true) ∧ w'.ownsRow w.heap.size 23 2 v ts.length (actVals ts) ∧ (v = .slice none 0 0 ↔ ts = []) ∧ Below w.heap.size w w' := by
 have hnd : (m.map (·.1)).Nodup := by
  have := htab.apart
  exact List.pairwise_map.2 this
 have HAP := Lib.hid (callsIn_wide.1 (appendActor 4 (by omega) Bm b m w hBm hm htab hN))
 have HC : Hid (Calls Tryz.prog 141 #[.func (.func 143) #[] #[.pointer (some ⟨Bm, 0, none⟩)]] w fun e w' => ∃ (v : Value) (ks : List Actor), e = .returned v ∧ ks.Perm (m.map (·.1)) ∧
  w'.ownsRow w.heap.size 23 2 v ks.length (actVals ks) ∧ (v = .slice none 0 0 ↔ ks = []) ∧ Below w.heap.size w w') := by
  clear hm htab
  go_enter Tryz.func141, Tryz.ntmps141
  go_wp2_with (go_at_call 171; (with_reducible refine HAP.out.mono ?_); rintro e w1 ⟨v, ks, rfl, h1, h2, h3, h4⟩)
  go_ret
  exact ⟨v, ks, rfl, h1, h2, h3, h4⟩
 have HND := Lib.hid hnd
 have HN := Lib.hid hN
 clear hm htab hnd hN HAP
 go_enter Tryz.func105, Tryz.ntmps105
 go_upto_region 2 with (go_at_call 141; (with_reducible refine HC.out.mono ?_); rintro e w1 ⟨v, ks, rfl, hp, hown, hnil, hb⟩)
 have hlen : ks.length ≤ 1073741824 := by rw [hp.length_eq, List.length_map]; exact HN.out
 have HS := Lib.hid (sortsActor w.heap.size v ks w1 hown hlen)
 have HP := Lib.hid (And.intro hp hnil)
 have HO := Lib.hid hown
 clear hp hnil hown hlen
 go_wp2_with (go_at_call 142; (with_reducible refine HS.out.mono ?_); rintro e w2 ⟨rfl, ts, hts, hsrt, hown2, hf2⟩)
 go_ret
 have hpm := hts.trans HP.out.1
 refine ⟨v, ts, rfl, hpm, ?_, by rw [hts.length_eq]; exact hown2, ?_, hb.trans (hf2.below hb.size (fun k hk => (HO.out.lt k hk).1))⟩
 ·have h5 := sorted_strict (lt := actorLt) (fun x y h k => actorLt_total h k) (d := ts.toArray) hsrt (by
   simp only []
   exact (hpm.nodup_iff).2 HND.out)
  simpa using h5
 ·rw [HP.out.2]
  constructor
  ·intro h; subst h; exact List.Perm.eq_nil hts
  ·intro h; subst h; exact (List.Perm.eq_nil hts.symm)
theorem DotsIn.at {w : World} {a : Option Addr} {l : List Dot} (h : DotsIn w a l) {k : Nat} (hk : k < l.length) :
 ∃ A off, a = some ⟨A, off, none⟩ ∧ w.cell? ⟨A, off + k * 3, none⟩ = some (.int .i64 l[k].a.dev) ∧ w.cell? ⟨A, off + k * 3 + 1, none⟩ = some (.int .i64 l[k].a.inc) ∧ w.cell? ⟨A, off + k * 3 + 2, none⟩ = some (.int .i64 l[k].seq) := by
 rcases h with rfl | ⟨A, off, h1, h2⟩
 ·simp at hk
 ·exact ⟨A, off, h1, h2.dev k hk, h2.inc k hk, h2.seq k hk⟩
/-- a count goes up -/
theorem Tab.count {w : World} {b : Nat} {m : List (Dot × Int)} (h : Tab Tryz.prog 25 dotVal DotW intVal w b m) (hl : m.length + 1 < maxLen) {d : Dot} (hd : DotW d) :
 ∃ (n : Int) (st : Nat) (w1 w2 : World) (m' : List (Dot × Int)), (Instr.lookup 89 (.map (some b)) (dotVal d) false).run Tryz.prog w = .ok (.int .i64 n) w ∧
   (Instr.lookup 89 (.map (some b)) (dotVal d) false).run Tryz.prog w1 = .ok (.int .i64 n) w1 ∧
   (∃ v0, (Instr.mapEntry 89 (.map (some b)) (dotVal d)).run Tryz.prog w = .ok (.tuple #[v0, .int .i64 (st : Int)]) w1) ∧ Fr (isR b) w w1 ∧
   (Instr.entryStore 89 (.map (some b)) (.int .i64 (st : Int)) (.int .i64 (IntKind.i64.wrap (n + 1)))).run Tryz.prog w1 = .ok () w2 ∧ Fr (isR b) w w2 ∧
   Tab Tryz.prog 25 dotVal DotW intVal w2 b m' ∧ (∀ x, x ∈ m'.map (·.1) ↔ x = d ∨ x ∈ m.map (·.1)) ∧ m'.length ≤ m.length + 1 := by
 have hz : ∀ u : World, (zeroValue 3).run Tryz.prog u = .ok (.int .i64 0) u := fun u => by kernel_rfl
 have hkey := kDot.lit hd
 have hown := h
 obtain ⟨D, hD, hTD⟩ := hown
 by_cases hm : ∃ c, (d, c) ∈ m
 ·obtain ⟨c, hc⟩ := hm
  obtain ⟨r, hr⟩ := perm_split hc
  have hlr := hr.length_eq
  have hlook := h.look_hit kDot Tryz.underlying89 (hz w) hc false
  obtain ⟨w2, hrun2, htab2, hf2⟩ := (h.perm hr).store_old kDot Tryz.underlying89 (by simp at hlr; omega) (IntKind.i64.wrap (c + 1))
  rcases owns_entry kDot.law hD Tryz.underlying89 hz hkey with ⟨v0, st, he, hs⟩ | ⟨st, w1, he, hu, hno, hs⟩
  ·refine ⟨c, st, w, w2, _, hlook, hlook, ⟨v0, he⟩, Fr.refl _ _, hs _ _ hrun2, hf2, htab2, fun x => ?_, by simp at hlr ⊢; omega⟩
   rw [(hr.map (·.1)).mem_iff]
   simp
  ·exfalso
   have hst : (Instr.lookup 89 (.map (some b)) (dotVal d) true).run Tryz.prog w = .ok (.tuple #[.int .i64 c, .bool true]) w := h.look_hit kDot Tryz.underlying89 (hz w) hc true
   rw [hno] at hst
   simp at hst
 ·have hn : ∀ p ∈ m, p.1 ≠ d := fun p hp e => hm ⟨p.2, by rw [← e]; exact hp⟩
  have hlook := h.look_miss kDot Tryz.underlying89 (hz w) hd hn false
  obtain ⟨w2, hrun2, htab2, hf2⟩ := h.store_new kDot Tryz.underlying89 (by omega) hd hn (IntKind.i64.wrap (0 + 1))
  rcases owns_entry kDot.law hD Tryz.underlying89 hz hkey with ⟨v0, st, he, hs⟩ | ⟨st, w1, he, hu, hno, hs⟩
  ·refine ⟨0, st, w, w2, _, hlook, hlook, ⟨v0, he⟩, Fr.refl _ _, hs _ _ hrun2, hf2, htab2, fun x => ?_, by simp⟩
   simp
  ·obtain ⟨w3, hrun3, htab3, hf3⟩ := h.store_new kDot Tryz.underlying89 (by omega) hd hn 0
   obtain rfl : w1 = w3 := by
        have := hu.symm.trans hrun3
        cases this; rfl
   exact ⟨0, st, w1, w2, _, hlook, htab3.look_hit kDot Tryz.underlying89 (hz w1) (p := (d, 0)) List.mem_cons_self false, ⟨_, he⟩, hf3, hs _ _ hrun2, hf2, htab2, fun x => by simp, by simp⟩
end Go.Proofs.YtohcmljigcdmbaaGreat
