/- slices.SortFunc at a slice of one's own: dots, actors. Conditions: fewer than 2^30. -/
import Derived.Test.YtdlmbflhbecggaaGreatTabIn
import Derived.Test.YtdlmbflhbecggaaGreatSetP
import Derived.Test.YtdlmbflhbecggaaGreatSrt
import Derived.Shelf.SlSortCmp.NoneTotal
import Derived.Test.YtdlmbflhbecggaaGreatTab
import Derived.Test.YtdlmbflhbecggaaGreatLast
import Derived.Test.YtdlmbflhbecggaaGreatVec
import Derived.Test.YtdlmbflhbecggaaGreatMem
set_option linter.unusedSimpArgs false
set_option linter.unusedVariables false
set_option linter.unnecessarySimpa false
set_option maxHeartbeats 16000000
set_option maxRecDepth 100000
namespace Go.Proofs.YtdlmbflhbecggaaGreat
open Go.RowKit Go.Shelf
section
variable {α : Type} [Inhabited α] {enc : α → List Value} {k : Nat}
theorem flat_get (hk : ∀ x, (enc x).length = k) (k0 : 0 < k) : ∀ (l : List α) (t : Nat), t < l.length * k → (l.flatMap enc)[t]? = some ((enc l[t / k]!)[t % k]!)
 | [], t, h => by simp at h
 | x :: l, t, h => by
   rw [List.flatMap_cons]
   by_cases ht : t < k
   ·rw [List.getElem?_append_left (by rw [hk]; exact ht), Nat.div_eq_of_lt ht, Nat.mod_eq_of_lt ht]
    have hlt : t < (enc x).length := by rw [hk]; exact ht
    simp [hlt]
   ·have ht' : k ≤ t := by omega
    rw [List.getElem?_append_right (by rw [hk]; exact ht'), hk]
    have h2 : t - k < l.length * k := by
        simp only [List.length_cons, Nat.add_mul, Nat.one_mul] at h
        omega
    rw [flat_get hk k0 l (t - k) h2]
    obtain ⟨u, rfl⟩ : ∃ u, t = u + k := ⟨t - k, by omega⟩
    rw [Nat.add_sub_cancel, Nat.add_div_right u k0, Nat.add_mod_right]
    simp
theorem BL (hk : ∀ x, (enc x).length = k) (k0 : 0 < k) (l : List α) (t : Nat) (h : t < l.length * k) : (l.flatMap enc)[t]? = some (Go.Sort.flatK enc k l.toArray)[t]! := by
 rw [flat_get hk k0 l t h, Go.Sort.get_flatK _ _ _ _ (by simpa using h)]
 simp
omit [Inhabited α] in
theorem qB (hk : ∀ x, (enc x).length = k) : ∀ l : List α, (l.flatMap enc).length = l.length * k
 | [] => by simp
 | x :: l => by rw [List.flatMap_cons, List.length_append, qB hk l, hk, List.length_cons, Nat.add_mul, Nat.one_mul, Nat.add_comm]
theorem sO (hk : ∀ x, (enc x).length = k) (k0 : 0 < k) {w : World} {g : Nat} {cur : Array Value} {e : TypeId} {l : List α} (hb : w.heap[g]? = some (.cells cur e (0, 0))) (ht : cur.toList.take (l.length * k) = l.flatMap enc) : Go.Sort.HoldsK enc k w g 0 l.toArray := by
 intro j hj
 have hj' : j < l.length * k := by simpa using hj
 refine ⟨?_, by simp [World.frozen?, hb]⟩
 have h1 : (cur.toList.take (l.length * k))[j]? = (l.flatMap enc)[j]? := by rw [ht]
 rw [List.getElem?_take_of_lt hj', BL hk k0 l j hj'] at h1
 simp only [World.cell?, hb, Nat.zero_add]
 simp only [Option.isSome_none, Bool.false_eq_true, if_false]
 rw [← Array.getElem?_toList, h1]
 rfl
theorem Hq {w : World} {g n : Nat} {os : Array Obj} {cur : Array Value} {e : TypeId} {fr : Nat × Nat} (d : Array α) (hb : w.heap[g]? = some (.cells cur e fr)) :
 (sortWorldK enc k w g 0 n d os).heap[g]? = some (.cells (Go.Sort.putCells id 0 (Go.Sort.flatK enc k d) cur) e fr) := by
 have hg : g < w.heap.size := (Array.getElem?_eq_some_iff.1 hb).1
 unfold sortWorldK Go.Sort.putRowK
 rw [Go.Sort.heap_grow_old _ _ (by simpa [Go.Sort.putRow, Go.Sort.mapBlock, Go.Sort.ahead] using hg)]
 simp [Go.Sort.putRow, Go.Sort.mapBlock, Go.Sort.ahead, Array.getElem?_modify, hb, Go.Sort.onCells]
theorem zN {w : World} {g n : Nat} {os : Array Obj} (d : Array α) : Fr (isR g) w (sortWorldK enc k w g 0 n d os) := by
 unfold sortWorldK Go.Sort.putRowK
 refine ⟨rfl, rfl, rfl, by simp [Go.Sort.putRow, Go.Sort.mapBlock, Go.Sort.ahead], fun j hj hne => ?_⟩
 rw [Go.Sort.heap_grow_old _ _ (by simpa [Go.Sort.putRow, Go.Sort.mapBlock, Go.Sort.ahead] using hj)]
 have : g ≠ j := fun e => hne e.symm
 simp [Go.Sort.putRow, Go.Sort.mapBlock, Go.Sort.ahead, Array.getElem?_modify, this]
theorem Jk (hk : ∀ x, (enc x).length = k) (k0 : 0 < k) (cur : Array Value) (l : List α) (h : l.length * k ≤ cur.size) : (Go.Sort.putCells id 0 (Go.Sort.flatK enc k l.toArray) cur).toList.take (l.length * k) = l.flatMap enc := by
 apply List.ext_getElem?
 intro j
 by_cases hj : j < l.length * k
 ·have hjc : j < cur.size := by omega
  have hjf : j < (Go.Sort.flatK enc k l.toArray).size := by simpa using hj
  rw [List.getElem?_take_of_lt hj, Array.getElem?_toList, BL hk k0 l j hj]
  simp only [Go.Sort.putCells, Array.getElem?_mapIdx, Array.getElem?_eq_getElem hjc, Option.map_some, Nat.zero_add, Nat.zero_le, true_and, if_pos hjf, Nat.sub_zero, id]
 ·rw [List.getElem?_take_eq_none (by omega), List.getElem?_eq_none (by rw [qB hk]; omega)]
theorem nT (hk : ∀ x, (enc x).length = k) (k0 : 0 < k) {w : World} {base g cap n : Nat} {e : TypeId} {os : Array Obj} {cur : Array Value} {ss ts : List α} (hl : ts.length = ss.length) (hbase : base ≤ g) (hb : w.heap[g]? = some (.cells cur e (0, 0)))
 (h1 : ss.length ≤ cap) (h2 : cap ≤ maxLen) (h3 : cur.size = cap * k) :
 (sortWorldK enc k w g 0 n ts.toArray os).ownsRow base e k (.slice (some ⟨g, 0, none⟩) ss.length cap) ss.length (ts.flatMap enc) :=
 ⟨by rw [qB hk, hl], .inr ⟨g, cap, _, rfl, hbase, Hq _ hb, h1, h2, by simp [Go.Sort.putCells, h3], by
  rw [← hl]
  exact Jk hk k0 cur ts (by rw [hl, h3]; exact Nat.mul_le_mul_right k h1)⟩⟩
end
instance : Inhabited Actor := ⟨⟨0, 0⟩⟩
instance : Inhabited Dot := ⟨⟨⟨0, 0⟩, 0⟩⟩
def zX (d : Dot) : List Value := [.int .i64 d.a.dev, .int .i64 d.a.inc, .int .i64 d.seq]
def qG (a : Actor) : List Value := [.int .i64 a.dev, .int .i64 a.inc]
theorem O9 : Go.Sort.SWO (ltOf mW) := by
 have e : ∀ x y, ltOf mW x y = cZ x y := fun x y => Ad x y
 refine ⟨fun x => by rw [e]; exact eG x, fun x y z h k => ?_, fun x y z h k => ?_⟩
 ·rw [e] at h k ⊢; exact iO h k
 ·rw [e] at h k ⊢
  cases hh : cZ x z with
  | false => rfl
  | true =>
    by_cases hxy : x = y
    ·subst hxy; rw [k] at hh; cases hh
    ·have h1 := nM hxy h
     have h2 := iO h1 hh
     rw [k] at h2; cases h2
theorem Lp : Go.Sort.SWO (ltOf ed) := by
 have e : ∀ x y, ltOf ed x y = bG x y := fun x y => uG x y
 refine ⟨fun x => by rw [e]; exact dG x, fun x y z h k => ?_, fun x y z h k => ?_⟩
 ·rw [e] at h k ⊢; exact je h k
 ·rw [e] at h k ⊢
  cases hh : bG x z with
  | false => rfl
  | true =>
    by_cases hxy : x = y
    ·subst hxy; rw [k] at hh; cases hh
    ·have h1 := lh hxy h
     have h2 := je h1 hh
     rw [k] at h2; cases h2
theorem Ie (blk off size : Nat) (w : World) : CmpLays Tryz.prog 130 #[] zX 3 mW blk off size w :=
 fun _ _ _ _ x y => (Gn x y _).mono fun _ _ ⟨he, hu⟩ => ⟨he, hu.grown⟩
theorem z102 {p : Prop} (h : p := by
 rintro e w' ⟨rfl, rfl⟩
 exact ⟨rfl, [], List.Perm.refl _, fun i j _ _ h => by simp at h, hown, Fr.refl _ _⟩) : p := h
theorem z87 {p : Prop} (h : p := by
 have := p3
 rwa [show d'.extract 0 ks.length = d' by rw [← hsz]; simp, show ks.toArray.extract 0 ks.length = ks.toArray by simp] at this) : p := h
theorem y74 {p q : Prop} (k : q) (h : PLift q → p := by
 intro kk
 have hd : d' = d'.toList.toArray := by simp
 have hsz : d'.size = ks.length := by simpa using p1
 have hperm : d'.toList.Perm ks := by
  exact z87
 revert hd hsz hperm
 exact kk.down) : p := h ⟨k⟩
theorem Ls (base : Nat) (v : Value) (ks : List Dot) (w : World) (hown : w.ownsRow base 56 3 v ks.length (aI ks)) (hl : ks.length ≤ 1073741824) :
 Calls Tryz.prog 161 #[v, .func (.func 130) #[] #[]] w fun e w' => e = .returned (.tuple #[]) ∧ ∃ ts : List Dot, ts.Perm ks ∧ Go.Sort.SortedIn cZ 0 ts.toArray.size ts.toArray ∧ w'.ownsRow base 56 3 v ks.length (aI ts) ∧ Fr (fun k => v.ownBlock = some k) w w' := by
 rcases hown.2 with ⟨rfl, hz⟩ | ⟨g, cap, cur, rfl, hbase, hgb, r1, r2, r3, r4⟩
 ·obtain rfl : ks = [] := List.eq_nil_of_length_eq_zero hz
  refine (AnyF.slices_SortFunc_none Tryz.sortDot none 0 _ w).mono ?_
  exact z102
 ·have hH : Go.Sort.HoldsK zX 3 w g 0 ks.toArray := sO (k := 3) (fun _ => rfl) (by decide) hgb r4
  have hgl : g < w.heap.size := (Array.getElem?_eq_some_iff.1 hgb).1
  have hc := AnyQ.slices_SortFunc Tryz.sortDot 3 Tryz.isAgg56 Tryz.sizeOf56 zX (fun _ => rfl) (fun x v hv => by simp [zX] at hv; rcases hv with rfl | rfl | rfl <;> rfl) mW O9 130 #[] g 0 cap ks.toArray w (enters_of Tryz.func130 (by kernel_rfl) rfl) (Ie g 0 _ w) hH hgl (by simp; omega)
  rw [List.size_toArray] at hc
  refine hc.mono ?_
  rintro e w' ⟨rfl, d', n, os, ⟨p1, p2, p3⟩, hs, rfl⟩
  refine y74 ?_
  intro hd hsz hperm
  refine ⟨rfl, d'.toList, hperm, ?_, ?_, ?_⟩
  ·have e : ltOf mW = cZ := by funext x y; exact Ad x y
   rw [e] at hs
   simpa [hsz] using hs
  ·have h9 := nT (enc := zX) (k := 3) (ts := d'.toList) (ss := ks) (n := n) (os := os) (fun _ => rfl) (by decide) (by simpa using hsz) hbase hgb r1 r2 r3
   rw [← hd] at h9
   exact h9
  ·exact (zN d').mono fun k _ hk => by subst hk; rfl
theorem DN (blk off size : Nat) (w : World) : CmpLays Tryz.prog 165 #[] qG 2 ed blk off size w :=
 fun _ _ _ _ x y => (CG x y _).mono fun _ _ ⟨he, hu⟩ => ⟨he, hu.grown⟩
theorem Gm (base : Nat) (v : Value) (ks : List Actor) (w : World) (hown : w.ownsRow base 54 2 v ks.length (iF ks)) (hl : ks.length ≤ 1073741824) :
 Calls Tryz.prog 194 #[v, .func (.func 165) #[] #[]] w fun e w' => e = .returned (.tuple #[]) ∧ ∃ ts : List Actor, ts.Perm ks ∧ Go.Sort.SortedIn bG 0 ts.toArray.size ts.toArray ∧ w'.ownsRow base 54 2 v ks.length (iF ts) ∧ Fr (fun k => v.ownBlock = some k) w w' := by
 rcases hown.2 with ⟨rfl, hz⟩ | ⟨g, cap, cur, rfl, hbase, hgb, r1, r2, r3, r4⟩
 ·obtain rfl : ks = [] := List.eq_nil_of_length_eq_zero hz
  refine (AnyF.slices_SortFunc_none Tryz.sortActor none 0 _ w).mono ?_
  exact z102
 ·have hH : Go.Sort.HoldsK qG 2 w g 0 ks.toArray := sO (k := 2) (fun _ => rfl) (by decide) hgb r4
  have hgl : g < w.heap.size := (Array.getElem?_eq_some_iff.1 hgb).1
  have hc := AnyQ.slices_SortFunc Tryz.sortActor 2 Tryz.isAgg54 Tryz.sizeOf54 qG (fun _ => rfl) (fun x v hv => by simp [qG] at hv; rcases hv with rfl | rfl <;> rfl) ed Lp 165 #[] g 0 cap ks.toArray w (enters_of Tryz.func165 (by kernel_rfl) rfl) (DN g 0 _ w) hH hgl (by simp; omega)
  rw [List.size_toArray] at hc
  refine hc.mono ?_
  rintro e w' ⟨rfl, d', n, os, ⟨p1, p2, p3⟩, hs, rfl⟩
  refine y74 ?_
  intro hd hsz hperm
  refine ⟨rfl, d'.toList, hperm, ?_, ?_, ?_⟩
  ·have e : ltOf ed = bG := by funext x y; exact uG x y
   rw [e] at hs
   simpa [hsz] using hs
  ·have h9 := nT (enc := qG) (k := 2) (ts := d'.toList) (ss := ks) (n := n) (os := os) (fun _ => rfl) (by decide) (by simpa using hsz) hbase hgb r1 r2 r3
   rw [← hd] at h9
   exact h9
  ·exact (zN d').mono fun k _ hk => by subst hk; rfl
theorem EP (mb : Option Nat) (w : World) : Calls Tryz.prog 129 #[.map mb] w fun e w' => e = .returned (.func (.func 162) #[] #[.pointer (some ⟨w.heap.size, 0, none⟩)]) ∧ w' = w.alloc (.cells #[.map mb] 105) := by
 go_enter Tryz.func129, Tryz.ntmps129
 go_wp2
 go_ret
 exact ⟨rfl, rfl⟩
theorem z135 {p : Prop} (h : p := by
 rw [HP.out.2]
 constructor
 ·intro h; subst h; exact List.Perm.eq_nil hts
 ·intro h; subst h; exact (List.Perm.eq_nil hts.symm)) : p := h
theorem Aj {β : Type} {vv : β → Value} (Bm b : Nat) (m : List (Dot × β)) (w : World) (hBm : Bm < w.heap.size) (hm : w.cell? ⟨Bm, 0, none⟩ = some (.map (some b))) (htab : Tab Tryz.prog 56 bT DotW vv w b m) (hN : m.length ≤ 1073741824) :
 Calls Tryz.prog 128 #[.func (.func 162) #[] #[.pointer (some ⟨Bm, 0, none⟩)], .func (.func 130) #[] #[]] w fun e w' => ∃ (v : Value) (ts : List Dot), e = .returned v ∧ ts.Perm (m.map (·.1)) ∧
  (ts.Pairwise fun x y => cZ x y = true) ∧ w'.ownsRow w.heap.size 56 3 v ts.length (aI ts) ∧ (v = .slice none 0 0 ↔ ts = []) ∧ Below w.heap.size w w' := by
 have hnd : (m.map (·.1)).Nodup := by
  have := htab.apart
  exact List.pairwise_map.2 this
 have HAP := Lib.hid (callsIn_wide.1 (KP 4 (by omega) Bm b m w hBm hm htab hN))
 have HC : Hid (Calls Tryz.prog 160 #[.func (.func 162) #[] #[.pointer (some ⟨Bm, 0, none⟩)]] w fun e w' => ∃ (v : Value) (ks : List Dot), e = .returned v ∧ ks.Perm (m.map (·.1)) ∧
  w'.ownsRow w.heap.size 56 3 v ks.length (aI ks) ∧ (v = .slice none 0 0 ↔ ks = []) ∧ Below w.heap.size w w') := by
  clear hm htab
  go_enter Tryz.func160, Tryz.ntmps160
  go_wp2_with (go_at_call 191; (with_reducible refine HAP.out.mono ?_); rintro e w1 ⟨v, ks, rfl, h1, h2, h3, h4⟩)
  go_ret
  exact ⟨v, ks, rfl, h1, h2, h3, h4⟩
 have HND := Lib.hid hnd
 have HN := Lib.hid hN
 clear hm htab hnd hN HAP
 go_enter Tryz.func128, Tryz.ntmps128
 go_upto_region 2 with (go_at_call 160; (with_reducible refine HC.out.mono ?_); rintro e w1 ⟨v, ks, rfl, hp, hown, hnil, hb⟩)
 have hlen : ks.length ≤ 1073741824 := by rw [hp.length_eq, List.length_map]; exact HN.out
 have HS := Lib.hid (Ls w.heap.size v ks w1 hown hlen)
 have HP := Lib.hid (And.intro hp hnil)
 have HO := Lib.hid hown
 clear hp hnil hown hlen
 go_wp2_with (go_at_call 161; (with_reducible refine HS.out.mono ?_); rintro e w2 ⟨rfl, ts, hts, hsrt, hown2, hf2⟩)
 go_ret
 have hpm := hts.trans HP.out.1
 refine ⟨v, ts, rfl, hpm, ?_, by rw [hts.length_eq]; exact hown2, ?_, hb.trans (hf2.below hb.size (fun k hk => (HO.out.lt k hk).1))⟩
 ·have h5 := nR (lt := cZ) (fun x y h k => nM h k) (d := ts.toArray) hsrt (by
   simp only []
   exact (hpm.nodup_iff).2 HND.out)
  simpa using h5
 ·exact z135
theorem AA (mb : Option Nat) (w : World) : Calls Tryz.prog 164 #[.map mb] w fun e w' => e = .returned (.func (.func 195) #[] #[.pointer (some ⟨w.heap.size, 0, none⟩)]) ∧ w' = w.alloc (.cells #[.map mb] 163) := by
 go_enter Tryz.func164, Tryz.ntmps164
 go_wp2
 go_ret
 exact ⟨rfl, rfl⟩
theorem xH {β : Type} {vv : β → Value} (Bm b : Nat) (m : List (Actor × β)) (w : World) (hBm : Bm < w.heap.size) (hm : w.cell? ⟨Bm, 0, none⟩ = some (.map (some b))) (htab : Tab Tryz.prog 54 fA ActW vv w b m) (hN : m.length ≤ 1073741824) :
 Calls Tryz.prog 163 #[.func (.func 195) #[] #[.pointer (some ⟨Bm, 0, none⟩)], .func (.func 165) #[] #[]] w fun e w' => ∃ (v : Value) (ts : List Actor), e = .returned v ∧ ts.Perm (m.map (·.1)) ∧
  (ts.Pairwise fun x y => bG x y = true) ∧ w'.ownsRow w.heap.size 54 2 v ts.length (iF ts) ∧ (v = .slice none 0 0 ↔ ts = []) ∧ Below w.heap.size w w' := by
 have hnd : (m.map (·.1)).Nodup := by
  have := htab.apart
  exact List.pairwise_map.2 this
 have HAP := Lib.hid (callsIn_wide.1 (FW 4 (by omega) Bm b m w hBm hm htab hN))
 have HC : Hid (Calls Tryz.prog 193 #[.func (.func 195) #[] #[.pointer (some ⟨Bm, 0, none⟩)]] w fun e w' => ∃ (v : Value) (ks : List Actor), e = .returned v ∧ ks.Perm (m.map (·.1)) ∧
  w'.ownsRow w.heap.size 54 2 v ks.length (iF ks) ∧ (v = .slice none 0 0 ↔ ks = []) ∧ Below w.heap.size w w') := by
  clear hm htab
  go_enter Tryz.func193, Tryz.ntmps193
  go_wp2_with (go_at_call 221; (with_reducible refine HAP.out.mono ?_); rintro e w1 ⟨v, ks, rfl, h1, h2, h3, h4⟩)
  go_ret
  exact ⟨v, ks, rfl, h1, h2, h3, h4⟩
 have HND := Lib.hid hnd
 have HN := Lib.hid hN
 clear hm htab hnd hN HAP
 go_enter Tryz.func163, Tryz.ntmps163
 go_upto_region 2 with (go_at_call 193; (with_reducible refine HC.out.mono ?_); rintro e w1 ⟨v, ks, rfl, hp, hown, hnil, hb⟩)
 have hlen : ks.length ≤ 1073741824 := by rw [hp.length_eq, List.length_map]; exact HN.out
 have HS := Lib.hid (Gm w.heap.size v ks w1 hown hlen)
 have HP := Lib.hid (And.intro hp hnil)
 have HO := Lib.hid hown
 clear hp hnil hown hlen
 go_wp2_with (go_at_call 194; (with_reducible refine HS.out.mono ?_); rintro e w2 ⟨rfl, ts, hts, hsrt, hown2, hf2⟩)
 go_ret
 have hpm := hts.trans HP.out.1
 refine ⟨v, ts, rfl, hpm, ?_, by rw [hts.length_eq]; exact hown2, ?_, hb.trans (hf2.below hb.size (fun k hk => (HO.out.lt k hk).1))⟩
 ·have h5 := nR (lt := bG) (fun x y h k => lh h k) (d := ts.toArray) hsrt (by
   simp only []
   exact (hpm.nodup_iff).2 HND.out)
  simpa using h5
 ·exact z135
theorem DotsIn.at {w : World} {a : Option Addr} {l : List Dot} (h : DotsIn w a l) {k : Nat} (hk : k < l.length) :
 ∃ A off, a = some ⟨A, off, none⟩ ∧ w.cell? ⟨A, off + k * 3, none⟩ = some (.int .i64 l[k].a.dev) ∧ w.cell? ⟨A, off + k * 3 + 1, none⟩ = some (.int .i64 l[k].a.inc) ∧ w.cell? ⟨A, off + k * 3 + 2, none⟩ = some (.int .i64 l[k].seq) := by
 rcases h with rfl | ⟨A, off, h1, h2⟩
 ·simp at hk
 ·exact ⟨A, off, h1, h2.dev k hk, h2.inc k hk, h2.seq k hk⟩
/-- a count goes up -/
theorem Tab.count {w : World} {b : Nat} {m : List (Dot × Int)} (h : Tab Tryz.prog 56 bT DotW jK w b m) (hl : m.length + 1 < maxLen) {d : Dot} (hd : DotW d) :
 ∃ (n : Int) (st : Nat) (w1 w2 : World) (m' : List (Dot × Int)), (Instr.lookup 105 (.map (some b)) (bT d) false).run Tryz.prog w = .ok (.int .i64 n) w ∧
   (Instr.lookup 105 (.map (some b)) (bT d) false).run Tryz.prog w1 = .ok (.int .i64 n) w1 ∧
   (∃ v0, (Instr.mapEntry 105 (.map (some b)) (bT d)).run Tryz.prog w = .ok (.tuple #[v0, .int .i64 (st : Int)]) w1) ∧ Fr (isR b) w w1 ∧
   (Instr.entryStore 105 (.map (some b)) (.int .i64 (st : Int)) (.int .i64 (IntKind.i64.wrap (n + 1)))).run Tryz.prog w1 = .ok () w2 ∧ Fr (isR b) w w2 ∧
   Tab Tryz.prog 56 bT DotW jK w2 b m' ∧ (∀ x, x ∈ m'.map (·.1) ↔ x = d ∨ x ∈ m.map (·.1)) ∧ m'.length ≤ m.length + 1 := by
 have hz : ∀ u : World, (zeroValue 3).run Tryz.prog u = .ok (.int .i64 0) u := fun u => by kernel_rfl
 have hkey := iY.lit hd
 have hown := h
 obtain ⟨D, hD, hTD⟩ := hown
 by_cases hm : ∃ c, (d, c) ∈ m
 ·obtain ⟨c, hc⟩ := hm
  obtain ⟨r, hr⟩ := jV hc
  have hlr := hr.length_eq
  have hlook := h.look_hit iY Tryz.underlying105 (hz w) hc false
  obtain ⟨w2, hrun2, zC, hf2⟩ := (h.perm hr).store_old iY Tryz.underlying105 (by simp at hlr; omega) (IntKind.i64.wrap (c + 1))
  rcases yS iY.law hD Tryz.underlying105 hz hkey with ⟨v0, st, he, hs⟩ | ⟨st, w1, he, hu, hno, hs⟩
  ·refine ⟨c, st, w, w2, _, hlook, hlook, ⟨v0, he⟩, Fr.refl _ _, hs _ _ hrun2, hf2, zC, fun x => ?_, by simp at hlr ⊢; omega⟩
   rw [(hr.map (·.1)).mem_iff]
   simp
  ·exfalso
   have hst : (Instr.lookup 105 (.map (some b)) (bT d) true).run Tryz.prog w = .ok (.tuple #[.int .i64 c, .bool true]) w := h.look_hit iY Tryz.underlying105 (hz w) hc true
   rw [hno] at hst
   simp at hst
 ·have hn : ∀ p ∈ m, p.1 ≠ d := fun p hp e => hm ⟨p.2, by rw [← e]; exact hp⟩
  have hlook := h.look_miss iY Tryz.underlying105 (hz w) hd hn false
  obtain ⟨w2, hrun2, zC, hf2⟩ := h.store_new iY Tryz.underlying105 (by omega) hd hn (IntKind.i64.wrap (0 + 1))
  rcases yS iY.law hD Tryz.underlying105 hz hkey with ⟨v0, st, he, hs⟩ | ⟨st, w1, he, hu, hno, hs⟩
  ·refine ⟨0, st, w, w2, _, hlook, hlook, ⟨v0, he⟩, Fr.refl _ _, hs _ _ hrun2, hf2, zC, fun x => ?_, by simp⟩
   simp
  ·obtain ⟨w3, hrun3, IR, hf3⟩ := h.store_new iY Tryz.underlying105 (by omega) hd hn 0
   obtain rfl : w1 = w3 := by
        have := hu.symm.trans hrun3
        cases this; rfl
   exact ⟨0, st, w1, w2, _, hlook, IR.look_hit iY Tryz.underlying105 (hz w1) (p := (d, 0)) List.mem_cons_self false, ⟨_, he⟩, hf3, hs _ _ hrun2, hf2, zC, fun x => by simp, by simp⟩
theorem z46 {p : Prop} (h : p := by (rintro w ⟨s0, s1, s2, s3⟩; go_simp; try with_reducible rfl)) : p := h
theorem y54 {p q : Prop} (k : q) (h : PLift q → p := by
 intro kk
 have x0 : W.drew.cell? ⟨wr.heap.size, 0, none⟩ = some (.int .i64 d.a.dev) := by rw [hW.out]; go_simp
 have x1 : W.drew.cell? ⟨wr.heap.size, 1, none⟩ = some (.int .i64 d.a.inc) := by rw [hW.out]; go_simp
 have x2 : W.drew.cell? ⟨wr.heap.size, 2, none⟩ = some (.int .i64 d.seq) := by rw [hW.out]; go_simp
 revert x0 x1 x2
 exact kk.down) : p := h ⟨k⟩
theorem xe (a : Option Addr) (cap : Nat) (l : List Dot) (w : World) (hl : l.length ≤ 1073741824) (hok : ∀ d ∈ l, DotW d) (hin : DotsIn w a l) :
 Calls Tryz.prog 88 #[.slice a l.length cap] w fun e w' => ∃ v, e = .returned v ∧ w'.ownsRow w.heap.size 56 3 v (sortD l).length (aI (sortD l)) ∧ (v = .slice none 0 0 ↔ sortD l = []) ∧ Below w.heap.size w w' := by
 have hmm := @run_makeMap Tryz.prog
 have HO := Lib.hid hok
 go_enter Tryz.func88, Tryz.ntmps88
 go_wp2
 go_loopw [9] (fun i wr => ∃ (k : Nat) (m : List (Dot × Int)), i = .int .i64 k ∧ k ≤ l.length ∧ Tab Tryz.prog 56 bT DotW jK wr w.heap.size m ∧ (∀ x, x ∈ m.map (·.1) ↔ x ∈ l.take k) ∧ m.length ≤ k ∧ Below w.heap.size w wr) (fun i _ => l.length - (intOf i).toNat)
 case atStart => exact ⟨0, [], rfl, Nat.zero_le _, Tab.made w, by simp, Nat.le_refl _, by go_grown⟩
 case round =>
  obtain ⟨k, m, rfl, hk, htab, hmem, hml, hbw⟩ := hrel
  have HM := Lib.hid hmem
  clear hmem
  by_cases hlt : k < l.length
  ·obtain ⟨A, off, rfl, e0, e1, e2⟩ := (hin.kept hbw).at hlt
   have hdw := hok _ (List.getElem_mem hlt)
   have HT : Hid (∀ x, x ∈ l.take (k + 1) ↔ x = l[k] ∨ x ∈ l.take k) := fun x => by
        rw [List.take_add_one, List.getElem?_eq_getElem hlt]
        show x ∈ l.take k ++ [l[k]] ↔ _
        rw [List.mem_append, List.mem_singleton]
        exact Or.comm
   have hzw := hbw.size
   generalize l[k] = d at e0 e1 e2 hdw HT
   go_upto_region 5 with fail
   refine aX (fun W hW => ?_)
   have hb1 : Below wr.heap.size wr W := by rw [hW.out]; go_grown
   refine y54 ?_
   intro x0 x1 x2
   clear hW e0 e1 e2
   have hbd : Below w.heap.size w W.drew := hbw.trans (hb1.drew.mono hzw)
   have htw : Tab Tryz.prog 56 bT DotW jK W.drew w.heap.size m := (htab.kept hb1.drew)
   have hne : wr.heap.size ≠ w.heap.size := by have := htab.lt; omega
   obtain ⟨n, st, w1, w2, m', hl0, hl1, ⟨v0, he⟩, hf1, hs, hf2, zC, hm2, QS⟩ := htw.count (by unfold maxLen; omega) hdw
   have HR := Lib.hid (And.intro zC (And.intro hm2 QS))
   have y0 : w1.cell? ⟨wr.heap.size, 0, none⟩ = some (.int .i64 d.a.dev) := hf1.kept x0 hne
   have y1 : w1.cell? ⟨wr.heap.size, 1, none⟩ = some (.int .i64 d.a.inc) := hf1.kept x1 hne
   have y2 : w1.cell? ⟨wr.heap.size, 2, none⟩ = some (.int .i64 d.seq) := hf1.kept x2 hne
   have HF := Lib.hid (And.intro hf1 hf2)
   have hS := And.intro x0 (And.intro x1 (And.intro x2 hl0))
   have hS1 := And.intro y0 (And.intro y1 (And.intro y2 hl1))
   clear zC hm2 QS htw htab hf1 hf2 x0 x1 x2 y0 y1 y2 hl0 hl1 hb1
   refine wp_region_noPanic ?_
   refine bH (fun W' => W'.cell? ⟨wr.heap.size, 0, none⟩ = some (.int .i64 d.a.dev) ∧ W'.cell? ⟨wr.heap.size, 1, none⟩ = some (.int .i64 d.a.inc) ∧ W'.cell? ⟨wr.heap.size, 2, none⟩ = some (.int .i64 d.seq) ∧ (Instr.lookup 105 (.map (some w.heap.size)) (bT d) false).run Tryz.prog W' = .ok (.int .i64 n) W') [6] (by kernel_rfl) ?_
   refine ag (i := 0) (oi := ⟨some 13, _, _, _, _, _⟩) (v := ?_) rfl (by kernel_rfl) (by kernel_rfl) (by kernel_rfl) (by kernel_rfl) (by kernel_rfl) (fun _ _ _ h => h) (Or.inl ⟨by rfl, ?_⟩) (by assumption) ?_
   case refine_2 => exact z46
   try simp only [pS]
   refine ag (i := 1) (oi := ⟨some 14, _, _, _, _, _⟩) (v := ?_) rfl (by kernel_rfl) (by kernel_rfl) (by kernel_rfl) (by kernel_rfl) (by kernel_rfl) (fun _ _ _ h => h) (Or.inl ⟨by rfl, ?_⟩) (by assumption) ?_
   case refine_2 => exact z46
   try simp only [pS]
   refine ag (i := 2) (oi := ⟨some 15, _, _, _, _, _⟩) (v := ?_) rfl (by kernel_rfl) (by kernel_rfl) (by kernel_rfl) (by kernel_rfl) (by kernel_rfl) (fun _ _ _ h => h) (Or.inl ⟨by rfl, ?_⟩) (by assumption) ?_
   case refine_2 => exact z46
   try simp only [pS]
   refine ag (i := 3) (oi := ⟨some 16, _, _, _, _, _⟩) (v := ?_) rfl (by kernel_rfl) (by kernel_rfl) (by kernel_rfl) (by kernel_rfl) (by kernel_rfl) (fun _ _ _ h => h) (Or.inl ⟨by rfl, ?_⟩) (by assumption) ?_
   case refine_2 => exact z46
   try simp only [pS]
   refine bD (i := 4) (o := ⟨some 17, _, _, _, _, _⟩) (by kernel_rfl) rfl ?_
   intro K hK
   go_simp
   refine hK.out _ _ (Or.inr (hS1)) ?_
   clear hK K
   try simp only [pS]
   refine bD (i := 5) (o := ⟨some 18, _, _, _, _, _⟩) (by kernel_rfl) rfl ?_
   intro K hK
   go_simp
   refine hK.out _ _ (Or.inr (hS1)) ?_
   clear hK K
   refine y50 ?_
   refine y6 ?_
   have HK := Lib.hid hlt
   clear hS hS1 he hs
   go_wp2
   go_roundw
   case rel => exact ⟨k + 1, m', by go_num, HK.out, HR.out.1, fun x => by rw [HR.out.2.1, HT.out, HM.out], by have := HR.out.2.2; omega, hbd.trans (HF.out.2.below hbd.size (fun j hj => by subst hj; exact Nat.le_refl _))⟩
   case measure => have := HK.out; simp [intOf] <;> omega
  ·obtain rfl : k = l.length := by omega
   have hM := HM.out
   rw [List.take_length] at hM
   have HMM := Lib.hid hM
   have hz := hbw.size
   have HS := Lib.hid (Aj wr.heap.size w.heap.size m (wr.alloc (.cells #[.map (some w.heap.size)] 105)) (by simp) (Boxed.new wr _ _).cell (htab.kept ((Below.refl _ _).alloc (Nat.le_refl _) _)) (by omega))
   have HKS := Lib.hid (EP (some w.heap.size) wr)
   clear htab hM
   go_wp2_with (first
        | (go_at_call 129; (with_reducible refine HKS.out.mono ?_); rintro e w1 ⟨rfl, rfl⟩)
        | (go_at_call 128; (with_reducible refine HS.out.mono ?_); rintro e w2 ⟨v, ts, rfl, hp, hsr, hown, hnil, hb2⟩))
   go_ret
   obtain rfl : ts = sortD l := yl hsr (iI l) fun x => by rw [hp.mem_iff, HMM.out, df]
   exact ⟨v, rfl, fH hown (by simp; omega), hnil, hbw.trans (((Below.refl _ _).alloc (Nat.le_refl _) _).mono hz |>.trans (hb2.mono (by simp; omega)))⟩
end Go.Proofs.YtdlmbflhbecggaaGreat
