/- The index: items sorted; a domain's items; those of a name's domains. Conditions: as in the text. -/
import Derived.Test.YtohmadchgacafaaIxJ
import Derived.Test.YtohmadchgacafaaSrtKey
set_option linter.unusedSimpArgs false
set_option linter.unusedVariables false
set_option linter.unnecessarySimpa false
namespace Go.Proofs.Ytohmadchgacafaa
open Go.RowKit Go.Shelf
variable {lo : Nat}
/-! ### sorted -/
def cmpIt (a b : It) : Int := if keyLt a.key b.key = true then -1 else if keyLt b.key a.key = true then 1 else 0
def itLt (a b : It) : Bool := keyLt a.key b.key
theorem cmpIt_iff (a b : It) : decide (cmpIt a b < 0) = itLt a b := by
 unfold cmpIt itLt
 cases keyLt a.key b.key <;> cases keyLt b.key a.key <;> rfl
set_option maxRecDepth 100000 in
set_option maxHeartbeats 2000000 in
theorem itCmp_up (a b : It) (w : World) : Calls Try.prog 43 #[itVal a, itVal b] w fun e w' => e = .returned (.int .i64 (cmpIt a b)) ∧ Up w w' := by
 have hK := fun (X : World) => keyLess_up a.key b.key X
 have hJ := fun (X : World) => keyLess_up b.key a.key X
 have HC : Hid (cmpIt a b = if keyLt a.key b.key = true then -1 else if keyLt b.key a.key = true then 1 else 0) := rfl
 generalize cmpIt a b = c at *
 go_enter Try.func43, Try.ntmps43
 go_upto_region 1 with fail
 refine wp_name (fun W hW => ?_)
 have hb : Below w.heap.size w W ∧ w.drawn ≤ W.drawn := by rw [hW.out]; exact ⟨by go_grown, Nat.le_refl _⟩
 have ha : W.rangeAt w.heap.size 0 (keyCs a.key) := by
  rw [hW.out]
  exact rangeAt_kept (range_keyCs (itCells_box a w _)) ((Below.refl _ _).alloc (Nat.le_refl _) _)
 have hbk : W.rangeAt (w.heap.size + 1) 0 (keyCs b.key) := by
  rw [hW.out]
  have := range_keyCs (itCells_box b (w.alloc (.cells (itCells a).toArray 38)) 38)
  rw [show (w.alloc (.cells (itCells a).toArray 38)).heap.size = w.heap.size + 1 by simp] at this
  exact this
 clear hW
 cases h1 : keyLt a.key b.key with
 | true =>
   rw [h1] at hK
   have HE : Hid (c = -1) := by unfold Hid; rw [HC.out, if_pos h1]
   have HK := Lib.hid hK
   clear hK h1 HC hJ
   go_wp2_with (first
    | ((with_reducible refine wpList_load_to 34 _ w.heap.size 0 (keyCs a.key) (keyV a.key) rfl _ Try.underlying34 rfl (by kernel_rfl) ha ?_ rfl ?_); exact rfl)
    | ((with_reducible refine wpList_load_to 34 _ (w.heap.size + 1) 0 (keyCs b.key) (keyV b.key) rfl _ Try.underlying34 rfl (by kernel_rfl) hbk ?_ rfl ?_); exact rfl)
    | (go_at_call 44; (with_reducible refine (HK.out _).mono ?_); rintro e w1 ⟨rfl, hu⟩))
   all_goals
    go_ret
    exact ⟨by rw [HE.out]; rfl, ⟨below2 hb.1 hu.1, Nat.le_trans hb.2 hu.2⟩⟩
 | false =>
   rw [h1] at hK
   have HK := Lib.hid hK
   clear hK
   go_upto_region 3 with (first
    | ((with_reducible refine wpList_load_to 34 _ w.heap.size 0 (keyCs a.key) (keyV a.key) rfl _ Try.underlying34 rfl (by kernel_rfl) ha ?_ rfl ?_); exact rfl)
    | ((with_reducible refine wpList_load_to 34 _ (w.heap.size + 1) 0 (keyCs b.key) (keyV b.key) rfl _ Try.underlying34 rfl (by kernel_rfl) hbk ?_ rfl ?_); exact rfl)
    | (go_at_call 44; (with_reducible refine (HK.out _).mono ?_); rintro e w1 ⟨rfl, hu⟩))
   have ha1 := rangeAt_kept ha hu.1
   have hb1 := rangeAt_kept hbk hu.1
   have HU : Hid (Up w w1) := Lib.hid ⟨below2 hb.1 hu.1, Nat.le_trans hb.2 hu.2⟩
   clear ha hbk hu hb
   cases h2 : keyLt b.key a.key with
   | true =>
     rw [h2] at hJ
     have HE : Hid (c = 1) := by unfold Hid; rw [HC.out, if_neg (by rw [h1]; decide), if_pos h2]
     have HJ := Lib.hid hJ
     clear hJ h1 h2 HC
     go_wp2_with (first
        | ((with_reducible refine wpList_load_to 34 _ w.heap.size 0 (keyCs a.key) (keyV a.key) rfl _ Try.underlying34 rfl (by kernel_rfl) ha1 ?_ rfl ?_); exact rfl)
        | ((with_reducible refine wpList_load_to 34 _ (w.heap.size + 1) 0 (keyCs b.key) (keyV b.key) rfl _ Try.underlying34 rfl (by kernel_rfl) hb1 ?_ rfl ?_); exact rfl)
        | (go_at_call 44; (with_reducible refine (HJ.out _).mono ?_); rintro e w3 ⟨rfl, hu3⟩))
     all_goals
        go_ret
        exact ⟨by rw [HE.out]; rfl, ⟨below2 HU.out.1 hu3.1, Nat.le_trans HU.out.2 hu3.2⟩⟩
   | false =>
     rw [h2] at hJ
     have HE : Hid (c = 0) := by unfold Hid; rw [HC.out, if_neg (by rw [h1]; decide), if_neg (by rw [h2]; decide)]
     have HJ := Lib.hid hJ
     clear hJ h1 h2 HC
     go_wp2_with (first
        | ((with_reducible refine wpList_load_to 34 _ w.heap.size 0 (keyCs a.key) (keyV a.key) rfl _ Try.underlying34 rfl (by kernel_rfl) ha1 ?_ rfl ?_); exact rfl)
        | ((with_reducible refine wpList_load_to 34 _ (w.heap.size + 1) 0 (keyCs b.key) (keyV b.key) rfl _ Try.underlying34 rfl (by kernel_rfl) hb1 ?_ rfl ?_); exact rfl)
        | (go_at_call 44; (with_reducible refine (HJ.out _).mono ?_); rintro e w3 ⟨rfl, hu3⟩))
     all_goals
        go_ret
        exact ⟨by rw [HE.out]; rfl, ⟨below2 HU.out.1 hu3.1, Nat.le_trans HU.out.2 hu3.2⟩⟩
instance : Inhabited It := ⟨it0⟩
theorem swoItem : Go.Sort.SWO (ltOf cmpIt) := by
 have e : ∀ x y, ltOf cmpIt x y = keyLt x.key y.key := fun x y => cmpIt_iff x y
 refine ⟨fun x => by rw [e]; exact keyLt_irrefl x.key, fun x y z h k => ?_, fun x y z h k => ?_⟩
 ·rw [e] at h k ⊢; exact keyLt_trans h k
 ·rw [e] at h k ⊢
  cases hh : keyLt x.key z.key with
  | false => rfl
  | true =>
    by_cases hxy : x.key = y.key
    ·rw [hxy, k] at hh; cases hh
    ·have h1 := keyLt_total hxy h
     have h2 := keyLt_trans h1 hh
     rw [k] at h2; cases h2
def encItem (x : It) : List Value := itCells x
theorem cmpLaysItem (blk off size : Nat) (w : World) : CmpLays Try.prog 43 #[] encItem 11 cmpIt blk off size w :=
 fun _ _ _ _ x y => (itCmp_up x y _).mono fun _ _ ⟨he, hu⟩ => ⟨he, hu.grown⟩
theorem sortsItem (base : Nat) (v : Value) (ks : List It) (w : World) (hown : w.ownsRow base 38 11 v ks.length (itsVals ks)) (hl : ks.length ≤ 1073741824) :
 Calls Try.prog 42 #[v, .func (.func 43) #[] #[]] w fun e w' => e = .returned (.tuple #[]) ∧ ∃ ts : List It, ts.Perm ks ∧ Go.Sort.SortedIn itLt 0 ts.toArray.size ts.toArray ∧ w'.ownsRow base 38 11 v ks.length (itsVals ts) ∧ Fr (fun k => v.ownBlock = some k) w w' := by
 rcases hown.2 with ⟨rfl, hz⟩ | ⟨g, cap, cur, rfl, hbase, hgb, r1, r2, r3, r4⟩
 ·obtain rfl : ks = [] := List.eq_nil_of_length_eq_zero hz
  refine (AnyF.slices_SortFunc_none Try.sortItem none 0 _ w).mono ?_
  rintro e w' ⟨rfl, rfl⟩
  exact ⟨rfl, [], List.Perm.refl _, fun i j _ _ h => by simp at h, hown, Fr.refl _ _⟩
 ·have hH : Go.Sort.HoldsK encItem 11 w g 0 ks.toArray := holdsK_own (k := 11) (fun _ => rfl) (by decide) hgb r4
  have hgl : g < w.heap.size := (Array.getElem?_eq_some_iff.1 hgb).1
  have hc := AnyQ.slices_SortFunc Try.sortItem 11 Try.isAgg38 Try.sizeOf38 encItem (fun _ => rfl) (fun x v hv => itCells_one x v hv) cmpIt swoItem 43 #[] g 0 cap ks.toArray w (enters_of Try.func43 (by kernel_rfl) rfl) (cmpLaysItem g 0 _ w) hH hgl (by simp; omega)
  rw [List.size_toArray] at hc
  refine hc.mono ?_
  rintro e w' ⟨rfl, d', n, os, ⟨p1, p2, p3⟩, hs, rfl⟩
  have hd : d' = d'.toList.toArray := by simp
  have hsz : d'.size = ks.length := by simpa using p1
  have hperm : d'.toList.Perm ks := by
   have := p3
   rwa [show d'.extract 0 ks.length = d' by rw [← hsz]; simp, show ks.toArray.extract 0 ks.length = ks.toArray by simp] at this
  refine ⟨rfl, d'.toList, hperm, ?_, ?_, ?_⟩
  ·have e : ltOf cmpIt = itLt := by funext x y; exact cmpIt_iff x y
   rw [e] at hs
   simpa [hsz] using hs
  ·have h9 := ownsRow_sortK (enc := encItem) (k := 11) (ts := d'.toList) (ss := ks) (n := n) (os := os) (fun _ => rfl) (by decide) (by simpa using hsz) hbase hgb r1 r2 r3
   rw [← hd] at h9
   exact h9
  ·exact (fr_sortK d').mono fun k _ hk => by subst hk; rfl
/-- what a sort leaves of items with unlike keys -/
theorem sorted_its {ts ks S : List It} (hp : ts.Perm ks) (hs : Go.Sort.SortedIn itLt 0 ts.toArray.size ts.toArray) (hS : SrtI S) (hm : ∀ x, x ∈ ks ↔ x ∈ S) (hn : ks.Nodup) : ts = S := by
 refine srtI_ext ?_ hS fun x => by rw [hp.mem_iff]; exact hm x
 have hn' : ts.Nodup := hp.nodup_iff.2 hn
 unfold SrtI
 rw [List.pairwise_iff_getElem]
 intro i j hi hj hij
 have h1 := hs i j (Nat.zero_le _) hij (by simpa using hj)
 have hsz1 : i < ts.toArray.size := by simpa using hi
 have hsz2 : j < ts.toArray.size := by simpa using hj
 rw [getElem!_pos ts.toArray j hsz2, getElem!_pos ts.toArray i hsz1] at h1
 simp only [List.getElem_toArray] at h1
 have hne : ts[i] ≠ ts[j] := List.pairwise_iff_getElem.1 hn' i j hi hj hij
 have hki : ts[i].key ≠ ts[j].key := fun e => hne (srtI_uniq hS ((hm _).1 (hp.mem_iff.1 (List.getElem_mem hi))) ((hm _).1 (hp.mem_iff.1 (List.getElem_mem hj))) e)
 exact keyLt_total hki.symm h1
set_option maxHeartbeats 1000000 in
theorem ixSorted_any (base : Nat) (v : Value) (l S : List It) (w : World) (hown : w.ownsRow base 38 11 v l.length (itsVals l)) (hl : l.length ≤ 1073741824) (hS : SrtI S) (hm : ∀ x, x ∈ l ↔ x ∈ S) (hn : l.Nodup) :
 Calls Try.prog 28 #[v] w fun e w' => e = .returned v ∧ w'.ownsRow base 38 11 v S.length (itsVals S) ∧ Fr (fun k => v.ownBlock = some k) w w' := by
 have HC := Lib.hid (sortsItem base v l w hown hl)
 go_enter Try.func28, Try.ntmps28
 go_wp2_with (go_at_call 42; (with_reducible refine HC.out.mono ?_); rintro e w1 ⟨rfl, ts, hp, hs, hown1, hfr⟩)
 all_goals
  go_ret
  have e := sorted_its hp hs hS hm hn
  subst e
  exact ⟨rfl, by rw [hp.length_eq]; exact hown1, hfr⟩
/-! ### Domain -/
end Go.Proofs.Ytohmadchgacafaa
