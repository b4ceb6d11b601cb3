/- The index: items sorted; a domain's items; those of a name's domains. Conditions: as in the text. -/
import Derived.Test.YtkklcpmbgfgcmaaGreatIxJ
import Derived.Test.YtkklcpmbgfgcmaaGreatSrtKey
set_option linter.unusedSimpArgs false
set_option linter.unusedVariables false
set_option linter.unnecessarySimpa false
namespace Go.Proofs.YtkklcpmbgfgcmaaGreat
open Go.RowKit Go.Shelf
variable {lo : Nat}
/-! ### sorted -/
def cmpIt (a b : It) : Int := if keyLt a.key b.key = true then -1 else if keyLt b.key a.key = true then 1 else 0
def itLt (a b : It) : Bool := keyLt a.key b.key
theorem cmpIt_iff (a b : It) : decide (cmpIt a b < 0) = itLt a b := by
 unfold cmpIt itLt
 cases keyLt a.key b.key <;> cases keyLt b.key a.key <;> rfl
set_option maxRecDepth 100000 in
set_option maxHeartbeats 2000000 in
theorem itCmp_up (a b : It) (w : World) : Calls Tryz.prog 38 #[itVal a, itVal b] w fun e w' => e = .returned (.int .i64 (cmpIt a b)) ∧ Up w w' := by
 have hK := fun (X : World) => keyLess_up a.key b.key X
 have hJ := fun (X : World) => keyLess_up b.key a.key X
 have HC : Hid (cmpIt a b = if keyLt a.key b.key = true then -1 else if keyLt b.key a.key = true then 1 else 0) := rfl
 generalize cmpIt a b = c at *
 go_enter Tryz.func38, Tryz.ntmps38
 go_upto_region 1 with fail
 refine wp_name (fun W hW => ?_)
 have hb : Below w.heap.size w W ∧ w.drawn ≤ W.drawn := by rw [hW.out]; exact ⟨by go_grown, Nat.le_refl _⟩
 have ha : W.rangeAt w.heap.size 0 (keyCs a.key) := by
  rw [hW.out]
  exact rangeAt_kept (range_keyCs (itCells_box a w _)) ((Below.refl _ _).alloc (Nat.le_refl _) _)
 have hbk : W.rangeAt (w.heap.size + 1) 0 (keyCs b.key) := by
  rw [hW.out]
  have := range_keyCs (itCells_box b (w.alloc (.cells (itCells a).toArray 27)) 27)
  rw [show (w.alloc (.cells (itCells a).toArray 27)).heap.size = w.heap.size + 1 by simp] at this
  exact this
 clear hW
 cases h1 : keyLt a.key b.key with
 | true =>
   rw [h1] at hK
   have HE : Hid (c = -1) := by unfold Hid; rw [HC.out, if_pos h1]
   have HK := Lib.hid hK
   clear hK h1 HC hJ
   go_wp2_with (first
    | ((with_reducible refine wpList_load_to 23 _ w.heap.size 0 (keyCs a.key) (keyV a.key) rfl _ Tryz.underlying23 rfl (by kernel_rfl) ha ?_ rfl ?_); exact rfl)
    | ((with_reducible refine wpList_load_to 23 _ (w.heap.size + 1) 0 (keyCs b.key) (keyV b.key) rfl _ Tryz.underlying23 rfl (by kernel_rfl) hbk ?_ rfl ?_); exact rfl)
    | (go_at_call 33; (with_reducible refine (HK.out _).mono ?_); rintro e w1 ⟨rfl, hu⟩))
   all_goals
    go_ret
    exact ⟨by rw [HE.out]; rfl, ⟨below2 hb.1 hu.1, Nat.le_trans hb.2 hu.2⟩⟩
 | false =>
   rw [h1] at hK
   have HK := Lib.hid hK
   clear hK
   go_upto_region 3 with (first
    | ((with_reducible refine wpList_load_to 23 _ w.heap.size 0 (keyCs a.key) (keyV a.key) rfl _ Tryz.underlying23 rfl (by kernel_rfl) ha ?_ rfl ?_); exact rfl)
    | ((with_reducible refine wpList_load_to 23 _ (w.heap.size + 1) 0 (keyCs b.key) (keyV b.key) rfl _ Tryz.underlying23 rfl (by kernel_rfl) hbk ?_ rfl ?_); exact rfl)
    | (go_at_call 33; (with_reducible refine (HK.out _).mono ?_); rintro e w1 ⟨rfl, hu⟩))
   have ha1 := rangeAt_kept ha hu.1
   have hb1 := rangeAt_kept hbk hu.1
   have HU : Hid (Up w w1) := Lib.hid ⟨below2 hb.1 hu.1, Nat.le_trans hb.2 hu.2⟩
   clear ha hbk hu hb
   cases h2 : keyLt b.key a.key with
   | true =>
     rw [h2] at hJ
     have HE : Hid (c = 1) := by unfold Hid; rw [HC.out, if_neg (by rw [h1]; decide), if_pos h2]
     have HJ := Lib.hid hJ
     clear hJ h1 h2 HC
     go_wp2_with (first
        | ((with_reducible refine wpList_load_to 23 _ w.heap.size 0 (keyCs a.key) (keyV a.key) rfl _ Tryz.underlying23 rfl (by kernel_rfl) ha1 ?_ rfl ?_); exact rfl)
        | ((with_reducible refine wpList_load_to 23 _ (w.heap.size + 1) 0 (keyCs b.key) (keyV b.key) rfl _ Tryz.underlying23 rfl (by kernel_rfl) hb1 ?_ rfl ?_); exact rfl)
        | (go_at_call 33; (with_reducible refine (HJ.out _).mono ?_); rintro e w3 ⟨rfl, hu3⟩))
     all_goals
        go_ret
        exact ⟨by rw [HE.out]; rfl, ⟨below2 HU.out.1 hu3.1, Nat.le_trans HU.out.2 hu3.2⟩⟩
   | false =>
     rw [h2] at hJ
     have HE : Hid (c = 0) := by unfold Hid; rw [HC.out, if_neg (by rw [h1]; decide), if_neg (by rw [h2]; decide)]
     have HJ := Lib.hid hJ
     clear hJ h1 h2 HC
     go_wp2_with (first
        | ((with_reducible refine wpList_load_to 23 _ w.heap.size 0 (keyCs a.key) (keyV a.key) rfl _ Tryz.underlying23 rfl (by kernel_rfl) ha1 ?_ rfl ?_); exact rfl)
        | ((with_reducible refine wpList_load_to 23 _ (w.heap.size + 1) 0 (keyCs b.key) (keyV b.key) rfl _ Tryz.underlying23 rfl (by kernel_rfl) hb1 ?_ rfl ?_); exact rfl)
        | (go_at_call 33; (with_reducible refine (HJ.out _).mono ?_); rintro e w3 ⟨rfl, hu3⟩))
     all_goals
        go_ret
        exact ⟨by rw [HE.out]; rfl, ⟨below2 HU.out.1 hu3.1, Nat.le_trans HU.out.2 hu3.2⟩⟩
instance : Inhabited It := ⟨it0⟩
theorem swoItem : Go.Sort.SWO (ltOf cmpIt) := by
 have e : ∀ x y, ltOf cmpIt x y = keyLt x.key y.key := fun x y => cmpIt_iff x y
 refine ⟨fun x => by rw [e]; exact keyLt_irrefl x.key, fun x y z h k => ?_, fun x y z h k => ?_⟩
 ·rw [e] at h k ⊢; exact keyLt_trans h k
 ·rw [e] at h k ⊢
  cases hh : keyLt x.key z.key with
  | false => rfl
  | true =>
    by_cases hxy : x.key = y.key
    ·rw [hxy, k] at hh; cases hh
    ·have h1 := keyLt_total hxy h
     have h2 := keyLt_trans h1 hh
     rw [k] at h2; cases h2
def encItem (x : It) : List Value := itCells x
theorem cmpLaysItem (blk off size : Nat) (w : World) : CmpLays Tryz.prog 38 #[] encItem 11 cmpIt blk off size w :=
 fun _ _ _ _ x y => (itCmp_up x y _).mono fun _ _ ⟨he, hu⟩ => ⟨he, hu.grown⟩
theorem sortsItem (base : Nat) (v : Value) (ks : List It) (w : World) (hown : w.ownsRow base 27 11 v ks.length (itsVals ks)) (hl : ks.length ≤ 1073741824) :
 Calls Tryz.prog 37 #[v, .func (.func 38) #[] #[]] w fun e w' => e = .returned (.tuple #[]) ∧ ∃ ts : List It, ts.Perm ks ∧ Go.Sort.SortedIn itLt 0 ts.toArray.size ts.toArray ∧ w'.ownsRow base 27 11 v ks.length (itsVals ts) ∧ Fr (fun k => v.ownBlock = some k) w w' := by
 rcases hown.2 with ⟨rfl, hz⟩ | ⟨g, cap, cur, rfl, hbase, hgb, r1, r2, r3, r4⟩
 ·obtain rfl : ks = [] := List.eq_nil_of_length_eq_zero hz
  refine (AnyF.slices_SortFunc_none Tryz.sortItem none 0 _ w).mono ?_
  rintro e w' ⟨rfl, rfl⟩
  exact ⟨rfl, [], List.Perm.refl _, fun i j _ _ h => by simp at h, hown, Fr.refl _ _⟩
 ·have hH : Go.Sort.HoldsK encItem 11 w g 0 ks.toArray := holdsK_own (k := 11) (fun _ => rfl) (by decide) hgb r4
  have hgl : g < w.heap.size := (Array.getElem?_eq_some_iff.1 hgb).1
  have hc := AnyQ.slices_SortFunc Tryz.sortItem 11 Tryz.isAgg27 Tryz.sizeOf27 encItem (fun _ => rfl) (fun x v hv => itCells_one x v hv) cmpIt swoItem 38 #[] g 0 cap ks.toArray w (enters_of Tryz.func38 (by kernel_rfl) rfl) (cmpLaysItem g 0 _ w) hH hgl (by simp; omega)
  rw [List.size_toArray] at hc
  refine hc.mono ?_
  rintro e w' ⟨rfl, d', n, os, ⟨p1, p2, p3⟩, hs, rfl⟩
  have hd : d' = d'.toList.toArray := by simp
  have hsz : d'.size = ks.length := by simpa using p1
  have hperm : d'.toList.Perm ks := by
   have := p3
   rwa [show d'.extract 0 ks.length = d' by rw [← hsz]; simp, show ks.toArray.extract 0 ks.length = ks.toArray by simp] at this
  refine ⟨rfl, d'.toList, hperm, ?_, ?_, ?_⟩
  ·have e : ltOf cmpIt = itLt := by funext x y; exact cmpIt_iff x y
   rw [e] at hs
   simpa [hsz] using hs
  ·have h9 := ownsRow_sortK (enc := encItem) (k := 11) (ts := d'.toList) (ss := ks) (n := n) (os := os) (fun _ => rfl) (by decide) (by simpa using hsz) hbase hgb r1 r2 r3
   rw [← hd] at h9
   exact h9
  ·exact (fr_sortK d').mono fun k _ hk => by subst hk; rfl
/-- what a sort leaves of items with unlike keys -/
theorem sorted_its {ts ks S : List It} (hp : ts.Perm ks) (hs : Go.Sort.SortedIn itLt 0 ts.toArray.size ts.toArray) (hS : SrtI S) (hm : ∀ x, x ∈ ks ↔ x ∈ S) (hn : ks.Nodup) : ts = S := by
 refine srtI_ext ?_ hS fun x => by rw [hp.mem_iff]; exact hm x
 have hn' : ts.Nodup := hp.nodup_iff.2 hn
 unfold SrtI
 rw [List.pairwise_iff_getElem]
 intro i j hi hj hij
 have h1 := hs i j (Nat.zero_le _) hij (by simpa using hj)
 have hsz1 : i < ts.toArray.size := by simpa using hi
 have hsz2 : j < ts.toArray.size := by simpa using hj
 rw [getElem!_pos ts.toArray j hsz2, getElem!_pos ts.toArray i hsz1] at h1
 simp only [List.getElem_toArray] at h1
 have hne : ts[i] ≠ ts[j] := List.pairwise_iff_getElem.1 hn' i j hi hj hij
 have hki : ts[i].key ≠ ts[j].key := fun e => hne (srtI_uniq hS ((hm _).1 (hp.mem_iff.1 (List.getElem_mem hi))) ((hm _).1 (hp.mem_iff.1 (List.getElem_mem hj))) e)
 exact keyLt_total hki.symm h1
set_option maxHeartbeats 1000000 in
theorem ixSorted_any (base : Nat) (v : Value) (l S : List It) (w : World) (hown : w.ownsRow base 27 11 v l.length (itsVals l)) (hl : l.length ≤ 1073741824) (hS : SrtI S) (hm : ∀ x, x ∈ l ↔ x ∈ S) (hn : l.Nodup) :
 Calls Tryz.prog 23 #[v] w fun e w' => e = .returned v ∧ w'.ownsRow base 27 11 v S.length (itsVals S) ∧ Fr (fun k => v.ownBlock = some k) w w' := by
 have HC := Lib.hid (sortsItem base v l w hown hl)
 go_enter Tryz.func23, Tryz.ntmps23
 go_wp2_with (go_at_call 37; (with_reducible refine HC.out.mono ?_); rintro e w1 ⟨rfl, ts, hp, hs, hown1, hfr⟩)
 all_goals
  go_ret
  have e := sorted_its hp hs hS hm hn
  subst e
  exact ⟨rfl, by rw [hp.length_eq]; exact hown1, hfr⟩
/-! ### Domain -/
set_option maxRecDepth 100000 in
set_option maxHeartbeats 1000000 in
theorem cloneIts_any (a : Option Addr) (cap : Nat) (l : List It) (w : World) (hl : l.length ≤ 1073741824) (h : ItsIn w a l) :
 Calls Tryz.prog 19 #[.slice a l.length cap] w (RetIts l w) := by
 obtain ⟨i0, hi, hz0, hz1, hz2⟩ := info_parts Tryz.infoItem
 have hnil := fun (W : World) => Lib.run_eql_slice_nil (P := Tryz.prog) W 31 27 a l.length cap 0 0 Tryz.underlying31
 cases a with
 | none =>
   have hl0 : l = [] := by
    rcases h with h | ⟨A, off, h1, _⟩
    ·cases l with
     | nil => rfl
     | cons x l => cases h
    ·cases h1
   subst hl0
   simp only [List.length_nil] at hnil ⊢
   go_enter Tryz.func19, Tryz.ntmps19
   go_wp2
   go_ret
   exact ⟨_, rfl, World.ownsRow_nil _ _ _ _, Below.refl _ _⟩
 | some ad =>
   have hnews : ∀ j u, (itsVals l)[j]? = some u → w.cell? (ad.add j) = some u := by
    rcases h with h | ⟨A, off, h1, h2⟩
    ·intro j u hj; rw [h] at hj; simp at hj
    ·obtain rfl : ad = ⟨A, off, none⟩ := by simpa using h1
     intro j u hj
     rw [Addr.add_mid]
     exact h2 j u hj
   have HN : Hid (∀ j u, (itsVals l)[j]? = some u → (w.alloc (Obj.cells #[] 27)).cell? (ad.add j) = some u) := fun j u hj => kept ((Below.refl _ _).alloc (Nat.le_refl _) _) (hnews j u hj)
   have hown : (w.alloc (Obj.cells #[] 27)).ownsRow w.heap.size 27 11 (.slice (some ⟨w.heap.size, 0, none⟩) 0 0) 0 [] := World.ownsRow_made _ _ _ (Nat.le_refl _) (by decide) rfl
   have hbv := itsVals_length l
   clear hnews h
   go_enter Tryz.func19, Tryz.ntmps19
   go_wp2_with (at_builtin; go_loud (refine wpList_append_own _ rfl _ _ 31 rfl w.heap.size 27 i0 (itVal it0) 11 96 Tryz.underlying31 hi hz0 hz1 hz2 rfl (by decide) _ _ _ rfl hown ad l.length cap (itsVals l) rfl hbv HN.out (itsVals_one' l) (by unfold maxLen; omega) (by omega) (by simp) ?_))
   intro v' w2 hown2 hgrow _
   have hb2 := ((Below.refl w.heap.size w).alloc (Nat.le_refl _) (Obj.cells #[] 27)).grown hgrow (by simp) (fun k hk => (hown.lt k hk).1)
   go_wp2
   go_ret
   exact ⟨_, rfl, by simpa using hown2, hb2⟩
set_option maxRecDepth 100000 in
set_option maxHeartbeats 2000000 in
theorem ixDomain_any {w : World} {x : Nat} {n : Int} {B : Nat} {T : Tree} (h : TrIn lo w x n B T) (hf : Few T) (d : ByteArray) (hd : d.size ≤ 1073741822) :
 Calls Tryz.prog 8 #[ndVal x, .string d] w (RetIts (itsOf T (labs d)) w) := by
 obtain ⟨hl1, hl2⟩ := labs_max d hd
 have HL := Lib.hid (fun (X : World) => labels_any d X (by omega))
 have HD := Lib.hid (fun (X : World) (a : Option Addr) (cap : Nat) (h : TrIn lo X x n B T) (hin : StrsIn X a (labs d)) => downNo_any h (labs d) a cap hl1 hl2 hin)
 generalize labs d = l at *
 go_enter Tryz.func8, Tryz.ntmps8
 go_upto_region 3 with fail
 have hbD : Below w.heap.size w w.drew := (Below.refl _ _).drew
 have hTD := h.kept hbD
 refine wp_region_noPanic ?_
 refine wp_region_held_drew (S := fun W' => Below w.heap.size w.drew W') (by kernel_rfl) (Below.refl _ _) (fun hHeld => ?_)
 refine wpAnyH_take (i := 0) (oi := ⟨some 8, _, _, _, _, _⟩) (v := ?_) rfl (by kernel_rfl) (by kernel_rfl) (by kernel_rfl) (fun _ _ _ h => h) (Or.inl ⟨by rfl, ?_⟩) (by assumption) ?_
 case refine_2 => (intro Xw hSw; go_simp; try with_reducible rfl)
 try simp only [pA, pB, pC, pD, pE]
 refine wpAnyH_take (i := 1) (oi := ⟨some 9, _, _, _, _, _⟩) (v := ?_) rfl (by kernel_rfl) (by kernel_rfl) (by kernel_rfl) (fun _ _ _ h => h) (Or.inl ⟨by rfl, ?_⟩) (by assumption) ?_
 case refine_2 => (intro Xw hSw; go_simp; try with_reducible rfl)
 try simp only [pA, pB, pC, pD, pE]
 refine wpAnyH_take (i := 2) (oi := ⟨some 10, _, _, _, _, _⟩) (v := ?_) rfl (by kernel_rfl) (by kernel_rfl) (by kernel_rfl) (fun _ _ _ h => h) (Or.inl ⟨by rfl, ?_⟩) (by assumption) ?_
 case refine_2 => (intro Xw hSw; go_simp; try with_reducible rfl)
 try simp only [pA, pB, pC, pD, pE]
 refine wpAnyH_take (i := 3) (oi := ⟨some 11, _, _, _, _, _⟩) (v := ?_) rfl (by kernel_rfl) (by kernel_rfl) (by kernel_rfl) (fun _ _ _ h => h) (Or.inl ⟨by rfl, ?_⟩) (by assumption) ?_
 case refine_2 => (intro Xw hSw; go_simp; try with_reducible rfl)
 try simp only [pA, pB, pC, pD, pE]
 refine wpAnyH_ready (rs := [4]) (by kernel_rfl) (by simp) ?_
 refine AllReadyH.cons (o := ⟨some 12, _, _, _, _, _⟩) rfl (fun K hK => ?_) AllReadyH.nil
 go_simp
 go_at_call 17
 (refine (HL.out _).mono ?_)
 rintro e w1 ⟨v, rfl, hown, hb1⟩
 go_simp
 have hNext := hHeld.trans (hb1.mono hHeld.size)
 refine hK.out _ _ hNext (fun hHeld2 => ?_)
 clear hK K hHeld
 have hHeld := hNext
 clear hHeld2 hNext
 try simp only [pA, pB, pC, pD, pE]
 obtain ⟨al, cl, rfl, hst, _⟩ := strs_own hown
 have hT1 := hTD.kept hb1
 clear hown hb1
 refine wpAnyH_ready (rs := [5]) (by kernel_rfl) (by simp) ?_
 refine AllReadyH.cons (o := ⟨some 13, _, _, _, _, _⟩) rfl (fun K hK => ?_) AllReadyH.nil
 go_simp
 go_at_call 16
 (refine (HD.out _ al cl hT1 hst).mono ?_)
 rintro e w1 ⟨rfl, rfl⟩
 go_simp
 have hNext := hHeld
 refine hK.out _ _ hNext (fun hHeld2 => ?_)
 clear hK K hHeld
 have hHeld := hNext
 clear hHeld2 hNext
 try simp only [pA, pB, pC, pD, pE]
 refine wpAnyH_take (i := 6) (oi := ⟨some 5, _, _, _, _, _⟩) (v := ?_) rfl (by kernel_rfl) (by kernel_rfl) (by kernel_rfl) (fun _ _ _ h => h) (Or.inl ⟨by rfl, ?_⟩) (by assumption) ?_
 case refine_2 => (intro Xw hSw; go_simp; try with_reducible rfl)
 try simp only [pA, pB, pC, pD, pE]
 refine wpAnyH_done (by kernel_rfl) ?_ _
 refine NoPanic.normal ?_
 have hbw : Below w.heap.size w w1 := hbD.trans hHeld
 clear hHeld hTD h hst hbD
 cases hT : T l with
 | none =>
   have hv : downVal T l = .pointer none := by unfold downVal; rw [hT]
   have HI : Hid (itsOf T l = []) := by unfold Hid itsOf; rw [hT]
   rw [hv]
   clear hv hT
   go_wp2
   all_goals
    go_ret
    exact ⟨_, rfl, by rw [HI.out]; exact World.ownsRow_nil _ _ _ _, hbw⟩
 | some nd =>
   have hv : downVal T l = ndVal nd.b := by unfold downVal; rw [hT]
   obtain ⟨a, cap, hc0, hcap, hin⟩ := (hT1.nodes _ _ hT).its
   have HI : Hid (itsOf T l = nd.its) := by unfold Hid itsOf; rw [hT]
   have HC := Lib.hid (cloneIts_any a cap nd.its w1 (by have := hf.its _ _ hT; omega) hin)
   rw [hv]
   clear hv hT hin hcap
   go_wp2_with (go_at_call 19; (refine HC.out.mono ?_); rintro e w2 ⟨v, rfl, hown, hb2⟩)
   all_goals
    go_ret
    exact ⟨v, rfl, by rw [HI.out]; exact own_low hown hbw.size, below2 hbw hb2⟩
end Go.Proofs.YtkklcpmbgfgcmaaGreat
