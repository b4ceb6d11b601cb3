/- The index: the items of a name's domains. Conditions: as in the text. -/
import Derived.Test.YtkklcpmbgfgcmaaGreatIxK
set_option linter.unusedSimpArgs false
set_option linter.unusedVariables false
set_option linter.unnecessarySimpa false
namespace Go.Proofs.YtkklcpmbgfgcmaaGreat
open Go.RowKit
variable {lo : Nat}
/-- the items of the nodes of the first k labels -/
def nearTo (T : Tree) (l : Path) : Nat → List It
 | 0 => []
 | k + 1 => nearTo T l k ++ itsOf T (l.take (k + 1))
theorem nearTo_len (T : Tree) (l : Path) : ∀ {j k : Nat}, j ≤ k → (nearTo T l j).length ≤ (nearTo T l k).length
 | j, 0, h => by obtain rfl : j = 0 := by omega
                 exact Nat.le_refl _
 | j, k + 1, h => by
   by_cases e : j = k + 1
   ·rw [e]; exact Nat.le_refl _
   ·have := nearTo_len T l (j := j) (k := k) (by omega)
    rw [nearTo, List.length_append]
    omega
theorem nearTo_stop {w : World} {x : Nat} {n : Int} {B : Nat} {T : Tree} (h : TrIn lo w x n B T) (l : Path) {k : Nat} (hk : T (l.take (k + 1)) = none) : ∀ j, k ≤ j → nearTo T l j = nearTo T l k
 | 0, hj => by obtain rfl : k = 0 := by omega
               rfl
 | j + 1, hj => by
   by_cases e : k = j + 1
   ·rw [e]
   ·have ih := nearTo_stop h l hk j (by omega)
    have hn : T (l.take (j + 1)) = none := h.none_of (p := l.take (k + 1)) (by
       rw [show l.take (k + 1) = (l.take (j + 1)).take (k + 1) by rw [List.take_take, Nat.min_eq_left (by omega)]]
       exact List.take_prefix _ _) hk
    rw [nearTo, ih]
    unfold itsOf
    rw [hn, List.append_nil]
set_option maxRecDepth 100000 in
set_option maxHeartbeats 2000000 in
theorem ixNear_any {w : World} {x : Nat} {n : Int} {B : Nat} {T : Tree} (h : TrIn lo w x n B T) (hf : Few T) (d : ByteArray) (hd : d.size ≤ 1073741822) (S : List It) (hS : SrtI S) (hm : ∀ x, x ∈ nearTo T (labs d) (labs d).length ↔ x ∈ S) (hn : (nearTo T (labs d) (labs d).length).Nodup) (hl : S.length ≤ 536870912) :
 Calls Tryz.prog 11 #[ndVal x, .string d] w (RetIts S w) := by
 obtain ⟨i0, hi, hz0, hz1, hz2⟩ := info_parts Tryz.infoItem
 obtain ⟨hl1, hl2⟩ := labs_max d hd
 have HL := Lib.hid (fun (X : World) => labels_any d X (by omega))
 have hnl : (nearTo T (labs d) (labs d).length).length = S.length := ((List.perm_ext_iff_of_nodup hn (srtI_nodup hS)).2 hm).length_eq
 have HSO := Lib.hid (fun (base : Nat) (v : Value) (X : World) (ho : X.ownsRow base 27 11 v (nearTo T (labs d) (labs d).length).length (itsVals (nearTo T (labs d) (labs d).length))) => ixSorted_any base v _ S X ho (by omega) hS hm hn)
 have HLEN : Hid (∀ j, j ≤ (labs d).length → (nearTo T (labs d) j).length ≤ 536870912) := Lib.hid fun j hj => by
  have := nearTo_len T (labs d) hj
  omega
 clear hnl hS hm hn hl
 generalize labs d = l at *
 obtain ⟨r, hr, hrb⟩ := h.top
 have HR := Lib.hid (And.intro hr hrb)
 have HH := Lib.hid h
 have HFW := Lib.hid hf
 have HL1 := Lib.hid hl1
 clear h hr hrb hf hl1
 go_enter Tryz.func11, Tryz.ntmps11
 go_upto_region 6 with (go_at_call 17; refine (HL.out _).mono ?_; rintro e w1 ⟨v, rfl, hown, hb1⟩; obtain ⟨al, cl, rfl, hst, _⟩ := strs_own hown; have HB1 := Lib.hid hb1; clear hown hb1)
 have hT1 := HH.out.kept HB1.out
 go_loopw [5, 6, 18] (fun v d i wr => ∃ (k : Nat) (nd : Nd), i = .int .i64 k ∧ k ≤ l.length ∧ d = ndVal nd.b ∧ T (l.take k) = some nd ∧ wr.ownsRow w1.heap.size 27 11 v (nearTo T l k).length (itsVals (nearTo T l k)) ∧ Below w1.heap.size w1 wr) (fun _ _ i _ => l.length - (intOf i).toNat)
 case atStart => exact ⟨0, r, rfl, Nat.zero_le _, by rw [HR.out.2], by simpa using HR.out.1, World.ownsRow_nil _ _ _ _, Below.refl _ _⟩
 case round =>
  obtain ⟨k, nd, rfl, hk, rfl, hT, hown, hbr⟩ := hrel
  have hTr := hT1.kept hbr
  have HBR : Hid (Below w.heap.size w wr ∧ w.heap.size ≤ w1.heap.size) := Lib.hid ⟨HB1.out.trans (hbr.mono HB1.out.size), HB1.out.size⟩
  by_cases hlt : k < l.length
  ·obtain ⟨A, off, rfl, hc⟩ := (hst.kept hbr).at hlt
   have hbel := (hTr.nodes _ _ hT).bel
   have hlook := hTr.look hT (mkS l[k]) (HL1.out _ (List.getElem_mem hlt))
   have HK : Hid (l.take (k + 1) = l.take k ++ [bl (mkS l[k])]) := Lib.hid (take_snoc hlt)
   have HLT := Lib.hid hlt
   generalize mkS l[k] = s at *
   have hkb : k ≤ 1073741824 := by omega
   cases hc2 : T (l.take k ++ [bl s]) with
   | none =>
     have hv : kidVal T (l.take k) (bl s) = .pointer none := by unfold kidVal; rw [hc2]
     rw [hv] at hlook
     have HE : Hid (nearTo T l l.length = nearTo T l k) := Lib.hid (nearTo_stop HH.out l (by rw [HK.out]; exact hc2) _ (Nat.le_of_lt hlt))
     have HSQ := Lib.hid (HSO.out w1.heap.size _ wr (by rw [HE.out]; exact hown))
     have HOW := Lib.hid hown
     clear hv hc2 hT hlt hown
     go_wp2_with (go_at_call 23; (refine HSQ.out.mono ?_); rintro e w9 ⟨rfl, hown9, hfr9⟩)
     all_goals
      go_ret
      exact ⟨_, rfl, own_low hown9 HBR.out.2, HBR.out.1.trans (hfr9.below HBR.out.1.size fun q hq => Nat.le_trans HBR.out.2 (HOW.out.lt q hq).1)⟩
   | some c =>
     have hv : kidVal T (l.take k) (bl s) = ndVal c.b := by unfold kidVal; rw [hc2]
     rw [hv] at hlook
     obtain ⟨a2, cap2, hc0, hcap2, hin2⟩ := (hTr.nodes _ _ hc2).its
     have hb1 := HLEN.out (k + 1) (by omega)
     have HN : Hid (nearTo T l (k + 1) = nearTo T l k ++ c.its) := by
      unfold Hid
      rw [nearTo]
      unfold itsOf
      rw [HK.out, hc2]
     rw [HN.out, List.length_append] at hb1
     have HC := Lib.hid hc2
     have hzz := hbr.size
     clear hv hc2 hT hlt
     go_upto_region 11 with (at_builtin; go_loud (refine wpList_append_cells rfl _ _ 31 rfl w1.heap.size 27 i0 (itVal it0) 11 96 Tryz.underlying31 hi hz0 hz1 hz2 rfl (by decide) _ _ _ rfl hown a2 c.its.length cap2 (itsVals c.its) rfl (itsVals_length _) hin2 (itsVals_one' _) (by unfold maxLen; omega) (by omega) hzz ?_))
     intro v' w3 hown3 hgrow
     have hb3 := hbr.grown hgrow hzz (fun q hq => (hown.lt q hq).1)
     have HZ := Lib.hid (And.intro hown3 hb3)
     clear hown3 hgrow hb3 hown
     go_wp2
     go_roundw
     case rel => exact ⟨k + 1, c, by go_num, HLT.out, rfl, by rw [HK.out]; exact HC.out, by rw [HN.out, List.length_append, itsVals_append]; exact HZ.out.1, HZ.out.2⟩
     case measure => have := HLT.out; simp [intOf]; omega
  ·obtain rfl : k = l.length := by omega
   have HSQ := Lib.hid (HSO.out w1.heap.size _ wr hown)
   have HOW := Lib.hid hown
   clear hT hown
   go_wp2_with (go_at_call 23; (refine HSQ.out.mono ?_); rintro e w9 ⟨rfl, hown9, hfr9⟩)
   all_goals
        go_ret
        exact ⟨_, rfl, own_low hown9 HBR.out.2, HBR.out.1.trans (hfr9.below HBR.out.1.size fun q hq => Nat.le_trans HBR.out.2 (HOW.out.lt q hq).1)⟩
end Go.Proofs.YtkklcpmbgfgcmaaGreat
