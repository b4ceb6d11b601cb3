/- The law IndexTurned. Conditions: as in the text. -/
import Derived.Test.YtohmadchgacafaaIxY
import Derived.Test.YtohmadchgacafaaIxV
set_option linter.unusedSimpArgs false
set_option linter.unusedVariables false
set_option linter.unnecessarySimpa false
namespace Go.Proofs.Ytohmadchgacafaa
open Go.RowKit
set_option maxRecDepth 100000 in
set_option maxHeartbeats 8000000 in
theorem lawTurned_any (a : Option Addr) (cap : Nat) (l : List It) (at_ : UInt8) (w : World) (hin : ItsIn w a l) (hl : l.length ≤ maxLen) (hok : ∀ y ∈ l, ItOk y) :
 Calls Try.prog 5 #[.slice a l.length cap, .int .u8 at_.toNat] w fun e w' => e = .returned (.bool true) ∧ Below w.heap.size w w' := by
 have HLI := Lib.hid (lightI_any a cap l w hin hl (fun y hy => ⟨(hok y hy).name, (hok y hy).domain, (hok y hy).path, (hok y hy).value⟩))
 have HAW := Lib.hid (fun X => awake45_any X)
 unfold maxLen at hl
 clear hok
 obtain ⟨i0, hi, hz0, hz1, hz2⟩ := info_parts Try.infoItem
 by_cases hli : lightI l = true
 case neg =>
  rw [Bool.eq_false_iff.2 hli] at HLI
  clear hli
  go_enter Try.func5, Try.ntmps5
  go_wp2_with (first
   | (go_at_call 6; (refine HLI.out.mono ?_); rintro e w1 ⟨rfl, rfl⟩)
   | (go_at_call 7; (refine (HAW.out _).mono ?_); rintro e w2 ⟨rfl, hb2⟩))
  all_goals
   go_ret
   exact ⟨rfl, hb2⟩
 case pos =>
 have HF := Lib.hid (light_facts hli)
 rw [hli] at HLI
 clear hli
 by_cases hnil : l = []
 case pos =>
  subst hnil
  go_enter Try.func5, Try.ntmps5
  go_wp2_with (first
   | (go_at_call 6; (refine HLI.out.mono ?_); rintro e w1 ⟨rfl, rfl⟩)
   | (go_at_call 7; (refine (HAW.out _).mono ?_); rintro e w2 ⟨rfl, hb2⟩))
  all_goals
   go_ret
   exact ⟨rfl, hb2⟩
 case neg =>
 have h40 := HF.out.1
 have hl0 : 0 < l.length := List.length_pos_iff.2 hnil
 have hbl := byI_length l
 have hS0 : 0 < (byI l).length := List.length_pos_iff.2 (byI_ne hnil)
 have HG : Hid (Good (byI l)) := ⟨byI_srt _, by omega, fun y hy => (HF.out.2 y (mem_byI_sub hy)).2.1⟩
 have HBK := Lib.hid (rByKeys_any a cap l w (by omega) hin)
 have hS40 : (byI l).length ≤ 40 := by omega
 clear hbl HF hin hnil
 generalize byI l = S at *
 have hR0 : ((S.length : Int) == 0) = false := beq_eq_false_iff_ne.2 (by omega)
 have hR1 : ¬ ((S.length : Int) = 0) := by omega
 have hl1 : ((l.length : Int) == 0) = false := beq_eq_false_iff_ne.2 (by omega)
 have hu8 : at_.toNat ≤ 255 := by have := at_.toNat_lt; omega
 have hcv : IntKind.i64.wrap (at_.toNat : Int) = (at_.toNat : Int) := IntWalk.i64_in _ (by omega)
 have hrm : ((at_.toNat : Int)).tmod (S.length : Int) = ((at_.toNat % S.length : Nat) : Int) := rfl
 have hnS : at_.toNat % S.length < S.length := Nat.mod_lt _ hS0
 have hwn : IntKind.i64.wrap ((at_.toNat % S.length : Nat) : Int) = ((at_.toNat % S.length : Nat) : Int) := IntWalk.i64_in _ (by omega)
 have hwR : IntKind.i64.wrap ((S.length : Int) - 1) = (S.length : Int) - 1 := IntWalk.i64_in _ (by omega)
 obtain ⟨n, hn⟩ : ∃ n, n = at_.toNat % S.length := ⟨_, rfl⟩
 rw [← hn] at hrm hnS hwn
 go_enter Try.func5, Try.ntmps5
 go_upto_region 4 with (first
  | (go_at_call 6; (refine HLI.out.mono ?_); rintro e w0 ⟨rfl, rfl⟩)
  | (go_at_call 9; (refine HBK.out.mono ?_); rintro e W ⟨v2, rfl, hown2, hbW⟩; obtain ⟨a2, c2, rfl, hW2, _⟩ := own_cellsIn hown2; clear hown2))
 clear HLI HBK
 go_upto_region 5 with fail
 have hmm : (at_.toNat : Int) % (S.length : Int) = (n : Int) := by rw [hn]; rfl
 try rw [hmm]
 generalize at_.toNat = atn at *
 clear hn hmm hrm hcv
 go_wp2
 go_loopw [7, 8] (fun v i wr => ∃ (c r : Nat) (z : Int), c + r = S.length ∧ z = (r : Int) - 1 ∧ i = .int .i64 z ∧ wr.ownsRow W.heap.size 38 11 v c (itsVals (turn S n c)) ∧ Below W.heap.size W wr) (fun _ i _ => (intOf i + 1).toNat)
 case atStart => exact ⟨0, S.length, _, Nat.zero_add _, rfl, rfl, World.ownsRow_made _ _ _ (Nat.le_refl _) (by decide) rfl, (Below.refl _ _).alloc (Nat.le_refl _) _⟩
 case round =>
  obtain ⟨c, r, z, hcr, hz, rfl, hown, hb⟩ := hrel
  rcases Nat.eq_zero_or_pos r with hr0 | hr0
  ·subst hr0
   obtain rfl : c = S.length := by omega
   obtain rfl : z = -1 := by omega
   clear hz hcr
   obtain ⟨aM, cM, rfl, hinM, _⟩ := own_cellsIn hown
   have hzw := hbW.size
   have hzb := hb.size
   have HML : Hid ((turn S n S.length).length = S.length) := turn_length S n S.length
   have HBY : Hid (byI (turn S n S.length) = S) := turn_byI HG.out.srt hnS
   have HME : Hid (∀ x, x ∈ turn S n S.length ↔ x ∈ S) := fun x => ⟨turn_mem hnS (Nat.le_refl _), turn_all hnS⟩
   have HFR : Hid (∀ c (hc : c < (turn S n S.length).length), ∀ y ∈ (turn S n S.length).take c, (turn S n S.length)[c].key ≠ y.key) := fun c hc => turn_fresh HG.out.srt hnS hc
   generalize turn S n S.length = M at *
   have hNW := new_x (lo := w.heap.size) aM cM M wr (by omega) hinM (by rw [HML.out]; omega) (fun y hy => HG.out.dom y ((HME.out y).1 hy))
   rw [HBY.out, HML.out] at hNW
   have HNW := Lib.hid hNW
   have hW2r := CellsIn.kept hW2 hb
   have hbwr := hbW.trans (hb.mono hzw)
   clear hNW hown hW2 hb hbW
   go_upto_region 11 with (go_at_call 8; (refine HNW.out.mono ?_); rintro e w3 ⟨x, rfl, hI, hf3⟩)
   have hb3 : Below w.heap.size w w3 := hbwr.trans (hf3.below (by omega) fun q hq => hq.1)
   have hM3 := ItsIn.ix hinM hf3
   have hW3 := ItsIn.ix hW2r hf3
   have HIS := Lib.hid (is_true hI HG.out (by omega) a2 c2 hW3)
   clear hf3 hW3 hW2r hinM HNW hbwr
   go_upto_region 13 with (go_at_call 20; (refine HIS.out.mono ?_); rintro e w4 ⟨rfl, hb4⟩)
   have hI4 := hI.kept hb4
   have hM4 := CellsIn.kept hM3 hb4
   have hb04 := below2 hb3 hb4
   clear hI hM3 hb3 hb4 HIS
   obtain ⟨KK, hKK⟩ : ∃ K, K = S.length * 301 := ⟨_, rfl⟩
   rw [← hKK] at hI4
   have hKK2 : KK ≤ 536870912 := by omega
   clear hKK
   go_wp2
   go_loopw [10] (fun i wr => ∃ (c : Nat) (T : List It), i = .int .i64 c ∧ c ≤ S.length ∧ Good T ∧ (∀ z, z ∈ T ↔ z ∈ S ∧ ∀ y ∈ M.take c, z.key ≠ y.key) ∧ IxAt w.heap.size wr x T KK ∧ ItsIn wr aM M ∧ Below w.heap.size w wr) (fun i _ => S.length - (intOf i).toNat)
   case atStart => exact ⟨0, S, rfl, Nat.zero_le _, HG.out, fun z => ⟨fun h => ⟨h, fun y hy => (by simp at hy)⟩, fun h => h.1⟩, hI4, hM4, hb04⟩
   case round =>
        obtain ⟨c, T, rfl, hc, hgT, hmT, hIT, hMT, hbT⟩ := hrel
        clear hI4 hM4 hb04
        by_cases hlt : c < S.length
        ·have hcM : c < M.length := by rw [HML.out]; exact hlt
         obtain ⟨A, off, rfl, hr⟩ := ItsIn.at hMT hcM
         have hyS : M[c] ∈ S := (HME.out _).1 (List.getElem_mem hcM)
         have hyT : M[c] ∈ T := (hmT _).2 ⟨hyS, HFR.out c hcM⟩
         have hgt : getI T M[c].key = some M[c] := (getI_some hgT.srt).2 ⟨hyT, rfl⟩
         have HTK : Hid (M.take (c + 1) = M.take c ++ [M[c]]) := List.take_succ_eq_append_getElem hcM
         have hRM := remove_s hIT hgT M[c].key (by have := HG.out.dom _ hyS; omega) hKK2
         have hrk := range_keyCs hr
         generalize M[c] = y at *
         have HMM : Hid (∀ z, z ∈ woI T y.key ↔ z ∈ S ∧ ∀ u ∈ M.take (c + 1), z.key ≠ u.key) := fun z => by
          rw [mem_woI, hmT, HTK.out]
          constructor
          ·rintro ⟨⟨h1, h2⟩, h3⟩
           refine ⟨h1, fun u hu => ?_⟩
           rcases List.mem_append.1 hu with hu | hu
           ·exact h2 u hu
           ·rw [List.mem_singleton.1 hu]; exact h3
          ·rintro ⟨h1, h2⟩
           exact ⟨⟨h1, fun u hu => h2 u (List.mem_append.2 (Or.inl hu))⟩, h2 y (by simp)⟩
         unfold RetRmS at hRM
         rw [hgt] at hRM
         have HRM := Lib.hid hRM
         have HGW := Lib.hid (hgT.wo y.key)
         have HLT := Lib.hid hlt
         have HMI := Lib.hid hMT
         have hlti : decide ((c : Int) < (S.length : Int)) = true := decide_eq_true (by omega)
         have HMLc := HML.out
         clear hr hyS hyT hgt hRM hmT hgT hIT hMT
         go_wp2_with (first
          | ((with_reducible refine wpList_load_to 34 _ A (off + c * 11) (keyCs y.key) (keyV y.key) rfl _ Try.underlying34 rfl (by kernel_rfl) hrk ?_ rfl ?_); exact rfl)
          | (go_at_call 19; (refine HRM.out.mono ?_); rintro e w5 ⟨rfl, hI5, hf5⟩))
         have HZ : Hid (ItsIn w5 (some ⟨A, off, none⟩) M ∧ Below w.heap.size w w5) := Lib.hid ⟨ItsIn.ix HMI.out hf5, hbT.trans (hf5.below hbT.size fun q hq => hq.1)⟩
         have HI5 := Lib.hid hI5
         clear hI5 hf5 hbT hrk
         go_roundw
         case rel => exact ⟨c + 1, _, by go_num, HLT.out, HGW.out, HMM.out, HI5.out, HZ.out.1, HZ.out.2⟩
         case measure => have := HLT.out; simp [intOf]; omega
        ·obtain rfl : c = S.length := by omega
         have hT0 : T = [] := by
          cases T with
          | nil => rfl
          | cons z T =>
            have h1 := (hmT z).1 List.mem_cons_self
            have h2 : M.take S.length = M := List.take_of_length_le (by rw [HML.out]; exact Nat.le_refl _)
            rw [h2] at h1
            exact absurd rfl (h1.2 z ((HME.out z).2 h1.1))
         subst hT0
         have HL := Lib.hid (fun (X : World) (hX : Below wr.heap.size wr X) => len_s (hIT.kept hX))
         have HN := Lib.hid (fun (X : World) (hX : Below wr.heap.size wr X) => nodes_c (hIT.kept hX) Good.nil hKK2)
         have HI := Lib.hid (fun (X : World) (hX : Below wr.heap.size wr X) => items_s (hIT.kept hX) Good.nil hKK2)
         rw [cntN_nil] at HN
         have hlti : decide ((S.length : Int) < (S.length : Int)) = false := decide_eq_false (by omega)
         have HMLc := HML.out
         have hbr := Below.refl wr.heap.size wr
         clear hIT hmT hgT hMT hlt
         go_wp2_with (first
          | (go_at_call 22; (refine (HL.out _ hbr).mono ?_); rintro e w5 ⟨rfl, rfl⟩)
          | (go_at_call 23; (refine (HN.out _ hbr).mono ?_); rintro e w6 ⟨rfl, hb6⟩)
          | (go_at_call 24; (refine (HI.out _ hb6).mono ?_); rintro e w7 ⟨v7, rfl, hown7, hb7⟩; obtain ⟨a7, c7, rfl, _, _⟩ := own_cellsIn hown7; clear hown7)
          | (go_at_call 7; (refine (HAW.out _).mono ?_); rintro e w8 ⟨rfl, hb8⟩))
         all_goals
          go_ret
          exact ⟨rfl, below2 hbT (below2 hb6 (below2 hb7 hb8))⟩
  ·obtain ⟨t, rfl⟩ : ∃ t, r = t + 1 := ⟨r - 1, by omega⟩
   obtain rfl : z = (t : Int) := by omega
   clear hz hr0
   have htS : t < S.length := by omega
   have hk := tIdx_lt htS hnS
   have hkm := tIdx_mod htS hnS
   have hts := turn_succ S n c
   rw [show S.length - 1 - c = t by omega] at hts
   obtain ⟨k, hkk⟩ : ∃ k, k = tIdx S.length n t := ⟨_, rfl⟩
   rw [← hkk] at hk hkm hts
   rw [List.getD_eq_getElem?_getD, List.getElem?_eq_getElem hk, Option.getD_some] at hts
   have hrm2 : ((t : Int) + (n : Int)).tmod (S.length : Int) = (k : Int) := by rw [← hkm]; rfl
   have hrm3 : ((t : Int) + (n : Int)) % (S.length : Int) = (k : Int) := by rw [← hkm]; rfl
   have hw1 : IntKind.i64.wrap ((t : Int) + (n : Int)) = (t : Int) + (n : Int) := IntWalk.i64_in _ (by omega)
   have hw2 : IntKind.i64.wrap (k : Int) = (k : Int) := IntWalk.i64_in _ (by omega)
   have hgt : decide ((t : Int) ≥ 0) = true := decide_eq_true (by omega)
   obtain ⟨A, off, rfl, hr⟩ := ItsIn.at hW2 hk
   have HTS := Lib.hid hts
   have hr2 := rangeAt_kept hr hb
   have HW2 := Lib.hid hW2
   generalize S[k] = y at *
   have hzb := hb.size
   have hcS : c ≤ 40 := by omega
   have HCR := Lib.hid hcr
   clear hts hkk hkm hr hW2 hcr
   go_wp2_with (first
        | ((with_reducible refine wpList_load_to 38 _ A (off + k * 11) (itCells y) (itVal y) rfl _ Try.underlying38 rfl (by kernel_rfl) hr2 ?_ rfl ?_); exact rfl)
        | (refine wpList_build1I rfl 22 38 _ rfl (itCells y).toArray 11 rfl rfl (by decide) (by decide) Try.underlying22 (by kernel_rfl) (by kernel_rfl) ?_)
        | (at_builtin; go_loud (refine wpList_append_own_at _ rfl _ _ 22 rfl W.heap.size 38 i0 (itVal it0) 11 96 Try.underlying22 hi hz0 hz1 hz2 rfl (by decide) _ _ _ rfl (hown.alloc _) ⟨wr.heap.size, 0, none⟩ 1 1 (itCells y) rfl rfl (its_news wr y _) (itCells_one _) (by unfold maxLen; omega) (by omega) (by simp; omega) ?_)))
   intro v' wf hownf hgrow _ hbk
   have hal : Below wr.heap.size wr (wr.alloc (Obj.cells (itCells y).toArray 38)) := (Below.refl _ _).alloc (Nat.le_refl _) _
   have hbF : Below W.heap.size W wf := (hb.trans (hal.mono hzb)).grown hgrow (by have := hal.size; omega) (fun q hq => (hown.lt q hq).1)
   have HZ := Lib.hid (And.intro hownf hbF)
   clear hownf hgrow hbk hal hbF hown hb hr2
   go_wp2
   go_roundw
   case rel => exact ⟨c + 1, t, _, by have := HCR.out; omega, rfl, by go_num, by rw [HTS.out, itsVals_append, itsVals_one]; exact HZ.out.1, HZ.out.2⟩
   case measure => simp [intOf] <;> omega
end Go.Proofs.Ytohmadchgacafaa
