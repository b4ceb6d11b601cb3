/- The law CompactSettled, walked. Conditions: none. -/
import Derived.Test.YtpbobhfnglikmaaGreatCoA
set_option linter.unusedSimpArgs false
set_option linter.unusedVariables false
set_option linter.unnecessarySimpa false
set_option maxHeartbeats 16000000
set_option maxRecDepth 100000
namespace Go.Proofs.YtpbobhfnglikmaaGreat
open Go.RowKit
theorem lawCs_any (e : Ev) (ae a am : Option Addr) (ce ca cm : Nat) (ls : List EvIt) (l : List Dot) (w : World) (hin : EvIn w ae ce e) (hd : DotsIn w am l) (hl : l.length ≤ maxLen) (hE : EvsArg w a ls) :
 Calls Tryz.prog 6 #[evVal e ae ce, .slice am l.length cm, .slice a ls.length ca] w fun x w' => x = .returned (.bool true) ∧ Below w.heap.size w w' := by
 unfold maxLen at hl
 have HLe0 := fun (X : World) => Light_any e ae ce X hin.over hin.name hin.domain hin.path hin.value
 have HL0 : ∀ X, EvsIn X a ls → Calls Tryz.prog 26 #[.slice a ls.length ca, .int .i64 30] X fun x w' => x = .returned (.bool (lightAll 30 (evsOf ls))) ∧ Below X.heap.size X w' := fun X h => LightAll_any a ca 30 ls X (by decide) hE.len h (fun x hx => ⟨(hE.each x hx).over, (hE.each x hx).name, (hE.each x hx).domain, (hE.each x hx).path, (hE.each x hx).value⟩)
 have HA := Lib.hid awake23_any
 have hEi := hE.evs
 have hdots := hin.dots
 clear hE hin
 cases hle : light e with
 | false =>
   rw [hle] at HLe0
   have HLe := Lib.hid HLe0
   clear HLe0 HL0 hle
   go_enter Tryz.func6, Tryz.ntmps6
   go_upto_region 1 with fail
   refine wp_name (fun W0 hW0 => ?_)
   have hb0 : Below w.heap.size w W0 := by rw [hW0.out]; go_grown
   have hR0 : W0.rangeAt w.heap.size 0 (evCells e ae ce) := by rw [hW0.out]; exact evCells_box e ae ce w _
   have hE0 := hEi.kept hb0
   clear hW0
   go_wp2_with (first
    | ((with_reducible refine wpList_load_ev _ w.heap.size e ae ce hR0 ?_ rfl ?_); exact rfl)
    | (go_at_call 41; (with_reducible refine (HLe.out _).mono ?_); rintro x w1 ⟨rfl, hb1⟩; have hE1 := hE0.kept hb1; have hb01 := below2 hb0 hb1)
    | (go_at_call 26; (with_reducible refine (HL.out _ hE1).mono ?_); rintro x w2 ⟨rfl, hb2⟩; have hb02 := below2 hb01 hb2)
    | (go_at_call 27; (with_reducible refine (HA.out _).mono ?_); rintro x w3 ⟨rfl, hb3⟩))
   go_ret
   exact ⟨rfl, below2 hb01 hb3⟩
 | true =>
   have hol : e.over.length ≤ 1073741824 := by
    have h9 := hle
    unfold light at h9
    simp only [Bool.and_eq_true, decide_eq_true_eq] at h9
    omega
   rw [hle] at HLe0
   have HLe := Lib.hid HLe0
   clear HLe0 hle
   cases hli : lightAll 30 (evsOf ls) with
   | false =>
     rw [hli] at HL0
     have HL := Lib.hid HL0
     clear HL0 hli hol
     go_enter Tryz.func6, Tryz.ntmps6
     go_upto_region 1 with fail
     refine wp_name (fun W0 hW0 => ?_)
     have hb0 : Below w.heap.size w W0 := by rw [hW0.out]; go_grown
     have hR0 : W0.rangeAt w.heap.size 0 (evCells e ae ce) := by rw [hW0.out]; exact evCells_box e ae ce w _
     have hE0 := hEi.kept hb0
     clear hW0
     go_wp2_with (first
        | ((with_reducible refine wpList_load_ev _ w.heap.size e ae ce hR0 ?_ rfl ?_); exact rfl)
        | (go_at_call 41; (with_reducible refine (HLe.out _).mono ?_); rintro x w1 ⟨rfl, hb1⟩; have hE1 := hE0.kept hb1; have hb01 := below2 hb0 hb1)
        | (go_at_call 26; (with_reducible refine (HL.out _ hE1).mono ?_); rintro x w2 ⟨rfl, hb2⟩; have hb02 := below2 hb01 hb2)
        | (go_at_call 27; (with_reducible refine (HA.out _).mono ?_); rintro x w3 ⟨rfl, hb3⟩))
     go_ret
     exact ⟨rfl, below2 hb02 hb3⟩
   | true =>
     obtain ⟨hls, hsl⟩ := light_evs hli
     rw [hli] at HL0
     have HL := Lib.hid HL0
     clear HL0 hli
     by_cases hm : l.length ≤ 100
     case neg =>
        have hdm : decide ((100 : Int) < (l.length : Int)) = true := decide_eq_true (by omega)
        clear hm hol
        go_enter Tryz.func6, Tryz.ntmps6
        go_upto_region 1 with fail
        refine wp_name (fun W0 hW0 => ?_)
        have hb0 : Below w.heap.size w W0 := by rw [hW0.out]; go_grown
        have hR0 : W0.rangeAt w.heap.size 0 (evCells e ae ce) := by rw [hW0.out]; exact evCells_box e ae ce w _
        have hE0 := hEi.kept hb0
        clear hW0
        go_wp2_with (first
         | ((with_reducible refine wpList_load_ev _ w.heap.size e ae ce hR0 ?_ rfl ?_); exact rfl)
         | (go_at_call 41; (with_reducible refine (HLe.out _).mono ?_); rintro x w1 ⟨rfl, hb1⟩; have hE1 := hE0.kept hb1; have hb01 := below2 hb0 hb1)
         | (go_at_call 26; (with_reducible refine (HL.out _ hE1).mono ?_); rintro x w2 ⟨rfl, hb2⟩; have hb02 := below2 hb01 hb2)
         | (go_at_call 27; (with_reducible refine (HA.out _).mono ?_); rintro x w3 ⟨rfl, hb3⟩))
        go_ret
        exact ⟨rfl, below2 hb02 hb3⟩
     have hdm : decide ((100 : Int) < (l.length : Int)) = false := decide_eq_false (by omega)
     have HM1 := Lib.hid (fun (X : World) (h : EvsIn X a ls) => made23_any a ca ls X (by omega) h hsl)
     have HCk := Lib.hid (fun (X : World) (h : DotsIn X am l) => rCheck_any am cm l X (by omega) h)
     have HSe := Lib.hid (fun (X : World) (h1 : DotsIn X ae e.over) (h2 : DotsIn X am l) => rSettled23_any e ae am ce cm l X h1 hol h2 (by omega))
     have HSm := Lib.hid (fun (X : World) (h1 : DotsIn X ae e.over) (h2 : DotsIn X am l) => cSettledM_any e ae am ce cm l X h1 hol h2 (by omega))
     have HDn := Lib.hid (fun (X : World) => cDo_nil (r := 17) am l.length cm X (by decide) (may_nil am l.length cm X))
     have HWn := Lib.hid (fun (X : World) => cWaste_nil X)
     clear hm hl hol
     go_enter Tryz.func6, Tryz.ntmps6
     go_upto_region 1 with fail
     refine wp_name (fun W0 hW0 => ?_)
     have hb0 : Below w.heap.size w W0 := by rw [hW0.out]; go_grown
     have hR0 : W0.rangeAt w.heap.size 0 (evCells e ae ce) := by rw [hW0.out]; exact evCells_box e ae ce w _
     have hE0 := hEi.kept hb0
     clear hW0
     go_upto_region 3 with (first
        | ((with_reducible refine wpList_load_ev _ w.heap.size e ae ce hR0 ?_ rfl ?_); exact rfl)
        | (go_at_call 41; (with_reducible refine (HLe.out _).mono ?_); rintro x w1 ⟨rfl, hb1⟩; have hE1 := hE0.kept hb1; have hb01 := below2 hb0 hb1)
        | (go_at_call 26; (with_reducible refine (HL.out _ hE1).mono ?_); rintro x w2 ⟨rfl, hb2⟩; have hb02 := below2 hb01 hb2)
        | (go_at_call 27; (with_reducible refine (HA.out _).mono ?_); rintro x w3 ⟨rfl, hb3⟩))
     have hE2 := hE1.kept hb2
     go_upto_region 4 with (first
        | (go_at_call 28; (with_reducible refine (HM1.out _ hE2).mono ?_); rintro x w3 ⟨m, b, s, y, rfl, hm3, hb3⟩)
        | (refine wpList_store_new 31 _ _ _ (rmRow y) rfl rfl (by kernel_rfl) rfl (by kernel_rfl) ?_))
     have hH0 := hm3.hd hb02.size (hb02.trans (hb3.mono hb02.size))
     have HG := Lib.hid (And.intro (hm3.sgood hsl) hm3.rel)
     have hb23 := below2 (below2 hb1 hb2) hb3
     have hbA := (Below.refl w3.heap.size w3).alloc (Nat.le_refl _) (.cells (rmRow y) 31)
     have hR3 := rangeAt_kept (rangeAt_kept hR0 hb23) hbA
     obtain ⟨W, hWe⟩ : ∃ W, W = w3.alloc (.cells (rmRow y) 31) := ⟨_, rfl⟩
     rw [← hWe] at hH0 hR3 ⊢
     have hd3 := hd.kept hH0.below
     have hdo3 := hdots.kept hH0.below
     clear hWe hb0 hb1 hb2 hb3 hb01 hb02 hb23 hbA hE0 hE1 hE2 hEi hR0 hm3 HL HLe HM1 hsl hd hdots
     generalize w3.heap.size = B8 at *
     obtain ⟨c0, c1, c2⟩ := hH0.row.cells
     have HRA := Lib.hid (fun (X : World) (h : RMIn X y) => callRAl HG.out.1 (by omega) HG.out.2 X h)
     have HWa := Lib.hid (fun (X : World) (h : MpIn X m b s) => cWaste_any X h HG.out.1)
     have HKL := Lib.hid (rmK_len HG.out.2)
     have hkl := HG.out.1.inv.len
     have hrf := hH0.ref
     go_upto_region 6 with (go_at_call 36; (with_reducible refine (HRA.out _ hrf).mono ?_); rintro x w4 ⟨aA, ds, cA, rfl, hEA, hevA, hb4⟩)
     rw [HKL.out]
     have hal : ds.length ≤ 2048 := by
        rw [← evsOf_length, hevA, ← aliveR_eq HG.out.1.inv HG.out.1.rel]
        refine Nat.le_trans (List.length_filter_le _ _) ?_
        show (eventsOf s).length ≤ 2048
        rw [eventsOf_len HG.out.1.nd]
        exact hkl
     have hH4 := hH0.kept hb4
     have hR4 := rangeAt_kept hR3 hb4
     have hd4 := hd3.kept hb4
     have hdo4 := hdo3.kept hb4
     have HEV := Lib.hid hevA
     clear hb4 hH0 hR3 hd3 hdo3 c0 c1 c2 hrf hevA
     generalize hknn : s.K.length = kn at *
     have HKN := Lib.hid hknn
     clear hknn
     go_wp2
     go_loopw [11, 9] (fun i u wr => ∃ k : Nat, i = .int .i64 k ∧ k ≤ ds.length ∧ u = .int .i64 ((kn : Int) - (((evsOf ds).take k).filter fun e => decide (e.over.length = 0)).length) ∧ Below w4.heap.size w4 wr) (fun i _ _ => ds.length - (intOf i).toNat)
     case atStart => exact ⟨0, rfl, Nat.zero_le _, by simp, Below.refl _ _⟩
     case round =>
        obtain ⟨k, rfl, hk, rfl, hbr⟩ := hrel
        by_cases hlt : k < ds.length
        ·obtain ⟨A, off, rfl, hra, _⟩ := (hEA.kept hbr).at hlt
         have r1 := hra k hlt
         have HT : Hid ((((evsOf ds).take (k + 1)).filter fun e => decide (e.over.length = 0)).length = (((evsOf ds).take k).filter fun e => decide (e.over.length = 0)).length + if ds[k].1.over.length = 0 then 1 else 0) := by
          unfold Hid
          rw [waste_step _ _ (by rw [evsOf_length]; exact hlt), evsOf_at hlt]
         have hq : (((evsOf ds).take k).filter fun e => decide (e.over.length = 0)).length ≤ k := by
          refine Nat.le_trans (List.length_filter_le _ _) ?_
          rw [List.length_take]
          exact Nat.min_le_left _ _
         have HLT := Lib.hid hlt
         generalize (((evsOf ds).take k).filter fun e => decide (e.over.length = 0)).length = q at *
         clear hra
         generalize ds[k] = x at *
         obtain ⟨e9, ax, cx⟩ := x
         simp only [itEv] at r1
         simp only at HT
         have v18 : wr.cell? ⟨A, off + k * 19 + 18, none⟩ = some (.slice ax e9.over.length cx) := r1 18 _ rfl
         clear r1
         by_cases h0 : e9.over.length = 0
         ·have hb0 : (((e9.over.length : Nat) : Int) == 0) = true := beq_iff_eq.2 (by omega)
          rw [if_pos h0] at HT
          have hwr : IntKind.i64.wrap ((kn : Int) - q - 1) = (kn : Int) - q - 1 := IntWalk.i64_in _ (by omega)
          clear h0
          go_wp2
          go_roundw
          case rel => exact ⟨k + 1, by go_num, HLT.out, by rw [HT.out]; congr 1; omega, hbr⟩
          case measure => have := HLT.out; simp [intOf] <;> omega
         ·have hb0 : (((e9.over.length : Nat) : Int) == 0) = false := beq_eq_false_iff_ne.2 (by omega)
          rw [if_neg h0] at HT
          clear h0
          go_wp2
          go_roundw
          case rel => exact ⟨k + 1, by go_num, HLT.out, by rw [HT.out]; rfl, hbr⟩
          case measure => have := HLT.out; simp [intOf] <;> omega
        ·obtain rfl : k = ds.length := by omega
         have HE2 : Hid ((((evsOf ds).take ds.length).filter fun e => decide (e.over.length = 0)).length = ((aliveOf s).filter fun e => decide (e.over.length = 0)).length) := by
          unfold Hid
          rw [List.take_of_length_le (by rw [evsOf_length]; exact Nat.le_refl _), HEV.out]
         rw [HE2.out]
         have hH5 := hH4.kept hbr
         have hR5 := rangeAt_kept hR4 hbr
         have hd5 := hd4.kept hbr
         have hdo5 := hdo4.kept hbr
         have HWb := HWa.out
         try rw [HKN.out] at HWb
         generalize ((kn : Int) - ((aliveOf s).filter fun e => decide (e.over.length = 0)).length) = wv at *
         have HWc := Lib.hid HWb
         have hww : (wv == wv) = true := beq_self_eq_true _
         clear HWb hH4 hR4 hd4 hdo4 hbr hk hlt hEA HKN hal
         by_cases hz : marksErr l = 0
         case neg =>
          have hz1 : (marksErr l == 0) = false := beq_eq_false_iff_ne.2 hz
          have HS0 := HSm.out
          rw [decide_eq_false hz, Bool.false_and] at HS0
          have HS := Lib.hid HS0
          generalize marksErr l = r at *
          clear HS0 hz
          go_upto_region 12 with (go_at_call 29; (with_reducible refine (HDn.out _).mono ?_); rintro x w6 ⟨rfl, hb6⟩)
          have hH6 := hH5.kept hb6
          have hR6 := rangeAt_kept hR5 hb6
          have hd6 := hd5.kept hb6
          have hdo6 := hdo5.kept hb6
          clear hH5 hR5 hd5 hdo5 hb6
          go_upto_region 13 with (first
           | (go_at_call 42; (with_reducible refine (HCk.out _ hd6).mono ?_); rintro x w7 ⟨rfl, hb7⟩; replace hH6 := hH6.kept hb7; replace hR6 := rangeAt_kept hR6 hb7; replace hd6 := hd6.kept hb7; replace hdo6 := hdo6.kept hb7; clear hb7)
           | ((with_reducible refine wpList_load_ev _ w.heap.size e ae ce hR6 ?_ rfl ?_); exact rfl)
           | (go_at_call 43; (with_reducible refine (HSe.out _ hdo6 hd6).mono ?_); rintro x w8 ⟨rfl, hb8⟩; replace hH6 := hH6.kept hb8; replace hR6 := rangeAt_kept hR6 hb8; replace hd6 := hd6.kept hb8; replace hdo6 := hdo6.kept hb8; clear hb8))
          go_wp2_with (first
           | ((with_reducible refine wpList_load_ev _ w.heap.size e ae ce hR6 ?_ rfl ?_); exact rfl)
           | (go_at_call 44; (with_reducible refine (HS.out _ hdo6 hd6).mono ?_); rintro x w9 ⟨rfl, hb9⟩; replace hH6 := hH6.kept hb9; have hmp := hH6.map; have HB := Lib.hid hH6.below; clear hb9)
           | (go_at_call 40; (with_reducible refine (HWc.out _ hmp).mono ?_); rintro x w10 ⟨rfl, hb10⟩)
           | (go_at_call 40; (with_reducible refine (HWn.out _).mono ?_); rintro x w11 ⟨rfl, hb11⟩)
           | (go_at_call 27; (with_reducible refine (HA.out _).mono ?_); rintro x w12 ⟨rfl, hb12⟩))
          go_ret
          exact ⟨rfl, ((HB.out.trans (hb10.mono HB.out.size)).trans (hb11.mono (Nat.le_trans HB.out.size hb10.size))).trans (hb12.mono (Nat.le_trans (Nat.le_trans HB.out.size hb10.size) hb11.size))⟩
         have HS0 := HSm.out
         rw [decide_eq_true hz, Bool.true_and] at HS0
         have HS := Lib.hid HS0
         rw [hz] at HCk
         have hbb : (setl l e == setl l e) = true := beq_self_eq_true _
         clear HS0 hz
         go_upto_region 12 with (go_at_call 29; (with_reducible refine (HDn.out _).mono ?_); rintro x w6 ⟨rfl, hb6⟩)
         have hH6 := hH5.kept hb6
         have hR6 := rangeAt_kept hR5 hb6
         have hd6 := hd5.kept hb6
         have hdo6 := hdo5.kept hb6
         clear hH5 hR5 hd5 hdo5 hb6
         go_upto_region 13 with (first
          | (go_at_call 42; (with_reducible refine (HCk.out _ hd6).mono ?_); rintro x w7 ⟨rfl, hb7⟩; replace hH6 := hH6.kept hb7; replace hR6 := rangeAt_kept hR6 hb7; replace hd6 := hd6.kept hb7; replace hdo6 := hdo6.kept hb7; clear hb7)
          | ((with_reducible refine wpList_load_ev _ w.heap.size e ae ce hR6 ?_ rfl ?_); exact rfl)
          | (go_at_call 43; (with_reducible refine (HSe.out _ hdo6 hd6).mono ?_); rintro x w8 ⟨rfl, hb8⟩; replace hH6 := hH6.kept hb8; replace hR6 := rangeAt_kept hR6 hb8; replace hd6 := hd6.kept hb8; replace hdo6 := hdo6.kept hb8; clear hb8))
         go_wp2_with (first
          | ((with_reducible refine wpList_load_ev _ w.heap.size e ae ce hR6 ?_ rfl ?_); exact rfl)
          | (go_at_call 44; (with_reducible refine (HS.out _ hdo6 hd6).mono ?_); rintro x w9 ⟨rfl, hb9⟩; replace hH6 := hH6.kept hb9; have hmp := hH6.map; have HB := Lib.hid hH6.below; clear hb9)
          | (go_at_call 40; (with_reducible refine (HWc.out _ hmp).mono ?_); rintro x w10 ⟨rfl, hb10⟩)
          | (go_at_call 40; (with_reducible refine (HWn.out _).mono ?_); rintro x w11 ⟨rfl, hb11⟩)
          | (go_at_call 27; (with_reducible refine (HA.out _).mono ?_); rintro x w12 ⟨rfl, hb12⟩))
         go_ret
         exact ⟨rfl, ((HB.out.trans (hb10.mono HB.out.size)).trans (hb11.mono (Nat.le_trans HB.out.size hb10.size))).trans (hb12.mono (Nat.le_trans (Nat.le_trans HB.out.size hb10.size) hb11.size))⟩
end Go.Proofs.YtpbobhfnglikmaaGreat
