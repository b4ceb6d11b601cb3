/- Slices of events: the program's Equal, Light of all, do they rise. Conditions: at most 2^30 events, texts of at most 2^30 bytes. -/
import Derived.Test.YtnpdfmpjjomhcaaGreatEvs
import Derived.Test.YtnpdfmpjjomhcaaGreatEventB
set_option linter.unusedSimpArgs false
set_option linter.unusedVariables false
set_option linter.unnecessarySimpa false
namespace Go.Proofs.YtnpdfmpjjomhcaaGreat
open Go.RowKit

set_option maxRecDepth 100000 in
set_option maxHeartbeats 2000000 in
theorem equalEvs_any (a b : Option Addr) (ca cb : Nat) (l m : List EvIt) (w : World) (hl : l.length ≤ 1073741824) (hm : m.length ≤ 1073741824) (hsl : EvsSmall l) (hsm : EvsSmall m) (ha : EvsIn w a l) (hb : EvsIn w b m) :
    Calls Tryz.prog 91 #[.slice a l.length ca, .slice b m.length cb, .func (.func 92) #[] #[]] w fun x w' => x = .returned (.bool (decide (evsOf l = evsOf m))) ∧ Below w.heap.size w w' := by
  by_cases hlen : l.length = m.length
  · have hb1 : ((l.length : Nat) != (m.length : Nat)) = false := by rw [bne_eq_false_iff_eq]; exact hlen
    have hb2 : ((l.length : Int) != (m.length : Int)) = false := by rw [bne_eq_false_iff_eq]; omega
    have hl1 : l.length ≤ m.length := by omega
    have hl2 : m.length ≤ l.length := by omega
    clear hlen
    go_enter Tryz.func91, Tryz.ntmps91
    go_wp2
    go_loopw [17] (fun i wr => ∃ k : Nat, k ≤ l.length ∧ i = .int .i64 k ∧ (evsOf l).take k = (evsOf m).take k ∧ Below w.heap.size w wr) (fun i _ => l.length - (intOf i).toNat)
    case atStart => exact ⟨0, Nat.zero_le _, rfl, rfl, by go_grown⟩
    case round =>
      obtain ⟨k, hk, rfl, hpre, hbw⟩ := hrel
      have HP := Lib.hid hpre
      clear hpre
      have hzw := hbw.size
      by_cases hlt : k < l.length
      · have hlm : k < m.length := by omega
        obtain ⟨A, off, rfl, hra, hda⟩ := (ha.kept hbw).at hlt
        obtain ⟨B, ofb, rfl, hrb, hdb⟩ := (hb.kept hbw).at hlm
        have r1 := hra k hlt
        have r2 := hrb k hlm
        have s1 := (hsl _ (List.getElem_mem hlt)).over
        have s2 := (hsm _ (List.getElem_mem hlm)).over
        have g1 := @evsOf_at l k hlt
        have g2 := @evsOf_at m k hlm
        have HN := fun he : l[k].1 = m[k].1 => take_next (k := k) (by rw [evsOf_length]; exact hlt) (by rw [evsOf_length]; exact hlm) HP.out (by rw [g1, g2]; exact he)
        have HD := fun he : ¬ l[k].1 = m[k].1 => decide_eq_false (take_ne (k := k) (l := evsOf l) (m := evsOf m) (by rw [evsOf_length]; exact hlt) (by rw [evsOf_length]; exact hlm) (by rw [g1, g2]; exact he))
        clear hra hrb g1 g2 HP
        generalize l[k] = x at *
        generalize m[k] = y at *
        obtain ⟨e, ax, cx⟩ := x
        obtain ⟨f, ay, cy⟩ := y
        simp only [itEv] at *
        have hS0 := fun (W : World) (h1 : DotsIn W ax e.over) (h2 : DotsIn W ay f.over) => msgSame1_any e f ax ay cx cy W s1 s2 h1 h2
        by_cases he : e = f
        · have HE := Lib.hid (HN he)
          rw [decide_eq_true he] at hS0
          have HS := Lib.hid hS0
          clear hS0 he HN HD
          go_upto_region 6 with (first
            | ((with_reducible refine wpList_load_evo _ A (off + k * 19) e ax cx r1 ?_ rfl ?_); exact rfl)
            | (refine wpList_store_new 34 _ _ _ (evCells e ax cx).toArray rfl rfl (by kernel_rfl) rfl (by kernel_rfl) ?_))
          refine wp_name (fun W1 hW1 => ?_)
          have hb1' : Below wr.heap.size wr W1 := by rw [hW1.out]; exact (Below.refl _ _).alloc (Nat.le_refl _) _
          have R1 : W1.rangeAt wr.heap.size 0 (evCells e ax cx) := by rw [hW1.out]; exact evCells_box e ax cx wr _
          replace r2 := rangeAt_kept r2 hb1'
          clear hW1
          go_upto_region 7 with (first
            | ((with_reducible refine wpList_load_evo _ B (ofb + k * 19) f ay cy r2 ?_ rfl ?_); exact rfl)
            | (refine wpList_store_new 34 _ _ _ (evCells f ay cy).toArray rfl rfl (by kernel_rfl) rfl (by kernel_rfl) ?_))
          refine wp_name (fun W3 hW3 => ?_)
          have hb3' : Below W1.heap.size W1 W3 := by rw [hW3.out]; exact (Below.refl _ _).alloc (Nat.le_refl _) _
          have R2 : W3.rangeAt W1.heap.size 0 (evCells f ay cy) := by rw [hW3.out]; exact evCells_box f ay cy W1 _
          replace R1 := rangeAt_kept R1 hb3'
          have hbt3 := below2 hb1' hb3'
          have D1 := hda.kept hbt3
          have D2 := hdb.kept hbt3
          clear hW3 hb1' hb3' r1 r2 hda hdb
          go_wp2_with (first
            | ((with_reducible refine wpList_load_evo _ wr.heap.size 0 e ax cx R1 ?_ rfl ?_); exact rfl)
            | ((with_reducible refine wpList_load_evo _ W1.heap.size 0 f ay cy R2 ?_ rfl ?_); exact rfl)
            | (go_at_call 92; (with_reducible refine (HS.out _ D1 D2).mono ?_); rintro v w5 ⟨rfl, hb5⟩))
          have hib := below2 hbt3 hb5
          go_roundw
          case rel => exact ⟨k + 1, by omega, by go_num, HE.out, hbw.trans (hib.mono hzw)⟩
          case measure => simp [intOf] <;> omega
        · have HE := Lib.hid (HD he)
          rw [decide_eq_false he] at hS0
          have HS := Lib.hid hS0
          clear hS0 he HN HD
          go_upto_region 6 with (first
            | ((with_reducible refine wpList_load_evo _ A (off + k * 19) e ax cx r1 ?_ rfl ?_); exact rfl)
            | (refine wpList_store_new 34 _ _ _ (evCells e ax cx).toArray rfl rfl (by kernel_rfl) rfl (by kernel_rfl) ?_))
          refine wp_name (fun W1 hW1 => ?_)
          have hb1' : Below wr.heap.size wr W1 := by rw [hW1.out]; exact (Below.refl _ _).alloc (Nat.le_refl _) _
          have R1 : W1.rangeAt wr.heap.size 0 (evCells e ax cx) := by rw [hW1.out]; exact evCells_box e ax cx wr _
          replace r2 := rangeAt_kept r2 hb1'
          clear hW1
          go_upto_region 7 with (first
            | ((with_reducible refine wpList_load_evo _ B (ofb + k * 19) f ay cy r2 ?_ rfl ?_); exact rfl)
            | (refine wpList_store_new 34 _ _ _ (evCells f ay cy).toArray rfl rfl (by kernel_rfl) rfl (by kernel_rfl) ?_))
          refine wp_name (fun W3 hW3 => ?_)
          have hb3' : Below W1.heap.size W1 W3 := by rw [hW3.out]; exact (Below.refl _ _).alloc (Nat.le_refl _) _
          have R2 : W3.rangeAt W1.heap.size 0 (evCells f ay cy) := by rw [hW3.out]; exact evCells_box f ay cy W1 _
          replace R1 := rangeAt_kept R1 hb3'
          have hbt3 := below2 hb1' hb3'
          have D1 := hda.kept hbt3
          have D2 := hdb.kept hbt3
          clear hW3 hb1' hb3' r1 r2 hda hdb
          go_wp2_with (first
            | ((with_reducible refine wpList_load_evo _ wr.heap.size 0 e ax cx R1 ?_ rfl ?_); exact rfl)
            | ((with_reducible refine wpList_load_evo _ W1.heap.size 0 f ay cy R2 ?_ rfl ?_); exact rfl)
            | (go_at_call 92; (with_reducible refine (HS.out _ D1 D2).mono ?_); rintro v w5 ⟨rfl, hb5⟩))
          have hib := below2 hbt3 hb5
          go_ret
          exact ⟨ret_bool HE.out.symm, hbw.trans (hib.mono hzw)⟩
      · have hlm : ¬ k < m.length := by omega
        have HE : Hid (decide (evsOf l = evsOf m) = true) := decide_eq_true (take_all (k := k) (by rw [evsOf_length]; exact hlt) (by rw [evsOf_length]; exact hlm) HP.out)
        go_wp2
        go_ret
        exact ⟨ret_bool HE.out.symm, hbw⟩
  · have HE : Hid (decide (evsOf l = evsOf m) = false) := decide_eq_false (len_ne (by rw [evsOf_length, evsOf_length]; exact hlen))
    have hb1 : ((l.length : Nat) != (m.length : Nat)) = true := by rw [bne_iff_ne]; exact hlen
    have hb2 : ((l.length : Int) != (m.length : Int)) = true := by rw [bne_iff_ne]; omega
    clear hlen
    go_enter Tryz.func91, Tryz.ntmps91
    go_wp2
    go_ret
    exact ⟨ret_bool HE.out.symm, by go_grown⟩
/-- few and short -/
def lightAll (n : Nat) (ls : List Ev) : Bool := decide (ls.length ≤ n) && ls.all light
set_option maxRecDepth 100000 in
set_option maxHeartbeats 2000000 in
theorem LightAll_any (a : Option Addr) (cap n : Nat) (l : List EvIt) (w : World) (hn : n ≤ 1073741824) (hl : l.length ≤ maxLen) (h : EvsIn w a l)
    (hs : ∀ x ∈ l, x.1.over.length ≤ maxLen ∧ x.1.key.name.size ≤ maxLen ∧ x.1.key.domain.size ≤ maxLen ∧ x.1.key.path.size ≤ maxLen ∧ x.1.ck.value.size ≤ maxLen) :
    Calls Tryz.prog 74 #[.slice a l.length cap, .int .i64 n] w fun x w' => x = .returned (.bool (lightAll n (evsOf l))) ∧ Below w.heap.size w w' := by
  unfold maxLen at hl
  by_cases hle : l.length ≤ n
  · have hdn : decide (n < l.length) = false := decide_eq_false (by omega)
    have hdi : decide ((n : Int) < (l.length : Int)) = false := decide_eq_false (by omega)
    have HV : Hid (lightAll n (evsOf l) = (evsOf l).all light) := by unfold Hid lightAll; rw [evsOf_length, decide_eq_true hle]; rfl
    go_enter Tryz.func74, Tryz.ntmps74
    go_wp2
    go_loopw [5] (fun i wr => ∃ k : Nat, k ≤ l.length ∧ i = .int .i64 k ∧ lightAll n (evsOf l) = ((evsOf l).drop k).all light ∧ Below w.heap.size w wr) (fun i _ => l.length - (intOf i).toNat)
    case atStart => exact ⟨0, Nat.zero_le _, rfl, HV.out, Below.refl _ _⟩
    case round =>
      obtain ⟨k, hk, rfl, hpre, hbw⟩ := hrel
      have HP := Lib.hid hpre
      clear hpre HV
      have hzw := hbw.size
      by_cases hlt : k < l.length
      · obtain ⟨A, off, rfl, hra, hda⟩ := (h.kept hbw).at hlt
        have r1 := hra k hlt
        have g1 := @evsOf_at l k hlt
        have hd : (evsOf l).drop k = l[k].1 :: (evsOf l).drop (k + 1) := by rw [List.drop_eq_getElem_cons (by rw [evsOf_length]; exact hlt), g1]
        obtain ⟨m1, m2, m3, m4, m5⟩ := hs _ (List.getElem_mem hlt)
        have HT : Hid (lightAll n (evsOf l) = (light l[k].1 && ((evsOf l).drop (k + 1)).all light)) := by rw [Hid, HP.out, hd, List.all_cons]
        clear hra g1 hd HP hda
        generalize l[k] = x at *
        obtain ⟨e, ax, cx⟩ := x
        simp only [itEv] at *
        have hL0 := fun (W : World) => Light_any e ax cx W m1 m2 m3 m4 m5
        cases hli : light e with
        | true =>
          have HE : Hid (lightAll n (evsOf l) = ((evsOf l).drop (k + 1)).all light) := by rw [Hid, HT.out, hli]; rfl
          rw [hli] at hL0
          have HL := Lib.hid hL0
          clear hL0 HT hli m1 m2 m3 m4 m5
          go_wp2_with (first
            | ((with_reducible refine wpList_load_evo _ A (off + k * 19) e ax cx r1 ?_ rfl ?_); exact rfl)
            | (go_at_call 10; (with_reducible refine (HL.out _).mono ?_); rintro v w1 ⟨rfl, hb⟩))
          go_roundw
          case rel => exact ⟨k + 1, by omega, by go_num, HE.out, hbw.trans (hb.mono hzw)⟩
          case measure => simp [intOf] <;> omega
        | false =>
          have HE : Hid (lightAll n (evsOf l) = false) := by rw [Hid, HT.out, hli]; rfl
          rw [hli] at hL0
          have HL := Lib.hid hL0
          clear hL0 HT hli m1 m2 m3 m4 m5
          go_wp2_with (first
            | ((with_reducible refine wpList_load_evo _ A (off + k * 19) e ax cx r1 ?_ rfl ?_); exact rfl)
            | (go_at_call 10; (with_reducible refine (HL.out _).mono ?_); rintro v w1 ⟨rfl, hb⟩))
          go_ret
          exact ⟨ret_bool HE.out.symm, hbw.trans (hb.mono hzw)⟩
      · have HE : Hid (lightAll n (evsOf l) = true) := by rw [Hid, HP.out, List.drop_eq_nil_of_le (by rw [evsOf_length]; omega)]; rfl
        go_wp2
        go_ret
        exact ⟨ret_bool HE.out.symm, hbw⟩
  · have hdn : decide (n < l.length) = true := decide_eq_true (by omega)
    have hdi : decide ((n : Int) < (l.length : Int)) = true := decide_eq_true (by omega)
    have HE : Hid (lightAll n (evsOf l) = false) := by unfold Hid lightAll; rw [evsOf_length, decide_eq_false hle]; rfl
    go_enter Tryz.func74, Tryz.ntmps74
    go_wp2
    go_ret
    exact ⟨ret_bool HE.out.symm, by go_grown⟩
/-! ### do they rise -/
def evNext : Option Ev → Ev → Bool
  | none, _ => true
  | some y, x => dotLt y.dot x.dot
def risingFrom : Option Ev → List Ev → Bool
  | _, [] => true
  | p, x :: r => evOk x && (evNext p x && risingFrom (some x) r)
def prevEv (l : List Ev) : Nat → Option Ev
  | 0 => none
  | k + 1 => l[k]?
theorem risingFrom_step (l : List Ev) (k : Nat) (h : k < l.length) : risingFrom (prevEv l k) (l.drop k) = (evOk l[k] && (evNext (prevEv l k) l[k] && risingFrom (prevEv l (k + 1)) (l.drop (k + 1)))) := by
  rw [List.drop_eq_getElem_cons h, risingFrom]
  have : prevEv l (k + 1) = some l[k] := by simp [prevEv, h]
  rw [this]
def risingOk (l : List Ev) : Bool := risingFrom none l && decide (l.length ≤ 256)
set_option maxRecDepth 100000 in
set_option maxHeartbeats 4000000 in
theorem rising_any (a : Option Addr) (cap : Nat) (l : List EvIt) (w : World) (hl : l.length ≤ 1073741824) (hs : EvsSmall l) (h : EvsIn w a l) :
    Calls Tryz.prog 78 #[.slice a l.length cap] w fun x w' => x = .returned (.bool (risingOk (evsOf l))) ∧ Below w.heap.size w w' := by
  have HM : Hid (risingFrom none (evsOf l) = risingFrom (prevEv (evsOf l) 0) ((evsOf l).drop 0)) := rfl
  have HO : Hid (risingOk (evsOf l) = (risingFrom none (evsOf l) && decide (l.length ≤ 256))) := by unfold Hid risingOk; rw [evsOf_length]
  go_enter Tryz.func78, Tryz.ntmps78
  go_wp2
  go_loopw [7] (fun i wr => ∃ k : Nat, k ≤ l.length ∧ i = .int .i64 k ∧ risingFrom none (evsOf l) = risingFrom (prevEv (evsOf l) k) ((evsOf l).drop k) ∧ Below w.heap.size w wr) (fun i _ => l.length - (intOf i).toNat)
  case atStart => exact ⟨0, Nat.zero_le _, rfl, HM.out, Below.refl _ _⟩
  case round =>
    obtain ⟨k, hk, rfl, hpre, hbw⟩ := hrel
    have HP := Lib.hid hpre
    clear hpre HM
    have hzw := hbw.size
    by_cases hlt : k < l.length
    · obtain ⟨A, off, rfl, hra, hda⟩ := (h.kept hbw).at hlt
      have r1 := hra k hlt
      have g1 := @evsOf_at l k hlt
      have hsx := hs _ (List.getElem_mem hlt)
      have hst := risingFrom_step (evsOf l) k (by rw [evsOf_length]; exact hlt)
      rw [g1] at hst
      have HT : Hid (risingFrom none (evsOf l) = (evOk l[k].1 && (evNext (prevEv (evsOf l) k) l[k].1 && risingFrom (prevEv (evsOf l) (k + 1)) ((evsOf l).drop (k + 1))))) := by rw [Hid, HP.out, hst]
      clear g1 hst HP
      generalize l[k] = x at hda r1 hsx HT
      obtain ⟨e, ax, cx⟩ := x
      simp only [itEv] at *
      have hR0 := fun (W : World) (h : DotsIn W ax e.over) => eventRight_any e ax cx W hsx h
      go_upto_region 4 with (first
        | ((with_reducible refine wpList_load_evo _ A (off + k * 19) e ax cx r1 ?_ rfl ?_); exact rfl)
        | (refine wpList_store_new 34 _ _ _ (evCells e ax cx).toArray rfl rfl (by kernel_rfl) rfl (by kernel_rfl) ?_))
      refine wp_name (fun W1 hW1 => ?_)
      have hB1 : Below wr.heap.size wr W1 := by rw [hW1.out]; exact (Below.refl _ _).alloc (Nat.le_refl _) _
      have R1 : W1.rangeAt wr.heap.size 0 (evCells e ax cx) := by rw [hW1.out]; exact evCells_box e ax cx wr _
      replace hda := hda.kept hB1
      have hBB := hbw.trans (hB1.mono hzw)
      clear hW1 r1
      cases h1 : evOk e with
      | false =>
        have HE : Hid (risingOk (evsOf l) = false) := by rw [Hid, HO.out, HT.out, h1]; rfl
        rw [h1] at hR0
        have HR := Lib.hid hR0
        have HC : Hid True := trivial
        clear hR0 h1 HT hra
        refine wp_region_after (by kernel_rfl) (by kernel_rfl) (fun W2 hW2 => ?_)
        have RX : W2.rangeAt wr.heap.size 0 (evCells e ax cx) := by rw [hW2.out]; exact R1
        have D1 : ∀ i : After W2, DotsIn i.w ax e.over := fun i => (show DotsIn W2 ax e.over by rw [hW2.out]; exact hda).kept i.h
        have b0 : ∀ i : After W2, i.w.cell? ⟨wr.heap.size, 0, none⟩ = some (.int .i64 e.dot.a.dev) := fun i => by have := rangeAt_kept RX i.h 0 _ rfl; rwa [Nat.zero_add] at this
        have b1 : ∀ i : After W2, i.w.cell? ⟨wr.heap.size, 1, none⟩ = some (.int .i64 e.dot.a.inc) := fun i => by have := rangeAt_kept RX i.h 1 _ rfl; rwa [Nat.zero_add] at this
        have b2 : ∀ i : After W2, i.w.cell? ⟨wr.heap.size, 2, none⟩ = some (.int .i64 e.dot.seq) := fun i => by have := rangeAt_kept RX i.h 2 _ rfl; rwa [Nat.zero_add] at this
        skip
        ((with_reducible refine wpQuiet_load_evo _ wr.heap.size 0 e ax cx RX ?_ rfl ?_); exact rfl; go_simp)
        go_big_quiet_step (exact Calls.after (HR.out _ (D1 _)))
        go_big_quiet_step (fail)
        go_big_quiet_step (fail)
        go_big_quiet_step (fail)
        go_big_quiet_step (fail)
        go_big_quiet_step (fail)
        go_big_quiet_step (fail)
        go_big_quiet_step (fail)
        go_big_quiet_step (fail)
        go_big_quiet_step (fail)
        go_big_quiet_step (fail)
        go_big_quiet_step (fail)
        go_big_quiet_step (fail)
        go_big_quiet_step (fail)
        go_big_quiet_step (exact Calls.after (HC.out _))
        go_big_quiet_step (fail)
        go_big_quiet_step (fail)
        go_big_quiet_step (fail)
        refine wpQuiet_nil ?_
        first | (intro _ hi; obtain ⟨i, rfl⟩ := hi) | intro i
        have hib := i.h
        clear D1 RX b0 b1 b2
        skip
        generalize i.w = wi at hib ⊢
        rw [hW2.out] at hib
        go_wp2
        go_ret
        exact ⟨ret_bool HE.out.symm, hBB.trans (hib.mono hBB.size)⟩
      | true =>
        rw [h1] at hR0
        have HR := Lib.hid hR0
        have HT1 : Hid (risingFrom none (evsOf l) = (evNext (prevEv (evsOf l) k) e && risingFrom (prevEv (evsOf l) (k + 1)) ((evsOf l).drop (k + 1)))) := by rw [Hid, HT.out, h1]; rfl
        clear hR0 h1 HT
        rcases Nat.eq_zero_or_pos k with hk0 | hk0
        · have hk00 : ¬ 0 < k := by omega
          have hdk : decide (0 < k) = false := by simp; omega
          have HE : Hid (risingFrom none (evsOf l) = risingFrom (prevEv (evsOf l) (k + 1)) ((evsOf l).drop (k + 1))) := by rw [Hid, HT1.out]; subst hk0; rfl
          have HC : Hid True := trivial
          clear HT1 hk0 hra
          refine wp_region_after (by kernel_rfl) (by kernel_rfl) (fun W2 hW2 => ?_)
          have RX : W2.rangeAt wr.heap.size 0 (evCells e ax cx) := by rw [hW2.out]; exact R1
          have D1 : ∀ i : After W2, DotsIn i.w ax e.over := fun i => (show DotsIn W2 ax e.over by rw [hW2.out]; exact hda).kept i.h
          have b0 : ∀ i : After W2, i.w.cell? ⟨wr.heap.size, 0, none⟩ = some (.int .i64 e.dot.a.dev) := fun i => by have := rangeAt_kept RX i.h 0 _ rfl; rwa [Nat.zero_add] at this
          have b1 : ∀ i : After W2, i.w.cell? ⟨wr.heap.size, 1, none⟩ = some (.int .i64 e.dot.a.inc) := fun i => by have := rangeAt_kept RX i.h 1 _ rfl; rwa [Nat.zero_add] at this
          have b2 : ∀ i : After W2, i.w.cell? ⟨wr.heap.size, 2, none⟩ = some (.int .i64 e.dot.seq) := fun i => by have := rangeAt_kept RX i.h 2 _ rfl; rwa [Nat.zero_add] at this
          skip
          ((with_reducible refine wpQuiet_load_evo _ wr.heap.size 0 e ax cx RX ?_ rfl ?_); exact rfl; go_simp)
          go_big_quiet_step (exact Calls.after (HR.out _ (D1 _)))
          go_big_quiet_step (fail)
          go_big_quiet_step (fail)
          go_big_quiet_step (fail)
          go_big_quiet_step (fail)
          go_big_quiet_step (fail)
          go_big_quiet_step (fail)
          go_big_quiet_step (fail)
          go_big_quiet_step (fail)
          go_big_quiet_step (fail)
          go_big_quiet_step (fail)
          go_big_quiet_step (fail)
          go_big_quiet_step (fail)
          go_big_quiet_step (fail)
          go_big_quiet_step (exact Calls.after (HC.out _))
          go_big_quiet_step (fail)
          go_big_quiet_step (fail)
          go_big_quiet_step (fail)
          refine wpQuiet_nil ?_
          first | (intro _ hi; obtain ⟨i, rfl⟩ := hi) | intro i
          have hib := i.h
          clear D1 RX b0 b1 b2
          skip
          generalize i.w = wi at hib ⊢
          rw [hW2.out] at hib
          go_wp2
          go_roundw
          case rel => exact ⟨k + 1, by omega, by go_num, HE.out, hBB.trans (hib.mono hBB.size)⟩
          case measure => simp [intOf] <;> omega
        · obtain ⟨j, rfl⟩ : ∃ j, k = j + 1 := ⟨k - 1, by omega⟩
          have hj : j < l.length := by omega
          have r0 := rangeAt_kept (hra j hj) hB1
          have hpv : prevEv (evsOf l) (j + 1) = some l[j].1 := by simp [prevEv, evsOf, hj]
          rw [hpv] at HT1
          clear hra hpv
          generalize l[j] = q at r0 HT1
          obtain ⟨p, ap, cp⟩ := q
          simp only [itEv] at *
          have f0 : W1.cell? ⟨A, off + j * 19, none⟩ = some (.int .i64 p.dot.a.dev) := by have := r0 0 _ rfl; rwa [Nat.add_zero] at this
          have f1 : W1.cell? ⟨A, off + j * 19 + 1, none⟩ = some (.int .i64 p.dot.a.inc) := r0 1 _ rfl
          have f2 : W1.cell? ⟨A, off + j * 19 + 2, none⟩ = some (.int .i64 p.dot.seq) := r0 2 _ rfl
          have hC0 := fun (W : World) => less_any p.dot e.dot W
          have hdk : decide ((0 : Int) < (j : Int) + 1) = true := by simp <;> omega
          have hww : IntKind.i64.wrap ((j : Int) + 1 - 1) = (j : Int) := by rw [show (j : Int) + 1 - 1 = j by omega]; exact IntWalk.i64_in _ (by omega)
          clear r0
          cases h2 : dotLt p.dot e.dot with
          | false =>
            have HE : Hid (risingOk (evsOf l) = false) := by rw [Hid, HO.out, HT1.out]; simp [evNext, h2]
            rw [h2] at hC0
            have HC := Lib.hid hC0
            clear h2 HT1 hC0
            refine wp_region_after (by kernel_rfl) (by kernel_rfl) (fun W2 hW2 => ?_)
            have RX : W2.rangeAt wr.heap.size 0 (evCells e ax cx) := by rw [hW2.out]; exact R1
            have D1 : ∀ i : After W2, DotsIn i.w ax e.over := fun i => (show DotsIn W2 ax e.over by rw [hW2.out]; exact hda).kept i.h
            have b0 : ∀ i : After W2, i.w.cell? ⟨wr.heap.size, 0, none⟩ = some (.int .i64 e.dot.a.dev) := fun i => by have := rangeAt_kept RX i.h 0 _ rfl; rwa [Nat.zero_add] at this
            have b1 : ∀ i : After W2, i.w.cell? ⟨wr.heap.size, 1, none⟩ = some (.int .i64 e.dot.a.inc) := fun i => by have := rangeAt_kept RX i.h 1 _ rfl; rwa [Nat.zero_add] at this
            have b2 : ∀ i : After W2, i.w.cell? ⟨wr.heap.size, 2, none⟩ = some (.int .i64 e.dot.seq) := fun i => by have := rangeAt_kept RX i.h 2 _ rfl; rwa [Nat.zero_add] at this
            have g0 : ∀ i : After W2, i.w.cell? ⟨A, off + j * 19, none⟩ = some (.int .i64 p.dot.a.dev) := fun i => i.cell (by rw [hW2.out]; exact f0)
            have g1 : ∀ i : After W2, i.w.cell? ⟨A, off + j * 19 + 1, none⟩ = some (.int .i64 p.dot.a.inc) := fun i => i.cell (by rw [hW2.out]; exact f1)
            have g2 : ∀ i : After W2, i.w.cell? ⟨A, off + j * 19 + 2, none⟩ = some (.int .i64 p.dot.seq) := fun i => i.cell (by rw [hW2.out]; exact f2)
            ((with_reducible refine wpQuiet_load_evo _ wr.heap.size 0 e ax cx RX ?_ rfl ?_); exact rfl; go_simp)
            go_big_quiet_step (exact Calls.after (HR.out _ (D1 _)))
            go_big_quiet_step (fail)
            go_big_quiet_step (fail)
            go_big_quiet_step (fail)
            go_big_quiet_step (fail)
            go_big_quiet_step (fail)
            go_big_quiet_step (fail)
            go_big_quiet_step (fail)
            go_big_quiet_step (fail)
            go_big_quiet_step (fail)
            go_big_quiet_step (fail)
            go_big_quiet_step (fail)
            go_big_quiet_step (fail)
            go_big_quiet_step (fail)
            go_big_quiet_step (exact Calls.after (HC.out _))
            go_big_quiet_step (fail)
            go_big_quiet_step (fail)
            go_big_quiet_step (fail)
            refine wpQuiet_nil ?_
            first | (intro _ hi; obtain ⟨i, rfl⟩ := hi) | intro i
            have hib := i.h
            clear D1 RX b0 b1 b2
            clear g0 g1 g2 hww
            generalize i.w = wi at hib ⊢
            rw [hW2.out] at hib
            go_wp2
            go_ret
            exact ⟨ret_bool HE.out.symm, hBB.trans (hib.mono hBB.size)⟩
          | true =>
            have HE : Hid (risingFrom none (evsOf l) = risingFrom (prevEv (evsOf l) (j + 1 + 1)) ((evsOf l).drop (j + 1 + 1))) := by rw [Hid, HT1.out]; simp [evNext, h2]
            rw [h2] at hC0
            have HC := Lib.hid hC0
            clear h2 HT1 hC0
            refine wp_region_after (by kernel_rfl) (by kernel_rfl) (fun W2 hW2 => ?_)
            have RX : W2.rangeAt wr.heap.size 0 (evCells e ax cx) := by rw [hW2.out]; exact R1
            have D1 : ∀ i : After W2, DotsIn i.w ax e.over := fun i => (show DotsIn W2 ax e.over by rw [hW2.out]; exact hda).kept i.h
            have b0 : ∀ i : After W2, i.w.cell? ⟨wr.heap.size, 0, none⟩ = some (.int .i64 e.dot.a.dev) := fun i => by have := rangeAt_kept RX i.h 0 _ rfl; rwa [Nat.zero_add] at this
            have b1 : ∀ i : After W2, i.w.cell? ⟨wr.heap.size, 1, none⟩ = some (.int .i64 e.dot.a.inc) := fun i => by have := rangeAt_kept RX i.h 1 _ rfl; rwa [Nat.zero_add] at this
            have b2 : ∀ i : After W2, i.w.cell? ⟨wr.heap.size, 2, none⟩ = some (.int .i64 e.dot.seq) := fun i => by have := rangeAt_kept RX i.h 2 _ rfl; rwa [Nat.zero_add] at this
            have g0 : ∀ i : After W2, i.w.cell? ⟨A, off + j * 19, none⟩ = some (.int .i64 p.dot.a.dev) := fun i => i.cell (by rw [hW2.out]; exact f0)
            have g1 : ∀ i : After W2, i.w.cell? ⟨A, off + j * 19 + 1, none⟩ = some (.int .i64 p.dot.a.inc) := fun i => i.cell (by rw [hW2.out]; exact f1)
            have g2 : ∀ i : After W2, i.w.cell? ⟨A, off + j * 19 + 2, none⟩ = some (.int .i64 p.dot.seq) := fun i => i.cell (by rw [hW2.out]; exact f2)
            ((with_reducible refine wpQuiet_load_evo _ wr.heap.size 0 e ax cx RX ?_ rfl ?_); exact rfl; go_simp)
            go_big_quiet_step (exact Calls.after (HR.out _ (D1 _)))
            go_big_quiet_step (fail)
            go_big_quiet_step (fail)
            go_big_quiet_step (fail)
            go_big_quiet_step (fail)
            go_big_quiet_step (fail)
            go_big_quiet_step (fail)
            go_big_quiet_step (fail)
            go_big_quiet_step (fail)
            go_big_quiet_step (fail)
            go_big_quiet_step (fail)
            go_big_quiet_step (fail)
            go_big_quiet_step (fail)
            go_big_quiet_step (fail)
            go_big_quiet_step (exact Calls.after (HC.out _))
            go_big_quiet_step (fail)
            go_big_quiet_step (fail)
            go_big_quiet_step (fail)
            refine wpQuiet_nil ?_
            first | (intro _ hi; obtain ⟨i, rfl⟩ := hi) | intro i
            have hib := i.h
            clear D1 RX b0 b1 b2
            clear g0 g1 g2 hww
            generalize i.w = wi at hib ⊢
            rw [hW2.out] at hib
            go_wp2
            go_roundw
            case rel => exact ⟨j + 1 + 1, by omega, by go_num, HE.out, hBB.trans (hib.mono hBB.size)⟩
            case measure => simp [intOf] <;> omega
    · have HE : Hid (risingOk (evsOf l) = decide (l.length ≤ 256)) := by
        rw [Hid, HO.out, HP.out, List.drop_eq_nil_of_le (by rw [evsOf_length]; omega)]; cases prevEv (evsOf l) k <;> rfl
      clear HP HO
      go_wp2
      go_ret
      rw [HE.out]
      exact ⟨ret_bool (by first | rfl | (rw [Bool.eq_iff_iff, decide_eq_true_eq, decide_eq_true_eq]; omega)), hbw⟩
end Go.Proofs.YtnpdfmpjjomhcaaGreat
