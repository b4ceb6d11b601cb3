/- Marks: may they be, are they the same. A mark's cells are a dot's. Conditions: at most 2^30 marks. -/
import Derived.Test.YtdlmbflhbecggaaGreatDot
import Derived.Test.YtdlmbflhbecggaaGreatLoad
set_option linter.unusedSimpArgs false
set_option linter.unusedVariables false
set_option linter.unnecessarySimpa false
set_option maxHeartbeats 16000000
set_option maxRecDepth 100000
namespace Go.Proofs.YtdlmbflhbecggaaGreat
open Go.RowKit
theorem Dv : Tryz.prog.eqGuardType Tryz.prog.depth 113 = false := by kernel_rfl
theorem Ob (W : World) (d : Nat) (a b : Dot) : (Op.equalIn (d + 3) 113 (.agg #[.int .i64 a.a.dev, .int .i64 a.a.inc, .int .i64 a.seq]) (.agg #[.int .i64 b.a.dev, .int .i64 b.a.inc, .int .i64 b.seq])).run Tryz.prog W = .ok (decide (a = b)) W := by
 rw [run_equalIn_agg W (d + 2) 113 _ _ (by kernel_rfl) (by kernel_rfl), je Tryz.underlying113]
 simp only [Op.eqFields]
 have h0 := qH W d a.a b.a
 simp only [qK] at h0
 go_simp
 simp only [G5]
 repeat' split
 all_goals simp_all
theorem xI (a b : Option Addr) (ca cb : Nat) (l m : List Dot) (w : World) (hl : l.length ≤ 1073741824) (hm : m.length ≤ 1073741824) (ha : DotsIn w a l) (hb : DotsIn w b m) :
 Calls Tryz.prog 38 #[.slice a l.length ca, .slice b m.length cb] w fun x w' => x = .returned (.bool (decide (l = m))) ∧ Below w.heap.size w w' := by
 by_cases hlen : l.length = m.length
 ·have hb1 : ((l.length : Nat) != (m.length : Nat)) = false := by rw [bne_eq_false_iff_eq]; exact hlen
  have hb2 : ((l.length : Int) != (m.length : Int)) = false := by rw [bne_eq_false_iff_eq]; omega
  have hl1 : l.length ≤ m.length := by omega
  have hl2 : m.length ≤ l.length := by omega
  clear hlen
  go_enter Tryz.func38, Tryz.ntmps38
  go_wp2
  go_loopw [5] (fun i wr => ∃ k : Nat, k ≤ l.length ∧ i = .int .i64 k ∧ l.take k = m.take k ∧ Below w.heap.size w wr) (fun i _ => l.length - (intOf i).toNat)
  case atStart => exact ⟨0, Nat.zero_le _, rfl, rfl, by go_grown⟩
  case round =>
        obtain ⟨k, hk, rfl, hpre, hbw⟩ := hrel
        have HP := Lib.hid hpre
        clear hpre
        by_cases hlt : k < l.length
        ·have hlm : k < m.length := by omega
         rcases ha with h | ⟨A, off, rfl, hda⟩
         ·rw [h] at hlt; simp at hlt
         rcases hb with h | ⟨B, ofb, rfl, hdb⟩
         ·rw [h] at hlm; simp at hlm
         have x0 := (hda.kept hbw).dev k hlt
         have x1 := (hda.kept hbw).inc k hlt
         have x2 := (hda.kept hbw).seq k hlt
         have y0 := (hdb.kept hbw).dev k hlm
         have y1 := (hdb.kept hbw).inc k hlm
         have y2 := (hdb.kept hbw).seq k hlm
         have hEq := fun (W : World) => Ob W 9997 l[k] m[k]
         have hm := Dv
         by_cases he : l[k] = m[k]
         ·rw [decide_eq_true he] at hEq
          have HS := Lib.hid (qp hlt hlm HP.out he)
          clear he
          generalize l[k] = x at *
          generalize m[k] = y at *
          go_wp2
          go_quiet (fail)
          go_wp2
          go_roundw
          case rel => exact ⟨k + 1, by omega, by go_num, HS.out, below_drewN hbw nq⟩
          case measure => simp [intOf] <;> omega
         ·have HE : Hid (decide (l = m) = false) := decide_eq_false (wQ hlt hlm he)
          rw [decide_eq_false he] at hEq
          clear he
          generalize l[k] = x at *
          generalize m[k] = y at *
          go_wp2
          go_quiet (fail)
          go_wp2
          go_ret
          exact ⟨ah HE.out.symm, below_drewN hbw nq⟩
        ·have hlm : ¬ k < m.length := by omega
         have HE : Hid (decide (l = m) = true) := decide_eq_true (sG hlt hlm HP.out)
         go_wp2
         go_ret
         exact ⟨ah HE.out.symm, hbw⟩
 ·have HE : Hid (decide (l = m) = false) := decide_eq_false (BL hlen)
  have hb1 : ((l.length : Nat) != (m.length : Nat)) = true := by rw [bne_iff_ne]; exact hlen
  have hb2 : ((l.length : Int) != (m.length : Int)) = true := by rw [bne_iff_ne]; omega
  clear hlen
  go_enter Tryz.func38, Tryz.ntmps38
  go_wp2
  go_ret
  exact ⟨ah HE.out.symm, by go_grown⟩
/-! ### may marks be? -/
def jD : Option Dot → Dot → Bool
 | none, _ => true
 | some y, x => bP y.a x.a
def dh : Option Dot → List Dot → Int
 | _, [] => 0
 | p, x :: r => if bK x = true then (if jD p x = true then dh (some x) r else 6) else 4
def aU (l : List Dot) : Int := if 4096 < l.length then 3 else dh none l
theorem pG (l : List Dot) (k : Nat) (h : k < l.length) : dh (aX l k) (l.drop k) = if bK l[k] = true then (if jD (aX l k) l[k] = true then dh (aX l (k + 1)) (l.drop (k + 1)) else 6) else 4 := by
 rw [List.drop_eq_getElem_cons h, dh]
 have : aX l (k + 1) = some l[k] := by simp [aX, h]
 rw [this]
theorem Ep (a b : Actor) : decide (0 ≤ dQ a b) = !bP a b := by
 unfold dQ bP orI lm
 rw [Bool.eq_iff_iff]
 simp
 repeat' split
 all_goals omega
theorem Es (a b : Actor) : -1 ≤ dQ a b ∧ dQ a b ≤ 1 := by
 unfold dQ orI lm
 repeat' split
 all_goals omega
theorem AY (a : Actor) (n : Int) (w : World) :
 Calls Tryz.prog 108 #[.agg #[.int .i64 a.dev, .int .i64 a.inc], .int .i64 n] w fun e w' => e = .returned (.bool (bK ⟨a, n⟩)) ∧ Below w.heap.size w w' := by
 have HR := Lib.hid (fun (W : World) => iK ⟨a, n⟩ W)
 go_enter Tryz.func108, Tryz.ntmps108
 go_wp2_with (go_at_call 65; (with_reducible refine (HR.out _).mono ?_); rintro x w1 ⟨rfl, hb⟩)
 go_ret
 exact ⟨rfl, below2 (by go_grown) hb⟩
theorem lF (a : Option Addr) (cap : Nat) (l : List Dot) (w : World) (hl : l.length ≤ 1073741824) (hd : DotsIn w a l) :
 Calls Tryz.prog 57 #[.slice a l.length cap] w fun e w' => e = .returned (.int .i64 (aU l)) ∧ Below w.heap.size w w' := by
 by_cases h40 : l.length ≤ 4096
 ·have HM : Hid (aU l = dh (aX l 0) (l.drop 0)) := by unfold Hid aU; rw [if_neg (by omega)]; rfl
  go_enter Tryz.func57, Tryz.ntmps57
  go_wp2
  go_loopw [10] (fun i wr => ∃ k : Nat, k ≤ l.length ∧ i = .int .i64 k ∧ aU l = dh (aX l k) (l.drop k) ∧ Below w.heap.size w wr) (fun i _ => l.length - (intOf i).toNat)
  case atStart => exact ⟨0, Nat.zero_le _, rfl, HM.out, Below.refl _ _⟩
  case round =>
   obtain ⟨k, hk, rfl, hpre, hbw⟩ := hrel
   have HP := Lib.hid hpre
   clear hpre HM
   have hzw := hbw.size
   by_cases hlt : k < l.length
   ·have hst := pG l k hlt
    rcases hd with h | ⟨A, off, rfl, hda⟩
    ·rw [h] at hlt; simp at hlt
    have e0 := (hda.kept hbw).dev k hlt
    have e1 := (hda.kept hbw).inc k hlt
    have e2 := (hda.kept hbw).seq k hlt
    have HT : Hid (aU l = if bK l[k] = true then (if jD (aX l k) l[k] = true then dh (aX l (k + 1)) (l.drop (k + 1)) else 6) else 4) := by rw [Hid, HP.out, hst]
    clear hst HP
    generalize l[k] = x at e0 e1 e2 HT
    go_upto_region 6 with fail
    refine au (fun W1 hW1 => ?_)
    have hB1 : Below wr.heap.size wr W1 := by rw [hW1.out]; go_grown
    have x0 : W1.cell? ⟨wr.heap.size, 0, none⟩ = some (.int .i64 x.a.dev) := by rw [hW1.out]; go_simp
    have x1 : W1.cell? ⟨wr.heap.size, 1, none⟩ = some (.int .i64 x.a.inc) := by rw [hW1.out]; go_simp
    have x2 : W1.cell? ⟨wr.heap.size, 2, none⟩ = some (.int .i64 x.seq) := by rw [hW1.out]; go_simp
    have hBB := hbw.trans (hB1.mono hzw)
    clear hW1 e0 e1 e2
    have hR0 := fun (W : World) => AY x.a x.seq W
    cases h1 : bK x with
    | false =>
      have HE : Hid (aU l = 4) := by rw [Hid, HT.out, h1]; rfl
      rw [show bK ⟨x.a, x.seq⟩ = bK x from rfl, h1] at hR0
      have HR := Lib.hid hR0
      clear hR0 h1 HT
      go_wp2_with (go_at_call 108; (with_reducible refine (HR.out _).mono ?_); rintro v w1 ⟨rfl, hb⟩)
      go_ret
      exact ⟨bT HE.out.symm, hBB.trans (hb.mono hBB.size)⟩
    | true =>
      have HT1 : Hid (aU l = if jD (aX l k) x = true then dh (aX l (k + 1)) (l.drop (k + 1)) else 6) := by rw [Hid, HT.out, h1]; rfl
      rw [show bK ⟨x.a, x.seq⟩ = bK x from rfl, h1] at hR0
      have HR := Lib.hid hR0
      clear hR0 h1 HT
      go_upto_region 8 with (go_at_call 108; (with_reducible refine (HR.out _).mono ?_); rintro v w1 ⟨rfl, hb⟩)
      have pW := hBB.trans (hb.mono hBB.size)
      replace x0 := kept hb x0
      replace x1 := kept hb x1
      replace x2 := kept hb x2
      clear hb hB1 hBB HR
      rcases Nat.eq_zero_or_pos k with hk0 | hk0
      ·have FU : ¬ 0 < k := by omega
       have hdk : decide (0 < k) = false := by simp; omega
       have HE : Hid (aU l = dh (aX l (k + 1)) (l.drop (k + 1))) := by rw [Hid, HT1.out]; subst hk0; rfl
       clear HT1 hk0
       have HC : Hid True := trivial
       refine ai (by kernel_rfl) (by kernel_rfl) (fun W2 hW2 => ?_)
       have b0 : ∀ i : After W2, i.w.cell? ⟨wr.heap.size, 0, none⟩ = some (.int .i64 x.a.dev) := fun i => i.cell (by rw [hW2.out]; exact x0)
       have b1 : ∀ i : After W2, i.w.cell? ⟨wr.heap.size, 1, none⟩ = some (.int .i64 x.a.inc) := fun i => i.cell (by rw [hW2.out]; exact x1)
       have b2 : ∀ i : After W2, i.w.cell? ⟨wr.heap.size, 2, none⟩ = some (.int .i64 x.seq) := fun i => i.cell (by rw [hW2.out]; exact x2)
       skip
       iterate 11 go_big_quiet_step (fail)
       go_big_quiet_step (exact Calls.after (HC.out _))
       iterate 3 go_big_quiet_step (fail)
       refine wpQuiet_nil ?_
       rintro _ ⟨i, rfl⟩
       have hib := i.h
       clear b0 b1 b2
       skip
       generalize i.w = wi at hib ⊢
       rw [hW2.out] at hib
       go_wp2
       go_roundw
       case rel => exact ⟨k + 1, by omega, by go_num, HE.out, pW.trans (hib.mono pW.size)⟩
       case measure => simp [intOf] <;> omega
      ·obtain ⟨j, rfl⟩ : ∃ j, k = j + 1 := ⟨k - 1, by omega⟩
       have hj : j < l.length := by omega
       have f0 := (hda.kept pW).dev j hj
       have f1 := (hda.kept pW).inc j hj
       have hpv : aX l (j + 1) = some l[j] := by simp [aX, hj]
       rw [hpv] at HT1
       generalize l[j] = y at f0 f1 HT1
       have hC0 := fun (W : World) => uk y.a x.a W
       have hcl := Ep y.a x.a
       have hci := Es y.a x.a
       generalize dQ y.a x.a = c at hC0 hcl hci
       obtain ⟨QQ, QP⟩ := hci
       have HC := Lib.hid hC0
       have hdk : decide ((0 : Int) < (j : Int) + 1) = true := by simp <;> omega
       have hww : IntKind.i64.wrap ((j : Int) + 1 - 1) = (j : Int) := by rw [show (j : Int) + 1 - 1 = j by omega]; exact IntWalk.i64_in _ (by omega)
       clear hC0 hpv
       cases h2 : bP y.a x.a with
       | false =>
         have HE : Hid (aU l = 6) := by rw [Hid, HT1.out]; simp [jD, h2]
         rw [h2] at hcl
         simp only [Bool.not_false] at hcl
         clear h2 HT1
         refine ai (by kernel_rfl) (by kernel_rfl) (fun W2 hW2 => ?_)
         have b0 : ∀ i : After W2, i.w.cell? ⟨wr.heap.size, 0, none⟩ = some (.int .i64 x.a.dev) := fun i => i.cell (by rw [hW2.out]; exact x0)
         have b1 : ∀ i : After W2, i.w.cell? ⟨wr.heap.size, 1, none⟩ = some (.int .i64 x.a.inc) := fun i => i.cell (by rw [hW2.out]; exact x1)
         have b2 : ∀ i : After W2, i.w.cell? ⟨wr.heap.size, 2, none⟩ = some (.int .i64 x.seq) := fun i => i.cell (by rw [hW2.out]; exact x2)
         have g0 : ∀ i : After W2, i.w.cell? ⟨A, off + j * 3, none⟩ = some (.int .i64 y.a.dev) := fun i => i.cell (by rw [hW2.out]; exact f0)
         have g1 : ∀ i : After W2, i.w.cell? ⟨A, off + j * 3 + 1, none⟩ = some (.int .i64 y.a.inc) := fun i => i.cell (by rw [hW2.out]; exact f1)
         iterate 11 go_big_quiet_step (fail)
         go_big_quiet_step (exact Calls.after (HC.out _))
         iterate 3 go_big_quiet_step (fail)
         refine wpQuiet_nil ?_
         rintro _ ⟨i, rfl⟩
         have hib := i.h
         clear b0 b1 b2
         clear g0 g1 hww
         generalize i.w = wi at hib ⊢
         rw [hW2.out] at hib
         go_wp2
         go_ret
         exact ⟨bT HE.out.symm, pW.trans (hib.mono pW.size)⟩
       | true =>
         have HE : Hid (aU l = dh (aX l (j + 1 + 1)) (l.drop (j + 1 + 1))) := by rw [Hid, HT1.out]; simp [jD, h2]
         rw [h2] at hcl
         simp only [Bool.not_true] at hcl
         clear h2 HT1
         refine ai (by kernel_rfl) (by kernel_rfl) (fun W2 hW2 => ?_)
         have b0 : ∀ i : After W2, i.w.cell? ⟨wr.heap.size, 0, none⟩ = some (.int .i64 x.a.dev) := fun i => i.cell (by rw [hW2.out]; exact x0)
         have b1 : ∀ i : After W2, i.w.cell? ⟨wr.heap.size, 1, none⟩ = some (.int .i64 x.a.inc) := fun i => i.cell (by rw [hW2.out]; exact x1)
         have b2 : ∀ i : After W2, i.w.cell? ⟨wr.heap.size, 2, none⟩ = some (.int .i64 x.seq) := fun i => i.cell (by rw [hW2.out]; exact x2)
         have g0 : ∀ i : After W2, i.w.cell? ⟨A, off + j * 3, none⟩ = some (.int .i64 y.a.dev) := fun i => i.cell (by rw [hW2.out]; exact f0)
         have g1 : ∀ i : After W2, i.w.cell? ⟨A, off + j * 3 + 1, none⟩ = some (.int .i64 y.a.inc) := fun i => i.cell (by rw [hW2.out]; exact f1)
         iterate 11 go_big_quiet_step (fail)
         go_big_quiet_step (exact Calls.after (HC.out _))
         iterate 3 go_big_quiet_step (fail)
         refine wpQuiet_nil ?_
         rintro _ ⟨i, rfl⟩
         have hib := i.h
         clear b0 b1 b2
         clear g0 g1 hww
         generalize i.w = wi at hib ⊢
         rw [hW2.out] at hib
         go_wp2
         go_roundw
         case rel => exact ⟨j + 1 + 1, by omega, by go_num, HE.out, pW.trans (hib.mono pW.size)⟩
         case measure => simp [intOf] <;> omega
   ·have HE : Hid (aU l = 0) := by rw [Hid, HP.out, List.drop_eq_nil_of_le (by omega)]; cases aX l k <;> rfl
    clear HP
    go_wp2
    go_ret
    exact ⟨bT HE.out.symm, hbw⟩
 ·have HE : Hid (aU l = 3) := by unfold Hid aU; rw [if_pos (by omega)]
  go_enter Tryz.func57, Tryz.ntmps57
  go_wp2
  go_ret
  exact ⟨bT HE.out.symm, by go_grown⟩
theorem xU (a : Option Addr) (cap : Nat) (l : List Dot) (w : World) (hl : l.length ≤ 1073741824) (hd : DotsIn w a l) :
 Calls Tryz.prog 72 #[.slice a l.length cap] w fun e w' => e = .returned (.int .i64 (aU l)) ∧ Below w.heap.size w w' := by
 by_cases h40 : l.length ≤ 4096
 ·have HM : Hid (aU l = dh (aX l 0) (l.drop 0)) := by unfold Hid aU; rw [if_neg (by omega)]; rfl
  go_enter Tryz.func72, Tryz.ntmps72
  go_wp2
  go_loopw [3] (fun i wr => ∃ k : Nat, k ≤ l.length ∧ i = .int .i64 k ∧ aU l = dh (aX l k) (l.drop k) ∧ Below w.heap.size w wr) (fun i _ => l.length - (intOf i).toNat)
  case atStart => exact ⟨0, Nat.zero_le _, rfl, HM.out, Below.refl _ _⟩
  case round =>
   obtain ⟨k, hk, rfl, hpre, hbw⟩ := hrel
   have HP := Lib.hid hpre
   clear hpre HM
   have hzw := hbw.size
   by_cases hlt : k < l.length
   ·have hst := pG l k hlt
    rcases hd with h | ⟨A, off, rfl, hda⟩
    ·rw [h] at hlt; simp at hlt
    have e0 := (hda.kept hbw).dev k hlt
    have e1 := (hda.kept hbw).inc k hlt
    have e2 := (hda.kept hbw).seq k hlt
    have HT : Hid (aU l = if bK l[k] = true then (if jD (aX l k) l[k] = true then dh (aX l (k + 1)) (l.drop (k + 1)) else 6) else 4) := by rw [Hid, HP.out, hst]
    clear hst HP
    generalize l[k] = x at e0 e1 e2 HT
    go_upto_region 6 with fail
    have hR0 := fun (W : World) => jB x W
    cases h1 : bK x with
    | false =>
      have HE : Hid (aU l = 4) := by rw [Hid, HT.out, h1]; rfl
      rw [h1] at hR0
      have HR := Lib.hid hR0
      clear hR0 h1 HT
      refine ai (by kernel_rfl) (by kernel_rfl) (fun W2 hW2 => ?_)
      have b0 : ∀ i : After W2, i.w.cell? ⟨A, off + k * 3, none⟩ = some (.int .i64 x.a.dev) := fun i => i.cell (by rw [hW2.out]; exact e0)
      have b1 : ∀ i : After W2, i.w.cell? ⟨A, off + k * 3 + 1, none⟩ = some (.int .i64 x.a.inc) := fun i => i.cell (by rw [hW2.out]; exact e1)
      have b2 : ∀ i : After W2, i.w.cell? ⟨A, off + k * 3 + 2, none⟩ = some (.int .i64 x.seq) := fun i => i.cell (by rw [hW2.out]; exact e2)
      skip
      iterate 11 go_big_quiet_step (fail)
      go_big_quiet_step (exact Calls.after (HR.out _))
      go_big_quiet_step (fail)
      refine wpQuiet_nil ?_
      rintro _ ⟨i, rfl⟩
      have hib := i.h
      clear b0 b1 b2
      skip
      generalize i.w = wi at hib ⊢
      rw [hW2.out] at hib
      go_wp2
      go_ret
      exact ⟨bT HE.out.symm, hbw.trans (hib.mono hbw.size)⟩
    | true =>
      have HT1 : Hid (aU l = if jD (aX l k) x = true then dh (aX l (k + 1)) (l.drop (k + 1)) else 6) := by rw [Hid, HT.out, h1]; rfl
      rw [h1] at hR0
      have HR := Lib.hid hR0
      clear hR0 h1 HT
      refine ai (by kernel_rfl) (by kernel_rfl) (fun W2 hW2 => ?_)
      have b0 : ∀ i : After W2, i.w.cell? ⟨A, off + k * 3, none⟩ = some (.int .i64 x.a.dev) := fun i => i.cell (by rw [hW2.out]; exact e0)
      have b1 : ∀ i : After W2, i.w.cell? ⟨A, off + k * 3 + 1, none⟩ = some (.int .i64 x.a.inc) := fun i => i.cell (by rw [hW2.out]; exact e1)
      have b2 : ∀ i : After W2, i.w.cell? ⟨A, off + k * 3 + 2, none⟩ = some (.int .i64 x.seq) := fun i => i.cell (by rw [hW2.out]; exact e2)
      skip
      iterate 11 go_big_quiet_step (fail)
      go_big_quiet_step (exact Calls.after (HR.out _))
      go_big_quiet_step (fail)
      refine wpQuiet_nil ?_
      rintro _ ⟨i, rfl⟩
      have hib := i.h
      clear b0 b1 b2
      skip
      generalize i.w = wi at hib ⊢
      rw [hW2.out] at hib
      have pW := hbw.trans (hib.mono hbw.size)
      replace e0 := kept hib e0
      replace e1 := kept hib e1
      replace e2 := kept hib e2
      clear hib HR
      go_upto_region 8 with fail
      rcases Nat.eq_zero_or_pos k with hk0 | hk0
      ·have FU : ¬ 0 < k := by omega
       have hdk : decide (0 < k) = false := by simp; omega
       have HE : Hid (aU l = dh (aX l (k + 1)) (l.drop (k + 1))) := by rw [Hid, HT1.out]; subst hk0; rfl
       clear HT1 hk0
       have HC : Hid True := trivial
       refine ai (by kernel_rfl) (by kernel_rfl) (fun W2 hW2 => ?_)
       have b0 : ∀ i : After W2, i.w.cell? ⟨A, off + k * 3, none⟩ = some (.int .i64 x.a.dev) := fun i => i.cell (by rw [hW2.out]; exact e0)
       have b1 : ∀ i : After W2, i.w.cell? ⟨A, off + k * 3 + 1, none⟩ = some (.int .i64 x.a.inc) := fun i => i.cell (by rw [hW2.out]; exact e1)
       have b2 : ∀ i : After W2, i.w.cell? ⟨A, off + k * 3 + 2, none⟩ = some (.int .i64 x.seq) := fun i => i.cell (by rw [hW2.out]; exact e2)
       skip
       iterate 14 go_big_quiet_step (fail)
       go_big_quiet_step (exact Calls.after (HC.out _))
       iterate 2 go_big_quiet_step (fail)
       refine wpQuiet_nil ?_
       rintro _ ⟨i, rfl⟩
       have hib := i.h
       clear b0 b1 b2
       skip
       generalize i.w = wi at hib ⊢
       rw [hW2.out] at hib
       go_wp2
       go_roundw
       case rel => exact ⟨k + 1, by omega, by go_num, HE.out, pW.trans (hib.mono pW.size)⟩
       case measure => simp [intOf] <;> omega
      ·obtain ⟨j, rfl⟩ : ∃ j, k = j + 1 := ⟨k - 1, by omega⟩
       have hj : j < l.length := by omega
       have f0 := (hda.kept pW).dev j hj
       have f1 := (hda.kept pW).inc j hj
       have hpv : aX l (j + 1) = some l[j] := by simp [aX, hj]
       rw [hpv] at HT1
       generalize l[j] = y at f0 f1 HT1
       have hC0 := fun (W : World) => xX y.a x.a W
       have hdk : decide ((0 : Int) < (j : Int) + 1) = true := by simp <;> omega
       have hww : IntKind.i64.wrap ((j : Int) + 1 - 1) = (j : Int) := by rw [show (j : Int) + 1 - 1 = j by omega]; exact IntWalk.i64_in _ (by omega)
       clear hpv
       cases h2 : bP y.a x.a with
       | false =>
         have HE : Hid (aU l = 6) := by rw [Hid, HT1.out]; simp [jD, h2]
         rw [h2] at hC0
         have HC := Lib.hid hC0
         clear h2 HT1 hC0
         refine ai (by kernel_rfl) (by kernel_rfl) (fun W2 hW2 => ?_)
         have b0 : ∀ i : After W2, i.w.cell? ⟨A, off + (j + 1) * 3, none⟩ = some (.int .i64 x.a.dev) := fun i => i.cell (by rw [hW2.out]; exact e0)
         have b1 : ∀ i : After W2, i.w.cell? ⟨A, off + (j + 1) * 3 + 1, none⟩ = some (.int .i64 x.a.inc) := fun i => i.cell (by rw [hW2.out]; exact e1)
         have b2 : ∀ i : After W2, i.w.cell? ⟨A, off + (j + 1) * 3 + 2, none⟩ = some (.int .i64 x.seq) := fun i => i.cell (by rw [hW2.out]; exact e2)
         have g0 : ∀ i : After W2, i.w.cell? ⟨A, off + j * 3, none⟩ = some (.int .i64 y.a.dev) := fun i => i.cell (by rw [hW2.out]; exact f0)
         have g1 : ∀ i : After W2, i.w.cell? ⟨A, off + j * 3 + 1, none⟩ = some (.int .i64 y.a.inc) := fun i => i.cell (by rw [hW2.out]; exact f1)
         iterate 14 go_big_quiet_step (fail)
         go_big_quiet_step (exact Calls.after (HC.out _))
         iterate 2 go_big_quiet_step (fail)
         refine wpQuiet_nil ?_
         rintro _ ⟨i, rfl⟩
         have hib := i.h
         clear b0 b1 b2
         clear g0 g1 hww
         generalize i.w = wi at hib ⊢
         rw [hW2.out] at hib
         go_wp2
         go_ret
         exact ⟨bT HE.out.symm, pW.trans (hib.mono pW.size)⟩
       | true =>
         have HE : Hid (aU l = dh (aX l (j + 1 + 1)) (l.drop (j + 1 + 1))) := by rw [Hid, HT1.out]; simp [jD, h2]
         rw [h2] at hC0
         have HC := Lib.hid hC0
         clear h2 HT1 hC0
         refine ai (by kernel_rfl) (by kernel_rfl) (fun W2 hW2 => ?_)
         have b0 : ∀ i : After W2, i.w.cell? ⟨A, off + (j + 1) * 3, none⟩ = some (.int .i64 x.a.dev) := fun i => i.cell (by rw [hW2.out]; exact e0)
         have b1 : ∀ i : After W2, i.w.cell? ⟨A, off + (j + 1) * 3 + 1, none⟩ = some (.int .i64 x.a.inc) := fun i => i.cell (by rw [hW2.out]; exact e1)
         have b2 : ∀ i : After W2, i.w.cell? ⟨A, off + (j + 1) * 3 + 2, none⟩ = some (.int .i64 x.seq) := fun i => i.cell (by rw [hW2.out]; exact e2)
         have g0 : ∀ i : After W2, i.w.cell? ⟨A, off + j * 3, none⟩ = some (.int .i64 y.a.dev) := fun i => i.cell (by rw [hW2.out]; exact f0)
         have g1 : ∀ i : After W2, i.w.cell? ⟨A, off + j * 3 + 1, none⟩ = some (.int .i64 y.a.inc) := fun i => i.cell (by rw [hW2.out]; exact f1)
         iterate 14 go_big_quiet_step (fail)
         go_big_quiet_step (exact Calls.after (HC.out _))
         iterate 2 go_big_quiet_step (fail)
         refine wpQuiet_nil ?_
         rintro _ ⟨i, rfl⟩
         have hib := i.h
         clear b0 b1 b2
         clear g0 g1 hww
         generalize i.w = wi at hib ⊢
         rw [hW2.out] at hib
         go_wp2
         go_roundw
         case rel => exact ⟨j + 1 + 1, by omega, by go_num, HE.out, pW.trans (hib.mono pW.size)⟩
         case measure => simp [intOf] <;> omega
   ·have HE : Hid (aU l = 0) := by rw [Hid, HP.out, List.drop_eq_nil_of_le (by omega)]; cases aX l k <;> rfl
    clear HP
    go_wp2
    go_ret
    exact ⟨bT HE.out.symm, hbw⟩
 ·have HE : Hid (aU l = 3) := by unfold Hid aU; rw [if_pos (by omega)]
  go_enter Tryz.func72, Tryz.ntmps72
  go_wp2
  go_ret
  exact ⟨bT HE.out.symm, by go_grown⟩
end Go.Proofs.YtdlmbflhbecggaaGreat
