/- Marks: may they be, are they the same. A mark's cells are a dot's. Conditions: at most 2^30 marks. -/
import Derived.Test.YtdlmbflhbecggaaGreatDot
import Derived.Test.YtdlmbflhbecggaaGreatLoad
set_option linter.unusedSimpArgs false
set_option linter.unusedVariables false
set_option linter.unnecessarySimpa false
set_option maxHeartbeats 16000000
set_option maxRecDepth 100000
namespace Go.Proofs.YtdlmbflhbecggaaGreat
open Go.RowKit
theorem EJ : Tryz.prog.eqGuardType Tryz.prog.depth 113 = false := by kernel_rfl
theorem P8 (W : World) (d : Nat) (a b : Dot) : (Op.equalIn (d + 3) 113 (.agg #[.int .i64 a.a.dev, .int .i64 a.a.inc, .int .i64 a.seq]) (.agg #[.int .i64 b.a.dev, .int .i64 b.a.inc, .int .i64 b.seq])).run Tryz.prog W = .ok (decide (a = b)) W := by
 rw [run_equalIn_agg W (d + 2) 113 _ _ (by kernel_rfl) (by kernel_rfl), jv Tryz.underlying113]
 exact z131
theorem yJ (a b : Option Addr) (ca cb : Nat) (l m : List Dot) (w : World) (hl : l.length ≤ 1073741824) (hm : m.length ≤ 1073741824) (ha : DotsIn w a l) (hb : DotsIn w b m) :
 Calls Tryz.prog 38 #[.slice a l.length ca, .slice b m.length cb] w fun x w' => x = .returned (.bool (decide (l = m))) ∧ Below w.heap.size w w' := by
 by_cases hlen : l.length = m.length
 ·refine y22 ?_
  intro hb1 hb2 hl1 hl2
  clear hlen
  go_enter Tryz.func38, Tryz.ntmps38
  go_wp2
  go_loopw [5] (fun i wr => ∃ k : Nat, k ≤ l.length ∧ i = .int .i64 k ∧ l.take k = m.take k ∧ Below w.heap.size w wr) (fun i _ => l.length - (intOf i).toNat)
  case atStart => exact z145
  case round =>
        obtain ⟨k, hk, rfl, hpre, hbw⟩ := hrel
        have HP := Lib.hid hpre
        clear hpre
        by_cases hlt : k < l.length
        ·have hlm : k < m.length := by omega
         rcases ha with h | ⟨A, off, rfl, hda⟩
         ·exact z117
         rcases hb with h | ⟨B, ofb, rfl, hdb⟩
         ·rw [h] at hlm; simp at hlm
         refine y73 ?_
         intro x0 x1 x2 y0 y1 y2
         have hEq := fun (W : World) => P8 W 9997 l[k] m[k]
         have hm := EJ
         exact z31
        ·exact z57
 ·have HE : Hid (decide (l = m) = false) := decide_eq_false (Du hlen)
  refine y35 ?_
  intro hb1 hb2
  clear hlen
  go_enter Tryz.func38, Tryz.ntmps38
  exact z49
/-! ### may marks be? -/
def oq : Option Dot → Dot → Bool
 | none, _ => true
 | some y, x => bG y.a x.a
def dY : Option Dot → List Dot → Int
 | _, [] => 0
 | p, x :: r => if bu x = true then (if oq p x = true then dY (some x) r else 6) else 4
def bf (l : List Dot) : Int := if 4096 < l.length then 3 else dY none l
theorem yY (l : List Dot) (k : Nat) (h : k < l.length) : dY (bC l k) (l.drop k) = if bu l[k] = true then (if oq (bC l k) l[k] = true then dY (bC l (k + 1)) (l.drop (k + 1)) else 6) else 4 := by
 rw [List.drop_eq_getElem_cons h, dY]
 have : bC l (k + 1) = some l[k] := by simp [bC, h]
 rw [this]
theorem FK (a b : Actor) : decide (0 ≤ ed a b) = !bG a b := by
 unfold ed bG orI lD
 rw [Bool.eq_iff_iff]
 simp
 repeat' split
 all_goals omega
theorem FM (a b : Actor) : -1 ≤ ed a b ∧ ed a b ≤ 1 := by
 unfold ed orI lD
 repeat' split
 all_goals omega
theorem tq (a : Actor) (n : Int) (w : World) :
 Calls Tryz.prog 108 #[.agg #[.int .i64 a.dev, .int .i64 a.inc], .int .i64 n] w fun e w' => e = .returned (.bool (bu ⟨a, n⟩)) ∧ Below w.heap.size w w' := by
 have HR := Lib.hid (fun (W : World) => ik ⟨a, n⟩ W)
 go_enter Tryz.func108, Tryz.ntmps108
 go_wp2_with (go_at_call 65; (with_reducible refine (HR.out _).mono ?_); rintro x w1 ⟨rfl, hb⟩)
 go_ret
 exact ⟨rfl, below2 (by go_grown) hb⟩
theorem z141 {p : Prop} (h : p := by
 clear HP
 go_wp2
 go_ret
 exact ⟨dR HE.out.symm, hbw⟩) : p := h
theorem lS (a : Option Addr) (cap : Nat) (l : List Dot) (w : World) (hl : l.length ≤ 1073741824) (hd : DotsIn w a l) :
 Calls Tryz.prog 57 #[.slice a l.length cap] w fun e w' => e = .returned (.int .i64 (bf l)) ∧ Below w.heap.size w w' := by
 by_cases h40 : l.length ≤ 4096
 ·have HM : Hid (bf l = dY (bC l 0) (l.drop 0)) := by unfold Hid bf; rw [if_neg (by omega)]; rfl
  go_enter Tryz.func57, Tryz.ntmps57
  go_wp2
  go_loopw [10] (fun i wr => ∃ k : Nat, k ≤ l.length ∧ i = .int .i64 k ∧ bf l = dY (bC l k) (l.drop k) ∧ Below w.heap.size w wr) (fun i _ => l.length - (intOf i).toNat)
  case atStart => exact ⟨0, Nat.zero_le _, rfl, HM.out, Below.refl _ _⟩
  case round =>
   obtain ⟨k, hk, rfl, hpre, hbw⟩ := hrel
   have HP := Lib.hid hpre
   clear hpre HM
   have hzw := hbw.size
   by_cases hlt : k < l.length
   ·have hst := yY l k hlt
    rcases hd with h | ⟨A, off, rfl, hda⟩
    ·exact z117
    have e0 := (hda.kept hbw).dev k hlt
    have e1 := (hda.kept hbw).inc k hlt
    have e2 := (hda.kept hbw).seq k hlt
    have HT : Hid (bf l = if bu l[k] = true then (if oq (bC l k) l[k] = true then dY (bC l (k + 1)) (l.drop (k + 1)) else 6) else 4) := by rw [Hid, HP.out, hst]
    clear hst HP
    generalize l[k] = x at e0 e1 e2 HT
    go_upto_region 6 with fail
    refine aX (fun W1 hW1 => ?_)
    have hB1 : Below wr.heap.size wr W1 := by rw [hW1.out]; go_grown
    refine y19 ?_
    intro x0 x1 x2
    have hBB := hbw.trans (hB1.mono hzw)
    clear hW1 e0 e1 e2
    have hR0 := fun (W : World) => tq x.a x.seq W
    cases h1 : bu x with
    | false =>
      have HE : Hid (bf l = 4) := by rw [Hid, HT.out, h1]; rfl
      rw [show bu ⟨x.a, x.seq⟩ = bu x from rfl, h1] at hR0
      have HR := Lib.hid hR0
      clear hR0 h1 HT
      go_wp2_with (go_at_call 108; (with_reducible refine (HR.out _).mono ?_); rintro v w1 ⟨rfl, hb⟩)
      go_ret
      exact ⟨dR HE.out.symm, hBB.trans (hb.mono hBB.size)⟩
    | true =>
      have HT1 : Hid (bf l = if oq (bC l k) x = true then dY (bC l (k + 1)) (l.drop (k + 1)) else 6) := by rw [Hid, HT.out, h1]; rfl
      rw [show bu ⟨x.a, x.seq⟩ = bu x from rfl, h1] at hR0
      have HR := Lib.hid hR0
      clear hR0 h1 HT
      go_upto_region 8 with (go_at_call 108; (with_reducible refine (HR.out _).mono ?_); rintro v w1 ⟨rfl, hb⟩)
      have Fe := hBB.trans (hb.mono hBB.size)
      replace x0 := kept hb x0
      replace x1 := kept hb x1
      replace x2 := kept hb x2
      clear hb hB1 hBB HR
      rcases Nat.eq_zero_or_pos k with hk0 | hk0
      ·refine y72 ?_
       intro J8 hdk
       have HE : Hid (bf l = dY (bC l (k + 1)) (l.drop (k + 1))) := by rw [Hid, HT1.out]; subst hk0; rfl
       clear HT1 hk0
       have HC : Hid True := trivial
       refine aH (by kernel_rfl) (by kernel_rfl) (fun W2 hW2 => ?_)
       have b0 : ∀ i : After W2, i.w.cell? ⟨wr.heap.size, 0, none⟩ = some (.int .i64 x.a.dev) := fun i => i.cell (by rw [hW2.out]; exact x0)
       have b1 : ∀ i : After W2, i.w.cell? ⟨wr.heap.size, 1, none⟩ = some (.int .i64 x.a.inc) := fun i => i.cell (by rw [hW2.out]; exact x1)
       have b2 : ∀ i : After W2, i.w.cell? ⟨wr.heap.size, 2, none⟩ = some (.int .i64 x.seq) := fun i => i.cell (by rw [hW2.out]; exact x2)
       skip
       iterate 11 go_big_quiet_step (fail)
       go_big_quiet_step (exact Calls.after (HC.out _))
       iterate 3 go_big_quiet_step (fail)
       refine wpQuiet_nil ?_
       rintro _ ⟨i, rfl⟩
       have hib := i.h
       clear b0 b1 b2
       skip
       generalize i.w = wi at hib ⊢
       rw [hW2.out] at hib
       go_wp2
       go_roundw
       case rel => exact ⟨k + 1, by omega, by go_num, HE.out, Fe.trans (hib.mono Fe.size)⟩
       case measure => exact z67
      ·obtain ⟨j, rfl⟩ : ∃ j, k = j + 1 := ⟨k - 1, by omega⟩
       have hj : j < l.length := by omega
       have f0 := (hda.kept Fe).dev j hj
       have f1 := (hda.kept Fe).inc j hj
       have hpv : bC l (j + 1) = some l[j] := by simp [bC, hj]
       rw [hpv] at HT1
       generalize l[j] = y at f0 f1 HT1
       have hC0 := fun (W : World) => uH y.a x.a W
       have hcl := FK y.a x.a
       have hci := FM y.a x.a
       generalize ed y.a x.a = c at hC0 hcl hci
       obtain ⟨TU, TT⟩ := hci
       have HC := Lib.hid hC0
       refine y24 ?_
       intro hdk hww
       clear hC0 hpv
       cases h2 : bG y.a x.a with
       | false =>
         have HE : Hid (bf l = 6) := by rw [Hid, HT1.out]; simp [oq, h2]
         rw [h2] at hcl
         simp only [Bool.not_false] at hcl
         clear h2 HT1
         refine aH (by kernel_rfl) (by kernel_rfl) (fun W2 hW2 => ?_)
         have b0 : ∀ i : After W2, i.w.cell? ⟨wr.heap.size, 0, none⟩ = some (.int .i64 x.a.dev) := fun i => i.cell (by rw [hW2.out]; exact x0)
         have b1 : ∀ i : After W2, i.w.cell? ⟨wr.heap.size, 1, none⟩ = some (.int .i64 x.a.inc) := fun i => i.cell (by rw [hW2.out]; exact x1)
         have b2 : ∀ i : After W2, i.w.cell? ⟨wr.heap.size, 2, none⟩ = some (.int .i64 x.seq) := fun i => i.cell (by rw [hW2.out]; exact x2)
         have g0 : ∀ i : After W2, i.w.cell? ⟨A, off + j * 3, none⟩ = some (.int .i64 y.a.dev) := fun i => i.cell (by rw [hW2.out]; exact f0)
         have g1 : ∀ i : After W2, i.w.cell? ⟨A, off + j * 3 + 1, none⟩ = some (.int .i64 y.a.inc) := fun i => i.cell (by rw [hW2.out]; exact f1)
         iterate 11 go_big_quiet_step (fail)
         go_big_quiet_step (exact Calls.after (HC.out _))
         iterate 3 go_big_quiet_step (fail)
         refine wpQuiet_nil ?_
         rintro _ ⟨i, rfl⟩
         have hib := i.h
         clear b0 b1 b2
         clear g0 g1 hww
         generalize i.w = wi at hib ⊢
         rw [hW2.out] at hib
         go_wp2
         go_ret
         exact ⟨dR HE.out.symm, Fe.trans (hib.mono Fe.size)⟩
       | true =>
         have HE : Hid (bf l = dY (bC l (j + 1 + 1)) (l.drop (j + 1 + 1))) := by rw [Hid, HT1.out]; simp [oq, h2]
         rw [h2] at hcl
         simp only [Bool.not_true] at hcl
         clear h2 HT1
         refine aH (by kernel_rfl) (by kernel_rfl) (fun W2 hW2 => ?_)
         have b0 : ∀ i : After W2, i.w.cell? ⟨wr.heap.size, 0, none⟩ = some (.int .i64 x.a.dev) := fun i => i.cell (by rw [hW2.out]; exact x0)
         have b1 : ∀ i : After W2, i.w.cell? ⟨wr.heap.size, 1, none⟩ = some (.int .i64 x.a.inc) := fun i => i.cell (by rw [hW2.out]; exact x1)
         have b2 : ∀ i : After W2, i.w.cell? ⟨wr.heap.size, 2, none⟩ = some (.int .i64 x.seq) := fun i => i.cell (by rw [hW2.out]; exact x2)
         have g0 : ∀ i : After W2, i.w.cell? ⟨A, off + j * 3, none⟩ = some (.int .i64 y.a.dev) := fun i => i.cell (by rw [hW2.out]; exact f0)
         have g1 : ∀ i : After W2, i.w.cell? ⟨A, off + j * 3 + 1, none⟩ = some (.int .i64 y.a.inc) := fun i => i.cell (by rw [hW2.out]; exact f1)
         iterate 11 go_big_quiet_step (fail)
         go_big_quiet_step (exact Calls.after (HC.out _))
         iterate 3 go_big_quiet_step (fail)
         refine wpQuiet_nil ?_
         rintro _ ⟨i, rfl⟩
         have hib := i.h
         clear b0 b1 b2
         clear g0 g1 hww
         generalize i.w = wi at hib ⊢
         rw [hW2.out] at hib
         go_wp2
         go_roundw
         case rel => exact ⟨j + 1 + 1, by omega, by go_num, HE.out, Fe.trans (hib.mono Fe.size)⟩
         case measure => exact z67
   ·have HE : Hid (bf l = 0) := by rw [Hid, HP.out, List.drop_eq_nil_of_le (by omega)]; cases bC l k <;> rfl
    exact z141
 ·have HE : Hid (bf l = 3) := by unfold Hid bf; rw [if_pos (by omega)]
  go_enter Tryz.func57, Tryz.ntmps57
  go_wp2
  go_ret
  exact ⟨dR HE.out.symm, by go_grown⟩
end Go.Proofs.YtdlmbflhbecggaaGreat
