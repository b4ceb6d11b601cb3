/- Marks: may they be, are they the same. A mark's cells are a dot's. Conditions: at most 2^30 marks. -/
import Derived.Test.YtohcmljigcdmbaaGreatDot
import Derived.Test.YtohcmljigcdmbaaGreatLoad
set_option linter.unusedSimpArgs false
set_option linter.unusedVariables false
set_option linter.unnecessarySimpa false
set_option maxHeartbeats 16000000
set_option maxRecDepth 100000
namespace Go.Proofs.YtohcmljigcdmbaaGreat
open Go.RowKit
/-! ### may marks be? -/
def markNext : Option Dot → Dot → Bool
 | none, _ => true
 | some y, x => actorLt y.a x.a
def marksFrom : Option Dot → List Dot → Int
 | _, [] => 0
 | p, x :: r => if dotOk x = true then (if markNext p x = true then marksFrom (some x) r else 6) else 4
def marksErr (l : List Dot) : Int := if 4096 < l.length then 3 else marksFrom none l
theorem marksFrom_step (l : List Dot) (k : Nat) (h : k < l.length) : marksFrom (prevAt l k) (l.drop k) = if dotOk l[k] = true then (if markNext (prevAt l k) l[k] = true then marksFrom (prevAt l (k + 1)) (l.drop (k + 1)) else 6) else 4 := by
 rw [List.drop_eq_getElem_cons h, marksFrom]
 have : prevAt l (k + 1) = some l[k] := by simp [prevAt, h]
 rw [this]
theorem cmpActor_lt (a b : Actor) : decide (0 ≤ cmpActor a b) = !actorLt a b := by
 unfold cmpActor actorLt orI cmpI
 rw [Bool.eq_iff_iff]
 simp
 repeat' split
 all_goals omega
theorem cmpActor_in (a b : Actor) : -1 ≤ cmpActor a b ∧ cmpActor a b ≤ 1 := by
 unfold cmpActor orI cmpI
 repeat' split
 all_goals omega
theorem vecRight_any (a : Actor) (n : Int) (w : World) :
 Calls Tryz.prog 103 #[.agg #[.int .i64 a.dev, .int .i64 a.inc], .int .i64 n] w fun e w' => e = .returned (.bool (dotOk ⟨a, n⟩)) ∧ Below w.heap.size w w' := by
 have HR := Lib.hid (fun (W : World) => dotRight_any ⟨a, n⟩ W)
 go_enter Tryz.func103, Tryz.ntmps103
 go_wp2_with (go_at_call 70; (with_reducible refine (HR.out _).mono ?_); rintro x w1 ⟨rfl, hb⟩)
 go_ret
 exact ⟨rfl, below2 (by go_grown) hb⟩
theorem vecCheck_any (a : Option Addr) (cap : Nat) (l : List Dot) (w : World) (hl : l.length ≤ 1073741824) (hd : DotsIn w a l) :
 Calls Tryz.prog 67 #[.slice a l.length cap] w fun e w' => e = .returned (.int .i64 (marksErr l)) ∧ Below w.heap.size w w' := by
 by_cases h40 : l.length ≤ 4096
 ·have HM : Hid (marksErr l = marksFrom (prevAt l 0) (l.drop 0)) := by unfold Hid marksErr; rw [if_neg (by omega)]; rfl
  go_enter Tryz.func67, Tryz.ntmps67
  go_wp2
  go_loopw [10] (fun i wr => ∃ k : Nat, k ≤ l.length ∧ i = .int .i64 k ∧ marksErr l = marksFrom (prevAt l k) (l.drop k) ∧ Below w.heap.size w wr) (fun i _ => l.length - (intOf i).toNat)
  case atStart => exact ⟨0, Nat.zero_le _, rfl, HM.out, Below.refl _ _⟩
  case round =>
   obtain ⟨k, hk, rfl, hpre, hbw⟩ := hrel
   have HP := Lib.hid hpre
   clear hpre HM
   have hzw := hbw.size
   by_cases hlt : k < l.length
   ·have hst := marksFrom_step l k hlt
    rcases hd with h | ⟨A, off, rfl, hda⟩
    ·rw [h] at hlt; simp at hlt
    have e0 := (hda.kept hbw).dev k hlt
    have e1 := (hda.kept hbw).inc k hlt
    have e2 := (hda.kept hbw).seq k hlt
    have HT : Hid (marksErr l = if dotOk l[k] = true then (if markNext (prevAt l k) l[k] = true then marksFrom (prevAt l (k + 1)) (l.drop (k + 1)) else 6) else 4) := by rw [Hid, HP.out, hst]
    clear hst HP
    generalize l[k] = x at e0 e1 e2 HT
    go_upto_region 6 with fail
    refine wp_name (fun W1 hW1 => ?_)
    have hB1 : Below wr.heap.size wr W1 := by rw [hW1.out]; go_grown
    have x0 : W1.cell? ⟨wr.heap.size, 0, none⟩ = some (.int .i64 x.a.dev) := by rw [hW1.out]; go_simp
    have x1 : W1.cell? ⟨wr.heap.size, 1, none⟩ = some (.int .i64 x.a.inc) := by rw [hW1.out]; go_simp
    have x2 : W1.cell? ⟨wr.heap.size, 2, none⟩ = some (.int .i64 x.seq) := by rw [hW1.out]; go_simp
    have hBB := hbw.trans (hB1.mono hzw)
    clear hW1 e0 e1 e2
    have hR0 := fun (W : World) => vecRight_any x.a x.seq W
    cases h1 : dotOk x with
    | false =>
      have HE : Hid (marksErr l = 4) := by rw [Hid, HT.out, h1]; rfl
      rw [show dotOk ⟨x.a, x.seq⟩ = dotOk x from rfl, h1] at hR0
      have HR := Lib.hid hR0
      clear hR0 h1 HT
      go_wp2_with (go_at_call 103; (with_reducible refine (HR.out _).mono ?_); rintro v w1 ⟨rfl, hb⟩)
      go_ret
      exact ⟨ret_int HE.out.symm, hBB.trans (hb.mono hBB.size)⟩
    | true =>
      have HT1 : Hid (marksErr l = if markNext (prevAt l k) x = true then marksFrom (prevAt l (k + 1)) (l.drop (k + 1)) else 6) := by rw [Hid, HT.out, h1]; rfl
      rw [show dotOk ⟨x.a, x.seq⟩ = dotOk x from rfl, h1] at hR0
      have HR := Lib.hid hR0
      clear hR0 h1 HT
      go_upto_region 8 with (go_at_call 103; (with_reducible refine (HR.out _).mono ?_); rintro v w1 ⟨rfl, hb⟩)
      have hBB2 := hBB.trans (hb.mono hBB.size)
      replace x0 := kept hb x0
      replace x1 := kept hb x1
      replace x2 := kept hb x2
      clear hb hB1 hBB HR
      rcases Nat.eq_zero_or_pos k with hk0 | hk0
      ·have hk00 : ¬ 0 < k := by omega
       have hdk : decide (0 < k) = false := by simp; omega
       have HE : Hid (marksErr l = marksFrom (prevAt l (k + 1)) (l.drop (k + 1))) := by rw [Hid, HT1.out]; subst hk0; rfl
       clear HT1 hk0
       have HC : Hid True := trivial
       refine wp_region_after (by kernel_rfl) (by kernel_rfl) (fun W2 hW2 => ?_)
       have b0 : ∀ i : After W2, i.w.cell? ⟨wr.heap.size, 0, none⟩ = some (.int .i64 x.a.dev) := fun i => i.cell (by rw [hW2.out]; exact x0)
       have b1 : ∀ i : After W2, i.w.cell? ⟨wr.heap.size, 1, none⟩ = some (.int .i64 x.a.inc) := fun i => i.cell (by rw [hW2.out]; exact x1)
       have b2 : ∀ i : After W2, i.w.cell? ⟨wr.heap.size, 2, none⟩ = some (.int .i64 x.seq) := fun i => i.cell (by rw [hW2.out]; exact x2)
       skip
       iterate 11 go_big_quiet_step (fail)
       go_big_quiet_step (exact Calls.after (HC.out _))
       iterate 3 go_big_quiet_step (fail)
       refine wpQuiet_nil ?_
       rintro _ ⟨i, rfl⟩
       have hib := i.h
       clear b0 b1 b2
       skip
       generalize i.w = wi at hib ⊢
       rw [hW2.out] at hib
       go_wp2
       go_roundw
       case rel => exact ⟨k + 1, by omega, by go_num, HE.out, hBB2.trans (hib.mono hBB2.size)⟩
       case measure => simp [intOf] <;> omega
      ·obtain ⟨j, rfl⟩ : ∃ j, k = j + 1 := ⟨k - 1, by omega⟩
       have hj : j < l.length := by omega
       have f0 := (hda.kept hBB2).dev j hj
       have f1 := (hda.kept hBB2).inc j hj
       have hpv : prevAt l (j + 1) = some l[j] := by simp [prevAt, hj]
       rw [hpv] at HT1
       generalize l[j] = y at f0 f1 HT1
       have hC0 := fun (W : World) => cmpActor_any y.a x.a W
       have hcl := cmpActor_lt y.a x.a
       have hci := cmpActor_in y.a x.a
       generalize cmpActor y.a x.a = c at hC0 hcl hci
       obtain ⟨hci0, hci1⟩ := hci
       have HC := Lib.hid hC0
       have hdk : decide ((0 : Int) < (j : Int) + 1) = true := by simp <;> omega
       have hww : IntKind.i64.wrap ((j : Int) + 1 - 1) = (j : Int) := by rw [show (j : Int) + 1 - 1 = j by omega]; exact IntWalk.i64_in _ (by omega)
       clear hC0 hpv
       cases h2 : actorLt y.a x.a with
       | false =>
         have HE : Hid (marksErr l = 6) := by rw [Hid, HT1.out]; simp [markNext, h2]
         rw [h2] at hcl
         simp only [Bool.not_false] at hcl
         clear h2 HT1
         refine wp_region_after (by kernel_rfl) (by kernel_rfl) (fun W2 hW2 => ?_)
         have b0 : ∀ i : After W2, i.w.cell? ⟨wr.heap.size, 0, none⟩ = some (.int .i64 x.a.dev) := fun i => i.cell (by rw [hW2.out]; exact x0)
         have b1 : ∀ i : After W2, i.w.cell? ⟨wr.heap.size, 1, none⟩ = some (.int .i64 x.a.inc) := fun i => i.cell (by rw [hW2.out]; exact x1)
         have b2 : ∀ i : After W2, i.w.cell? ⟨wr.heap.size, 2, none⟩ = some (.int .i64 x.seq) := fun i => i.cell (by rw [hW2.out]; exact x2)
         have g0 : ∀ i : After W2, i.w.cell? ⟨A, off + j * 3, none⟩ = some (.int .i64 y.a.dev) := fun i => i.cell (by rw [hW2.out]; exact f0)
         have g1 : ∀ i : After W2, i.w.cell? ⟨A, off + j * 3 + 1, none⟩ = some (.int .i64 y.a.inc) := fun i => i.cell (by rw [hW2.out]; exact f1)
         iterate 11 go_big_quiet_step (fail)
         go_big_quiet_step (exact Calls.after (HC.out _))
         iterate 3 go_big_quiet_step (fail)
         refine wpQuiet_nil ?_
         rintro _ ⟨i, rfl⟩
         have hib := i.h
         clear b0 b1 b2
         clear g0 g1 hww
         generalize i.w = wi at hib ⊢
         rw [hW2.out] at hib
         go_wp2
         go_ret
         exact ⟨ret_int HE.out.symm, hBB2.trans (hib.mono hBB2.size)⟩
       | true =>
         have HE : Hid (marksErr l = marksFrom (prevAt l (j + 1 + 1)) (l.drop (j + 1 + 1))) := by rw [Hid, HT1.out]; simp [markNext, h2]
         rw [h2] at hcl
         simp only [Bool.not_true] at hcl
         clear h2 HT1
         refine wp_region_after (by kernel_rfl) (by kernel_rfl) (fun W2 hW2 => ?_)
         have b0 : ∀ i : After W2, i.w.cell? ⟨wr.heap.size, 0, none⟩ = some (.int .i64 x.a.dev) := fun i => i.cell (by rw [hW2.out]; exact x0)
         have b1 : ∀ i : After W2, i.w.cell? ⟨wr.heap.size, 1, none⟩ = some (.int .i64 x.a.inc) := fun i => i.cell (by rw [hW2.out]; exact x1)
         have b2 : ∀ i : After W2, i.w.cell? ⟨wr.heap.size, 2, none⟩ = some (.int .i64 x.seq) := fun i => i.cell (by rw [hW2.out]; exact x2)
         have g0 : ∀ i : After W2, i.w.cell? ⟨A, off + j * 3, none⟩ = some (.int .i64 y.a.dev) := fun i => i.cell (by rw [hW2.out]; exact f0)
         have g1 : ∀ i : After W2, i.w.cell? ⟨A, off + j * 3 + 1, none⟩ = some (.int .i64 y.a.inc) := fun i => i.cell (by rw [hW2.out]; exact f1)
         iterate 11 go_big_quiet_step (fail)
         go_big_quiet_step (exact Calls.after (HC.out _))
         iterate 3 go_big_quiet_step (fail)
         refine wpQuiet_nil ?_
         rintro _ ⟨i, rfl⟩
         have hib := i.h
         clear b0 b1 b2
         clear g0 g1 hww
         generalize i.w = wi at hib ⊢
         rw [hW2.out] at hib
         go_wp2
         go_roundw
         case rel => exact ⟨j + 1 + 1, by omega, by go_num, HE.out, hBB2.trans (hib.mono hBB2.size)⟩
         case measure => simp [intOf] <;> omega
   ·have HE : Hid (marksErr l = 0) := by rw [Hid, HP.out, List.drop_eq_nil_of_le (by omega)]; cases prevAt l k <;> rfl
    clear HP
    go_wp2
    go_ret
    exact ⟨ret_int HE.out.symm, hbw⟩
 ·have HE : Hid (marksErr l = 3) := by unfold Hid marksErr; rw [if_pos (by omega)]
  go_enter Tryz.func67, Tryz.ntmps67
  go_wp2
  go_ret
  exact ⟨ret_int HE.out.symm, by go_grown⟩
end Go.Proofs.YtohcmljigcdmbaaGreat
