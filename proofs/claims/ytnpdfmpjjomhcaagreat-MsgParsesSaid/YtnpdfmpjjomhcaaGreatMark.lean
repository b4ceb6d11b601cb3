/- Marks: may they be, are they the same. A mark's cells are a dot's. Conditions: at most 2^30 marks. -/
import Derived.Test.YtnpdfmpjjomhcaaGreatOver
import Derived.Test.YtnpdfmpjjomhcaaGreatSame
import Derived.Test.YtnpdfmpjjomhcaaGreatEvsB
set_option linter.unusedSimpArgs false
set_option linter.unusedVariables false
set_option linter.unnecessarySimpa false
namespace Go.Proofs.YtnpdfmpjjomhcaaGreat
open Go.RowKit

theorem noGuardMark : Tryz.prog.eqGuardType Tryz.prog.depth 142 = false := by kernel_rfl
theorem eqMark (W : World) (d : Nat) (a b : Dot) : (Op.equalIn (d + 3) 142 (.agg #[.int .i64 a.a.dev, .int .i64 a.a.inc, .int .i64 a.seq]) (.agg #[.int .i64 b.a.dev, .int .i64 b.a.inc, .int .i64 b.seq])).run Tryz.prog W = .ok (decide (a = b)) W := by
  rw [run_equalIn_agg W (d + 2) 142 _ _ (by kernel_rfl) (by kernel_rfl), fieldsOf_eq Tryz.underlying142]
  simp only [Op.eqFields]
  have h0 := eqActor W d a.a b.a
  simp only [actor_iff] at h0
  go_simp
  simp only [dot_iff]
  repeat' split
  all_goals simp_all
set_option maxRecDepth 100000 in
set_option maxHeartbeats 1000000 in
theorem equalMarks_any (a b : Option Addr) (ca cb : Nat) (l m : List Dot) (w : World) (hl : l.length ≤ 1073741824) (hm : m.length ≤ 1073741824) (ha : DotsIn w a l) (hb : DotsIn w b m) :
    Calls Tryz.prog 90 #[.slice a l.length ca, .slice b m.length cb] w fun x w' => x = .returned (.bool (decide (l = m))) ∧ Below w.heap.size w w' := by
    by_cases hlen : l.length = m.length
    · have hb1 : ((l.length : Nat) != (m.length : Nat)) = false := by rw [bne_eq_false_iff_eq]; exact hlen
      have hb2 : ((l.length : Int) != (m.length : Int)) = false := by rw [bne_eq_false_iff_eq]; omega
      have hl1 : l.length ≤ m.length := by omega
      have hl2 : m.length ≤ l.length := by omega
      clear hlen
      go_enter Tryz.func90, Tryz.ntmps90
      go_wp2
      go_loopw [13] (fun i wr => ∃ k : Nat, k ≤ l.length ∧ i = .int .i64 k ∧ l.take k = m.take k ∧ Below w.heap.size w wr) (fun i _ => l.length - (intOf i).toNat)
      case atStart => exact ⟨0, Nat.zero_le _, rfl, rfl, by go_grown⟩
      case round =>
        obtain ⟨k, hk, rfl, hpre, hbw⟩ := hrel
        have HP := Lib.hid hpre
        clear hpre
        by_cases hlt : k < l.length
        · have hlm : k < m.length := by omega
          rcases ha with h | ⟨A, off, rfl, hda⟩
          · rw [h] at hlt; simp at hlt
          rcases hb with h | ⟨B, ofb, rfl, hdb⟩
          · rw [h] at hlm; simp at hlm
          have x0 := (hda.kept hbw).dev k hlt
          have x1 := (hda.kept hbw).inc k hlt
          have x2 := (hda.kept hbw).seq k hlt
          have y0 := (hdb.kept hbw).dev k hlm
          have y1 := (hdb.kept hbw).inc k hlm
          have y2 := (hdb.kept hbw).seq k hlm
          have hEq := fun (W : World) => eqMark W 9997 l[k] m[k]
          have hm := noGuardMark
          by_cases he : l[k] = m[k]
          · rw [decide_eq_true he] at hEq
            have HS := Lib.hid (take_next hlt hlm HP.out he)
            clear he
            generalize l[k] = x at *
            generalize m[k] = y at *
            go_wp2
            go_quiet (fail)
            go_wp2
            go_roundw
            case rel => exact ⟨k + 1, by omega, by go_num, HS.out, below_drewN hbw nq⟩
            case measure => simp [intOf] <;> omega
          · have HE : Hid (decide (l = m) = false) := decide_eq_false (take_ne hlt hlm he)
            rw [decide_eq_false he] at hEq
            clear he
            generalize l[k] = x at *
            generalize m[k] = y at *
            go_wp2
            go_quiet (fail)
            go_wp2
            go_ret
            exact ⟨ret_bool HE.out.symm, below_drewN hbw nq⟩
        · have hlm : ¬ k < m.length := by omega
          have HE : Hid (decide (l = m) = true) := decide_eq_true (take_all hlt hlm HP.out)
          go_wp2
          go_ret
          exact ⟨ret_bool HE.out.symm, hbw⟩
    · have HE : Hid (decide (l = m) = false) := decide_eq_false (len_ne hlen)
      have hb1 : ((l.length : Nat) != (m.length : Nat)) = true := by rw [bne_iff_ne]; exact hlen
      have hb2 : ((l.length : Int) != (m.length : Int)) = true := by rw [bne_iff_ne]; omega
      clear hlen
      go_enter Tryz.func90, Tryz.ntmps90
      go_wp2
      go_ret
      exact ⟨ret_bool HE.out.symm, by go_grown⟩
set_option maxRecDepth 100000 in
set_option maxHeartbeats 1000000 in
theorem rSameMarks_any (a b : Option Addr) (ca cb : Nat) (l m : List Dot) (w : World) (hl : l.length ≤ 1073741824) (hm : m.length ≤ 1073741824) (ha : DotsIn w a l) (hb : DotsIn w b m) :
    Calls Tryz.prog 85 #[.slice a l.length ca, .slice b m.length cb] w fun x w' => x = .returned (.bool (decide (l = m))) ∧ Below w.heap.size w w' := by
    by_cases hlen : l.length = m.length
    · have hb1 : ((l.length : Nat) != (m.length : Nat)) = false := by rw [bne_eq_false_iff_eq]; exact hlen
      have hb2 : ((l.length : Int) != (m.length : Int)) = false := by rw [bne_eq_false_iff_eq]; omega
      have hl1 : l.length ≤ m.length := by omega
      have hl2 : m.length ≤ l.length := by omega
      clear hlen
      go_enter Tryz.func85, Tryz.ntmps85
      go_wp2
      go_loopw [5] (fun i wr => ∃ k : Nat, k ≤ l.length ∧ i = .int .i64 k ∧ l.take k = m.take k ∧ Below w.heap.size w wr) (fun i _ => l.length - (intOf i).toNat)
      case atStart => exact ⟨0, Nat.zero_le _, rfl, rfl, by go_grown⟩
      case round =>
        obtain ⟨k, hk, rfl, hpre, hbw⟩ := hrel
        have HP := Lib.hid hpre
        clear hpre
        by_cases hlt : k < l.length
        · have hlm : k < m.length := by omega
          rcases ha with h | ⟨A, off, rfl, hda⟩
          · rw [h] at hlt; simp at hlt
          rcases hb with h | ⟨B, ofb, rfl, hdb⟩
          · rw [h] at hlm; simp at hlm
          have x0 := (hda.kept hbw).dev k hlt
          have x1 := (hda.kept hbw).inc k hlt
          have x2 := (hda.kept hbw).seq k hlt
          have y0 := (hdb.kept hbw).dev k hlm
          have y1 := (hdb.kept hbw).inc k hlm
          have y2 := (hdb.kept hbw).seq k hlm
          have hEq := fun (W : World) => eqMark W 9997 l[k] m[k]
          have hm := noGuardMark
          by_cases he : l[k] = m[k]
          · rw [decide_eq_true he] at hEq
            have HS := Lib.hid (take_next hlt hlm HP.out he)
            clear he
            generalize l[k] = x at *
            generalize m[k] = y at *
            go_wp2
            go_quiet (fail)
            go_wp2
            go_roundw
            case rel => exact ⟨k + 1, by omega, by go_num, HS.out, below_drewN hbw nq⟩
            case measure => simp [intOf] <;> omega
          · have HE : Hid (decide (l = m) = false) := decide_eq_false (take_ne hlt hlm he)
            rw [decide_eq_false he] at hEq
            clear he
            generalize l[k] = x at *
            generalize m[k] = y at *
            go_wp2
            go_quiet (fail)
            go_wp2
            go_ret
            exact ⟨ret_bool HE.out.symm, below_drewN hbw nq⟩
        · have hlm : ¬ k < m.length := by omega
          have HE : Hid (decide (l = m) = true) := decide_eq_true (take_all hlt hlm HP.out)
          go_wp2
          go_ret
          exact ⟨ret_bool HE.out.symm, hbw⟩
    · have HE : Hid (decide (l = m) = false) := decide_eq_false (len_ne hlen)
      have hb1 : ((l.length : Nat) != (m.length : Nat)) = true := by rw [bne_iff_ne]; exact hlen
      have hb2 : ((l.length : Int) != (m.length : Int)) = true := by rw [bne_iff_ne]; omega
      clear hlen
      go_enter Tryz.func85, Tryz.ntmps85
      go_wp2
      go_ret
      exact ⟨ret_bool HE.out.symm, by go_grown⟩

/-! ### may marks be? -/
def markNext : Option Dot → Dot → Bool
  | none, _ => true
  | some y, x => actorLt y.a x.a
def marksFrom : Option Dot → List Dot → Int
  | _, [] => 0
  | p, x :: r => if dotOk x = true then (if markNext p x = true then marksFrom (some x) r else 6) else 4
def marksErr (l : List Dot) : Int := if 4096 < l.length then 3 else marksFrom none l
theorem marksFrom_step (l : List Dot) (k : Nat) (h : k < l.length) : marksFrom (prevAt l k) (l.drop k) = if dotOk l[k] = true then (if markNext (prevAt l k) l[k] = true then marksFrom (prevAt l (k + 1)) (l.drop (k + 1)) else 6) else 4 := by
  rw [List.drop_eq_getElem_cons h, marksFrom]
  have : prevAt l (k + 1) = some l[k] := by simp [prevAt, h]
  rw [this]
theorem cmpActor_lt (a b : Actor) : decide (0 ≤ cmpActor a b) = !actorLt a b := by
  unfold cmpActor actorLt orI cmpI
  rw [Bool.eq_iff_iff]
  simp
  repeat' split
  all_goals omega
theorem cmpActor_in (a b : Actor) : -1 ≤ cmpActor a b ∧ cmpActor a b ≤ 1 := by
  unfold cmpActor orI cmpI
  repeat' split
  all_goals omega
set_option maxRecDepth 100000 in
theorem vecRight_any (a : Actor) (n : Int) (w : World) :
    Calls Tryz.prog 123 #[.agg #[.int .i64 a.dev, .int .i64 a.inc], .int .i64 n] w fun e w' => e = .returned (.bool (dotOk ⟨a, n⟩)) ∧ Below w.heap.size w w' := by
  have HR := Lib.hid (fun (W : World) => dotRight_any ⟨a, n⟩ W)
  go_enter Tryz.func123, Tryz.ntmps123
  go_wp2_with (go_at_call 93; (with_reducible refine (HR.out _).mono ?_); rintro x w1 ⟨rfl, hb⟩)
  go_ret
  exact ⟨rfl, below2 (by go_grown) hb⟩
end Go.Proofs.YtnpdfmpjjomhcaaGreat

/- May marks be: the program's check and the reference's. Conditions: at most 2^30 marks. -/
namespace Go.Proofs.YtnpdfmpjjomhcaaGreat
open Go.RowKit
set_option maxRecDepth 100000 in
set_option maxHeartbeats 4000000 in
theorem vecCheck_any (a : Option Addr) (cap : Nat) (l : List Dot) (w : World) (hl : l.length ≤ 1073741824) (hd : DotsIn w a l) :
    Calls Tryz.prog 79 #[.slice a l.length cap] w fun e w' => e = .returned (.int .i64 (marksErr l)) ∧ Below w.heap.size w w' := by
  by_cases h40 : l.length ≤ 4096
  · have HM : Hid (marksErr l = marksFrom (prevAt l 0) (l.drop 0)) := by unfold Hid marksErr; rw [if_neg (by omega)]; rfl
    go_enter Tryz.func79, Tryz.ntmps79
    go_wp2
    go_loopw [10] (fun i wr => ∃ k : Nat, k ≤ l.length ∧ i = .int .i64 k ∧ marksErr l = marksFrom (prevAt l k) (l.drop k) ∧ Below w.heap.size w wr) (fun i _ => l.length - (intOf i).toNat)
    case atStart => exact ⟨0, Nat.zero_le _, rfl, HM.out, Below.refl _ _⟩
    case round =>
      obtain ⟨k, hk, rfl, hpre, hbw⟩ := hrel
      have HP := Lib.hid hpre
      clear hpre HM
      have hzw := hbw.size
      by_cases hlt : k < l.length
      · have hst := marksFrom_step l k hlt
        rcases hd with h | ⟨A, off, rfl, hda⟩
        · rw [h] at hlt; simp at hlt
        have e0 := (hda.kept hbw).dev k hlt
        have e1 := (hda.kept hbw).inc k hlt
        have e2 := (hda.kept hbw).seq k hlt
        have HT : Hid (marksErr l = if dotOk l[k] = true then (if markNext (prevAt l k) l[k] = true then marksFrom (prevAt l (k + 1)) (l.drop (k + 1)) else 6) else 4) := by rw [Hid, HP.out, hst]
        clear hst HP
        generalize l[k] = x at e0 e1 e2 HT
        go_upto_region 6 with fail
        refine wp_name (fun W1 hW1 => ?_)
        have hB1 : Below wr.heap.size wr W1 := by rw [hW1.out]; go_grown
        have x0 : W1.cell? ⟨wr.heap.size, 0, none⟩ = some (.int .i64 x.a.dev) := by rw [hW1.out]; go_simp
        have x1 : W1.cell? ⟨wr.heap.size, 1, none⟩ = some (.int .i64 x.a.inc) := by rw [hW1.out]; go_simp
        have x2 : W1.cell? ⟨wr.heap.size, 2, none⟩ = some (.int .i64 x.seq) := by rw [hW1.out]; go_simp
        have hBB := hbw.trans (hB1.mono hzw)
        clear hW1 e0 e1 e2
        have hR0 := fun (W : World) => vecRight_any x.a x.seq W
        cases h1 : dotOk x with
        | false =>
          have HE : Hid (marksErr l = 4) := by rw [Hid, HT.out, h1]; rfl
          rw [show dotOk ⟨x.a, x.seq⟩ = dotOk x from rfl, h1] at hR0
          have HR := Lib.hid hR0
          clear hR0 h1 HT
          go_wp2_with (go_at_call 123; (with_reducible refine (HR.out _).mono ?_); rintro v w1 ⟨rfl, hb⟩)
          go_ret
          exact ⟨ret_int HE.out.symm, hBB.trans (hb.mono hBB.size)⟩
        | true =>
          have HT1 : Hid (marksErr l = if markNext (prevAt l k) x = true then marksFrom (prevAt l (k + 1)) (l.drop (k + 1)) else 6) := by rw [Hid, HT.out, h1]; rfl
          rw [show dotOk ⟨x.a, x.seq⟩ = dotOk x from rfl, h1] at hR0
          have HR := Lib.hid hR0
          clear hR0 h1 HT
          go_upto_region 8 with (go_at_call 123; (with_reducible refine (HR.out _).mono ?_); rintro v w1 ⟨rfl, hb⟩)
          have hBB2 := hBB.trans (hb.mono hBB.size)
          replace x0 := kept hb x0
          replace x1 := kept hb x1
          replace x2 := kept hb x2
          clear hb hB1 hBB HR
          rcases Nat.eq_zero_or_pos k with hk0 | hk0
          · have hk00 : ¬ 0 < k := by omega
            have hdk : decide (0 < k) = false := by simp; omega
            have HE : Hid (marksErr l = marksFrom (prevAt l (k + 1)) (l.drop (k + 1))) := by rw [Hid, HT1.out]; subst hk0; rfl
            clear HT1 hk0
            have HC : Hid True := trivial
            refine wp_region_after (by kernel_rfl) (by kernel_rfl) (fun W2 hW2 => ?_)
            have b0 : ∀ i : After W2, i.w.cell? ⟨wr.heap.size, 0, none⟩ = some (.int .i64 x.a.dev) := fun i => i.cell (by rw [hW2.out]; exact x0)
            have b1 : ∀ i : After W2, i.w.cell? ⟨wr.heap.size, 1, none⟩ = some (.int .i64 x.a.inc) := fun i => i.cell (by rw [hW2.out]; exact x1)
            have b2 : ∀ i : After W2, i.w.cell? ⟨wr.heap.size, 2, none⟩ = some (.int .i64 x.seq) := fun i => i.cell (by rw [hW2.out]; exact x2)
            skip
            go_big_quiet_step (fail)
            go_big_quiet_step (fail)
            go_big_quiet_step (fail)
            go_big_quiet_step (fail)
            go_big_quiet_step (fail)
            go_big_quiet_step (fail)
            go_big_quiet_step (fail)
            go_big_quiet_step (fail)
            go_big_quiet_step (fail)
            go_big_quiet_step (fail)
            go_big_quiet_step (fail)
            go_big_quiet_step (exact Calls.after (HC.out _))
            go_big_quiet_step (fail)
            go_big_quiet_step (fail)
            go_big_quiet_step (fail)
            refine wpQuiet_nil ?_
            rintro _ ⟨i, rfl⟩
            have hib := i.h
            clear b0 b1 b2
            skip
            generalize i.w = wi at hib ⊢
            rw [hW2.out] at hib
            go_wp2
            go_roundw
            case rel => exact ⟨k + 1, by omega, by go_num, HE.out, hBB2.trans (hib.mono hBB2.size)⟩
            case measure => simp [intOf] <;> omega
          · obtain ⟨j, rfl⟩ : ∃ j, k = j + 1 := ⟨k - 1, by omega⟩
            have hj : j < l.length := by omega
            have f0 := (hda.kept hBB2).dev j hj
            have f1 := (hda.kept hBB2).inc j hj
            have hpv : prevAt l (j + 1) = some l[j] := by simp [prevAt, hj]
            rw [hpv] at HT1
            generalize l[j] = y at f0 f1 HT1
            have hC0 := fun (W : World) => cmpActor_any y.a x.a W
            have hcl := cmpActor_lt y.a x.a
            have hci := cmpActor_in y.a x.a
            generalize cmpActor y.a x.a = c at hC0 hcl hci
            obtain ⟨hci0, hci1⟩ := hci
            have HC := Lib.hid hC0
            have hdk : decide ((0 : Int) < (j : Int) + 1) = true := by simp <;> omega
            have hww : IntKind.i64.wrap ((j : Int) + 1 - 1) = (j : Int) := by rw [show (j : Int) + 1 - 1 = j by omega]; exact IntWalk.i64_in _ (by omega)
            clear hC0 hpv
            cases h2 : actorLt y.a x.a with
            | false =>
              have HE : Hid (marksErr l = 6) := by rw [Hid, HT1.out]; simp [markNext, h2]
              rw [h2] at hcl
              simp only [Bool.not_false] at hcl
              clear h2 HT1
              refine wp_region_after (by kernel_rfl) (by kernel_rfl) (fun W2 hW2 => ?_)
              have b0 : ∀ i : After W2, i.w.cell? ⟨wr.heap.size, 0, none⟩ = some (.int .i64 x.a.dev) := fun i => i.cell (by rw [hW2.out]; exact x0)
              have b1 : ∀ i : After W2, i.w.cell? ⟨wr.heap.size, 1, none⟩ = some (.int .i64 x.a.inc) := fun i => i.cell (by rw [hW2.out]; exact x1)
              have b2 : ∀ i : After W2, i.w.cell? ⟨wr.heap.size, 2, none⟩ = some (.int .i64 x.seq) := fun i => i.cell (by rw [hW2.out]; exact x2)
              have g0 : ∀ i : After W2, i.w.cell? ⟨A, off + j * 3, none⟩ = some (.int .i64 y.a.dev) := fun i => i.cell (by rw [hW2.out]; exact f0)
              have g1 : ∀ i : After W2, i.w.cell? ⟨A, off + j * 3 + 1, none⟩ = some (.int .i64 y.a.inc) := fun i => i.cell (by rw [hW2.out]; exact f1)
              go_big_quiet_step (fail)
              go_big_quiet_step (fail)
              go_big_quiet_step (fail)
              go_big_quiet_step (fail)
              go_big_quiet_step (fail)
              go_big_quiet_step (fail)
              go_big_quiet_step (fail)
              go_big_quiet_step (fail)
              go_big_quiet_step (fail)
              go_big_quiet_step (fail)
              go_big_quiet_step (fail)
              go_big_quiet_step (exact Calls.after (HC.out _))
              go_big_quiet_step (fail)
              go_big_quiet_step (fail)
              go_big_quiet_step (fail)
              refine wpQuiet_nil ?_
              rintro _ ⟨i, rfl⟩
              have hib := i.h
              clear b0 b1 b2
              clear g0 g1 hww
              generalize i.w = wi at hib ⊢
              rw [hW2.out] at hib
              go_wp2
              go_ret
              exact ⟨ret_int HE.out.symm, hBB2.trans (hib.mono hBB2.size)⟩
            | true =>
              have HE : Hid (marksErr l = marksFrom (prevAt l (j + 1 + 1)) (l.drop (j + 1 + 1))) := by rw [Hid, HT1.out]; simp [markNext, h2]
              rw [h2] at hcl
              simp only [Bool.not_true] at hcl
              clear h2 HT1
              refine wp_region_after (by kernel_rfl) (by kernel_rfl) (fun W2 hW2 => ?_)
              have b0 : ∀ i : After W2, i.w.cell? ⟨wr.heap.size, 0, none⟩ = some (.int .i64 x.a.dev) := fun i => i.cell (by rw [hW2.out]; exact x0)
              have b1 : ∀ i : After W2, i.w.cell? ⟨wr.heap.size, 1, none⟩ = some (.int .i64 x.a.inc) := fun i => i.cell (by rw [hW2.out]; exact x1)
              have b2 : ∀ i : After W2, i.w.cell? ⟨wr.heap.size, 2, none⟩ = some (.int .i64 x.seq) := fun i => i.cell (by rw [hW2.out]; exact x2)
              have g0 : ∀ i : After W2, i.w.cell? ⟨A, off + j * 3, none⟩ = some (.int .i64 y.a.dev) := fun i => i.cell (by rw [hW2.out]; exact f0)
              have g1 : ∀ i : After W2, i.w.cell? ⟨A, off + j * 3 + 1, none⟩ = some (.int .i64 y.a.inc) := fun i => i.cell (by rw [hW2.out]; exact f1)
              go_big_quiet_step (fail)
              go_big_quiet_step (fail)
              go_big_quiet_step (fail)
              go_big_quiet_step (fail)
              go_big_quiet_step (fail)
              go_big_quiet_step (fail)
              go_big_quiet_step (fail)
              go_big_quiet_step (fail)
              go_big_quiet_step (fail)
              go_big_quiet_step (fail)
              go_big_quiet_step (fail)
              go_big_quiet_step (exact Calls.after (HC.out _))
              go_big_quiet_step (fail)
              go_big_quiet_step (fail)
              go_big_quiet_step (fail)
              refine wpQuiet_nil ?_
              rintro _ ⟨i, rfl⟩
              have hib := i.h
              clear b0 b1 b2
              clear g0 g1 hww
              generalize i.w = wi at hib ⊢
              rw [hW2.out] at hib
              go_wp2
              go_roundw
              case rel => exact ⟨j + 1 + 1, by omega, by go_num, HE.out, hBB2.trans (hib.mono hBB2.size)⟩
              case measure => simp [intOf] <;> omega
      · have HE : Hid (marksErr l = 0) := by rw [Hid, HP.out, List.drop_eq_nil_of_le (by omega)]; cases prevAt l k <;> rfl
        clear HP
        go_wp2
        go_ret
        exact ⟨ret_int HE.out.symm, hbw⟩
  · have HE : Hid (marksErr l = 3) := by unfold Hid marksErr; rw [if_pos (by omega)]
    go_enter Tryz.func79, Tryz.ntmps79
    go_wp2
    go_ret
    exact ⟨ret_int HE.out.symm, by go_grown⟩
set_option maxRecDepth 100000 in
set_option maxHeartbeats 4000000 in
theorem rCheck_any (a : Option Addr) (cap : Nat) (l : List Dot) (w : World) (hl : l.length ≤ 1073741824) (hd : DotsIn w a l) :
    Calls Tryz.prog 76 #[.slice a l.length cap] w fun e w' => e = .returned (.int .i64 (marksErr l)) ∧ Below w.heap.size w w' := by
  by_cases h40 : l.length ≤ 4096
  · have HM : Hid (marksErr l = marksFrom (prevAt l 0) (l.drop 0)) := by unfold Hid marksErr; rw [if_neg (by omega)]; rfl
    go_enter Tryz.func76, Tryz.ntmps76
    go_wp2
    go_loopw [3] (fun i wr => ∃ k : Nat, k ≤ l.length ∧ i = .int .i64 k ∧ marksErr l = marksFrom (prevAt l k) (l.drop k) ∧ Below w.heap.size w wr) (fun i _ => l.length - (intOf i).toNat)
    case atStart => exact ⟨0, Nat.zero_le _, rfl, HM.out, Below.refl _ _⟩
    case round =>
      obtain ⟨k, hk, rfl, hpre, hbw⟩ := hrel
      have HP := Lib.hid hpre
      clear hpre HM
      have hzw := hbw.size
      by_cases hlt : k < l.length
      · have hst := marksFrom_step l k hlt
        rcases hd with h | ⟨A, off, rfl, hda⟩
        · rw [h] at hlt; simp at hlt
        have e0 := (hda.kept hbw).dev k hlt
        have e1 := (hda.kept hbw).inc k hlt
        have e2 := (hda.kept hbw).seq k hlt
        have HT : Hid (marksErr l = if dotOk l[k] = true then (if markNext (prevAt l k) l[k] = true then marksFrom (prevAt l (k + 1)) (l.drop (k + 1)) else 6) else 4) := by rw [Hid, HP.out, hst]
        clear hst HP
        generalize l[k] = x at e0 e1 e2 HT
        go_upto_region 6 with fail
        have hR0 := fun (W : World) => rDotRight_any x W
        cases h1 : dotOk x with
        | false =>
          have HE : Hid (marksErr l = 4) := by rw [Hid, HT.out, h1]; rfl
          rw [h1] at hR0
          have HR := Lib.hid hR0
          clear hR0 h1 HT
          refine wp_region_after (by kernel_rfl) (by kernel_rfl) (fun W2 hW2 => ?_)
          have b0 : ∀ i : After W2, i.w.cell? ⟨A, off + k * 3, none⟩ = some (.int .i64 x.a.dev) := fun i => i.cell (by rw [hW2.out]; exact e0)
          have b1 : ∀ i : After W2, i.w.cell? ⟨A, off + k * 3 + 1, none⟩ = some (.int .i64 x.a.inc) := fun i => i.cell (by rw [hW2.out]; exact e1)
          have b2 : ∀ i : After W2, i.w.cell? ⟨A, off + k * 3 + 2, none⟩ = some (.int .i64 x.seq) := fun i => i.cell (by rw [hW2.out]; exact e2)
          skip
          go_big_quiet_step (fail)
          go_big_quiet_step (fail)
          go_big_quiet_step (fail)
          go_big_quiet_step (fail)
          go_big_quiet_step (fail)
          go_big_quiet_step (fail)
          go_big_quiet_step (fail)
          go_big_quiet_step (fail)
          go_big_quiet_step (fail)
          go_big_quiet_step (fail)
          go_big_quiet_step (fail)
          go_big_quiet_step (exact Calls.after (HR.out _))
          go_big_quiet_step (fail)
          refine wpQuiet_nil ?_
          rintro _ ⟨i, rfl⟩
          have hib := i.h
          clear b0 b1 b2
          skip
          generalize i.w = wi at hib ⊢
          rw [hW2.out] at hib
          go_wp2
          go_ret
          exact ⟨ret_int HE.out.symm, hbw.trans (hib.mono hbw.size)⟩
        | true =>
          have HT1 : Hid (marksErr l = if markNext (prevAt l k) x = true then marksFrom (prevAt l (k + 1)) (l.drop (k + 1)) else 6) := by rw [Hid, HT.out, h1]; rfl
          rw [h1] at hR0
          have HR := Lib.hid hR0
          clear hR0 h1 HT
          refine wp_region_after (by kernel_rfl) (by kernel_rfl) (fun W2 hW2 => ?_)
          have b0 : ∀ i : After W2, i.w.cell? ⟨A, off + k * 3, none⟩ = some (.int .i64 x.a.dev) := fun i => i.cell (by rw [hW2.out]; exact e0)
          have b1 : ∀ i : After W2, i.w.cell? ⟨A, off + k * 3 + 1, none⟩ = some (.int .i64 x.a.inc) := fun i => i.cell (by rw [hW2.out]; exact e1)
          have b2 : ∀ i : After W2, i.w.cell? ⟨A, off + k * 3 + 2, none⟩ = some (.int .i64 x.seq) := fun i => i.cell (by rw [hW2.out]; exact e2)
          skip
          go_big_quiet_step (fail)
          go_big_quiet_step (fail)
          go_big_quiet_step (fail)
          go_big_quiet_step (fail)
          go_big_quiet_step (fail)
          go_big_quiet_step (fail)
          go_big_quiet_step (fail)
          go_big_quiet_step (fail)
          go_big_quiet_step (fail)
          go_big_quiet_step (fail)
          go_big_quiet_step (fail)
          go_big_quiet_step (exact Calls.after (HR.out _))
          go_big_quiet_step (fail)
          refine wpQuiet_nil ?_
          rintro _ ⟨i, rfl⟩
          have hib := i.h
          clear b0 b1 b2
          skip
          generalize i.w = wi at hib ⊢
          rw [hW2.out] at hib
          have hBB2 := hbw.trans (hib.mono hbw.size)
          replace e0 := kept hib e0
          replace e1 := kept hib e1
          replace e2 := kept hib e2
          clear hib HR
          go_upto_region 8 with fail
          rcases Nat.eq_zero_or_pos k with hk0 | hk0
          · have hk00 : ¬ 0 < k := by omega
            have hdk : decide (0 < k) = false := by simp; omega
            have HE : Hid (marksErr l = marksFrom (prevAt l (k + 1)) (l.drop (k + 1))) := by rw [Hid, HT1.out]; subst hk0; rfl
            clear HT1 hk0
            have HC : Hid True := trivial
            refine wp_region_after (by kernel_rfl) (by kernel_rfl) (fun W2 hW2 => ?_)
            have b0 : ∀ i : After W2, i.w.cell? ⟨A, off + k * 3, none⟩ = some (.int .i64 x.a.dev) := fun i => i.cell (by rw [hW2.out]; exact e0)
            have b1 : ∀ i : After W2, i.w.cell? ⟨A, off + k * 3 + 1, none⟩ = some (.int .i64 x.a.inc) := fun i => i.cell (by rw [hW2.out]; exact e1)
            have b2 : ∀ i : After W2, i.w.cell? ⟨A, off + k * 3 + 2, none⟩ = some (.int .i64 x.seq) := fun i => i.cell (by rw [hW2.out]; exact e2)
            skip
            go_big_quiet_step (fail)
            go_big_quiet_step (fail)
            go_big_quiet_step (fail)
            go_big_quiet_step (fail)
            go_big_quiet_step (fail)
            go_big_quiet_step (fail)
            go_big_quiet_step (fail)
            go_big_quiet_step (fail)
            go_big_quiet_step (fail)
            go_big_quiet_step (fail)
            go_big_quiet_step (fail)
            go_big_quiet_step (fail)
            go_big_quiet_step (fail)
            go_big_quiet_step (fail)
            go_big_quiet_step (exact Calls.after (HC.out _))
            go_big_quiet_step (fail)
            go_big_quiet_step (fail)
            refine wpQuiet_nil ?_
            rintro _ ⟨i, rfl⟩
            have hib := i.h
            clear b0 b1 b2
            skip
            generalize i.w = wi at hib ⊢
            rw [hW2.out] at hib
            go_wp2
            go_roundw
            case rel => exact ⟨k + 1, by omega, by go_num, HE.out, hBB2.trans (hib.mono hBB2.size)⟩
            case measure => simp [intOf] <;> omega
          · obtain ⟨j, rfl⟩ : ∃ j, k = j + 1 := ⟨k - 1, by omega⟩
            have hj : j < l.length := by omega
            have f0 := (hda.kept hBB2).dev j hj
            have f1 := (hda.kept hBB2).inc j hj
            have hpv : prevAt l (j + 1) = some l[j] := by simp [prevAt, hj]
            rw [hpv] at HT1
            generalize l[j] = y at f0 f1 HT1
            have hC0 := fun (W : World) => rAhead_any y.a x.a W
            have hdk : decide ((0 : Int) < (j : Int) + 1) = true := by simp <;> omega
            have hww : IntKind.i64.wrap ((j : Int) + 1 - 1) = (j : Int) := by rw [show (j : Int) + 1 - 1 = j by omega]; exact IntWalk.i64_in _ (by omega)
            clear hpv
            cases h2 : actorLt y.a x.a with
            | false =>
              have HE : Hid (marksErr l = 6) := by rw [Hid, HT1.out]; simp [markNext, h2]
              rw [h2] at hC0
              have HC := Lib.hid hC0
              clear h2 HT1 hC0
              refine wp_region_after (by kernel_rfl) (by kernel_rfl) (fun W2 hW2 => ?_)
              have b0 : ∀ i : After W2, i.w.cell? ⟨A, off + (j + 1) * 3, none⟩ = some (.int .i64 x.a.dev) := fun i => i.cell (by rw [hW2.out]; exact e0)
              have b1 : ∀ i : After W2, i.w.cell? ⟨A, off + (j + 1) * 3 + 1, none⟩ = some (.int .i64 x.a.inc) := fun i => i.cell (by rw [hW2.out]; exact e1)
              have b2 : ∀ i : After W2, i.w.cell? ⟨A, off + (j + 1) * 3 + 2, none⟩ = some (.int .i64 x.seq) := fun i => i.cell (by rw [hW2.out]; exact e2)
              have g0 : ∀ i : After W2, i.w.cell? ⟨A, off + j * 3, none⟩ = some (.int .i64 y.a.dev) := fun i => i.cell (by rw [hW2.out]; exact f0)
              have g1 : ∀ i : After W2, i.w.cell? ⟨A, off + j * 3 + 1, none⟩ = some (.int .i64 y.a.inc) := fun i => i.cell (by rw [hW2.out]; exact f1)
              go_big_quiet_step (fail)
              go_big_quiet_step (fail)
              go_big_quiet_step (fail)
              go_big_quiet_step (fail)
              go_big_quiet_step (fail)
              go_big_quiet_step (fail)
              go_big_quiet_step (fail)
              go_big_quiet_step (fail)
              go_big_quiet_step (fail)
              go_big_quiet_step (fail)
              go_big_quiet_step (fail)
              go_big_quiet_step (fail)
              go_big_quiet_step (fail)
              go_big_quiet_step (fail)
              go_big_quiet_step (exact Calls.after (HC.out _))
              go_big_quiet_step (fail)
              go_big_quiet_step (fail)
              refine wpQuiet_nil ?_
              rintro _ ⟨i, rfl⟩
              have hib := i.h
              clear b0 b1 b2
              clear g0 g1 hww
              generalize i.w = wi at hib ⊢
              rw [hW2.out] at hib
              go_wp2
              go_ret
              exact ⟨ret_int HE.out.symm, hBB2.trans (hib.mono hBB2.size)⟩
            | true =>
              have HE : Hid (marksErr l = marksFrom (prevAt l (j + 1 + 1)) (l.drop (j + 1 + 1))) := by rw [Hid, HT1.out]; simp [markNext, h2]
              rw [h2] at hC0
              have HC := Lib.hid hC0
              clear h2 HT1 hC0
              refine wp_region_after (by kernel_rfl) (by kernel_rfl) (fun W2 hW2 => ?_)
              have b0 : ∀ i : After W2, i.w.cell? ⟨A, off + (j + 1) * 3, none⟩ = some (.int .i64 x.a.dev) := fun i => i.cell (by rw [hW2.out]; exact e0)
              have b1 : ∀ i : After W2, i.w.cell? ⟨A, off + (j + 1) * 3 + 1, none⟩ = some (.int .i64 x.a.inc) := fun i => i.cell (by rw [hW2.out]; exact e1)
              have b2 : ∀ i : After W2, i.w.cell? ⟨A, off + (j + 1) * 3 + 2, none⟩ = some (.int .i64 x.seq) := fun i => i.cell (by rw [hW2.out]; exact e2)
              have g0 : ∀ i : After W2, i.w.cell? ⟨A, off + j * 3, none⟩ = some (.int .i64 y.a.dev) := fun i => i.cell (by rw [hW2.out]; exact f0)
              have g1 : ∀ i : After W2, i.w.cell? ⟨A, off + j * 3 + 1, none⟩ = some (.int .i64 y.a.inc) := fun i => i.cell (by rw [hW2.out]; exact f1)
              go_big_quiet_step (fail)
              go_big_quiet_step (fail)
              go_big_quiet_step (fail)
              go_big_quiet_step (fail)
              go_big_quiet_step (fail)
              go_big_quiet_step (fail)
              go_big_quiet_step (fail)
              go_big_quiet_step (fail)
              go_big_quiet_step (fail)
              go_big_quiet_step (fail)
              go_big_quiet_step (fail)
              go_big_quiet_step (fail)
              go_big_quiet_step (fail)
              go_big_quiet_step (fail)
              go_big_quiet_step (exact Calls.after (HC.out _))
              go_big_quiet_step (fail)
              go_big_quiet_step (fail)
              refine wpQuiet_nil ?_
              rintro _ ⟨i, rfl⟩
              have hib := i.h
              clear b0 b1 b2
              clear g0 g1 hww
              generalize i.w = wi at hib ⊢
              rw [hW2.out] at hib
              go_wp2
              go_roundw
              case rel => exact ⟨j + 1 + 1, by omega, by go_num, HE.out, hBB2.trans (hib.mono hBB2.size)⟩
              case measure => simp [intOf] <;> omega
      · have HE : Hid (marksErr l = 0) := by rw [Hid, HP.out, List.drop_eq_nil_of_le (by omega)]; cases prevAt l k <;> rfl
        clear HP
        go_wp2
        go_ret
        exact ⟨ret_int HE.out.symm, hbw⟩
  · have HE : Hid (marksErr l = 3) := by unfold Hid marksErr; rw [if_pos (by omega)]
    go_enter Tryz.func76, Tryz.ntmps76
    go_wp2
    go_ret
    exact ⟨ret_int HE.out.symm, by go_grown⟩
end Go.Proofs.YtnpdfmpjjomhcaaGreat

/- Messages: which may be. Conditions: at most 2^30 marks and events, texts of at most 2^30 bytes. -/
namespace Go.Proofs.YtnpdfmpjjomhcaaGreat
open Go.RowKit

/-- a message as it lies in memory -/
structure MsgIt where
  kind : Int
  frm : Int
  dst : Int
  marks : List Dot
  am : Option Addr
  cm : Nat
  evs : List EvIt
  ae : Option Addr
  ce : Nat
/-- a message -/
structure Msg where
  kind : Int
  frm : Int
  dst : Int
  marks : List Dot
  evs : List Ev
  deriving DecidableEq
def MsgIt.msg (m : MsgIt) : Msg := ⟨m.kind, m.frm, m.dst, m.marks, evsOf m.evs⟩
abbrev msgVal (m : MsgIt) : Value := .agg #[.int .i64 m.kind, .int .i64 m.frm, .int .i64 m.dst, .slice m.am m.marks.length m.cm, .slice m.ae m.evs.length m.ce]
structure MsgIn (w : World) (m : MsgIt) : Prop where
  marks : DotsIn w m.am m.marks
  evs : EvsIn w m.ae m.evs
theorem MsgIn.kept {w w' : World} {m : MsgIt} (h : MsgIn w m) (hb : Below w.heap.size w w') : MsgIn w' m := ⟨h.marks.kept hb, h.evs.kept hb⟩
structure MsgSmall (m : MsgIt) : Prop where
  marks : m.marks.length ≤ 1073741824
  evs : m.evs.length ≤ 1073741824
  each : EvsSmall m.evs
def devOk (n : Int) : Bool := decide (0 ≤ n) && decide (n < 64)
def msgRest (m : Msg) : Bool := if m.kind = 2 then decide (m.marks.length = 0) && risingOk m.evs else if m.kind = 1 ∨ m.kind = 3 then decide (m.evs.length = 0) && decide (marksErr m.marks = 0) else false
def msgOk (m : Msg) : Bool := (devOk m.frm && (devOk m.dst && !decide (m.frm = m.dst))) && msgRest m
theorem risingOk_nil : risingOk [] = true := rfl
theorem Device_any (n : Int) (w : World) : Calls Tryz.prog 77 #[.int .i64 n] w fun x w' => x = .returned (.bool (devOk n)) ∧ w = w' := by
  have HD : Hid (devOk n = (decide (0 ≤ n) && decide (n < 64))) := rfl
  by_cases h : 0 ≤ n
  · have HE : Hid (devOk n = decide (n < 64)) := by rw [Hid, HD.out]; simp [h]
    go_enter Tryz.func77, Tryz.ntmps77
    go_wp2
    go_ret
    exact ⟨ret_bool HE.out.symm, rfl⟩
  · have HE : Hid (devOk n = false) := by rw [Hid, HD.out]; simp [h]
    have hd := decide_eq_false h
    go_enter Tryz.func77, Tryz.ntmps77
    go_wp2
    go_ret
    exact ⟨ret_bool HE.out.symm, rfl⟩
theorem marksErr_range (l : List Dot) : 0 ≤ marksErr l ∧ marksErr l ≤ 6 := by
  have h : ∀ (l : List Dot) (p : Option Dot), 0 ≤ marksFrom p l ∧ marksFrom p l ≤ 6 := by
    intro l
    induction l with
    | nil => intro p; simp [marksFrom]
    | cons x r ih =>
      intro p
      unfold marksFrom
      split
      · split
        · exact ih _
        · omega
      · omega
  unfold marksErr
  split
  · omega
  · exact h _ _
set_option maxRecDepth 100000 in
set_option maxHeartbeats 4000000 in
theorem MsgRight_any (m : MsgIt) (w : World) (hs : MsgSmall m) (h : MsgIn w m) :
    Calls Tryz.prog 37 #[msgVal m] w fun x w' => x = .returned (.bool (msgOk m.msg)) ∧ Below w.heap.size w w' := by
  obtain ⟨kd, fr, dst, mk, am, cm, es, ae, ce⟩ := m
  obtain ⟨hmk, hev⟩ := h
  obtain ⟨s1, s2, s3⟩ := hs
  simp only at hmk hev s1 s2 s3
  have HV : Hid (msgOk (MsgIt.msg ⟨kd, fr, dst, mk, am, cm, es, ae, ce⟩) = ((devOk fr && (devOk dst && !decide (fr = dst))) && msgRest ⟨kd, fr, dst, mk, evsOf es⟩)) := rfl
  have HRI := Lib.hid (fun (W : World) (h : EvsIn W ae es) => rising_any ae ce es W s2 s3 h)
  obtain ⟨ck, hck⟩ : ∃ ck, ck = marksErr mk := ⟨_, rfl⟩
  have HC0 := fun (W : World) (h : DotsIn W am mk) => vecCheck_any am cm mk W s1 h
  have hcr := marksErr_range mk
  rw [← hck] at HC0 hcr
  have HCK := Lib.hid HC0
  have HCE : Hid (decide (marksErr mk = 0) = (ck == 0)) := by rw [Hid, ← hck]; cases h : decide (ck = 0) <;> simp_all
  clear HC0 hck
  generalize msgOk (MsgIt.msg ⟨kd, fr, dst, mk, am, cm, es, ae, ce⟩) = q at HV ⊢
  cases hA : devOk fr with
  | true =>
    have HD1 : Hid (∀ (W : World), Calls Tryz.prog 77 #[.int .i64 fr] W fun x w' => x = .returned (.bool true) ∧ W = w') := fun W => by have := Device_any fr W; rwa [hA] at this
    cases hB : devOk dst with
    | true =>
      have HD2 : Hid (∀ (W : World), Calls Tryz.prog 77 #[.int .i64 dst] W fun x w' => x = .returned (.bool true) ∧ W = w') := fun W => by have := Device_any dst W; rwa [hB] at this
      by_cases hC : fr = dst
      · skip
        have qC : (fr == dst) = true := beq_iff_eq.2 (by omega)
        have HE : Hid (q = false) := by rw [Hid, HV.out]; simp [msgRest, evsOf_length, hA, hB, hC]
        clear HV hA hB hC
        go_enter Tryz.func37, Tryz.ntmps37
        go_upto_region 1 with fail
        refine wp_name (fun W hW => ?_)
        have hbt : Below w.heap.size w W := by rw [hW.out]; go_grown
        have c0 : W.cell? ⟨w.heap.size, 0, none⟩ = some (.int .i64 kd) := by rw [hW.out]; go_simp
        have c1 : W.cell? ⟨w.heap.size, 1, none⟩ = some (.int .i64 fr) := by rw [hW.out]; go_simp
        have c2 : W.cell? ⟨w.heap.size, 2, none⟩ = some (.int .i64 dst) := by rw [hW.out]; go_simp
        have c3 : W.cell? ⟨w.heap.size, 3, none⟩ = some (.slice am mk.length cm) := by rw [hW.out]; go_simp
        have c4 : W.cell? ⟨w.heap.size, 4, none⟩ = some (.slice ae es.length ce) := by rw [hW.out]; go_simp
        have hz : w.heap.size < W.heap.size := by rw [hW.out]; simp
        have hm := hmk.kept hbt
        have hv := hev.kept hbt
        clear hW
        go_wp2_with (first
          | (go_at_call 77; (with_reducible refine (HD1.out _).mono ?_); rintro v w1 ⟨rfl, rfl⟩)
          | (go_at_call 77; (with_reducible refine (HD2.out _).mono ?_); rintro v w1 ⟨rfl, rfl⟩)
          | (go_at_call 78; (with_reducible refine (HRI.out _ hv).mono ?_); rintro v w1 ⟨rfl, hb⟩; replace hbt := below2 hbt hb)
          | (go_at_call 79; (with_reducible refine (HCK.out _ hm).mono ?_); rintro v w1 ⟨rfl, hb⟩; replace hbt := below2 hbt hb))
        go_ret
        exact ⟨ret_bool (by first | exact HE.out.symm | exact (HE.out.trans HCE.out).symm), hbt⟩
      · skip
        have qC : (fr == dst) = false := beq_eq_false_iff_ne.2 (by omega)
        by_cases hk2 : kd = 2
        · skip
          have q2 : (kd == 2) = true := beq_iff_eq.2 (by omega)
          by_cases hM : mk.length = 0
          · skip
            have qMn : (mk.length == 0) = true := beq_iff_eq.2 (by omega)
            have qMi : ((mk.length : Int) == 0) = true := beq_iff_eq.2 (by omega)
            have HE : Hid (q = risingOk (evsOf es)) := by rw [Hid, HV.out]; simp [msgRest, evsOf_length, hA, hB, hC, hk2, hM]
            clear HV hA hB hC hk2 hM
            go_enter Tryz.func37, Tryz.ntmps37
            go_upto_region 1 with fail
            refine wp_name (fun W hW => ?_)
            have hbt : Below w.heap.size w W := by rw [hW.out]; go_grown
            have c0 : W.cell? ⟨w.heap.size, 0, none⟩ = some (.int .i64 kd) := by rw [hW.out]; go_simp
            have c1 : W.cell? ⟨w.heap.size, 1, none⟩ = some (.int .i64 fr) := by rw [hW.out]; go_simp
            have c2 : W.cell? ⟨w.heap.size, 2, none⟩ = some (.int .i64 dst) := by rw [hW.out]; go_simp
            have c3 : W.cell? ⟨w.heap.size, 3, none⟩ = some (.slice am mk.length cm) := by rw [hW.out]; go_simp
            have c4 : W.cell? ⟨w.heap.size, 4, none⟩ = some (.slice ae es.length ce) := by rw [hW.out]; go_simp
            have hz : w.heap.size < W.heap.size := by rw [hW.out]; simp
            have hm := hmk.kept hbt
            have hv := hev.kept hbt
            clear hW
            go_wp2_with (first
              | (go_at_call 77; (with_reducible refine (HD1.out _).mono ?_); rintro v w1 ⟨rfl, rfl⟩)
              | (go_at_call 77; (with_reducible refine (HD2.out _).mono ?_); rintro v w1 ⟨rfl, rfl⟩)
              | (go_at_call 78; (with_reducible refine (HRI.out _ hv).mono ?_); rintro v w1 ⟨rfl, hb⟩; replace hbt := below2 hbt hb)
              | (go_at_call 79; (with_reducible refine (HCK.out _ hm).mono ?_); rintro v w1 ⟨rfl, hb⟩; replace hbt := below2 hbt hb))
            go_ret
            exact ⟨ret_bool (by first | exact HE.out.symm | exact (HE.out.trans HCE.out).symm), hbt⟩
          · skip
            have qMn : (mk.length == 0) = false := beq_eq_false_iff_ne.2 (by omega)
            have qMi : ((mk.length : Int) == 0) = false := beq_eq_false_iff_ne.2 (by omega)
            have HE : Hid (q = false) := by rw [Hid, HV.out]; simp [msgRest, evsOf_length, hA, hB, hC, hk2, hM]
            clear HV hA hB hC hk2 hM
            go_enter Tryz.func37, Tryz.ntmps37
            go_upto_region 1 with fail
            refine wp_name (fun W hW => ?_)
            have hbt : Below w.heap.size w W := by rw [hW.out]; go_grown
            have c0 : W.cell? ⟨w.heap.size, 0, none⟩ = some (.int .i64 kd) := by rw [hW.out]; go_simp
            have c1 : W.cell? ⟨w.heap.size, 1, none⟩ = some (.int .i64 fr) := by rw [hW.out]; go_simp
            have c2 : W.cell? ⟨w.heap.size, 2, none⟩ = some (.int .i64 dst) := by rw [hW.out]; go_simp
            have c3 : W.cell? ⟨w.heap.size, 3, none⟩ = some (.slice am mk.length cm) := by rw [hW.out]; go_simp
            have c4 : W.cell? ⟨w.heap.size, 4, none⟩ = some (.slice ae es.length ce) := by rw [hW.out]; go_simp
            have hz : w.heap.size < W.heap.size := by rw [hW.out]; simp
            have hm := hmk.kept hbt
            have hv := hev.kept hbt
            clear hW
            go_wp2_with (first
              | (go_at_call 77; (with_reducible refine (HD1.out _).mono ?_); rintro v w1 ⟨rfl, rfl⟩)
              | (go_at_call 77; (with_reducible refine (HD2.out _).mono ?_); rintro v w1 ⟨rfl, rfl⟩)
              | (go_at_call 78; (with_reducible refine (HRI.out _ hv).mono ?_); rintro v w1 ⟨rfl, hb⟩; replace hbt := below2 hbt hb)
              | (go_at_call 79; (with_reducible refine (HCK.out _ hm).mono ?_); rintro v w1 ⟨rfl, hb⟩; replace hbt := below2 hbt hb))
            go_ret
            exact ⟨ret_bool (by first | exact HE.out.symm | exact (HE.out.trans HCE.out).symm), hbt⟩
        · skip
          have q2 : (kd == 2) = false := beq_eq_false_iff_ne.2 (by omega)
          by_cases hk1 : kd = 1
          · skip
            have q1 : (kd == 1) = true := beq_iff_eq.2 (by omega)
            by_cases hE : es.length = 0
            · skip
              have qEn : (es.length == 0) = true := beq_iff_eq.2 (by omega)
              have qEi : ((es.length : Int) == 0) = true := beq_iff_eq.2 (by omega)
              have HE : Hid (q = decide (marksErr mk = 0)) := by rw [Hid, HV.out]; simp [msgRest, evsOf_length, hA, hB, hC, hk2, hk1, hE]
              clear HV hA hB hC hk2 hk1 hE
              go_enter Tryz.func37, Tryz.ntmps37
              go_upto_region 1 with fail
              refine wp_name (fun W hW => ?_)
              have hbt : Below w.heap.size w W := by rw [hW.out]; go_grown
              have c0 : W.cell? ⟨w.heap.size, 0, none⟩ = some (.int .i64 kd) := by rw [hW.out]; go_simp
              have c1 : W.cell? ⟨w.heap.size, 1, none⟩ = some (.int .i64 fr) := by rw [hW.out]; go_simp
              have c2 : W.cell? ⟨w.heap.size, 2, none⟩ = some (.int .i64 dst) := by rw [hW.out]; go_simp
              have c3 : W.cell? ⟨w.heap.size, 3, none⟩ = some (.slice am mk.length cm) := by rw [hW.out]; go_simp
              have c4 : W.cell? ⟨w.heap.size, 4, none⟩ = some (.slice ae es.length ce) := by rw [hW.out]; go_simp
              have hz : w.heap.size < W.heap.size := by rw [hW.out]; simp
              have hm := hmk.kept hbt
              have hv := hev.kept hbt
              clear hW
              go_wp2_with (first
                | (go_at_call 77; (with_reducible refine (HD1.out _).mono ?_); rintro v w1 ⟨rfl, rfl⟩)
                | (go_at_call 77; (with_reducible refine (HD2.out _).mono ?_); rintro v w1 ⟨rfl, rfl⟩)
                | (go_at_call 78; (with_reducible refine (HRI.out _ hv).mono ?_); rintro v w1 ⟨rfl, hb⟩; replace hbt := below2 hbt hb)
                | (go_at_call 79; (with_reducible refine (HCK.out _ hm).mono ?_); rintro v w1 ⟨rfl, hb⟩; replace hbt := below2 hbt hb))
              go_ret
              exact ⟨ret_bool (by first | exact HE.out.symm | exact (HE.out.trans HCE.out).symm), hbt⟩
            · skip
              have qEn : (es.length == 0) = false := beq_eq_false_iff_ne.2 (by omega)
              have qEi : ((es.length : Int) == 0) = false := beq_eq_false_iff_ne.2 (by omega)
              have HE : Hid (q = false) := by rw [Hid, HV.out]; simp [msgRest, evsOf_length, hA, hB, hC, hk2, hk1, hE]
              clear HV hA hB hC hk2 hk1 hE
              go_enter Tryz.func37, Tryz.ntmps37
              go_upto_region 1 with fail
              refine wp_name (fun W hW => ?_)
              have hbt : Below w.heap.size w W := by rw [hW.out]; go_grown
              have c0 : W.cell? ⟨w.heap.size, 0, none⟩ = some (.int .i64 kd) := by rw [hW.out]; go_simp
              have c1 : W.cell? ⟨w.heap.size, 1, none⟩ = some (.int .i64 fr) := by rw [hW.out]; go_simp
              have c2 : W.cell? ⟨w.heap.size, 2, none⟩ = some (.int .i64 dst) := by rw [hW.out]; go_simp
              have c3 : W.cell? ⟨w.heap.size, 3, none⟩ = some (.slice am mk.length cm) := by rw [hW.out]; go_simp
              have c4 : W.cell? ⟨w.heap.size, 4, none⟩ = some (.slice ae es.length ce) := by rw [hW.out]; go_simp
              have hz : w.heap.size < W.heap.size := by rw [hW.out]; simp
              have hm := hmk.kept hbt
              have hv := hev.kept hbt
              clear hW
              go_wp2_with (first
                | (go_at_call 77; (with_reducible refine (HD1.out _).mono ?_); rintro v w1 ⟨rfl, rfl⟩)
                | (go_at_call 77; (with_reducible refine (HD2.out _).mono ?_); rintro v w1 ⟨rfl, rfl⟩)
                | (go_at_call 78; (with_reducible refine (HRI.out _ hv).mono ?_); rintro v w1 ⟨rfl, hb⟩; replace hbt := below2 hbt hb)
                | (go_at_call 79; (with_reducible refine (HCK.out _ hm).mono ?_); rintro v w1 ⟨rfl, hb⟩; replace hbt := below2 hbt hb))
              go_ret
              exact ⟨ret_bool (by first | exact HE.out.symm | exact (HE.out.trans HCE.out).symm), hbt⟩
          · skip
            have q1 : (kd == 1) = false := beq_eq_false_iff_ne.2 (by omega)
            by_cases hk3 : kd = 3
            · skip
              have q3 : (kd == 3) = true := beq_iff_eq.2 (by omega)
              by_cases hE : es.length = 0
              · skip
                have qEn : (es.length == 0) = true := beq_iff_eq.2 (by omega)
                have qEi : ((es.length : Int) == 0) = true := beq_iff_eq.2 (by omega)
                have HE : Hid (q = decide (marksErr mk = 0)) := by rw [Hid, HV.out]; simp [msgRest, evsOf_length, hA, hB, hC, hk2, hk1, hk3, hE]
                clear HV hA hB hC hk2 hk1 hk3 hE
                go_enter Tryz.func37, Tryz.ntmps37
                go_upto_region 1 with fail
                refine wp_name (fun W hW => ?_)
                have hbt : Below w.heap.size w W := by rw [hW.out]; go_grown
                have c0 : W.cell? ⟨w.heap.size, 0, none⟩ = some (.int .i64 kd) := by rw [hW.out]; go_simp
                have c1 : W.cell? ⟨w.heap.size, 1, none⟩ = some (.int .i64 fr) := by rw [hW.out]; go_simp
                have c2 : W.cell? ⟨w.heap.size, 2, none⟩ = some (.int .i64 dst) := by rw [hW.out]; go_simp
                have c3 : W.cell? ⟨w.heap.size, 3, none⟩ = some (.slice am mk.length cm) := by rw [hW.out]; go_simp
                have c4 : W.cell? ⟨w.heap.size, 4, none⟩ = some (.slice ae es.length ce) := by rw [hW.out]; go_simp
                have hz : w.heap.size < W.heap.size := by rw [hW.out]; simp
                have hm := hmk.kept hbt
                have hv := hev.kept hbt
                clear hW
                go_wp2_with (first
                  | (go_at_call 77; (with_reducible refine (HD1.out _).mono ?_); rintro v w1 ⟨rfl, rfl⟩)
                  | (go_at_call 77; (with_reducible refine (HD2.out _).mono ?_); rintro v w1 ⟨rfl, rfl⟩)
                  | (go_at_call 78; (with_reducible refine (HRI.out _ hv).mono ?_); rintro v w1 ⟨rfl, hb⟩; replace hbt := below2 hbt hb)
                  | (go_at_call 79; (with_reducible refine (HCK.out _ hm).mono ?_); rintro v w1 ⟨rfl, hb⟩; replace hbt := below2 hbt hb))
                go_ret
                exact ⟨ret_bool (by first | exact HE.out.symm | exact (HE.out.trans HCE.out).symm), hbt⟩
              · skip
                have qEn : (es.length == 0) = false := beq_eq_false_iff_ne.2 (by omega)
                have qEi : ((es.length : Int) == 0) = false := beq_eq_false_iff_ne.2 (by omega)
                have HE : Hid (q = false) := by rw [Hid, HV.out]; simp [msgRest, evsOf_length, hA, hB, hC, hk2, hk1, hk3, hE]
                clear HV hA hB hC hk2 hk1 hk3 hE
                go_enter Tryz.func37, Tryz.ntmps37
                go_upto_region 1 with fail
                refine wp_name (fun W hW => ?_)
                have hbt : Below w.heap.size w W := by rw [hW.out]; go_grown
                have c0 : W.cell? ⟨w.heap.size, 0, none⟩ = some (.int .i64 kd) := by rw [hW.out]; go_simp
                have c1 : W.cell? ⟨w.heap.size, 1, none⟩ = some (.int .i64 fr) := by rw [hW.out]; go_simp
                have c2 : W.cell? ⟨w.heap.size, 2, none⟩ = some (.int .i64 dst) := by rw [hW.out]; go_simp
                have c3 : W.cell? ⟨w.heap.size, 3, none⟩ = some (.slice am mk.length cm) := by rw [hW.out]; go_simp
                have c4 : W.cell? ⟨w.heap.size, 4, none⟩ = some (.slice ae es.length ce) := by rw [hW.out]; go_simp
                have hz : w.heap.size < W.heap.size := by rw [hW.out]; simp
                have hm := hmk.kept hbt
                have hv := hev.kept hbt
                clear hW
                go_wp2_with (first
                  | (go_at_call 77; (with_reducible refine (HD1.out _).mono ?_); rintro v w1 ⟨rfl, rfl⟩)
                  | (go_at_call 77; (with_reducible refine (HD2.out _).mono ?_); rintro v w1 ⟨rfl, rfl⟩)
                  | (go_at_call 78; (with_reducible refine (HRI.out _ hv).mono ?_); rintro v w1 ⟨rfl, hb⟩; replace hbt := below2 hbt hb)
                  | (go_at_call 79; (with_reducible refine (HCK.out _ hm).mono ?_); rintro v w1 ⟨rfl, hb⟩; replace hbt := below2 hbt hb))
                go_ret
                exact ⟨ret_bool (by first | exact HE.out.symm | exact (HE.out.trans HCE.out).symm), hbt⟩
            · skip
              have q3 : (kd == 3) = false := beq_eq_false_iff_ne.2 (by omega)
              have HE : Hid (q = false) := by rw [Hid, HV.out]; simp [msgRest, evsOf_length, hA, hB, hC, hk2, hk1, hk3]
              clear HV hA hB hC hk2 hk1 hk3
              go_enter Tryz.func37, Tryz.ntmps37
              go_upto_region 1 with fail
              refine wp_name (fun W hW => ?_)
              have hbt : Below w.heap.size w W := by rw [hW.out]; go_grown
              have c0 : W.cell? ⟨w.heap.size, 0, none⟩ = some (.int .i64 kd) := by rw [hW.out]; go_simp
              have c1 : W.cell? ⟨w.heap.size, 1, none⟩ = some (.int .i64 fr) := by rw [hW.out]; go_simp
              have c2 : W.cell? ⟨w.heap.size, 2, none⟩ = some (.int .i64 dst) := by rw [hW.out]; go_simp
              have c3 : W.cell? ⟨w.heap.size, 3, none⟩ = some (.slice am mk.length cm) := by rw [hW.out]; go_simp
              have c4 : W.cell? ⟨w.heap.size, 4, none⟩ = some (.slice ae es.length ce) := by rw [hW.out]; go_simp
              have hz : w.heap.size < W.heap.size := by rw [hW.out]; simp
              have hm := hmk.kept hbt
              have hv := hev.kept hbt
              clear hW
              go_wp2_with (first
                | (go_at_call 77; (with_reducible refine (HD1.out _).mono ?_); rintro v w1 ⟨rfl, rfl⟩)
                | (go_at_call 77; (with_reducible refine (HD2.out _).mono ?_); rintro v w1 ⟨rfl, rfl⟩)
                | (go_at_call 78; (with_reducible refine (HRI.out _ hv).mono ?_); rintro v w1 ⟨rfl, hb⟩; replace hbt := below2 hbt hb)
                | (go_at_call 79; (with_reducible refine (HCK.out _ hm).mono ?_); rintro v w1 ⟨rfl, hb⟩; replace hbt := below2 hbt hb))
              go_ret
              exact ⟨ret_bool (by first | exact HE.out.symm | exact (HE.out.trans HCE.out).symm), hbt⟩
    | false =>
      have HD2 : Hid (∀ (W : World), Calls Tryz.prog 77 #[.int .i64 dst] W fun x w' => x = .returned (.bool false) ∧ W = w') := fun W => by have := Device_any dst W; rwa [hB] at this
      have HE : Hid (q = false) := by rw [Hid, HV.out]; simp [msgRest, evsOf_length, hA, hB]
      clear HV hA hB
      go_enter Tryz.func37, Tryz.ntmps37
      go_upto_region 1 with fail
      refine wp_name (fun W hW => ?_)
      have hbt : Below w.heap.size w W := by rw [hW.out]; go_grown
      have c0 : W.cell? ⟨w.heap.size, 0, none⟩ = some (.int .i64 kd) := by rw [hW.out]; go_simp
      have c1 : W.cell? ⟨w.heap.size, 1, none⟩ = some (.int .i64 fr) := by rw [hW.out]; go_simp
      have c2 : W.cell? ⟨w.heap.size, 2, none⟩ = some (.int .i64 dst) := by rw [hW.out]; go_simp
      have c3 : W.cell? ⟨w.heap.size, 3, none⟩ = some (.slice am mk.length cm) := by rw [hW.out]; go_simp
      have c4 : W.cell? ⟨w.heap.size, 4, none⟩ = some (.slice ae es.length ce) := by rw [hW.out]; go_simp
      have hz : w.heap.size < W.heap.size := by rw [hW.out]; simp
      have hm := hmk.kept hbt
      have hv := hev.kept hbt
      clear hW
      go_wp2_with (first
        | (go_at_call 77; (with_reducible refine (HD1.out _).mono ?_); rintro v w1 ⟨rfl, rfl⟩)
        | (go_at_call 77; (with_reducible refine (HD2.out _).mono ?_); rintro v w1 ⟨rfl, rfl⟩)
        | (go_at_call 78; (with_reducible refine (HRI.out _ hv).mono ?_); rintro v w1 ⟨rfl, hb⟩; replace hbt := below2 hbt hb)
        | (go_at_call 79; (with_reducible refine (HCK.out _ hm).mono ?_); rintro v w1 ⟨rfl, hb⟩; replace hbt := below2 hbt hb))
      go_ret
      exact ⟨ret_bool (by first | exact HE.out.symm | exact (HE.out.trans HCE.out).symm), hbt⟩
  | false =>
    have HD1 : Hid (∀ (W : World), Calls Tryz.prog 77 #[.int .i64 fr] W fun x w' => x = .returned (.bool false) ∧ W = w') := fun W => by have := Device_any fr W; rwa [hA] at this
    have HD2 : Hid True := trivial
    have HE : Hid (q = false) := by rw [Hid, HV.out]; simp [msgRest, evsOf_length, hA]
    clear HV hA
    go_enter Tryz.func37, Tryz.ntmps37
    go_upto_region 1 with fail
    refine wp_name (fun W hW => ?_)
    have hbt : Below w.heap.size w W := by rw [hW.out]; go_grown
    have c0 : W.cell? ⟨w.heap.size, 0, none⟩ = some (.int .i64 kd) := by rw [hW.out]; go_simp
    have c1 : W.cell? ⟨w.heap.size, 1, none⟩ = some (.int .i64 fr) := by rw [hW.out]; go_simp
    have c2 : W.cell? ⟨w.heap.size, 2, none⟩ = some (.int .i64 dst) := by rw [hW.out]; go_simp
    have c3 : W.cell? ⟨w.heap.size, 3, none⟩ = some (.slice am mk.length cm) := by rw [hW.out]; go_simp
    have c4 : W.cell? ⟨w.heap.size, 4, none⟩ = some (.slice ae es.length ce) := by rw [hW.out]; go_simp
    have hz : w.heap.size < W.heap.size := by rw [hW.out]; simp
    have hm := hmk.kept hbt
    have hv := hev.kept hbt
    clear hW
    go_wp2_with (first
      | (go_at_call 77; (with_reducible refine (HD1.out _).mono ?_); rintro v w1 ⟨rfl, rfl⟩)
      | (go_at_call 77; (with_reducible refine (HD2.out _).mono ?_); rintro v w1 ⟨rfl, rfl⟩)
      | (go_at_call 78; (with_reducible refine (HRI.out _ hv).mono ?_); rintro v w1 ⟨rfl, hb⟩; replace hbt := below2 hbt hb)
      | (go_at_call 79; (with_reducible refine (HCK.out _ hm).mono ?_); rintro v w1 ⟨rfl, hb⟩; replace hbt := below2 hbt hb))
    go_ret
    exact ⟨ret_bool (by first | exact HE.out.symm | exact (HE.out.trans HCE.out).symm), hbt⟩
end Go.Proofs.YtnpdfmpjjomhcaaGreat

/- Messages: which may be, by the reference. Conditions: at most 2^30 marks and events, texts of at most 2^30 bytes. -/
namespace Go.Proofs.YtnpdfmpjjomhcaaGreat
open Go.RowKit

set_option maxRecDepth 100000 in
set_option maxHeartbeats 8000000 in
theorem rMsgRight_any (m : MsgIt) (w : World) (hs : MsgSmall m) (h : MsgIn w m) :
    Calls Tryz.prog 36 #[msgVal m] w fun x w' => x = .returned (.bool (msgOk m.msg)) ∧ Below w.heap.size w w' := by
  obtain ⟨kd, fr, dst, mk, am, cm, es, ae, ce⟩ := m
  obtain ⟨hmk, hev⟩ := h
  obtain ⟨s1, s2, s3⟩ := hs
  simp only at hmk hev s1 s2 s3
  have HV : Hid (msgOk (MsgIt.msg ⟨kd, fr, dst, mk, am, cm, es, ae, ce⟩) = ((devOk fr && (devOk dst && !decide (fr = dst))) && msgRest ⟨kd, fr, dst, mk, evsOf es⟩)) := rfl
  obtain ⟨ck, hck⟩ : ∃ ck, ck = marksErr mk := ⟨_, rfl⟩
  have HC0 := fun (W : World) (h : DotsIn W am mk) => rCheck_any am cm mk W s1 h
  have hcr := marksErr_range mk
  rw [← hck] at HC0 hcr
  have HCK := Lib.hid HC0
  have HCE : Hid (decide (marksErr mk = 0) = (ck == 0)) := by rw [Hid, ← hck]; cases h : decide (ck = 0) <;> simp_all
  clear HC0 hck
  generalize msgOk (MsgIt.msg ⟨kd, fr, dst, mk, am, cm, es, ae, ce⟩) = q at HV ⊢
  by_cases u0 : fr < 0
  · skip
    have d0 := decide_eq_true (show fr < 0 by omega)
    have hA : devOk fr = false := by unfold devOk; simp; omega
    have HE : Hid (q = false) := by rw [Hid, HV.out]; simp [msgRest, evsOf_length, hA]
    clear HV hA
    go_enter Tryz.func36, Tryz.ntmps36
    go_upto_region 1 with fail
    refine wp_name (fun W hW => ?_)
    have hbt : Below w.heap.size w W := by rw [hW.out]; go_grown
    have c0 : W.cell? ⟨w.heap.size, 0, none⟩ = some (.int .i64 kd) := by rw [hW.out]; go_simp
    have c1 : W.cell? ⟨w.heap.size, 1, none⟩ = some (.int .i64 fr) := by rw [hW.out]; go_simp
    have c2 : W.cell? ⟨w.heap.size, 2, none⟩ = some (.int .i64 dst) := by rw [hW.out]; go_simp
    have c3 : W.cell? ⟨w.heap.size, 3, none⟩ = some (.slice am mk.length cm) := by rw [hW.out]; go_simp
    have c4 : W.cell? ⟨w.heap.size, 4, none⟩ = some (.slice ae es.length ce) := by rw [hW.out]; go_simp
    have hz : w.heap.size < W.heap.size := by rw [hW.out]; simp
    have hm := hmk.kept hbt
    have hv := hev.kept hbt
    clear hW
    go_wp2_with (go_at_call 76; (with_reducible refine (HCK.out _ hm).mono ?_); rintro v w1 ⟨rfl, hb⟩; replace hbt := below2 hbt hb)
    go_ret
    exact ⟨ret_bool (by first | exact HE.out.symm | exact (HE.out.trans HCE.out).symm), hbt⟩
  · skip
    have d0 := decide_eq_false (show ¬ (fr < 0) by omega)
    by_cases u1 : 63 < fr
    · skip
      have d1 := decide_eq_true (show 63 < fr by omega)
      have hA : devOk fr = false := by unfold devOk; simp; omega
      have HE : Hid (q = false) := by rw [Hid, HV.out]; simp [msgRest, evsOf_length, hA]
      clear HV hA
      go_enter Tryz.func36, Tryz.ntmps36
      go_upto_region 1 with fail
      refine wp_name (fun W hW => ?_)
      have hbt : Below w.heap.size w W := by rw [hW.out]; go_grown
      have c0 : W.cell? ⟨w.heap.size, 0, none⟩ = some (.int .i64 kd) := by rw [hW.out]; go_simp
      have c1 : W.cell? ⟨w.heap.size, 1, none⟩ = some (.int .i64 fr) := by rw [hW.out]; go_simp
      have c2 : W.cell? ⟨w.heap.size, 2, none⟩ = some (.int .i64 dst) := by rw [hW.out]; go_simp
      have c3 : W.cell? ⟨w.heap.size, 3, none⟩ = some (.slice am mk.length cm) := by rw [hW.out]; go_simp
      have c4 : W.cell? ⟨w.heap.size, 4, none⟩ = some (.slice ae es.length ce) := by rw [hW.out]; go_simp
      have hz : w.heap.size < W.heap.size := by rw [hW.out]; simp
      have hm := hmk.kept hbt
      have hv := hev.kept hbt
      clear hW
      go_wp2_with (go_at_call 76; (with_reducible refine (HCK.out _ hm).mono ?_); rintro v w1 ⟨rfl, hb⟩; replace hbt := below2 hbt hb)
      go_ret
      exact ⟨ret_bool (by first | exact HE.out.symm | exact (HE.out.trans HCE.out).symm), hbt⟩
    · skip
      have d1 := decide_eq_false (show ¬ (63 < fr) by omega)
      have hA : devOk fr = true := by unfold devOk; simp; omega
      by_cases u2 : dst < 0
      · skip
        have d2 := decide_eq_true (show dst < 0 by omega)
        have hB : devOk dst = false := by unfold devOk; simp; omega
        have HE : Hid (q = false) := by rw [Hid, HV.out]; simp [msgRest, evsOf_length, hA, hB]
        clear HV hA hB
        go_enter Tryz.func36, Tryz.ntmps36
        go_upto_region 1 with fail
        refine wp_name (fun W hW => ?_)
        have hbt : Below w.heap.size w W := by rw [hW.out]; go_grown
        have c0 : W.cell? ⟨w.heap.size, 0, none⟩ = some (.int .i64 kd) := by rw [hW.out]; go_simp
        have c1 : W.cell? ⟨w.heap.size, 1, none⟩ = some (.int .i64 fr) := by rw [hW.out]; go_simp
        have c2 : W.cell? ⟨w.heap.size, 2, none⟩ = some (.int .i64 dst) := by rw [hW.out]; go_simp
        have c3 : W.cell? ⟨w.heap.size, 3, none⟩ = some (.slice am mk.length cm) := by rw [hW.out]; go_simp
        have c4 : W.cell? ⟨w.heap.size, 4, none⟩ = some (.slice ae es.length ce) := by rw [hW.out]; go_simp
        have hz : w.heap.size < W.heap.size := by rw [hW.out]; simp
        have hm := hmk.kept hbt
        have hv := hev.kept hbt
        clear hW
        go_wp2_with (go_at_call 76; (with_reducible refine (HCK.out _ hm).mono ?_); rintro v w1 ⟨rfl, hb⟩; replace hbt := below2 hbt hb)
        go_ret
        exact ⟨ret_bool (by first | exact HE.out.symm | exact (HE.out.trans HCE.out).symm), hbt⟩
      · skip
        have d2 := decide_eq_false (show ¬ (dst < 0) by omega)
        by_cases u3 : 63 < dst
        · skip
          have d3 := decide_eq_true (show 63 < dst by omega)
          have hB : devOk dst = false := by unfold devOk; simp; omega
          have HE : Hid (q = false) := by rw [Hid, HV.out]; simp [msgRest, evsOf_length, hA, hB]
          clear HV hA hB
          go_enter Tryz.func36, Tryz.ntmps36
          go_upto_region 1 with fail
          refine wp_name (fun W hW => ?_)
          have hbt : Below w.heap.size w W := by rw [hW.out]; go_grown
          have c0 : W.cell? ⟨w.heap.size, 0, none⟩ = some (.int .i64 kd) := by rw [hW.out]; go_simp
          have c1 : W.cell? ⟨w.heap.size, 1, none⟩ = some (.int .i64 fr) := by rw [hW.out]; go_simp
          have c2 : W.cell? ⟨w.heap.size, 2, none⟩ = some (.int .i64 dst) := by rw [hW.out]; go_simp
          have c3 : W.cell? ⟨w.heap.size, 3, none⟩ = some (.slice am mk.length cm) := by rw [hW.out]; go_simp
          have c4 : W.cell? ⟨w.heap.size, 4, none⟩ = some (.slice ae es.length ce) := by rw [hW.out]; go_simp
          have hz : w.heap.size < W.heap.size := by rw [hW.out]; simp
          have hm := hmk.kept hbt
          have hv := hev.kept hbt
          clear hW
          go_wp2_with (go_at_call 76; (with_reducible refine (HCK.out _ hm).mono ?_); rintro v w1 ⟨rfl, hb⟩; replace hbt := below2 hbt hb)
          go_ret
          exact ⟨ret_bool (by first | exact HE.out.symm | exact (HE.out.trans HCE.out).symm), hbt⟩
        · skip
          have d3 := decide_eq_false (show ¬ (63 < dst) by omega)
          have hB : devOk dst = true := by unfold devOk; simp; omega
          by_cases hC : fr = dst
          · skip
            have qC : (fr == dst) = true := beq_iff_eq.2 (by omega)
            have qCn : (fr != dst) = false := by rw [bne_eq_false_iff_eq]; omega
            have HE : Hid (q = false) := by rw [Hid, HV.out]; simp [msgRest, evsOf_length, hA, hB, hC]
            clear HV hA hB hC
            go_enter Tryz.func36, Tryz.ntmps36
            go_upto_region 1 with fail
            refine wp_name (fun W hW => ?_)
            have hbt : Below w.heap.size w W := by rw [hW.out]; go_grown
            have c0 : W.cell? ⟨w.heap.size, 0, none⟩ = some (.int .i64 kd) := by rw [hW.out]; go_simp
            have c1 : W.cell? ⟨w.heap.size, 1, none⟩ = some (.int .i64 fr) := by rw [hW.out]; go_simp
            have c2 : W.cell? ⟨w.heap.size, 2, none⟩ = some (.int .i64 dst) := by rw [hW.out]; go_simp
            have c3 : W.cell? ⟨w.heap.size, 3, none⟩ = some (.slice am mk.length cm) := by rw [hW.out]; go_simp
            have c4 : W.cell? ⟨w.heap.size, 4, none⟩ = some (.slice ae es.length ce) := by rw [hW.out]; go_simp
            have hz : w.heap.size < W.heap.size := by rw [hW.out]; simp
            have hm := hmk.kept hbt
            have hv := hev.kept hbt
            clear hW
            go_wp2_with (go_at_call 76; (with_reducible refine (HCK.out _ hm).mono ?_); rintro v w1 ⟨rfl, hb⟩; replace hbt := below2 hbt hb)
            go_ret
            exact ⟨ret_bool (by first | exact HE.out.symm | exact (HE.out.trans HCE.out).symm), hbt⟩
          · skip
            have qC : (fr == dst) = false := beq_eq_false_iff_ne.2 (by omega)
            have qCn : (fr != dst) = true := by rw [bne_iff_ne]; omega
            by_cases hk1 : kd = 1
            · skip
              have q1 : (kd == 1) = true := beq_iff_eq.2 (by omega)
              have q1n : (kd != 1) = false := by rw [bne_eq_false_iff_eq]; omega
              by_cases hE : es.length = 0
              · skip
                have qEn : (es.length == 0) = true := beq_iff_eq.2 (by omega)
                have qEi : ((es.length : Int) == 0) = true := beq_iff_eq.2 (by omega)
                have qEp : decide (0 < es.length) = false := decide_eq_false (by omega)
                have qEq : decide ((0 : Int) < (es.length : Int)) = false := decide_eq_false (by omega)
                have HE : Hid (q = decide (marksErr mk = 0)) := by rw [Hid, HV.out]; simp [msgRest, evsOf_length, hA, hB, hC, hk1, hE]
                clear HV hA hB hC hk1 hE
                go_enter Tryz.func36, Tryz.ntmps36
                go_upto_region 1 with fail
                refine wp_name (fun W hW => ?_)
                have hbt : Below w.heap.size w W := by rw [hW.out]; go_grown
                have c0 : W.cell? ⟨w.heap.size, 0, none⟩ = some (.int .i64 kd) := by rw [hW.out]; go_simp
                have c1 : W.cell? ⟨w.heap.size, 1, none⟩ = some (.int .i64 fr) := by rw [hW.out]; go_simp
                have c2 : W.cell? ⟨w.heap.size, 2, none⟩ = some (.int .i64 dst) := by rw [hW.out]; go_simp
                have c3 : W.cell? ⟨w.heap.size, 3, none⟩ = some (.slice am mk.length cm) := by rw [hW.out]; go_simp
                have c4 : W.cell? ⟨w.heap.size, 4, none⟩ = some (.slice ae es.length ce) := by rw [hW.out]; go_simp
                have hz : w.heap.size < W.heap.size := by rw [hW.out]; simp
                have hm := hmk.kept hbt
                have hv := hev.kept hbt
                clear hW
                go_wp2_with (go_at_call 76; (with_reducible refine (HCK.out _ hm).mono ?_); rintro v w1 ⟨rfl, hb⟩; replace hbt := below2 hbt hb)
                go_ret
                exact ⟨ret_bool (by first | exact HE.out.symm | exact (HE.out.trans HCE.out).symm), hbt⟩
              · skip
                have qEn : (es.length == 0) = false := beq_eq_false_iff_ne.2 (by omega)
                have qEi : ((es.length : Int) == 0) = false := beq_eq_false_iff_ne.2 (by omega)
                have qEp : decide (0 < es.length) = true := decide_eq_true (by omega)
                have qEq : decide ((0 : Int) < (es.length : Int)) = true := decide_eq_true (by omega)
                have HE : Hid (q = false) := by rw [Hid, HV.out]; simp [msgRest, evsOf_length, hA, hB, hC, hk1, hE]
                clear HV hA hB hC hk1 hE
                go_enter Tryz.func36, Tryz.ntmps36
                go_upto_region 1 with fail
                refine wp_name (fun W hW => ?_)
                have hbt : Below w.heap.size w W := by rw [hW.out]; go_grown
                have c0 : W.cell? ⟨w.heap.size, 0, none⟩ = some (.int .i64 kd) := by rw [hW.out]; go_simp
                have c1 : W.cell? ⟨w.heap.size, 1, none⟩ = some (.int .i64 fr) := by rw [hW.out]; go_simp
                have c2 : W.cell? ⟨w.heap.size, 2, none⟩ = some (.int .i64 dst) := by rw [hW.out]; go_simp
                have c3 : W.cell? ⟨w.heap.size, 3, none⟩ = some (.slice am mk.length cm) := by rw [hW.out]; go_simp
                have c4 : W.cell? ⟨w.heap.size, 4, none⟩ = some (.slice ae es.length ce) := by rw [hW.out]; go_simp
                have hz : w.heap.size < W.heap.size := by rw [hW.out]; simp
                have hm := hmk.kept hbt
                have hv := hev.kept hbt
                clear hW
                go_wp2_with (go_at_call 76; (with_reducible refine (HCK.out _ hm).mono ?_); rintro v w1 ⟨rfl, hb⟩; replace hbt := below2 hbt hb)
                go_ret
                exact ⟨ret_bool (by first | exact HE.out.symm | exact (HE.out.trans HCE.out).symm), hbt⟩
            · skip
              have q1 : (kd == 1) = false := beq_eq_false_iff_ne.2 (by omega)
              have q1n : (kd != 1) = true := by rw [bne_iff_ne]; omega
              by_cases hk3 : kd = 3
              · skip
                have q3 : (kd == 3) = true := beq_iff_eq.2 (by omega)
                have q3n : (kd != 3) = false := by rw [bne_eq_false_iff_eq]; omega
                by_cases hE : es.length = 0
                · skip
                  have qEn : (es.length == 0) = true := beq_iff_eq.2 (by omega)
                  have qEi : ((es.length : Int) == 0) = true := beq_iff_eq.2 (by omega)
                  have qEp : decide (0 < es.length) = false := decide_eq_false (by omega)
                  have qEq : decide ((0 : Int) < (es.length : Int)) = false := decide_eq_false (by omega)
                  have HE : Hid (q = decide (marksErr mk = 0)) := by rw [Hid, HV.out]; simp [msgRest, evsOf_length, hA, hB, hC, hk1, hk3, hE]
                  clear HV hA hB hC hk1 hk3 hE
                  go_enter Tryz.func36, Tryz.ntmps36
                  go_upto_region 1 with fail
                  refine wp_name (fun W hW => ?_)
                  have hbt : Below w.heap.size w W := by rw [hW.out]; go_grown
                  have c0 : W.cell? ⟨w.heap.size, 0, none⟩ = some (.int .i64 kd) := by rw [hW.out]; go_simp
                  have c1 : W.cell? ⟨w.heap.size, 1, none⟩ = some (.int .i64 fr) := by rw [hW.out]; go_simp
                  have c2 : W.cell? ⟨w.heap.size, 2, none⟩ = some (.int .i64 dst) := by rw [hW.out]; go_simp
                  have c3 : W.cell? ⟨w.heap.size, 3, none⟩ = some (.slice am mk.length cm) := by rw [hW.out]; go_simp
                  have c4 : W.cell? ⟨w.heap.size, 4, none⟩ = some (.slice ae es.length ce) := by rw [hW.out]; go_simp
                  have hz : w.heap.size < W.heap.size := by rw [hW.out]; simp
                  have hm := hmk.kept hbt
                  have hv := hev.kept hbt
                  clear hW
                  go_wp2_with (go_at_call 76; (with_reducible refine (HCK.out _ hm).mono ?_); rintro v w1 ⟨rfl, hb⟩; replace hbt := below2 hbt hb)
                  go_ret
                  exact ⟨ret_bool (by first | exact HE.out.symm | exact (HE.out.trans HCE.out).symm), hbt⟩
                · skip
                  have qEn : (es.length == 0) = false := beq_eq_false_iff_ne.2 (by omega)
                  have qEi : ((es.length : Int) == 0) = false := beq_eq_false_iff_ne.2 (by omega)
                  have qEp : decide (0 < es.length) = true := decide_eq_true (by omega)
                  have qEq : decide ((0 : Int) < (es.length : Int)) = true := decide_eq_true (by omega)
                  have HE : Hid (q = false) := by rw [Hid, HV.out]; simp [msgRest, evsOf_length, hA, hB, hC, hk1, hk3, hE]
                  clear HV hA hB hC hk1 hk3 hE
                  go_enter Tryz.func36, Tryz.ntmps36
                  go_upto_region 1 with fail
                  refine wp_name (fun W hW => ?_)
                  have hbt : Below w.heap.size w W := by rw [hW.out]; go_grown
                  have c0 : W.cell? ⟨w.heap.size, 0, none⟩ = some (.int .i64 kd) := by rw [hW.out]; go_simp
                  have c1 : W.cell? ⟨w.heap.size, 1, none⟩ = some (.int .i64 fr) := by rw [hW.out]; go_simp
                  have c2 : W.cell? ⟨w.heap.size, 2, none⟩ = some (.int .i64 dst) := by rw [hW.out]; go_simp
                  have c3 : W.cell? ⟨w.heap.size, 3, none⟩ = some (.slice am mk.length cm) := by rw [hW.out]; go_simp
                  have c4 : W.cell? ⟨w.heap.size, 4, none⟩ = some (.slice ae es.length ce) := by rw [hW.out]; go_simp
                  have hz : w.heap.size < W.heap.size := by rw [hW.out]; simp
                  have hm := hmk.kept hbt
                  have hv := hev.kept hbt
                  clear hW
                  go_wp2_with (go_at_call 76; (with_reducible refine (HCK.out _ hm).mono ?_); rintro v w1 ⟨rfl, hb⟩; replace hbt := below2 hbt hb)
                  go_ret
                  exact ⟨ret_bool (by first | exact HE.out.symm | exact (HE.out.trans HCE.out).symm), hbt⟩
              · skip
                have q3 : (kd == 3) = false := beq_eq_false_iff_ne.2 (by omega)
                have q3n : (kd != 3) = true := by rw [bne_iff_ne]; omega
                by_cases hk2 : kd = 2
                · skip
                  have q2 : (kd == 2) = true := beq_iff_eq.2 (by omega)
                  have q2n : (kd != 2) = false := by rw [bne_eq_false_iff_eq]; omega
                  by_cases hM : mk.length = 0
                  · skip
                    have qMn : (mk.length == 0) = true := beq_iff_eq.2 (by omega)
                    have qMi : ((mk.length : Int) == 0) = true := beq_iff_eq.2 (by omega)
                    have qMp : decide (0 < mk.length) = false := decide_eq_false (by omega)
                    have qMq : decide ((0 : Int) < (mk.length : Int)) = false := decide_eq_false (by omega)
                    by_cases hL : 256 < es.length
                    · skip
                      have dL := decide_eq_true (show 256 < es.length by omega)
                      have dLi : decide ((256 : Int) < (es.length : Int)) = true := decide_eq_true (by omega)
                      have hR : risingOk (evsOf es) = false := by unfold risingOk; rw [evsOf_length, decide_eq_false (by omega)]; simp
                      have HE : Hid (q = false) := by rw [Hid, HV.out]; simp [msgRest, evsOf_length, hA, hB, hC, hk2, hM, hR]
                      clear HV hA hB hC hk2 hM hR
                      go_enter Tryz.func36, Tryz.ntmps36
                      go_upto_region 1 with fail
                      refine wp_name (fun W hW => ?_)
                      have hbt : Below w.heap.size w W := by rw [hW.out]; go_grown
                      have c0 : W.cell? ⟨w.heap.size, 0, none⟩ = some (.int .i64 kd) := by rw [hW.out]; go_simp
                      have c1 : W.cell? ⟨w.heap.size, 1, none⟩ = some (.int .i64 fr) := by rw [hW.out]; go_simp
                      have c2 : W.cell? ⟨w.heap.size, 2, none⟩ = some (.int .i64 dst) := by rw [hW.out]; go_simp
                      have c3 : W.cell? ⟨w.heap.size, 3, none⟩ = some (.slice am mk.length cm) := by rw [hW.out]; go_simp
                      have c4 : W.cell? ⟨w.heap.size, 4, none⟩ = some (.slice ae es.length ce) := by rw [hW.out]; go_simp
                      have hz : w.heap.size < W.heap.size := by rw [hW.out]; simp
                      have hm := hmk.kept hbt
                      have hv := hev.kept hbt
                      clear hW
                      go_wp2_with (go_at_call 76; (with_reducible refine (HCK.out _ hm).mono ?_); rintro v w1 ⟨rfl, hb⟩; replace hbt := below2 hbt hb)
                      go_ret
                      exact ⟨ret_bool (by first | exact HE.out.symm | exact (HE.out.trans HCE.out).symm), hbt⟩
                    · skip
                      have dL := decide_eq_false (show ¬ 256 < es.length by omega)
                      have dLi : decide ((256 : Int) < (es.length : Int)) = false := decide_eq_false (by omega)
                      have hR : risingOk (evsOf es) = risingFrom none (evsOf es) := by unfold risingOk; rw [evsOf_length, decide_eq_true (by omega)]; simp
                      have HE : Hid (q = risingFrom none (evsOf es)) := by rw [Hid, HV.out]; simp [msgRest, evsOf_length, hA, hB, hC, hk2, hM, hR]
                      clear HV hA hB hC hk2 hM hR
                      go_enter Tryz.func36, Tryz.ntmps36
                      go_upto_region 1 with fail
                      refine wp_name (fun W hW => ?_)
                      have hbt : Below w.heap.size w W := by rw [hW.out]; go_grown
                      have c0 : W.cell? ⟨w.heap.size, 0, none⟩ = some (.int .i64 kd) := by rw [hW.out]; go_simp
                      have c1 : W.cell? ⟨w.heap.size, 1, none⟩ = some (.int .i64 fr) := by rw [hW.out]; go_simp
                      have c2 : W.cell? ⟨w.heap.size, 2, none⟩ = some (.int .i64 dst) := by rw [hW.out]; go_simp
                      have c3 : W.cell? ⟨w.heap.size, 3, none⟩ = some (.slice am mk.length cm) := by rw [hW.out]; go_simp
                      have c4 : W.cell? ⟨w.heap.size, 4, none⟩ = some (.slice ae es.length ce) := by rw [hW.out]; go_simp
                      have hz : w.heap.size < W.heap.size := by rw [hW.out]; simp
                      have hm := hmk.kept hbt
                      have hv := hev.kept hbt
                      clear hW
                      go_wp2
                      have HM : Hid (risingFrom none (evsOf es) = risingFrom (prevEv (evsOf es) 0) ((evsOf es).drop 0)) := rfl
                      go_loopw [3] (fun i wr => ∃ k : Nat, k ≤ es.length ∧ i = .int .i64 k ∧ risingFrom none (evsOf es) = risingFrom (prevEv (evsOf es) k) ((evsOf es).drop k) ∧ Below W.heap.size W wr) (fun i _ => es.length - (intOf i).toNat)
                      case atStart => exact ⟨0, Nat.zero_le _, rfl, HM.out, Below.refl _ _⟩
                      case round =>
                        obtain ⟨k, hk, rfl, hpre, hbw⟩ := hrel
                        have HP := Lib.hid hpre
                        clear hpre HM
                        have hzw := hbw.size
                        have c4w := kept hbw c4
                        by_cases hlt : k < es.length
                        · obtain ⟨A, off, rfl, hra, hda⟩ := (hv.kept hbw).at hlt
                          have r1 := hra k hlt
                          have g1 := @evsOf_at es k hlt
                          have hsx := s3 _ (List.getElem_mem hlt)
                          have hst := risingFrom_step (evsOf es) k (by rw [evsOf_length]; exact hlt)
                          rw [g1] at hst
                          have HT : Hid (risingFrom none (evsOf es) = (evOk es[k].1 && (evNext (prevEv (evsOf es) k) es[k].1 && risingFrom (prevEv (evsOf es) (k + 1)) ((evsOf es).drop (k + 1))))) := by rw [Hid, HP.out, hst]
                          clear g1 hst HP
                          generalize es[k] = x at hda r1 hsx HT
                          obtain ⟨e, ax, cx⟩ := x
                          simp only [itEv] at *
                          have hR0 := fun (W : World) (h : DotsIn W ax e.over) => rEventRight_any e ax cx W hsx h
                          go_upto_region 10 with fail
                          cases h1 : evOk e with
                          | false =>
                            have HE2 : Hid (q = false) := by rw [Hid, HE.out, HT.out, h1]; rfl
                            rw [h1] at hR0
                            have HR := Lib.hid hR0
                            have HC : Hid True := trivial
                            clear hR0 h1 HT hra
                            refine wp_region_after (by kernel_rfl) (by kernel_rfl) (fun W2 hW2 => ?_)
                            have RX : W2.rangeAt A (off + k * 19) (evCells e ax cx) := by rw [hW2.out]; exact r1
                            have S4 : ∀ i : After W2, i.w.cell? ⟨w.heap.size, 4, none⟩ = some (.slice (some ⟨A, off, none⟩) es.length ce) := fun i => i.cell (by rw [hW2.out]; exact c4w)
                            have D1 : ∀ i : After W2, DotsIn i.w ax e.over := fun i => (show DotsIn W2 ax e.over by rw [hW2.out]; exact hda).kept i.h
                            have b0 : ∀ i : After W2, i.w.cell? ⟨A, off + k * 19, none⟩ = some (.int .i64 e.dot.a.dev) := fun i => by have := rangeAt_kept RX i.h 0 _ rfl; first | exact this | rwa [Nat.add_zero] at this
                            have b1 : ∀ i : After W2, i.w.cell? ⟨A, off + k * 19 + 1, none⟩ = some (.int .i64 e.dot.a.inc) := fun i => by have := rangeAt_kept RX i.h 1 _ rfl; first | exact this | rwa [Nat.add_zero] at this
                            have b2 : ∀ i : After W2, i.w.cell? ⟨A, off + k * 19 + 2, none⟩ = some (.int .i64 e.dot.seq) := fun i => by have := rangeAt_kept RX i.h 2 _ rfl; first | exact this | rwa [Nat.add_zero] at this
                            go_big_quiet_step (fail)
                            go_big_quiet_step (fail)
                            go_big_quiet_step (fail)
                            go_big_quiet_step (fail)
                            ((with_reducible refine wpQuiet_load_evo _ A (off + k * 19) e ax cx RX ?_ rfl ?_); exact rfl; go_simp)
                            go_big_quiet_step (exact Calls.after (HR.out _ (D1 _)))
                            go_big_quiet_step (fail)
                            go_big_quiet_step (fail)
                            go_big_quiet_step (fail)
                            go_big_quiet_step (fail)
                            go_big_quiet_step (fail)
                            go_big_quiet_step (fail)
                            go_big_quiet_step (fail)
                            go_big_quiet_step (fail)
                            go_big_quiet_step (fail)
                            go_big_quiet_step (fail)
                            go_big_quiet_step (fail)
                            go_big_quiet_step (fail)
                            go_big_quiet_step (fail)
                            go_big_quiet_step (fail)
                            go_big_quiet_step (fail)
                            go_big_quiet_step (fail)
                            go_big_quiet_step (fail)
                            go_big_quiet_step (fail)
                            go_big_quiet_step (exact Calls.after (HC.out _))
                            go_big_quiet_step (fail)
                            go_big_quiet_step (fail)
                            go_big_quiet_step (fail)
                            refine wpQuiet_nil ?_
                            first | (intro _ hi; obtain ⟨i, rfl⟩ := hi) | intro i
                            have hib := i.h
                            clear D1 RX b0 b1 b2 S4
                            generalize i.w = wi at hib ⊢
                            rw [hW2.out] at hib
                            go_wp2
                            go_ret
                            exact ⟨ret_bool HE2.out.symm, hbt.trans ((hbw.trans (hib.mono hzw)).mono (Nat.le_of_lt hz))⟩
                          | true =>
                            rw [h1] at hR0
                            have HR := Lib.hid hR0
                            have HT1 : Hid (risingFrom none (evsOf es) = (evNext (prevEv (evsOf es) k) e && risingFrom (prevEv (evsOf es) (k + 1)) ((evsOf es).drop (k + 1)))) := by rw [Hid, HT.out, h1]; rfl
                            clear hR0 h1 HT
                            rcases Nat.eq_zero_or_pos k with hk0 | hk0
                            · have hk00 : ¬ 0 < k := by omega
                              have hdk : decide (0 < k) = false := by simp; omega
                              have HN : Hid (risingFrom none (evsOf es) = risingFrom (prevEv (evsOf es) (k + 1)) ((evsOf es).drop (k + 1))) := by rw [Hid, HT1.out]; subst hk0; rfl
                              have HC : Hid True := trivial
                              clear HT1 hk0 hra
                              refine wp_region_after (by kernel_rfl) (by kernel_rfl) (fun W2 hW2 => ?_)
                              have RX : W2.rangeAt A (off + k * 19) (evCells e ax cx) := by rw [hW2.out]; exact r1
                              have S4 : ∀ i : After W2, i.w.cell? ⟨w.heap.size, 4, none⟩ = some (.slice (some ⟨A, off, none⟩) es.length ce) := fun i => i.cell (by rw [hW2.out]; exact c4w)
                              have D1 : ∀ i : After W2, DotsIn i.w ax e.over := fun i => (show DotsIn W2 ax e.over by rw [hW2.out]; exact hda).kept i.h
                              have b0 : ∀ i : After W2, i.w.cell? ⟨A, off + k * 19, none⟩ = some (.int .i64 e.dot.a.dev) := fun i => by have := rangeAt_kept RX i.h 0 _ rfl; first | exact this | rwa [Nat.add_zero] at this
                              have b1 : ∀ i : After W2, i.w.cell? ⟨A, off + k * 19 + 1, none⟩ = some (.int .i64 e.dot.a.inc) := fun i => by have := rangeAt_kept RX i.h 1 _ rfl; first | exact this | rwa [Nat.add_zero] at this
                              have b2 : ∀ i : After W2, i.w.cell? ⟨A, off + k * 19 + 2, none⟩ = some (.int .i64 e.dot.seq) := fun i => by have := rangeAt_kept RX i.h 2 _ rfl; first | exact this | rwa [Nat.add_zero] at this
                              go_big_quiet_step (fail)
                              go_big_quiet_step (fail)
                              go_big_quiet_step (fail)
                              go_big_quiet_step (fail)
                              ((with_reducible refine wpQuiet_load_evo _ A (off + k * 19) e ax cx RX ?_ rfl ?_); exact rfl; go_simp)
                              go_big_quiet_step (exact Calls.after (HR.out _ (D1 _)))
                              go_big_quiet_step (fail)
                              go_big_quiet_step (fail)
                              go_big_quiet_step (fail)
                              go_big_quiet_step (fail)
                              go_big_quiet_step (fail)
                              go_big_quiet_step (fail)
                              go_big_quiet_step (fail)
                              go_big_quiet_step (fail)
                              go_big_quiet_step (fail)
                              go_big_quiet_step (fail)
                              go_big_quiet_step (fail)
                              go_big_quiet_step (fail)
                              go_big_quiet_step (fail)
                              go_big_quiet_step (fail)
                              go_big_quiet_step (fail)
                              go_big_quiet_step (fail)
                              go_big_quiet_step (fail)
                              go_big_quiet_step (fail)
                              go_big_quiet_step (exact Calls.after (HC.out _))
                              go_big_quiet_step (fail)
                              go_big_quiet_step (fail)
                              go_big_quiet_step (fail)
                              refine wpQuiet_nil ?_
                              first | (intro _ hi; obtain ⟨i, rfl⟩ := hi) | intro i
                              have hib := i.h
                              clear D1 RX b0 b1 b2 S4
                              generalize i.w = wi at hib ⊢
                              rw [hW2.out] at hib
                              go_wp2
                              go_roundw
                              case rel => exact ⟨k + 1, by omega, by go_num, HN.out, hbw.trans (hib.mono hzw)⟩
                              case measure => simp [intOf] <;> omega
                            · obtain ⟨j, rfl⟩ : ∃ j, k = j + 1 := ⟨k - 1, by omega⟩
                              have hj : j < es.length := by omega
                              have r0 := hra j hj
                              have hpv : prevEv (evsOf es) (j + 1) = some es[j].1 := by simp [prevEv, evsOf, hj]
                              rw [hpv] at HT1
                              clear hra hpv
                              generalize es[j] = p0 at r0 HT1
                              obtain ⟨p, ap, cp⟩ := p0
                              simp only [itEv] at *
                              have f0 : wr.cell? ⟨A, off + j * 19, none⟩ = some (.int .i64 p.dot.a.dev) := by have := r0 0 _ rfl; rwa [Nat.add_zero] at this
                              have f1 : wr.cell? ⟨A, off + j * 19 + 1, none⟩ = some (.int .i64 p.dot.a.inc) := r0 1 _ rfl
                              have f2 : wr.cell? ⟨A, off + j * 19 + 2, none⟩ = some (.int .i64 p.dot.seq) := r0 2 _ rfl
                              have hC0 := fun (W : World) => rLess_any p.dot e.dot W
                              have hdk : decide ((0 : Int) < (j : Int) + 1) = true := by simp <;> omega
                              have hww : IntKind.i64.wrap ((j : Int) + 1 - 1) = (j : Int) := by rw [show (j : Int) + 1 - 1 = j by omega]; exact IntWalk.i64_in _ (by omega)
                              clear r0
                              cases h2 : dotLt p.dot e.dot with
                              | false =>
                                have HE2 : Hid (q = false) := by rw [Hid, HE.out, HT1.out]; simp [evNext, h2]
                                rw [h2] at hC0
                                have HC := Lib.hid hC0
                                clear h2 HT1 hC0
                                refine wp_region_after (by kernel_rfl) (by kernel_rfl) (fun W2 hW2 => ?_)
                                have RX : W2.rangeAt A (off + (j + 1) * 19) (evCells e ax cx) := by rw [hW2.out]; exact r1
                                have S4 : ∀ i : After W2, i.w.cell? ⟨w.heap.size, 4, none⟩ = some (.slice (some ⟨A, off, none⟩) es.length ce) := fun i => i.cell (by rw [hW2.out]; exact c4w)
                                have D1 : ∀ i : After W2, DotsIn i.w ax e.over := fun i => (show DotsIn W2 ax e.over by rw [hW2.out]; exact hda).kept i.h
                                have b0 : ∀ i : After W2, i.w.cell? ⟨A, off + (j + 1) * 19, none⟩ = some (.int .i64 e.dot.a.dev) := fun i => by have := rangeAt_kept RX i.h 0 _ rfl; first | exact this | rwa [Nat.add_zero] at this
                                have b1 : ∀ i : After W2, i.w.cell? ⟨A, off + (j + 1) * 19 + 1, none⟩ = some (.int .i64 e.dot.a.inc) := fun i => by have := rangeAt_kept RX i.h 1 _ rfl; first | exact this | rwa [Nat.add_zero] at this
                                have b2 : ∀ i : After W2, i.w.cell? ⟨A, off + (j + 1) * 19 + 2, none⟩ = some (.int .i64 e.dot.seq) := fun i => by have := rangeAt_kept RX i.h 2 _ rfl; first | exact this | rwa [Nat.add_zero] at this
                                have g0 : ∀ i : After W2, i.w.cell? ⟨A, off + j * 19, none⟩ = some (.int .i64 p.dot.a.dev) := fun i => i.cell (by rw [hW2.out]; exact f0)
                                have g1 : ∀ i : After W2, i.w.cell? ⟨A, off + j * 19 + 1, none⟩ = some (.int .i64 p.dot.a.inc) := fun i => i.cell (by rw [hW2.out]; exact f1)
                                have g2 : ∀ i : After W2, i.w.cell? ⟨A, off + j * 19 + 2, none⟩ = some (.int .i64 p.dot.seq) := fun i => i.cell (by rw [hW2.out]; exact f2)
                                go_big_quiet_step (fail)
                                go_big_quiet_step (fail)
                                go_big_quiet_step (fail)
                                go_big_quiet_step (fail)
                                ((with_reducible refine wpQuiet_load_evo _ A (off + (j + 1) * 19) e ax cx RX ?_ rfl ?_); exact rfl; go_simp)
                                go_big_quiet_step (exact Calls.after (HR.out _ (D1 _)))
                                go_big_quiet_step (fail)
                                go_big_quiet_step (fail)
                                go_big_quiet_step (fail)
                                go_big_quiet_step (fail)
                                go_big_quiet_step (fail)
                                go_big_quiet_step (fail)
                                go_big_quiet_step (fail)
                                go_big_quiet_step (fail)
                                go_big_quiet_step (fail)
                                go_big_quiet_step (fail)
                                go_big_quiet_step (fail)
                                go_big_quiet_step (fail)
                                go_big_quiet_step (fail)
                                go_big_quiet_step (fail)
                                go_big_quiet_step (fail)
                                go_big_quiet_step (fail)
                                go_big_quiet_step (fail)
                                go_big_quiet_step (fail)
                                go_big_quiet_step (exact Calls.after (HC.out _))
                                go_big_quiet_step (fail)
                                go_big_quiet_step (fail)
                                go_big_quiet_step (fail)
                                refine wpQuiet_nil ?_
                                first | (intro _ hi; obtain ⟨i, rfl⟩ := hi) | intro i
                                have hib := i.h
                                clear D1 RX b0 b1 b2 S4
                                clear g0 g1 g2 hww
                                generalize i.w = wi at hib ⊢
                                rw [hW2.out] at hib
                                go_wp2
                                go_ret
                                exact ⟨ret_bool HE2.out.symm, hbt.trans ((hbw.trans (hib.mono hzw)).mono (Nat.le_of_lt hz))⟩
                              | true =>
                                have HN : Hid (risingFrom none (evsOf es) = risingFrom (prevEv (evsOf es) (j + 1 + 1)) ((evsOf es).drop (j + 1 + 1))) := by rw [Hid, HT1.out]; simp [evNext, h2]
                                rw [h2] at hC0
                                have HC := Lib.hid hC0
                                clear h2 HT1 hC0
                                refine wp_region_after (by kernel_rfl) (by kernel_rfl) (fun W2 hW2 => ?_)
                                have RX : W2.rangeAt A (off + (j + 1) * 19) (evCells e ax cx) := by rw [hW2.out]; exact r1
                                have S4 : ∀ i : After W2, i.w.cell? ⟨w.heap.size, 4, none⟩ = some (.slice (some ⟨A, off, none⟩) es.length ce) := fun i => i.cell (by rw [hW2.out]; exact c4w)
                                have D1 : ∀ i : After W2, DotsIn i.w ax e.over := fun i => (show DotsIn W2 ax e.over by rw [hW2.out]; exact hda).kept i.h
                                have b0 : ∀ i : After W2, i.w.cell? ⟨A, off + (j + 1) * 19, none⟩ = some (.int .i64 e.dot.a.dev) := fun i => by have := rangeAt_kept RX i.h 0 _ rfl; first | exact this | rwa [Nat.add_zero] at this
                                have b1 : ∀ i : After W2, i.w.cell? ⟨A, off + (j + 1) * 19 + 1, none⟩ = some (.int .i64 e.dot.a.inc) := fun i => by have := rangeAt_kept RX i.h 1 _ rfl; first | exact this | rwa [Nat.add_zero] at this
                                have b2 : ∀ i : After W2, i.w.cell? ⟨A, off + (j + 1) * 19 + 2, none⟩ = some (.int .i64 e.dot.seq) := fun i => by have := rangeAt_kept RX i.h 2 _ rfl; first | exact this | rwa [Nat.add_zero] at this
                                have g0 : ∀ i : After W2, i.w.cell? ⟨A, off + j * 19, none⟩ = some (.int .i64 p.dot.a.dev) := fun i => i.cell (by rw [hW2.out]; exact f0)
                                have g1 : ∀ i : After W2, i.w.cell? ⟨A, off + j * 19 + 1, none⟩ = some (.int .i64 p.dot.a.inc) := fun i => i.cell (by rw [hW2.out]; exact f1)
                                have g2 : ∀ i : After W2, i.w.cell? ⟨A, off + j * 19 + 2, none⟩ = some (.int .i64 p.dot.seq) := fun i => i.cell (by rw [hW2.out]; exact f2)
                                go_big_quiet_step (fail)
                                go_big_quiet_step (fail)
                                go_big_quiet_step (fail)
                                go_big_quiet_step (fail)
                                ((with_reducible refine wpQuiet_load_evo _ A (off + (j + 1) * 19) e ax cx RX ?_ rfl ?_); exact rfl; go_simp)
                                go_big_quiet_step (exact Calls.after (HR.out _ (D1 _)))
                                go_big_quiet_step (fail)
                                go_big_quiet_step (fail)
                                go_big_quiet_step (fail)
                                go_big_quiet_step (fail)
                                go_big_quiet_step (fail)
                                go_big_quiet_step (fail)
                                go_big_quiet_step (fail)
                                go_big_quiet_step (fail)
                                go_big_quiet_step (fail)
                                go_big_quiet_step (fail)
                                go_big_quiet_step (fail)
                                go_big_quiet_step (fail)
                                go_big_quiet_step (fail)
                                go_big_quiet_step (fail)
                                go_big_quiet_step (fail)
                                go_big_quiet_step (fail)
                                go_big_quiet_step (fail)
                                go_big_quiet_step (fail)
                                go_big_quiet_step (exact Calls.after (HC.out _))
                                go_big_quiet_step (fail)
                                go_big_quiet_step (fail)
                                go_big_quiet_step (fail)
                                refine wpQuiet_nil ?_
                                first | (intro _ hi; obtain ⟨i, rfl⟩ := hi) | intro i
                                have hib := i.h
                                clear D1 RX b0 b1 b2 S4
                                clear g0 g1 g2 hww
                                generalize i.w = wi at hib ⊢
                                rw [hW2.out] at hib
                                go_wp2
                                go_roundw
                                case rel => exact ⟨j + 1 + 1, by omega, by go_num, HN.out, hbw.trans (hib.mono hzw)⟩
                                case measure => simp [intOf] <;> omega
                        · have HE2 : Hid (q = true) := by
                            rw [Hid, HE.out, HP.out, List.drop_eq_nil_of_le (by rw [evsOf_length]; omega)]; cases prevEv (evsOf es) k <;> rfl
                          clear HP
                          go_wp2
                          go_ret
                          exact ⟨ret_bool HE2.out.symm, hbt.trans (hbw.mono (Nat.le_of_lt hz))⟩
                  · skip
                    have qMn : (mk.length == 0) = false := beq_eq_false_iff_ne.2 (by omega)
                    have qMi : ((mk.length : Int) == 0) = false := beq_eq_false_iff_ne.2 (by omega)
                    have qMp : decide (0 < mk.length) = true := decide_eq_true (by omega)
                    have qMq : decide ((0 : Int) < (mk.length : Int)) = true := decide_eq_true (by omega)
                    have HE : Hid (q = false) := by rw [Hid, HV.out]; simp [msgRest, evsOf_length, hA, hB, hC, hk2, hM]
                    clear HV hA hB hC hk2 hM
                    go_enter Tryz.func36, Tryz.ntmps36
                    go_upto_region 1 with fail
                    refine wp_name (fun W hW => ?_)
                    have hbt : Below w.heap.size w W := by rw [hW.out]; go_grown
                    have c0 : W.cell? ⟨w.heap.size, 0, none⟩ = some (.int .i64 kd) := by rw [hW.out]; go_simp
                    have c1 : W.cell? ⟨w.heap.size, 1, none⟩ = some (.int .i64 fr) := by rw [hW.out]; go_simp
                    have c2 : W.cell? ⟨w.heap.size, 2, none⟩ = some (.int .i64 dst) := by rw [hW.out]; go_simp
                    have c3 : W.cell? ⟨w.heap.size, 3, none⟩ = some (.slice am mk.length cm) := by rw [hW.out]; go_simp
                    have c4 : W.cell? ⟨w.heap.size, 4, none⟩ = some (.slice ae es.length ce) := by rw [hW.out]; go_simp
                    have hz : w.heap.size < W.heap.size := by rw [hW.out]; simp
                    have hm := hmk.kept hbt
                    have hv := hev.kept hbt
                    clear hW
                    go_wp2_with (go_at_call 76; (with_reducible refine (HCK.out _ hm).mono ?_); rintro v w1 ⟨rfl, hb⟩; replace hbt := below2 hbt hb)
                    go_ret
                    exact ⟨ret_bool (by first | exact HE.out.symm | exact (HE.out.trans HCE.out).symm), hbt⟩
                · skip
                  have q2 : (kd == 2) = false := beq_eq_false_iff_ne.2 (by omega)
                  have q2n : (kd != 2) = true := by rw [bne_iff_ne]; omega
                  have HE : Hid (q = false) := by rw [Hid, HV.out]; simp [msgRest, evsOf_length, hA, hB, hC, hk1, hk3, hk2]
                  clear HV hA hB hC hk1 hk3 hk2
                  go_enter Tryz.func36, Tryz.ntmps36
                  go_upto_region 1 with fail
                  refine wp_name (fun W hW => ?_)
                  have hbt : Below w.heap.size w W := by rw [hW.out]; go_grown
                  have c0 : W.cell? ⟨w.heap.size, 0, none⟩ = some (.int .i64 kd) := by rw [hW.out]; go_simp
                  have c1 : W.cell? ⟨w.heap.size, 1, none⟩ = some (.int .i64 fr) := by rw [hW.out]; go_simp
                  have c2 : W.cell? ⟨w.heap.size, 2, none⟩ = some (.int .i64 dst) := by rw [hW.out]; go_simp
                  have c3 : W.cell? ⟨w.heap.size, 3, none⟩ = some (.slice am mk.length cm) := by rw [hW.out]; go_simp
                  have c4 : W.cell? ⟨w.heap.size, 4, none⟩ = some (.slice ae es.length ce) := by rw [hW.out]; go_simp
                  have hz : w.heap.size < W.heap.size := by rw [hW.out]; simp
                  have hm := hmk.kept hbt
                  have hv := hev.kept hbt
                  clear hW
                  go_wp2_with (go_at_call 76; (with_reducible refine (HCK.out _ hm).mono ?_); rintro v w1 ⟨rfl, hb⟩; replace hbt := below2 hbt hb)
                  go_ret
                  exact ⟨ret_bool (by first | exact HE.out.symm | exact (HE.out.trans HCE.out).symm), hbt⟩
end Go.Proofs.YtnpdfmpjjomhcaaGreat

/- Messages: are they the same, are they light. Conditions: at most 2^30 marks and events. -/
namespace Go.Proofs.YtnpdfmpjjomhcaaGreat
open Go.RowKit

theorem msg_iff (x y : Msg) : x = y ↔ x.kind = y.kind ∧ x.frm = y.frm ∧ x.dst = y.dst ∧ x.marks = y.marks ∧ x.evs = y.evs := by
  cases x; cases y; simp
set_option maxRecDepth 100000 in
set_option maxHeartbeats 4000000 in
theorem MsgSame_any (x y : MsgIt) (w : World) (sx : MsgSmall x) (sy : MsgSmall y) (hx : MsgIn w x) (hy : MsgIn w y) :
    Calls Tryz.prog 42 #[msgVal x, msgVal y] w fun v w' => v = .returned (.bool (decide (x.msg = y.msg))) ∧ Below w.heap.size w w' := by
  have HQ := Lib.hid (msg_iff x.msg y.msg)
  have HM0 := fun (W : World) (h1 : DotsIn W x.am x.marks) (h2 : DotsIn W y.am y.marks) => equalMarks_any x.am y.am x.cm y.cm x.marks y.marks W sx.marks sy.marks h1 h2
  have HV0 := fun (W : World) (h1 : EvsIn W x.ae x.evs) (h2 : EvsIn W y.ae y.evs) => equalEvs_any x.ae y.ae x.ce y.ce x.evs y.evs W sx.evs sy.evs sx.each sy.each h1 h2
  by_cases t0 : x.kind = y.kind
  · skip
    have b0 : (x.kind == y.kind) = true := beq_iff_eq.2 t0
    by_cases t1 : x.frm = y.frm
    · skip
      have b1 : (x.frm == y.frm) = true := beq_iff_eq.2 t1
      by_cases t2 : x.dst = y.dst
      · skip
        have b2 : (x.dst == y.dst) = true := beq_iff_eq.2 t2
        by_cases t3 : x.marks = y.marks
        · skip
          rw [decide_eq_true t3] at HM0
          have HE : Hid (decide (x.msg = y.msg) = decide (evsOf x.evs = evsOf y.evs)) := by rw [Hid, Bool.eq_iff_iff, decide_eq_true_eq, decide_eq_true_eq, HQ.out]; simp [MsgIt.msg, t0, t1, t2, t3]
          have HM := Lib.hid HM0
          have HV := Lib.hid HV0
          clear HM0 HV0 HQ t0 t1 t2 t3
          go_enter Tryz.func42, Tryz.ntmps42
          go_upto_region 1 with fail
          refine wp_name (fun W hW => ?_)
          have hbt : Below w.heap.size w W := by rw [hW.out]; go_grown
          have p0 : W.cell? ⟨w.heap.size, 0, none⟩ = some (.int .i64 x.kind) := by rw [hW.out]; go_simp
          have p1 : W.cell? ⟨w.heap.size, 1, none⟩ = some (.int .i64 x.frm) := by rw [hW.out]; go_simp
          have p2 : W.cell? ⟨w.heap.size, 2, none⟩ = some (.int .i64 x.dst) := by rw [hW.out]; go_simp
          have p3 : W.cell? ⟨w.heap.size, 3, none⟩ = some (.slice x.am x.marks.length x.cm) := by rw [hW.out]; go_simp
          have p4 : W.cell? ⟨w.heap.size, 4, none⟩ = some (.slice x.ae x.evs.length x.ce) := by rw [hW.out]; go_simp
          have q0 : W.cell? ⟨w.heap.size + 1, 0, none⟩ = some (.int .i64 y.kind) := by rw [hW.out]; go_simp
          have q1 : W.cell? ⟨w.heap.size + 1, 1, none⟩ = some (.int .i64 y.frm) := by rw [hW.out]; go_simp
          have q2 : W.cell? ⟨w.heap.size + 1, 2, none⟩ = some (.int .i64 y.dst) := by rw [hW.out]; go_simp
          have q3 : W.cell? ⟨w.heap.size + 1, 3, none⟩ = some (.slice y.am y.marks.length y.cm) := by rw [hW.out]; go_simp
          have q4 : W.cell? ⟨w.heap.size + 1, 4, none⟩ = some (.slice y.ae y.evs.length y.ce) := by rw [hW.out]; go_simp
          have hX := hx.kept hbt
          have hY := hy.kept hbt
          have hz : w.heap.size + 1 < W.heap.size := by rw [hW.out]; simp
          clear hW
          go_wp2_with (first
            | (go_at_call 90; (with_reducible refine (HM.out _ hX.marks hY.marks).mono ?_); rintro v w1 ⟨rfl, hb⟩; replace hbt := below2 hbt hb; replace hX := hX.kept hb; replace hY := hY.kept hb; replace p4 := kept hb p4; replace q4 := kept hb q4)
            | (go_at_call 91; (with_reducible refine (HV.out _ hX.evs hY.evs).mono ?_); rintro v w1 ⟨rfl, hb⟩; replace hbt := below2 hbt hb))
          go_ret
          exact ⟨ret_bool HE.out.symm, hbt⟩
        · skip
          rw [decide_eq_false t3] at HM0
          have HE : Hid (decide (x.msg = y.msg) = false) := by rw [Hid, decide_eq_false_iff_not, HQ.out]; exact fun h => t3 h.2.2.2.1
          have HM := Lib.hid HM0
          have HV := Lib.hid HV0
          clear HM0 HV0 HQ t0 t1 t2 t3
          go_enter Tryz.func42, Tryz.ntmps42
          go_upto_region 1 with fail
          refine wp_name (fun W hW => ?_)
          have hbt : Below w.heap.size w W := by rw [hW.out]; go_grown
          have p0 : W.cell? ⟨w.heap.size, 0, none⟩ = some (.int .i64 x.kind) := by rw [hW.out]; go_simp
          have p1 : W.cell? ⟨w.heap.size, 1, none⟩ = some (.int .i64 x.frm) := by rw [hW.out]; go_simp
          have p2 : W.cell? ⟨w.heap.size, 2, none⟩ = some (.int .i64 x.dst) := by rw [hW.out]; go_simp
          have p3 : W.cell? ⟨w.heap.size, 3, none⟩ = some (.slice x.am x.marks.length x.cm) := by rw [hW.out]; go_simp
          have p4 : W.cell? ⟨w.heap.size, 4, none⟩ = some (.slice x.ae x.evs.length x.ce) := by rw [hW.out]; go_simp
          have q0 : W.cell? ⟨w.heap.size + 1, 0, none⟩ = some (.int .i64 y.kind) := by rw [hW.out]; go_simp
          have q1 : W.cell? ⟨w.heap.size + 1, 1, none⟩ = some (.int .i64 y.frm) := by rw [hW.out]; go_simp
          have q2 : W.cell? ⟨w.heap.size + 1, 2, none⟩ = some (.int .i64 y.dst) := by rw [hW.out]; go_simp
          have q3 : W.cell? ⟨w.heap.size + 1, 3, none⟩ = some (.slice y.am y.marks.length y.cm) := by rw [hW.out]; go_simp
          have q4 : W.cell? ⟨w.heap.size + 1, 4, none⟩ = some (.slice y.ae y.evs.length y.ce) := by rw [hW.out]; go_simp
          have hX := hx.kept hbt
          have hY := hy.kept hbt
          have hz : w.heap.size + 1 < W.heap.size := by rw [hW.out]; simp
          clear hW
          go_wp2_with (first
            | (go_at_call 90; (with_reducible refine (HM.out _ hX.marks hY.marks).mono ?_); rintro v w1 ⟨rfl, hb⟩; replace hbt := below2 hbt hb; replace hX := hX.kept hb; replace hY := hY.kept hb; replace p4 := kept hb p4; replace q4 := kept hb q4)
            | (go_at_call 91; (with_reducible refine (HV.out _ hX.evs hY.evs).mono ?_); rintro v w1 ⟨rfl, hb⟩; replace hbt := below2 hbt hb))
          go_ret
          exact ⟨ret_bool HE.out.symm, hbt⟩
      · skip
        have b2 : (x.dst == y.dst) = false := beq_eq_false_iff_ne.2 t2
        have HE : Hid (decide (x.msg = y.msg) = false) := by rw [Hid, decide_eq_false_iff_not, HQ.out]; exact fun h => t2 h.2.2.1
        have HM := Lib.hid HM0
        have HV := Lib.hid HV0
        clear HM0 HV0 HQ t0 t1 t2
        go_enter Tryz.func42, Tryz.ntmps42
        go_upto_region 1 with fail
        refine wp_name (fun W hW => ?_)
        have hbt : Below w.heap.size w W := by rw [hW.out]; go_grown
        have p0 : W.cell? ⟨w.heap.size, 0, none⟩ = some (.int .i64 x.kind) := by rw [hW.out]; go_simp
        have p1 : W.cell? ⟨w.heap.size, 1, none⟩ = some (.int .i64 x.frm) := by rw [hW.out]; go_simp
        have p2 : W.cell? ⟨w.heap.size, 2, none⟩ = some (.int .i64 x.dst) := by rw [hW.out]; go_simp
        have p3 : W.cell? ⟨w.heap.size, 3, none⟩ = some (.slice x.am x.marks.length x.cm) := by rw [hW.out]; go_simp
        have p4 : W.cell? ⟨w.heap.size, 4, none⟩ = some (.slice x.ae x.evs.length x.ce) := by rw [hW.out]; go_simp
        have q0 : W.cell? ⟨w.heap.size + 1, 0, none⟩ = some (.int .i64 y.kind) := by rw [hW.out]; go_simp
        have q1 : W.cell? ⟨w.heap.size + 1, 1, none⟩ = some (.int .i64 y.frm) := by rw [hW.out]; go_simp
        have q2 : W.cell? ⟨w.heap.size + 1, 2, none⟩ = some (.int .i64 y.dst) := by rw [hW.out]; go_simp
        have q3 : W.cell? ⟨w.heap.size + 1, 3, none⟩ = some (.slice y.am y.marks.length y.cm) := by rw [hW.out]; go_simp
        have q4 : W.cell? ⟨w.heap.size + 1, 4, none⟩ = some (.slice y.ae y.evs.length y.ce) := by rw [hW.out]; go_simp
        have hX := hx.kept hbt
        have hY := hy.kept hbt
        have hz : w.heap.size + 1 < W.heap.size := by rw [hW.out]; simp
        clear hW
        go_wp2_with (first
          | (go_at_call 90; (with_reducible refine (HM.out _ hX.marks hY.marks).mono ?_); rintro v w1 ⟨rfl, hb⟩; replace hbt := below2 hbt hb; replace hX := hX.kept hb; replace hY := hY.kept hb; replace p4 := kept hb p4; replace q4 := kept hb q4)
          | (go_at_call 91; (with_reducible refine (HV.out _ hX.evs hY.evs).mono ?_); rintro v w1 ⟨rfl, hb⟩; replace hbt := below2 hbt hb))
        go_ret
        exact ⟨ret_bool HE.out.symm, hbt⟩
    · skip
      have b1 : (x.frm == y.frm) = false := beq_eq_false_iff_ne.2 t1
      have HE : Hid (decide (x.msg = y.msg) = false) := by rw [Hid, decide_eq_false_iff_not, HQ.out]; exact fun h => t1 h.2.1
      have HM := Lib.hid HM0
      have HV := Lib.hid HV0
      clear HM0 HV0 HQ t0 t1
      go_enter Tryz.func42, Tryz.ntmps42
      go_upto_region 1 with fail
      refine wp_name (fun W hW => ?_)
      have hbt : Below w.heap.size w W := by rw [hW.out]; go_grown
      have p0 : W.cell? ⟨w.heap.size, 0, none⟩ = some (.int .i64 x.kind) := by rw [hW.out]; go_simp
      have p1 : W.cell? ⟨w.heap.size, 1, none⟩ = some (.int .i64 x.frm) := by rw [hW.out]; go_simp
      have p2 : W.cell? ⟨w.heap.size, 2, none⟩ = some (.int .i64 x.dst) := by rw [hW.out]; go_simp
      have p3 : W.cell? ⟨w.heap.size, 3, none⟩ = some (.slice x.am x.marks.length x.cm) := by rw [hW.out]; go_simp
      have p4 : W.cell? ⟨w.heap.size, 4, none⟩ = some (.slice x.ae x.evs.length x.ce) := by rw [hW.out]; go_simp
      have q0 : W.cell? ⟨w.heap.size + 1, 0, none⟩ = some (.int .i64 y.kind) := by rw [hW.out]; go_simp
      have q1 : W.cell? ⟨w.heap.size + 1, 1, none⟩ = some (.int .i64 y.frm) := by rw [hW.out]; go_simp
      have q2 : W.cell? ⟨w.heap.size + 1, 2, none⟩ = some (.int .i64 y.dst) := by rw [hW.out]; go_simp
      have q3 : W.cell? ⟨w.heap.size + 1, 3, none⟩ = some (.slice y.am y.marks.length y.cm) := by rw [hW.out]; go_simp
      have q4 : W.cell? ⟨w.heap.size + 1, 4, none⟩ = some (.slice y.ae y.evs.length y.ce) := by rw [hW.out]; go_simp
      have hX := hx.kept hbt
      have hY := hy.kept hbt
      have hz : w.heap.size + 1 < W.heap.size := by rw [hW.out]; simp
      clear hW
      go_wp2_with (first
        | (go_at_call 90; (with_reducible refine (HM.out _ hX.marks hY.marks).mono ?_); rintro v w1 ⟨rfl, hb⟩; replace hbt := below2 hbt hb; replace hX := hX.kept hb; replace hY := hY.kept hb; replace p4 := kept hb p4; replace q4 := kept hb q4)
        | (go_at_call 91; (with_reducible refine (HV.out _ hX.evs hY.evs).mono ?_); rintro v w1 ⟨rfl, hb⟩; replace hbt := below2 hbt hb))
      go_ret
      exact ⟨ret_bool HE.out.symm, hbt⟩
  · skip
    have b0 : (x.kind == y.kind) = false := beq_eq_false_iff_ne.2 t0
    have HE : Hid (decide (x.msg = y.msg) = false) := by rw [Hid, decide_eq_false_iff_not, HQ.out]; exact fun h => t0 h.1
    have HM := Lib.hid HM0
    have HV := Lib.hid HV0
    clear HM0 HV0 HQ t0
    go_enter Tryz.func42, Tryz.ntmps42
    go_upto_region 1 with fail
    refine wp_name (fun W hW => ?_)
    have hbt : Below w.heap.size w W := by rw [hW.out]; go_grown
    have p0 : W.cell? ⟨w.heap.size, 0, none⟩ = some (.int .i64 x.kind) := by rw [hW.out]; go_simp
    have p1 : W.cell? ⟨w.heap.size, 1, none⟩ = some (.int .i64 x.frm) := by rw [hW.out]; go_simp
    have p2 : W.cell? ⟨w.heap.size, 2, none⟩ = some (.int .i64 x.dst) := by rw [hW.out]; go_simp
    have p3 : W.cell? ⟨w.heap.size, 3, none⟩ = some (.slice x.am x.marks.length x.cm) := by rw [hW.out]; go_simp
    have p4 : W.cell? ⟨w.heap.size, 4, none⟩ = some (.slice x.ae x.evs.length x.ce) := by rw [hW.out]; go_simp
    have q0 : W.cell? ⟨w.heap.size + 1, 0, none⟩ = some (.int .i64 y.kind) := by rw [hW.out]; go_simp
    have q1 : W.cell? ⟨w.heap.size + 1, 1, none⟩ = some (.int .i64 y.frm) := by rw [hW.out]; go_simp
    have q2 : W.cell? ⟨w.heap.size + 1, 2, none⟩ = some (.int .i64 y.dst) := by rw [hW.out]; go_simp
    have q3 : W.cell? ⟨w.heap.size + 1, 3, none⟩ = some (.slice y.am y.marks.length y.cm) := by rw [hW.out]; go_simp
    have q4 : W.cell? ⟨w.heap.size + 1, 4, none⟩ = some (.slice y.ae y.evs.length y.ce) := by rw [hW.out]; go_simp
    have hX := hx.kept hbt
    have hY := hy.kept hbt
    have hz : w.heap.size + 1 < W.heap.size := by rw [hW.out]; simp
    clear hW
    go_wp2_with (first
      | (go_at_call 90; (with_reducible refine (HM.out _ hX.marks hY.marks).mono ?_); rintro v w1 ⟨rfl, hb⟩; replace hbt := below2 hbt hb; replace hX := hX.kept hb; replace hY := hY.kept hb; replace p4 := kept hb p4; replace q4 := kept hb q4)
      | (go_at_call 91; (with_reducible refine (HV.out _ hX.evs hY.evs).mono ?_); rintro v w1 ⟨rfl, hb⟩; replace hbt := below2 hbt hb))
    go_ret
    exact ⟨ret_bool HE.out.symm, hbt⟩
set_option maxRecDepth 100000 in
set_option maxHeartbeats 4000000 in
theorem rMsgSame_any (x y : MsgIt) (w : World) (sx : MsgSmall x) (sy : MsgSmall y) (hx : MsgIn w x) (hy : MsgIn w y) :
    Calls Tryz.prog 40 #[msgVal x, msgVal y] w fun v w' => v = .returned (.bool (decide (x.msg = y.msg))) ∧ Below w.heap.size w w' := by
  have HQ := Lib.hid (msg_iff x.msg y.msg)
  have HM0 := fun (W : World) (h1 : DotsIn W x.am x.marks) (h2 : DotsIn W y.am y.marks) => rSameMarks_any x.am y.am x.cm y.cm x.marks y.marks W sx.marks sy.marks h1 h2
  have HV0 := fun (W : World) (h1 : EvsIn W x.ae x.evs) (h2 : EvsIn W y.ae y.evs) => rSameEvs_any x.ae y.ae x.ce y.ce x.evs y.evs W sx.evs sy.evs sx.each sy.each h1 h2
  by_cases t0 : x.kind = y.kind
  · skip
    have b0 : (x.kind == y.kind) = true := beq_iff_eq.2 t0
    by_cases t1 : x.frm = y.frm
    · skip
      have b1 : (x.frm == y.frm) = true := beq_iff_eq.2 t1
      by_cases t2 : x.dst = y.dst
      · skip
        have b2 : (x.dst == y.dst) = true := beq_iff_eq.2 t2
        by_cases t3 : x.marks = y.marks
        · skip
          rw [decide_eq_true t3] at HM0
          have HE : Hid (decide (x.msg = y.msg) = decide (evsOf x.evs = evsOf y.evs)) := by rw [Hid, Bool.eq_iff_iff, decide_eq_true_eq, decide_eq_true_eq, HQ.out]; simp [MsgIt.msg, t0, t1, t2, t3]
          have HM := Lib.hid HM0
          have HV := Lib.hid HV0
          clear HM0 HV0 HQ t0 t1 t2 t3
          go_enter Tryz.func40, Tryz.ntmps40
          go_upto_region 1 with fail
          refine wp_name (fun W hW => ?_)
          have hbt : Below w.heap.size w W := by rw [hW.out]; go_grown
          have p0 : W.cell? ⟨w.heap.size, 0, none⟩ = some (.int .i64 x.kind) := by rw [hW.out]; go_simp
          have p1 : W.cell? ⟨w.heap.size, 1, none⟩ = some (.int .i64 x.frm) := by rw [hW.out]; go_simp
          have p2 : W.cell? ⟨w.heap.size, 2, none⟩ = some (.int .i64 x.dst) := by rw [hW.out]; go_simp
          have p3 : W.cell? ⟨w.heap.size, 3, none⟩ = some (.slice x.am x.marks.length x.cm) := by rw [hW.out]; go_simp
          have p4 : W.cell? ⟨w.heap.size, 4, none⟩ = some (.slice x.ae x.evs.length x.ce) := by rw [hW.out]; go_simp
          have q0 : W.cell? ⟨w.heap.size + 1, 0, none⟩ = some (.int .i64 y.kind) := by rw [hW.out]; go_simp
          have q1 : W.cell? ⟨w.heap.size + 1, 1, none⟩ = some (.int .i64 y.frm) := by rw [hW.out]; go_simp
          have q2 : W.cell? ⟨w.heap.size + 1, 2, none⟩ = some (.int .i64 y.dst) := by rw [hW.out]; go_simp
          have q3 : W.cell? ⟨w.heap.size + 1, 3, none⟩ = some (.slice y.am y.marks.length y.cm) := by rw [hW.out]; go_simp
          have q4 : W.cell? ⟨w.heap.size + 1, 4, none⟩ = some (.slice y.ae y.evs.length y.ce) := by rw [hW.out]; go_simp
          have hX := hx.kept hbt
          have hY := hy.kept hbt
          have hz : w.heap.size + 1 < W.heap.size := by rw [hW.out]; simp
          clear hW
          go_wp2_with (first
            | (go_at_call 85; (with_reducible refine (HM.out _ hX.marks hY.marks).mono ?_); rintro v w1 ⟨rfl, hb⟩; replace hbt := below2 hbt hb; replace hX := hX.kept hb; replace hY := hY.kept hb; replace p4 := kept hb p4; replace q4 := kept hb q4)
            | (go_at_call 86; (with_reducible refine (HV.out _ hX.evs hY.evs).mono ?_); rintro v w1 ⟨rfl, hb⟩; replace hbt := below2 hbt hb))
          go_ret
          exact ⟨ret_bool HE.out.symm, hbt⟩
        · skip
          rw [decide_eq_false t3] at HM0
          have HE : Hid (decide (x.msg = y.msg) = false) := by rw [Hid, decide_eq_false_iff_not, HQ.out]; exact fun h => t3 h.2.2.2.1
          have HM := Lib.hid HM0
          have HV := Lib.hid HV0
          clear HM0 HV0 HQ t0 t1 t2 t3
          go_enter Tryz.func40, Tryz.ntmps40
          go_upto_region 1 with fail
          refine wp_name (fun W hW => ?_)
          have hbt : Below w.heap.size w W := by rw [hW.out]; go_grown
          have p0 : W.cell? ⟨w.heap.size, 0, none⟩ = some (.int .i64 x.kind) := by rw [hW.out]; go_simp
          have p1 : W.cell? ⟨w.heap.size, 1, none⟩ = some (.int .i64 x.frm) := by rw [hW.out]; go_simp
          have p2 : W.cell? ⟨w.heap.size, 2, none⟩ = some (.int .i64 x.dst) := by rw [hW.out]; go_simp
          have p3 : W.cell? ⟨w.heap.size, 3, none⟩ = some (.slice x.am x.marks.length x.cm) := by rw [hW.out]; go_simp
          have p4 : W.cell? ⟨w.heap.size, 4, none⟩ = some (.slice x.ae x.evs.length x.ce) := by rw [hW.out]; go_simp
          have q0 : W.cell? ⟨w.heap.size + 1, 0, none⟩ = some (.int .i64 y.kind) := by rw [hW.out]; go_simp
          have q1 : W.cell? ⟨w.heap.size + 1, 1, none⟩ = some (.int .i64 y.frm) := by rw [hW.out]; go_simp
          have q2 : W.cell? ⟨w.heap.size + 1, 2, none⟩ = some (.int .i64 y.dst) := by rw [hW.out]; go_simp
          have q3 : W.cell? ⟨w.heap.size + 1, 3, none⟩ = some (.slice y.am y.marks.length y.cm) := by rw [hW.out]; go_simp
          have q4 : W.cell? ⟨w.heap.size + 1, 4, none⟩ = some (.slice y.ae y.evs.length y.ce) := by rw [hW.out]; go_simp
          have hX := hx.kept hbt
          have hY := hy.kept hbt
          have hz : w.heap.size + 1 < W.heap.size := by rw [hW.out]; simp
          clear hW
          go_wp2_with (first
            | (go_at_call 85; (with_reducible refine (HM.out _ hX.marks hY.marks).mono ?_); rintro v w1 ⟨rfl, hb⟩; replace hbt := below2 hbt hb; replace hX := hX.kept hb; replace hY := hY.kept hb; replace p4 := kept hb p4; replace q4 := kept hb q4)
            | (go_at_call 86; (with_reducible refine (HV.out _ hX.evs hY.evs).mono ?_); rintro v w1 ⟨rfl, hb⟩; replace hbt := below2 hbt hb))
          go_ret
          exact ⟨ret_bool HE.out.symm, hbt⟩
      · skip
        have b2 : (x.dst == y.dst) = false := beq_eq_false_iff_ne.2 t2
        have HE : Hid (decide (x.msg = y.msg) = false) := by rw [Hid, decide_eq_false_iff_not, HQ.out]; exact fun h => t2 h.2.2.1
        have HM := Lib.hid HM0
        have HV := Lib.hid HV0
        clear HM0 HV0 HQ t0 t1 t2
        go_enter Tryz.func40, Tryz.ntmps40
        go_upto_region 1 with fail
        refine wp_name (fun W hW => ?_)
        have hbt : Below w.heap.size w W := by rw [hW.out]; go_grown
        have p0 : W.cell? ⟨w.heap.size, 0, none⟩ = some (.int .i64 x.kind) := by rw [hW.out]; go_simp
        have p1 : W.cell? ⟨w.heap.size, 1, none⟩ = some (.int .i64 x.frm) := by rw [hW.out]; go_simp
        have p2 : W.cell? ⟨w.heap.size, 2, none⟩ = some (.int .i64 x.dst) := by rw [hW.out]; go_simp
        have p3 : W.cell? ⟨w.heap.size, 3, none⟩ = some (.slice x.am x.marks.length x.cm) := by rw [hW.out]; go_simp
        have p4 : W.cell? ⟨w.heap.size, 4, none⟩ = some (.slice x.ae x.evs.length x.ce) := by rw [hW.out]; go_simp
        have q0 : W.cell? ⟨w.heap.size + 1, 0, none⟩ = some (.int .i64 y.kind) := by rw [hW.out]; go_simp
        have q1 : W.cell? ⟨w.heap.size + 1, 1, none⟩ = some (.int .i64 y.frm) := by rw [hW.out]; go_simp
        have q2 : W.cell? ⟨w.heap.size + 1, 2, none⟩ = some (.int .i64 y.dst) := by rw [hW.out]; go_simp
        have q3 : W.cell? ⟨w.heap.size + 1, 3, none⟩ = some (.slice y.am y.marks.length y.cm) := by rw [hW.out]; go_simp
        have q4 : W.cell? ⟨w.heap.size + 1, 4, none⟩ = some (.slice y.ae y.evs.length y.ce) := by rw [hW.out]; go_simp
        have hX := hx.kept hbt
        have hY := hy.kept hbt
        have hz : w.heap.size + 1 < W.heap.size := by rw [hW.out]; simp
        clear hW
        go_wp2_with (first
          | (go_at_call 85; (with_reducible refine (HM.out _ hX.marks hY.marks).mono ?_); rintro v w1 ⟨rfl, hb⟩; replace hbt := below2 hbt hb; replace hX := hX.kept hb; replace hY := hY.kept hb; replace p4 := kept hb p4; replace q4 := kept hb q4)
          | (go_at_call 86; (with_reducible refine (HV.out _ hX.evs hY.evs).mono ?_); rintro v w1 ⟨rfl, hb⟩; replace hbt := below2 hbt hb))
        go_ret
        exact ⟨ret_bool HE.out.symm, hbt⟩
    · skip
      have b1 : (x.frm == y.frm) = false := beq_eq_false_iff_ne.2 t1
      have HE : Hid (decide (x.msg = y.msg) = false) := by rw [Hid, decide_eq_false_iff_not, HQ.out]; exact fun h => t1 h.2.1
      have HM := Lib.hid HM0
      have HV := Lib.hid HV0
      clear HM0 HV0 HQ t0 t1
      go_enter Tryz.func40, Tryz.ntmps40
      go_upto_region 1 with fail
      refine wp_name (fun W hW => ?_)
      have hbt : Below w.heap.size w W := by rw [hW.out]; go_grown
      have p0 : W.cell? ⟨w.heap.size, 0, none⟩ = some (.int .i64 x.kind) := by rw [hW.out]; go_simp
      have p1 : W.cell? ⟨w.heap.size, 1, none⟩ = some (.int .i64 x.frm) := by rw [hW.out]; go_simp
      have p2 : W.cell? ⟨w.heap.size, 2, none⟩ = some (.int .i64 x.dst) := by rw [hW.out]; go_simp
      have p3 : W.cell? ⟨w.heap.size, 3, none⟩ = some (.slice x.am x.marks.length x.cm) := by rw [hW.out]; go_simp
      have p4 : W.cell? ⟨w.heap.size, 4, none⟩ = some (.slice x.ae x.evs.length x.ce) := by rw [hW.out]; go_simp
      have q0 : W.cell? ⟨w.heap.size + 1, 0, none⟩ = some (.int .i64 y.kind) := by rw [hW.out]; go_simp
      have q1 : W.cell? ⟨w.heap.size + 1, 1, none⟩ = some (.int .i64 y.frm) := by rw [hW.out]; go_simp
      have q2 : W.cell? ⟨w.heap.size + 1, 2, none⟩ = some (.int .i64 y.dst) := by rw [hW.out]; go_simp
      have q3 : W.cell? ⟨w.heap.size + 1, 3, none⟩ = some (.slice y.am y.marks.length y.cm) := by rw [hW.out]; go_simp
      have q4 : W.cell? ⟨w.heap.size + 1, 4, none⟩ = some (.slice y.ae y.evs.length y.ce) := by rw [hW.out]; go_simp
      have hX := hx.kept hbt
      have hY := hy.kept hbt
      have hz : w.heap.size + 1 < W.heap.size := by rw [hW.out]; simp
      clear hW
      go_wp2_with (first
        | (go_at_call 85; (with_reducible refine (HM.out _ hX.marks hY.marks).mono ?_); rintro v w1 ⟨rfl, hb⟩; replace hbt := below2 hbt hb; replace hX := hX.kept hb; replace hY := hY.kept hb; replace p4 := kept hb p4; replace q4 := kept hb q4)
        | (go_at_call 86; (with_reducible refine (HV.out _ hX.evs hY.evs).mono ?_); rintro v w1 ⟨rfl, hb⟩; replace hbt := below2 hbt hb))
      go_ret
      exact ⟨ret_bool HE.out.symm, hbt⟩
  · skip
    have b0 : (x.kind == y.kind) = false := beq_eq_false_iff_ne.2 t0
    have HE : Hid (decide (x.msg = y.msg) = false) := by rw [Hid, decide_eq_false_iff_not, HQ.out]; exact fun h => t0 h.1
    have HM := Lib.hid HM0
    have HV := Lib.hid HV0
    clear HM0 HV0 HQ t0
    go_enter Tryz.func40, Tryz.ntmps40
    go_upto_region 1 with fail
    refine wp_name (fun W hW => ?_)
    have hbt : Below w.heap.size w W := by rw [hW.out]; go_grown
    have p0 : W.cell? ⟨w.heap.size, 0, none⟩ = some (.int .i64 x.kind) := by rw [hW.out]; go_simp
    have p1 : W.cell? ⟨w.heap.size, 1, none⟩ = some (.int .i64 x.frm) := by rw [hW.out]; go_simp
    have p2 : W.cell? ⟨w.heap.size, 2, none⟩ = some (.int .i64 x.dst) := by rw [hW.out]; go_simp
    have p3 : W.cell? ⟨w.heap.size, 3, none⟩ = some (.slice x.am x.marks.length x.cm) := by rw [hW.out]; go_simp
    have p4 : W.cell? ⟨w.heap.size, 4, none⟩ = some (.slice x.ae x.evs.length x.ce) := by rw [hW.out]; go_simp
    have q0 : W.cell? ⟨w.heap.size + 1, 0, none⟩ = some (.int .i64 y.kind) := by rw [hW.out]; go_simp
    have q1 : W.cell? ⟨w.heap.size + 1, 1, none⟩ = some (.int .i64 y.frm) := by rw [hW.out]; go_simp
    have q2 : W.cell? ⟨w.heap.size + 1, 2, none⟩ = some (.int .i64 y.dst) := by rw [hW.out]; go_simp
    have q3 : W.cell? ⟨w.heap.size + 1, 3, none⟩ = some (.slice y.am y.marks.length y.cm) := by rw [hW.out]; go_simp
    have q4 : W.cell? ⟨w.heap.size + 1, 4, none⟩ = some (.slice y.ae y.evs.length y.ce) := by rw [hW.out]; go_simp
    have hX := hx.kept hbt
    have hY := hy.kept hbt
    have hz : w.heap.size + 1 < W.heap.size := by rw [hW.out]; simp
    clear hW
    go_wp2_with (first
      | (go_at_call 85; (with_reducible refine (HM.out _ hX.marks hY.marks).mono ?_); rintro v w1 ⟨rfl, hb⟩; replace hbt := below2 hbt hb; replace hX := hX.kept hb; replace hY := hY.kept hb; replace p4 := kept hb p4; replace q4 := kept hb q4)
      | (go_at_call 86; (with_reducible refine (HV.out _ hX.evs hY.evs).mono ?_); rintro v w1 ⟨rfl, hb⟩; replace hbt := below2 hbt hb))
    go_ret
    exact ⟨ret_bool HE.out.symm, hbt⟩
/-- few marks, few events, short -/
def mlight (m : Msg) : Bool := decide (m.marks.length ≤ 100) && lightAll 30 m.evs
set_option maxRecDepth 100000 in
set_option maxHeartbeats 2000000 in
theorem mlight_any (m : MsgIt) (w : World) (hmk : DotsIn w m.am m.marks) (hev : EvsIn w m.ae m.evs) (hl : m.evs.length ≤ maxLen) (hml : m.marks.length ≤ maxLen)
    (hs : ∀ x ∈ m.evs, x.1.over.length ≤ maxLen ∧ x.1.key.name.size ≤ maxLen ∧ x.1.key.domain.size ≤ maxLen ∧ x.1.key.path.size ≤ maxLen ∧ x.1.ck.value.size ≤ maxLen) :
    Calls Tryz.prog 33 #[msgVal m] w fun x w' => x = .returned (.bool (mlight m.msg)) ∧ Below w.heap.size w w' := by
  obtain ⟨kd, fr, dst, mk, am, cm, es, ae, ce⟩ := m
  simp only at hmk hev hl hml hs
  have HL : Hid (∀ (W : World), EvsIn W ae es → Calls Tryz.prog 74 #[.slice ae es.length ce, .int .i64 30] W fun x w' => x = .returned (.bool (lightAll 30 (evsOf es))) ∧ Below W.heap.size W w') := fun W h => LightAll_any ae ce 30 es W (by omega) hl h hs
  have HV : Hid (mlight (MsgIt.msg ⟨kd, fr, dst, mk, am, cm, es, ae, ce⟩) = (decide (mk.length ≤ 100) && lightAll 30 (evsOf es))) := rfl
  generalize mlight (MsgIt.msg ⟨kd, fr, dst, mk, am, cm, es, ae, ce⟩) = q at HV ⊢
  unfold maxLen at hl hml
  by_cases h1 : mk.length ≤ 100
  · have d1 := decide_eq_true h1
    have d2 : decide ((mk.length : Int) ≤ 100) = true := decide_eq_true (by omega)
    have HE : Hid (q = lightAll 30 (evsOf es)) := by rw [Hid, HV.out, d1]; rfl
    clear HV h1
    go_enter Tryz.func33, Tryz.ntmps33
    go_upto_region 1 with fail
    refine wp_name (fun W hW => ?_)
    have hbt : Below w.heap.size w W := by rw [hW.out]; go_grown
    have c0 : W.cell? ⟨w.heap.size, 0, none⟩ = some (.int .i64 kd) := by rw [hW.out]; go_simp
    have c1 : W.cell? ⟨w.heap.size, 1, none⟩ = some (.int .i64 fr) := by rw [hW.out]; go_simp
    have c2 : W.cell? ⟨w.heap.size, 2, none⟩ = some (.int .i64 dst) := by rw [hW.out]; go_simp
    have c3 : W.cell? ⟨w.heap.size, 3, none⟩ = some (.slice am mk.length cm) := by rw [hW.out]; go_simp
    have c4 : W.cell? ⟨w.heap.size, 4, none⟩ = some (.slice ae es.length ce) := by rw [hW.out]; go_simp
    have hz : w.heap.size < W.heap.size := by rw [hW.out]; simp
    have hm := hmk.kept hbt
    have hv := hev.kept hbt
    clear hW
    go_wp2_with (go_at_call 74; (with_reducible refine (HL.out _ hv).mono ?_); rintro v w1 ⟨rfl, hb⟩; replace hbt := below2 hbt hb)
    go_ret
    exact ⟨ret_bool HE.out.symm, hbt⟩
  · have d1 := decide_eq_false h1
    have d2 : decide ((mk.length : Int) ≤ 100) = false := decide_eq_false (by omega)
    have HE : Hid (q = false) := by rw [Hid, HV.out, d1]; rfl
    clear HV h1
    go_enter Tryz.func33, Tryz.ntmps33
    go_upto_region 1 with fail
    refine wp_name (fun W hW => ?_)
    have hbt : Below w.heap.size w W := by rw [hW.out]; go_grown
    have c0 : W.cell? ⟨w.heap.size, 0, none⟩ = some (.int .i64 kd) := by rw [hW.out]; go_simp
    have c1 : W.cell? ⟨w.heap.size, 1, none⟩ = some (.int .i64 fr) := by rw [hW.out]; go_simp
    have c2 : W.cell? ⟨w.heap.size, 2, none⟩ = some (.int .i64 dst) := by rw [hW.out]; go_simp
    have c3 : W.cell? ⟨w.heap.size, 3, none⟩ = some (.slice am mk.length cm) := by rw [hW.out]; go_simp
    have c4 : W.cell? ⟨w.heap.size, 4, none⟩ = some (.slice ae es.length ce) := by rw [hW.out]; go_simp
    have hz : w.heap.size < W.heap.size := by rw [hW.out]; simp
    have hm := hmk.kept hbt
    have hv := hev.kept hbt
    clear hW
    go_wp2
    go_ret
    exact ⟨ret_bool HE.out.symm, hbt⟩
end Go.Proofs.YtnpdfmpjjomhcaaGreat
