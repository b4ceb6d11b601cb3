/- The law OrmapNils, walked. Conditions: none. -/
import Derived.Test.YtcijajjngmmbeaaGreatOrmH
import Derived.Test.YtcijajjngmmbeaaGreatLex
import Derived.Test.YtcijajjngmmbeaaGreatSameEv
import Derived.Test.YtcijajjngmmbeaaGreatLight
import Derived.Test.YtcijajjngmmbeaaGreatOpen
set_option linter.unusedSimpArgs false
set_option linter.unusedVariables false
set_option linter.unnecessarySimpa false
namespace Go.Proofs.YtcijajjngmmbeaaGreat
open Go.RowKit

/-- no event, as the walk meets it -/
structure NilEv (z : Ev) : Prop where
  win : ∀ (k : Key) (w : World), Calls Tryz.prog 19 #[.pointer none, keyVal k] w fun x w' => x = .returned (.tuple #[evVal z none 0, .bool false]) ∧ Below w.heap.size w w'
  same : ∀ w : World, Calls Tryz.prog 24 #[evVal z none 0, .agg #[.int .i64 0, .int .i64 0, .int .i64 0, .int .i64 0, .int .i64 0, .int .i64 0, .int .i64 0, .string ⟨#[]⟩, .string ⟨#[]⟩, .string ⟨#[]⟩, .string ⟨#[]⟩, .bool false, .bool false, .bool false, .bool false, .int .i64 0, .int .i64 0, .int .i64 0, .slice none 0 0]] w fun x w' => x = .returned (.bool true) ∧ Below w.heap.size w w'
theorem nilEv : NilEv ev0 where
  win := mWinner_nil
  same := fun w => rSameEv_any ev0 ev0 none none 0 0 w (Nat.zero_le _) (Nat.zero_le _) (Or.inl rfl) (Or.inl rfl)

set_option maxRecDepth 100000 in
set_option maxHeartbeats 4000000 in
theorem lawONils_any (e : Ev) (a : Option Addr) (cap : Nat) (w : World) (hol : e.over.length ≤ maxLen) (h7 : e.key.name.size ≤ maxLen) (h8 : e.key.domain.size ≤ maxLen) (h9 : e.key.path.size ≤ maxLen) (h10 : e.ck.value.size ≤ maxLen) :
    Calls Tryz.prog 10 #[evVal e a cap] w fun x w' => x = .returned (.bool true) ∧ Below w.heap.size w w' := by
  have HL0 := fun (W : World) => Light_any e a cap W hol h7 h8 h9 h10
  have HA := Lib.hid awake21_any
  go_enter Tryz.func10, Tryz.ntmps10
  go_upto_region 1 with fail
  refine wp_name (fun W hW => ?_)
  have hbt : Below w.heap.size w W := by rw [hW.out]; go_grown
  have hR : W.rangeAt w.heap.size 0 (evCells e a cap) := by rw [hW.out]; exact evCells_box e a cap w _
  clear hW hol h7 h8 h9 h10
  cases hl : light e with
  | false =>
    rw [hl] at HL0
    have HL := Lib.hid HL0
    clear HL0 hl
    go_wp2_with (first
      | ((with_reducible refine wpList_load_ev _ w.heap.size e a cap hR ?_ rfl ?_); exact rfl)
      | (go_at_call 50; (with_reducible refine (HL.out _).mono ?_); rintro x w1 ⟨rfl, hb⟩; replace hbt := below2 hbt hb)
      | (go_at_call 15; (with_reducible refine (HA.out _).mono ?_); rintro x w2 ⟨rfl, hb2⟩; replace hbt := below2 hbt hb2))
    go_ret
    exact ⟨rfl, hbt⟩
  | true =>
    rw [hl] at HL0
    have HL := Lib.hid HL0
    clear HL0 hl
    obtain ⟨z, hz⟩ : ∃ z, NilEv z := ⟨ev0, nilEv⟩
    have HW := Lib.hid (hz.win e.key)
    have HS := Lib.hid hz.same
    have HP := Lib.hid (fun W => mApply_nil e a cap W)
    have HK := Lib.hid (fun W => mKey_nil e.key W)
    have HC := Lib.hid (fun W => mContext_nil W)
    have HE := Lib.hid (fun W => mEvents_nil W)
    have HV := Lib.hid (fun W => mAlive_nil W)
    have HWs := Lib.hid (fun W => mWinners_nil W)
    have HLn := Lib.hid (fun W => (show Calls Tryz.prog 54 #[.pointer none] W (fun x w' => x = .returned (.int .i64 0) ∧ Below W.heap.size W w') from (mLen_nil W).mono fun _ _ h => ⟨h.1, by rw [← h.2]; exact Below.refl _ _⟩))
    have HH := Lib.hid (fun W => mHas_nil e.dot W)
    have HD := Lib.hid (fun W => mDead_nil e.dot W)
    have HRm := Lib.hid (fun W => (show Calls Tryz.prog 55 #[.pointer none, .int .i64 0] W (fun x w' => x = .returned (.bool false) ∧ Below W.heap.size W w') from (mRoom_nil 0 W).mono fun _ _ h => ⟨h.1, by rw [← h.2]; exact Below.refl _ _⟩))
    have HCp := Lib.hid (fun W => mCopy_nil W)
    have HF := Lib.hid (fun W => mForget_nil e.dot W)
    have HB := Lib.hid (fun W => mBare_nil e.dot W)
    have HCl := Lib.hid (fun W => mClear_nil e.dot W)
    have HDs := Lib.hid (fun W => mDeads_nil W)
    clear hz
    go_upto_region 5 with (first
      | ((with_reducible refine wpList_load_ev _ w.heap.size e a cap hR ?_ rfl ?_); exact rfl)
      | (go_at_call 50; (with_reducible refine (HL.out _).mono ?_); rintro x w1 ⟨rfl, hb⟩; replace hbt := below2 hbt hb; replace hR := rangeAt_kept hR hb; clear hb)
      | (go_at_call 17; (with_reducible refine (HP.out _).mono ?_); rintro x w2 ⟨rfl, hb⟩; replace hbt := below2 hbt hb; replace hR := rangeAt_kept hR hb; clear hb))
    have hW2 : ∀ X : World, X = w2 → Below w2.heap.size w2 X := fun X h => by rw [h]; exact Below.refl _ _
    have q0 : w2.cell? ⟨w.heap.size, 0, none⟩ = some (.int .i64 e.dot.a.dev) := by have := hR 0 _ rfl; rwa [Nat.zero_add] at this
    have q1 : w2.cell? ⟨w.heap.size, 1, none⟩ = some (.int .i64 e.dot.a.inc) := by have := hR 1 _ rfl; rwa [Nat.zero_add] at this
    have q2 : w2.cell? ⟨w.heap.size, 2, none⟩ = some (.int .i64 e.dot.seq) := by have := hR 2 _ rfl; rwa [Nat.zero_add] at this
    have q7 : w2.cell? ⟨w.heap.size, 7, none⟩ = some (.string e.key.name) := by have := hR 7 _ rfl; rwa [Nat.zero_add] at this
    have q8 : w2.cell? ⟨w.heap.size, 8, none⟩ = some (.string e.key.domain) := by have := hR 8 _ rfl; rwa [Nat.zero_add] at this
    have q9 : w2.cell? ⟨w.heap.size, 9, none⟩ = some (.string e.key.path) := by have := hR 9 _ rfl; rwa [Nat.zero_add] at this
    clear hR hW2 HL HP
    go_upto_region 6 with (first
      | (go_at_call 19; (with_reducible refine (HW.out _).mono ?_); rintro x wx ⟨rfl, hb⟩; replace hbt := below2 hbt hb; replace q0 := kept hb q0; replace q1 := kept hb q1; replace q2 := kept hb q2; replace q7 := kept hb q7; replace q8 := kept hb q8; replace q9 := kept hb q9; clear hb)
      | (refine wpList_store_new 42 _ _ _ _ rfl rfl (by kernel_rfl) rfl (by kernel_rfl) ?_))
    clear HW
    simp only [List.append]
    refine wp_region_after (by kernel_rfl) (lexB_pieces 12 8 1 (by kernel_rfl) (by as_aux_lemma => kernel_rfl) (fun i hi => match i, hi with
      | 0, _ => (by as_aux_lemma => kernel_rfl)
      | 1, _ => (by as_aux_lemma => kernel_rfl)
      | 2, _ => (by as_aux_lemma => kernel_rfl)
      | 3, _ => (by as_aux_lemma => kernel_rfl)
      | 4, _ => (by as_aux_lemma => kernel_rfl)
      | 5, _ => (by as_aux_lemma => kernel_rfl)
      | 6, _ => (by as_aux_lemma => kernel_rfl)
      | 7, _ => (by as_aux_lemma => kernel_rfl)
      | n + 8, h => absurd h (by omega)) (by as_aux_lemma => kernel_rfl)) (fun W2 hW2 => ?_)
    have hb2 : Below wx.heap.size wx W2 := by rw [hW2.out]; go_grown
    have hR2 : W2.rangeAt wx.heap.size 0 (evCells z none 0) := by rw [hW2.out]; exact evCells_box z none 0 wx _
    clear hW2
    replace hbt := below2 hbt hb2
    have p0 : ∀ i : After W2, i.w.cell? ⟨w.heap.size, 0, none⟩ = some (.int .i64 e.dot.a.dev) := fun i => i.cell (kept hb2 q0)
    have p1 : ∀ i : After W2, i.w.cell? ⟨w.heap.size, 1, none⟩ = some (.int .i64 e.dot.a.inc) := fun i => i.cell (kept hb2 q1)
    have p2 : ∀ i : After W2, i.w.cell? ⟨w.heap.size, 2, none⟩ = some (.int .i64 e.dot.seq) := fun i => i.cell (kept hb2 q2)
    have p7 : ∀ i : After W2, i.w.cell? ⟨w.heap.size, 7, none⟩ = some (.string e.key.name) := fun i => i.cell (kept hb2 q7)
    have p8 : ∀ i : After W2, i.w.cell? ⟨w.heap.size, 8, none⟩ = some (.string e.key.domain) := fun i => i.cell (kept hb2 q8)
    have p9 : ∀ i : After W2, i.w.cell? ⟨w.heap.size, 9, none⟩ = some (.string e.key.path) := fun i => i.cell (kept hb2 q9)
    clear hb2 q0 q1 q2 q7 q8 q9
    go_big_quiet_step (fail)
    go_big_quiet_step (fail)
    go_big_quiet_step (fail)
    go_big_quiet_step (fail)
    go_big_quiet_step (fail)
    go_big_quiet_step (fail)
    go_big_quiet_step (fail)
    go_big_quiet_step (fail)
    go_big_quiet_step (fail)
    go_big_quiet_step (fail)
    go_big_quiet_step (fail)
    (with_reducible refine wpQuiet_load_ev _ wx.heap.size z none 0 hR2 ?_ rfl ?_); exact rfl
    go_simp
    go_big_quiet_step (fail)
    go_big_quiet_step (exact Calls.after (HS.out _))
    go_big_quiet_step (fail)
    go_big_quiet_step (fail)
    go_big_quiet_step (fail)
    go_big_quiet_step (exact Calls.after (HC.out _))
    go_big_quiet_step (fail)
    go_big_quiet_step (fail)
    go_big_quiet_step (exact Calls.after (HE.out _))
    go_big_quiet_step (fail)
    go_big_quiet_step (fail)
    go_big_quiet_step (fail)
    go_big_quiet_step (exact Calls.after (HV.out _))
    go_big_quiet_step (fail)
    go_big_quiet_step (fail)
    go_big_quiet_step (fail)
    go_big_quiet_step (fail)
    go_big_quiet_step (fail)
    go_big_quiet_step (exact Calls.after (HK.out _))
    go_big_quiet_step (fail)
    go_big_quiet_step (fail)
    go_big_quiet_step (fail)
    go_big_quiet_step (exact Calls.after (HWs.out _))
    go_big_quiet_step (fail)
    go_big_quiet_step (fail)
    go_big_quiet_step (fail)
    go_big_quiet_step (exact Calls.after (HLn.out _))
    go_big_quiet_step (fail)
    go_big_quiet_step (fail)
    go_big_quiet_step (fail)
    go_big_quiet_step (fail)
    go_big_quiet_step (fail)
    go_big_quiet_step (fail)
    go_big_quiet_step (fail)
    go_big_quiet_step (exact Calls.after (HH.out _))
    go_big_quiet_step (fail)
    go_big_quiet_step (fail)
    go_big_quiet_step (fail)
    go_big_quiet_step (fail)
    go_big_quiet_step (fail)
    go_big_quiet_step (fail)
    go_big_quiet_step (exact Calls.after (HD.out _))
    go_big_quiet_step (fail)
    go_big_quiet_step (fail)
    go_big_quiet_step (fail)
    go_big_quiet_step (fail)
    go_big_quiet_step (exact Calls.after (HRm.out _))
    go_big_quiet_step (fail)
    go_big_quiet_step (fail)
    go_big_quiet_step (fail)
    go_big_quiet_step (fail)
    go_big_quiet_step (exact Calls.after (HCp.out _))
    go_big_quiet_step (fail)
    go_big_quiet_step (fail)
    go_big_quiet_step (fail)
    go_big_quiet_step (fail)
    go_big_quiet_step (fail)
    go_big_quiet_step (fail)
    go_big_quiet_step (exact Calls.after (HF.out _))
    go_big_quiet_step (fail)
    go_big_quiet_step (fail)
    go_big_quiet_step (fail)
    go_big_quiet_step (fail)
    go_big_quiet_step (fail)
    go_big_quiet_step (fail)
    go_big_quiet_step (exact Calls.after (HB.out _))
    go_big_quiet_step (fail)
    go_big_quiet_step (fail)
    go_big_quiet_step (fail)
    go_big_quiet_step (fail)
    go_big_quiet_step (fail)
    go_big_quiet_step (fail)
    go_big_quiet_step (exact Calls.after (HCl.out _))
    go_big_quiet_step (fail)
    go_big_quiet_step (fail)
    go_big_quiet_step (fail)
    go_big_quiet_step (fail)
    go_big_quiet_step (exact Calls.after (HDs.out _))
    go_big_quiet_step (fail)
    go_big_quiet_step (fail)
    go_big_quiet_step (fail)
    go_big_quiet_step (fail)
    go_big_quiet_step (exact Calls.after (HA.out _))
    go_big_quiet_step (fail)
    go_big_quiet_step (fail)
    refine wpQuiet_nil ?_
    intro i
    have hib := i.h
    clear p0 p1 p2 p7 p8 p9
    generalize i.w = wi at hib ⊢
    replace hbt := below2 hbt hib
    go_wp2
    go_ret
    exact ⟨rfl, hbt⟩
end Go.Proofs.YtcijajjngmmbeaaGreat
