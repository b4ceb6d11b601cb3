/- The log on a disk: Append, Sync, Clear, Size; and without a disk. Conditions: as in the text. -/
import Derived.Test.YtlefejokpdjpgaaGreatWalP
set_option linter.unusedSimpArgs false
set_option linter.unusedVariables false
set_option linter.unnecessarySimpa false
set_option maxHeartbeats 16000000
set_option maxRecDepth 100000
namespace Go.Proofs.YtlefejokpdjpgaaGreat
open Go.RowKit
variable {F : Nat → Prop} {d : Nat} {S : DS} {b : Nat} {D : DataW Unit} {w w' : World}
theorem RetDk.from {W : World} {c : Int} {S' : DS} {e : Ending} (hb : Below w.heap.size w W) (h : RetDk F d b S' c W e w') : RetDk F d b S' c w e w' := by
 obtain ⟨h1, ⟨D', h2⟩, h3⟩ := h
 exact ⟨h1, ⟨D', h2.mono fun k hk => hk.imp id fun g => Nat.le_trans hb.size g⟩, (Fr.of_below hb).again h3⟩
theorem RetDk.but {c : Int} {S' : DS} {D' : DataW Unit} (h1 : DkIn w' (grow F w) d S' b D') (h2 : Fr F w w') : RetDk F d b S' c w (.returned (.int .i64 c)) w' := ⟨rfl, ⟨D', h1⟩, h2⟩
theorem walBut_any (c : Int) (w : World) : Calls Tryz.prog 27 #[.int .i64 c] w fun e w' => e = .returned (.int .i64 (walBut c)) ∧ w = w' := by
 by_cases h : c = 10
 ·subst h
  go_enter Tryz.func27, Tryz.ntmps27
  go_wp2
  go_ret
  exact ⟨rfl, rfl⟩
 ·have q : (c == 10) = false := beq_eq_false_iff_ne.2 h
  have HE : Hid (walBut c = c) := if_neg h
  clear h
  go_enter Tryz.func27, Tryz.ntmps27
  go_wp2
  go_ret
  exact ⟨by rw [HE.out]; rfl, rfl⟩
theorem walSync_nil (w : World) : Calls Tryz.prog 11 #[.pointer none] w fun e w' => e = .returned (.int .i64 17) ∧ w = w' := by
 have HN : Hid (Calls Tryz.prog 26 #[.pointer none, .string ⟨#[108, 111, 103]⟩] w fun e w' => e = .returned (.int .i64 17) ∧ w = w') := Lib.hid (Sync_nil logS  w)
 have HB : Hid (Calls Tryz.prog 27 #[.int .i64 17] w fun e w' => e = .returned (.int .i64 17) ∧ w = w') := Lib.hid (walBut_any 17 w)
 go_enter Tryz.func11, Tryz.ntmps11
 go_wp2_with (first
  | (go_at_call 26; (with_reducible refine HN.out.mono ?_); rintro e w1 ⟨rfl, rfl⟩)
  | (go_at_call 27; (with_reducible refine HB.out.mono ?_); rintro e w1 ⟨rfl, rfl⟩))
 go_ret
 exact ⟨rfl, rfl⟩
theorem walSync_any (h : DkIn w F d S b D) (hi : DInv S) : Calls Tryz.prog 11 #[.pointer (some ⟨d, 0, none⟩)] w (RetDk F d b (S.sync logS).1 (walBut (S.sync logS).2) w) := by
 obtain ⟨T, c, hT⟩ : ∃ T c, S.sync logS = (T, c) := ⟨_, _, rfl⟩
 have h0 := Sync_any logS_size h hi.arm
 rw [hT] at h0 ⊢
 simp only at h0 ⊢
 have HN : Hid (Calls Tryz.prog 26 #[.pointer (some ⟨d, 0, none⟩), .string ⟨#[108, 111, 103]⟩] w (RetDk F d b T c w)) := Lib.hid h0
 have HB := Lib.hid (fun X => walBut_any c X)
 clear h0 hT h
 go_enter Tryz.func11, Tryz.ntmps11
 go_wp2_with (first
  | (go_at_call 26; (with_reducible refine HN.out.mono ?_); rintro e w1 ⟨rfl, ⟨D1, hD1⟩, hf1⟩)
  | (go_at_call 27; (with_reducible refine (HB.out _).mono ?_); rintro e w2 ⟨rfl, rfl⟩))
 go_ret
 exact RetDk.but hD1 hf1
theorem walClear_nil (w : World) : Calls Tryz.prog 16 #[.pointer none] w fun e w' => e = .returned (.int .i64 17) ∧ w = w' := by
 have HN : Hid (Calls Tryz.prog 32 #[.pointer none, .string ⟨#[108, 111, 103]⟩, .int .i64 0] w fun e w' => e = .returned (.int .i64 17) ∧ w = w') := Lib.hid (Truncate_nil logS 0 w)
 have HB : Hid (Calls Tryz.prog 27 #[.int .i64 17] w fun e w' => e = .returned (.int .i64 17) ∧ w = w') := Lib.hid (walBut_any 17 w)
 go_enter Tryz.func16, Tryz.ntmps16
 go_wp2_with (first
  | (go_at_call 32; (with_reducible refine HN.out.mono ?_); rintro e w1 ⟨rfl, rfl⟩)
  | (go_at_call 27; (with_reducible refine HB.out.mono ?_); rintro e w1 ⟨rfl, rfl⟩))
 go_ret
 exact ⟨rfl, rfl⟩
theorem walSize_nil (w : World) : Calls Tryz.prog 17 #[.pointer none] w fun e w' => e = .returned (.int .i64 0) ∧ w = w' := by
 have HN : Hid (Calls Tryz.prog 30 #[.pointer none, .string ⟨#[108, 111, 103]⟩] w fun e w' => e = .returned (.tuple #[.slice none 0 0, .int .i64 17]) ∧ w = w') := Lib.hid (Read_nil logS w)
 go_enter Tryz.func17, Tryz.ntmps17
 go_wp2_with (go_at_call 30; (with_reducible refine HN.out.mono ?_); rintro e w1 ⟨rfl, rfl⟩)
 go_ret
 exact ⟨rfl, rfl⟩
/-- how many bytes are told -/
def walSz (S : DS) : Nat := if S.down = true then 0 else (walB S).length
/-- reading the log -/
theorem walRead_any (h : DkIn w F d S b D) (hi : DInv S) : Calls Tryz.prog 30 #[.pointer (some ⟨d, 0, none⟩), .string ⟨#[108, 111, 103]⟩] w fun e w' =>
 ∃ a cap c, e = .returned (.tuple #[.slice a (walSz S) cap, .int .i64 c]) ∧ walBut c = (if S.down = true ∧ (getF S.f logS).isSome = true then 12 else 0) ∧ (c = 0 ∨ c = 10 ∨ c = 12) ∧ (walBut c = 0 → walSz S = (walB S).length) ∧ (walBut c = 0 → BytesIn w' a (walB S)) ∧ walSz S ≤ cap ∧ Below w.heap.size w w' := by
 cases hg : getF S.f logS with
 | none =>
   have hre : readE S logS = 10 := by unfold readE; rw [if_pos logS_ok, hg]
   have hw : walB S = [] := by unfold walB; rw [hg]
   have hz : walSz S = 0 := by unfold walSz; rw [hw]; split <;> rfl
   refine (Read_no logS_size h (by rw [hre]; decide)).mono ?_
   rintro e w1 ⟨rfl, rfl⟩
   rw [hre, hz, hw]
   refine ⟨none, 0, 10, rfl, ?_, by simp, fun _ => rfl, fun _ => Or.inl rfl, Nat.le_refl _, Below.refl _ _⟩
   rw [if_neg (by simp)]; rfl
 | some f =>
   have hw : walB S = f.b := by unfold walB; rw [hg]
   cases hd : S.down with
   | true =>
     have hre : readE S logS = 12 := by unfold readE; rw [if_pos logS_ok, hg]; simp [hd]
     have hz : walSz S = 0 := by unfold walSz; rw [if_pos hd]
     refine (Read_no logS_size h (by rw [hre]; decide)).mono ?_
     rintro e w1 ⟨rfl, rfl⟩
     rw [hre, hz]
     refine ⟨none, 0, 12, rfl, ?_, by simp, fun h => by simp [walBut] at h, fun h => by simp [walBut] at h, Nat.le_refl _, Below.refl _ _⟩
     rw [if_pos (by simp)]; rfl
   | false =>
     have hz : walSz S = f.b.length := by unfold walSz; rw [if_neg (by rw [hd]; decide), hw]
     refine (Read_yes logS_size h logS_ok hg hd (Nat.le_trans (hi.ok f (getF_mem hg)).len (by decide))).mono ?_
     rintro e w1 ⟨v, rfl, hown, hb⟩
     obtain ⟨a, k, rfl, hin, hk⟩ := own_bytesIn hown
     rw [hz, hw]
     refine ⟨a, k, 0, rfl, ?_, by simp, fun _ => rfl, fun _ => hin, hk, hb⟩
     rw [if_neg (by simp)]; rfl
theorem walSize_any (h : DkIn w F d S b D) (hi : DInv S) : Calls Tryz.prog 17 #[.pointer (some ⟨d, 0, none⟩)] w fun e w' => e = .returned (.int .i64 (walSz S : Nat)) ∧ Below w.heap.size w w' := by
 have HN := Lib.hid (walRead_any h hi)
 clear h
 go_enter Tryz.func17, Tryz.ntmps17
 go_wp2_with (go_at_call 30; (with_reducible refine HN.out.mono ?_); rintro e w1 ⟨a, cap, c, rfl, -, -, -, -, hc, hb⟩)
 go_ret
 exact ⟨rfl, hb⟩
/-! ### a record appended -/
theorem walAppend_no (x : Rec) (p a : Option Addr) (cap : Nat) (w : World) (hs : EvSmall x.e) (hover : DotsIn w a x.e.over) (hno : recOk x = false) :
 Calls Tryz.prog 9 #[.pointer p, recVal x a cap] w fun e w' => e = .returned (.int .i64 1) ∧ Below w.heap.size w w' := by
 have HL := Lib.hid (fun (W : World) (h : DotsIn W a x.e.over) => RecLine_no x (.slice none 0 0) a cap W hs h hno)
 clear hno
 go_enter Tryz.func9, Tryz.ntmps9
 go_upto_region 1 with fail
 refine wp_name (fun W hW => ?_)
 have hb0 : Below w.heap.size w W := by rw [hW.out]; go_grown
 have hC : W.rangeAt w.heap.size 0 (recCells x a cap) := by rw [hW.out]; exact recCells_box x a cap w _
 have ho := hover.kept hb0
 clear hW hover
 go_wp2_with (first
  | ((with_reducible refine wpList_load_to 44 _ w.heap.size 0 (recCells x a cap) (recVal x a cap) rfl _ Tryz.underlying44 rfl (by kernel_rfl) hC ?_ rfl ?_); exact rfl)
  | (go_at_call 22; (with_reducible refine (HL.out _ ho).mono ?_); rintro e w1 ⟨rfl, hb⟩; replace hb0 := below2 hb0 hb))
 go_ret
 exact ⟨rfl, hb0⟩
theorem walAppend_nil (x : Rec) (a : Option Addr) (cap : Nat) (w : World) (hover : DotsIn w a x.e.over) (hold : ∀ A off, a = some ⟨A, off, none⟩ → x.e.over ≠ [] → A < w.heap.size) (hok : recOk x = true) :
 Calls Tryz.prog 9 #[.pointer none, recVal x a cap] w fun e w' => e = .returned (.int .i64 17) ∧ Below w.heap.size w w' := by
 have hlen := recLine_len hok
 obtain ⟨M, hM⟩ : ∃ M, M = recLine x := ⟨_, rfl⟩
 have hL0 := fun (W : World) (h : DotsIn W a x.e.over) (ho : ∀ A off, a = some ⟨A, off, none⟩ → x.e.over ≠ [] → A < W.heap.size) => RecLine_yes x none 0 [] a cap W (by simp) (Or.inl rfl) h ho hok
 rw [List.nil_append, ← hM] at hL0
 rw [← hM] at hlen
 unfold RetOk at hL0
 have hold2 := fun (W : World) (hb : Below w.heap.size w W) (A : Nat) (off : Nat) (h1 : a = some ⟨A, off, none⟩) (h2 : x.e.over ≠ []) => Nat.lt_of_lt_of_le (hold A off h1 h2) hb.size
 have HL : Hid (∀ (W : World), DotsIn W a x.e.over → (∀ A off, a = some ⟨A, off, none⟩ → x.e.over ≠ [] → A < W.heap.size) → Calls Tryz.prog 22 #[.slice none 0 0, recVal x a cap] W _) := Lib.hid hL0
 have HO := Lib.hid hold2
 have HN : Hid (∀ v X, Calls Tryz.prog 23 #[.pointer none, .string ⟨#[108, 111, 103]⟩, v] X fun e w' => e = .returned (.int .i64 17) ∧ X = w') := Lib.hid fun v X => Append_nil logS v X
 clear hL0 hold2 hold hM hlen hok
 go_enter Tryz.func9, Tryz.ntmps9
 go_upto_region 1 with fail
 refine wp_name (fun W hW => ?_)
 have hb0 : Below w.heap.size w W := by rw [hW.out]; go_grown
 have hC : W.rangeAt w.heap.size 0 (recCells x a cap) := by rw [hW.out]; exact recCells_box x a cap w _
 have ho := hover.kept hb0
 clear hW hover
 go_wp2_with (first
  | ((with_reducible refine wpList_load_to 44 _ w.heap.size 0 (recCells x a cap) (recVal x a cap) rfl _ Tryz.underlying44 rfl (by kernel_rfl) hC ?_ rfl ?_); exact rfl)
  | (go_at_call 22; (with_reducible refine (HL.out _ ho (HO.out _ hb0)).mono ?_); rintro e w1 ⟨v, rfl, hown, hb⟩; replace hb0 := below2 hb0 hb)
  | (go_at_call 23; (with_reducible refine (HN.out _ _).mono ?_); rintro e w1 ⟨rfl, rfl⟩))
 go_ret
 exact ⟨rfl, hb0⟩
theorem walAppend_any (x : Rec) (a : Option Addr) (cap : Nat) (h : DkIn w F d S b D) (hi : DInv S) (hover : DotsIn w a x.e.over) (hold : ∀ A off, a = some ⟨A, off, none⟩ → x.e.over ≠ [] → A < w.heap.size) (hok : recOk x = true) :
 Calls Tryz.prog 9 #[.pointer (some ⟨d, 0, none⟩), recVal x a cap] w (RetDk F d b (S.append logS (recLine x)).1 (S.append logS (recLine x)).2 w) := by
 have hlen := recLine_len hok
 obtain ⟨M, hM⟩ : ∃ M, M = recLine x := ⟨_, rfl⟩
 have hL0 := fun (W : World) (h : DotsIn W a x.e.over) (ho : ∀ A off, a = some ⟨A, off, none⟩ → x.e.over ≠ [] → A < W.heap.size) => RecLine_yes x none 0 [] a cap W (by simp) (Or.inl rfl) h ho hok
 rw [List.nil_append, ← hM] at hL0
 rw [← hM] at hlen
 unfold RetOk at hL0
 have hold2 := fun (W : World) (hb : Below w.heap.size w W) (A : Nat) (off : Nat) (h1 : a = some ⟨A, off, none⟩) (h2 : x.e.over ≠ []) => Nat.lt_of_lt_of_le (hold A off h1 h2) hb.size
 have HL : Hid (∀ (W : World), DotsIn W a x.e.over → (∀ A off, a = some ⟨A, off, none⟩ → x.e.over ≠ [] → A < W.heap.size) → Calls Tryz.prog 22 #[.slice none 0 0, recVal x a cap] W _) := Lib.hid hL0
 have HO := Lib.hid hold2
 rw [← hM]
 have HA : Hid (∀ X ab cb, Below w.heap.size w X → BytesIn X ab M → Calls Tryz.prog 23 #[.pointer (some ⟨d, 0, none⟩), .string ⟨#[108, 111, 103]⟩, .slice ab M.length cb] X (RetDk F d b (S.append logS M).1 (S.append logS M).2 X)) := Lib.hid fun X ab cb hb hin => Append_any logS_size (h.below hb) hi (by omega) hin
 clear hL0 hold2 hold hM hlen hok h
 go_enter Tryz.func9, Tryz.ntmps9
 go_upto_region 1 with fail
 refine wp_name (fun W hW => ?_)
 have hb0 : Below w.heap.size w W := by rw [hW.out]; go_grown
 have hC : W.rangeAt w.heap.size 0 (recCells x a cap) := by rw [hW.out]; exact recCells_box x a cap w _
 have ho := hover.kept hb0
 clear hW hover
 go_wp2_with (first
  | ((with_reducible refine wpList_load_to 44 _ w.heap.size 0 (recCells x a cap) (recVal x a cap) rfl _ Tryz.underlying44 rfl (by kernel_rfl) hC ?_ rfl ?_); exact rfl)
  | (go_at_call 22; (with_reducible refine (HL.out _ ho (HO.out _ hb0)).mono ?_); rintro e w1 ⟨v, rfl, hown, hb⟩; obtain ⟨ab, cb, rfl, hin⟩ := own_bytes hown; replace hb0 := below2 hb0 hb)
  | (go_at_call 23; (with_reducible refine (HA.out _ _ _ hb0 hin).mono ?_); rintro e w2 hret; obtain ⟨rfl, ⟨D2, hD2⟩, hf2⟩ := RetDk.from hb0 hret))
 go_ret
 exact ⟨rfl, ⟨D2, hD2⟩, hf2⟩
end Go.Proofs.YtlefejokpdjpgaaGreat
