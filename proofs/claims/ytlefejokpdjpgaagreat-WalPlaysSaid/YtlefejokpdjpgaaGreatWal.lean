/- The log, plainly: what appending, syncing, clearing, recovering do to a disk. Conditions: none. -/
import Derived.Test.YtlefejokpdjpgaaGreatRest
import Derived.Test.YtlefejokpdjpgaaGreatEq
import Derived.Test.YtlefejokpdjpgaaGreatRecP
set_option linter.unusedSimpArgs false
set_option linter.unusedVariables false
set_option linter.unnecessarySimpa false
set_option maxHeartbeats 16000000
set_option maxRecDepth 100000
namespace Go.Proofs.YtlefejokpdjpgaaGreat
open Go.RowKit
/-- no log is no error -/
def dB (c : Int) : Int := if c = 10 then 0 else c
/-- the log's bytes -/
def aV (S : DS) : Bytes := match getF S.f logS with | none => [] | some f => f.b
theorem gV : nameOk logS = true := by decide +kernel
theorem iF {S : DS} (h : DInv S) : (aV S).length ≤ 16777216 := by
 unfold aV
 cases hg : getF S.f logS with
 | none => simp
 | some f => exact (h.ok f (getF_mem hg)).len
/-- the disk behind a recovery, the records, how many bytes were cut off, the error -/
def DS.recov (S : DS) : DS × List Rec × Nat × Int :=
 if S.down = true ∧ (getF S.f logS).isSome = true then (S, [], 0, 12)
 else if (aC (aV S)).2 = (aV S).length then (S, (aC (aV S)).1, 0, 0)
 else if (S.trunc logS ((aC (aV S)).2 : Nat)).2 = 0 then ((S.trunc logS ((aC (aV S)).2 : Nat)).1, (aC (aV S)).1, (aV S).length - (aC (aV S)).2, 0)
 else ((S.trunc logS ((aC (aV S)).2 : Nat)).1, [], 0, (S.trunc logS ((aC (aV S)).2 : Nat)).2)
theorem iJ {S : DS} (h : ¬ (S.down = true ∧ (getF S.f logS).isSome = true)) (he : (aC (aV S)).2 = (aV S).length) : S.recov = (S, (aC (aV S)).1, 0, 0) := by
 unfold DS.recov; rw [if_neg h, if_pos he]
theorem jC {S : DS} (h : ¬ (S.down = true ∧ (getF S.f logS).isSome = true)) (he : ¬ (aC (aV S)).2 = (aV S).length) {T : DS} {c : Int} (ht : S.trunc logS ((aC (aV S)).2 : Nat) = (T, c)) :
 S.recov = if c = 0 then (T, (aC (aV S)).1, (aV S).length - (aC (aV S)).2, 0) else (T, [], 0, c) := by
 unfold DS.recov; rw [if_neg h, if_neg he, ht]
theorem DInv.recov {S : DS} (h : DInv S) : DInv S.recov.1 := by
 unfold DS.recov
 split
 ·exact h
 ·split
  ·exact h
  ·split
   ·exact h.trunc _ _
   ·exact h.trunc _ _
/-! ### records appended, some synced, a crash, a recovery -/
/-- a disk that has a log of records alone, so many bytes of it safe -/
def gy (R : List Rec) (sb : Nat) : DS := ⟨if R = [] then [] else [⟨logS, aj R, sb⟩], 0, false⟩
theorem oJ (R : List Rec) (sb : Nat) (x : Rec) (h0 : R = [] → sb = 0) (hx : (aj R).length + (aN x).length ≤ 16777216) : (gy R sb).append logS (aN x) = (gy (R ++ [x]) sb, 0) := by
 have hne : R ++ [x] ≠ [] := by simp
 unfold gy
 rw [if_neg hne]
 unfold DS.append
 rw [if_pos gV]
 by_cases hR : R = []
 ·subst hR
  rw [if_pos rfl, h0 rfl]
  have hg : getF ([] : List DF) logS = none := rfl
  simp only [hg]
  rw [if_neg (by simp), if_neg (by simp only [aj, List.flatMap_nil, List.length_nil] at hx; omega), if_neg (by decide)]
  simp [putF, delF, insF, iO, aj, DS.change]
 ·rw [if_neg hR]
  have hg : getF [(⟨logS, aj R, sb⟩ : DF)] logS = some ⟨logS, aj R, sb⟩ := by simp [getF]
  simp only [hg]
  rw [if_neg (by omega), if_neg (by simp [DS.change])]
  simp [putF, delF, insF, iO, DS.change]
theorem sJ (R : List Rec) (sb : Nat) : ∃ c, (gy R sb).sync logS = (gy R (if R = [] then sb else (aj R).length), c) ∧ dB c = 0 := by
 unfold gy DS.sync
 rw [if_pos gV]
 by_cases hR : R = []
 ·subst hR
  rw [if_pos rfl, if_pos rfl]
  exact ⟨10, rfl, rfl⟩
 ·rw [if_neg hR, if_neg hR]
  have hg : getF [(⟨logS, aj R, sb⟩ : DF)] logS = some ⟨logS, aj R, sb⟩ := by simp [getF]
  simp only [hg]
  rw [if_neg (by simp [DS.change])]
  exact ⟨0, by simp [setF, DS.change, hR], rfl⟩
theorem fQ (R : List Rec) {i j : Nat} (h : i ≤ j) : (aj (R.take i)).length ≤ (aj (R.take j)).length := by
 have e : R.take j = R.take i ++ (R.take j).drop i := by
  have := (List.take_append_drop i (R.take j)).symm
  rwa [List.take_take, Nat.min_eq_left h] at this
 rw [e]
 unfold aj
 rw [List.flatMap_append, List.length_append]; omega
/-- where a cut falls -/
theorem xJ (R : List Rec) (n : Nat) : ∃ k, k ≤ R.length ∧ (aj (R.take k)).length ≤ n ∧ (k < R.length → n < (aj (R.take (k + 1))).length) := by
 suffices h : ∀ m, m ≤ R.length → ∃ k, k ≤ m ∧ (aj (R.take k)).length ≤ n ∧ (k < m → n < (aj (R.take (k + 1))).length) from h R.length (Nat.le_refl _)
 intro m
 induction m with
 | zero => intro _; exact ⟨0, Nat.le_refl _, by simp [aj], fun h => by omega⟩
 | succ m ih =>
   intro hm
   obtain ⟨k, h1, h2, h3⟩ := ih (by omega)
   by_cases hk : k < m
   ·exact ⟨k, by omega, h2, fun _ => h3 hk⟩
   ·obtain rfl : k = m := by omega
    by_cases hn : (aj (R.take (k + 1))).length ≤ n
    ·exact ⟨k + 1, Nat.le_refl _, hn, fun h => by omega⟩
    ·exact ⟨k, by omega, h2, fun _ => by omega⟩
/-- BEHIND A CRASH: recovered, and recovered again -/
theorem qm (R : List Rec) (hR : je R) (s sb : Nat) (hs : s ≤ R.length) (hsb : sb = (aj (R.take s)).length) (keep : Int) :
 ∃ k T n, k ≤ R.length ∧ s ≤ k ∧ ((gy R sb).crash [(logS, keep)]).recov = (T, R.take k, n, 0) ∧ T.recov = (T, R.take k, 0, 0) ∧
   (R ≠ [] → (aj (R.take k)).length ≤ sb + clampK keep ((aj R).length - sb) ∧ (k < R.length → sb + clampK keep ((aj R).length - sb) < (aj (R.take (k + 1))).length) ∧ n = sb + clampK keep ((aj R).length - sb) - (aj (R.take k)).length) := by
 by_cases h0 : R = []
 ·subst h0
  refine ⟨0, ⟨[], 0, false⟩, 0, Nat.le_refl _, hs, ?_, ?_, fun h => absurd rfl h⟩
  all_goals
   have hw : aV ⟨[], 0, false⟩ = [] := rfl
   have hc : aC [] = ([], 0) := dC fZ
   have := iJ (S := ⟨[], 0, false⟩) (by simp) (by rw [hw, hc]; rfl)
   rw [hw, hc] at this
   exact this
 ·have hle : sb ≤ (aj R).length := by rw [hsb]; have := fQ R hs; rwa [List.take_length] at this
  obtain ⟨m, hme, hm, hsm, hml⟩ : ∃ m, m = sb + clampK keep ((aj R).length - sb) ∧ (gy R sb).crash [(logS, keep)] = ⟨[⟨logS, (aj R).take m, m⟩], 0, false⟩ ∧ sb ≤ m ∧ m ≤ (aj R).length := by
   refine ⟨sb + clampK keep ((aj R).length - sb), rfl, ?_, by omega, by have := clampK_le keep ((aj R).length - sb); omega⟩
   unfold gy
   rw [if_neg h0]
   simp [DS.crash, crashF, keepOf]
  rw [hm, ← hme]
  obtain ⟨k, h1, h2, h3⟩ := xJ R m
  have hsk : s ≤ k := by
   rcases Nat.lt_or_ge k s with h | h
   ·have h4 := h3 (by omega)
    have h5 := fQ R (i := k + 1) (j := s) (by omega)
    omega
   ·exact h
  have hsc := oU R hR m k h1 h2 h3
  have ok1 : je (R.take k) := fun x hx => hR x (List.mem_of_mem_take hx)
  have hall : aC (aj (R.take k)) = (R.take k, (aj (R.take k)).length) := by
   have := fK (R.take k) [] ok1
   rw [List.append_nil, dC fZ] at this
   simpa using this
  have hw : aV ⟨[⟨logS, (aj R).take m, m⟩], 0, false⟩ = (aj R).take m := by simp [aV, getF]
  have hg : getF [(⟨logS, (aj R).take m, m⟩ : DF)] logS = some ⟨logS, (aj R).take m, m⟩ := by simp [getF]
  have hlm : ((aj R).take m).length = m := List.length_take_of_le hml
  by_cases he : (aj (R.take k)).length = m
  ·have := iJ (S := ⟨[⟨logS, (aj R).take m, m⟩], 0, false⟩) (by simp) (by rw [hw, hsc, hlm]; exact he)
   rw [hw, hsc] at this
   exact ⟨k, _, 0, h1, hsk, this, this, fun _ => ⟨h2, h3, by omega⟩⟩
  ·have ht : DS.trunc ⟨[⟨logS, (aj R).take m, m⟩], 0, false⟩ logS ((aj (R.take k)).length : Nat) = (⟨[⟨logS, aj (R.take k), (aj (R.take k)).length⟩], 0, false⟩, 0) := by
        unfold DS.trunc
        rw [if_pos gV]
        simp only [hg]
        rw [if_neg (by rw [hlm]; omega), if_neg (by simp [DS.change])]
        have e1 : ((aj R).take m).take (aj (R.take k)).length = aj (R.take k) := by
         rw [List.take_take, Nat.min_eq_left h2]
         have h0 := congrArg (List.flatMap aN) (List.take_append_drop k R)
         rw [List.flatMap_append] at h0
         unfold aj
         rw [← h0, List.take_left']
         rfl
        simp [setF, DS.change, e1, Nat.min_eq_right h2]
   have h4 := jC (S := ⟨[⟨logS, (aj R).take m, m⟩], 0, false⟩) (T := ⟨[⟨logS, aj (R.take k), (aj (R.take k)).length⟩], 0, false⟩) (c := 0) (by simp) (by rw [hw, hsc, hlm]; exact he) (by rw [hw, hsc]; exact ht)
   rw [hw, hsc, if_pos rfl] at h4
   refine ⟨k, _, _, h1, hsk, h4, ?_, fun _ => ⟨h2, h3, by rw [hlm]⟩⟩
   have hw2 : aV ⟨[⟨logS, aj (R.take k), (aj (R.take k)).length⟩], 0, false⟩ = aj (R.take k) := by simp [aV, getF]
   have := iJ (S := ⟨[⟨logS, aj (R.take k), (aj (R.take k)).length⟩], 0, false⟩) (by simp) (by rw [hw2, hall])
   rw [hw2, hall] at this
   exact this
variable {F : Nat → Prop} {d : Nat} {S : DS} {b : Nat} {D : DataW Unit} {w w' : World}
theorem RetDk.from {W : World} {c : Int} {S' : DS} {e : Ending} (hb : Below w.heap.size w W) (h : RetDk F d b S' c W e w') : RetDk F d b S' c w e w' := by
 obtain ⟨h1, ⟨D', h2⟩, h3⟩ := h
 exact ⟨h1, ⟨D', h2.mono fun k hk => hk.imp id fun g => Nat.le_trans hb.size g⟩, (Fr.of_below hb).again h3⟩
theorem RetDk.but {c : Int} {S' : DS} {D' : DataW Unit} (h1 : DkIn w' (grow F w) d S' b D') (h2 : Fr F w w') : RetDk F d b S' c w (.returned (.int .i64 c)) w' := ⟨rfl, ⟨D', h1⟩, h2⟩
theorem gz (c : Int) (w : World) : Calls Tryz.prog 27 #[.int .i64 c] w fun e w' => e = .returned (.int .i64 (dB c)) ∧ w = w' := by
 by_cases h : c = 10
 ·subst h
  go_enter Tryz.func27, Tryz.ntmps27
  go_wp2
  go_ret
  exact ⟨rfl, rfl⟩
 ·have q : (c == 10) = false := beq_eq_false_iff_ne.2 h
  have HE : Hid (dB c = c) := if_neg h
  clear h
  go_enter Tryz.func27, Tryz.ntmps27
  go_wp2
  go_ret
  exact ⟨by rw [HE.out]; rfl, rfl⟩
theorem jM (h : DkIn w F d S b D) (hi : DInv S) : Calls Tryz.prog 11 #[.pointer (some ⟨d, 0, none⟩)] w (RetDk F d b (S.sync logS).1 (dB (S.sync logS).2) w) := by
 obtain ⟨T, c, hT⟩ : ∃ T c, S.sync logS = (T, c) := ⟨_, _, rfl⟩
 have h0 := Sync_any logS_size h hi.arm
 rw [hT] at h0 ⊢
 simp only at h0 ⊢
 have HN : Hid (Calls Tryz.prog 26 #[.pointer (some ⟨d, 0, none⟩), .string ⟨#[108, 111, 103]⟩] w (RetDk F d b T c w)) := Lib.hid h0
 have HB := Lib.hid (fun X => gz c X)
 clear h0 hT h
 go_enter Tryz.func11, Tryz.ntmps11
 go_wp2_with (first
  | (go_at_call 26; (with_reducible refine HN.out.mono ?_); rintro e w1 ⟨rfl, ⟨D1, hD1⟩, hf1⟩)
  | (go_at_call 27; (with_reducible refine (HB.out _).mono ?_); rintro e w2 ⟨rfl, rfl⟩))
 go_ret
 exact RetDk.but hD1 hf1
theorem ni (h : DkIn w F d S b D) (hi : DInv S) : Calls Tryz.prog 16 #[.pointer (some ⟨d, 0, none⟩)] w (RetDk F d b (S.trunc logS 0).1 (dB (S.trunc logS 0).2) w) := by
 obtain ⟨T, c, hT⟩ : ∃ T c, S.trunc logS 0 = (T, c) := ⟨_, _, rfl⟩
 have h0 := Truncate_any (n := 0) logS_size h hi.arm (fun f hf => Nat.le_trans (hi.ok f (getF_mem hf)).len (by decide))
 rw [hT] at h0 ⊢
 simp only at h0 ⊢
 have HN : Hid (Calls Tryz.prog 32 #[.pointer (some ⟨d, 0, none⟩), .string ⟨#[108, 111, 103]⟩, .int .i64 0] w (RetDk F d b T c w)) := Lib.hid h0
 have HB := Lib.hid (fun X => gz c X)
 clear h0 hT h
 go_enter Tryz.func16, Tryz.ntmps16
 go_wp2_with (first
  | (go_at_call 32; (with_reducible refine HN.out.mono ?_); rintro e w1 ⟨rfl, ⟨D1, hD1⟩, hf1⟩)
  | (go_at_call 27; (with_reducible refine (HB.out _).mono ?_); rintro e w2 ⟨rfl, rfl⟩))
 go_ret
 exact RetDk.but hD1 hf1
/-- how many bytes are told -/
def eQ (S : DS) : Nat := if S.down = true then 0 else (aV S).length
/-- reading the log -/
theorem jO (h : DkIn w F d S b D) (hi : DInv S) : Calls Tryz.prog 30 #[.pointer (some ⟨d, 0, none⟩), .string ⟨#[108, 111, 103]⟩] w fun e w' =>
 ∃ a cap c, e = .returned (.tuple #[.slice a (eQ S) cap, .int .i64 c]) ∧ dB c = (if S.down = true ∧ (getF S.f logS).isSome = true then 12 else 0) ∧ (c = 0 ∨ c = 10 ∨ c = 12) ∧ (dB c = 0 → eQ S = (aV S).length) ∧ (dB c = 0 → BytesIn w' a (aV S)) ∧ eQ S ≤ cap ∧ Below w.heap.size w w' := by
 cases hg : getF S.f logS with
 | none =>
   have hre : readE S logS = 10 := by unfold readE; rw [if_pos gV, hg]
   have hw : aV S = [] := by unfold aV; rw [hg]
   have hz : eQ S = 0 := by unfold eQ; rw [hw]; split <;> rfl
   refine (Read_no logS_size h (by rw [hre]; decide)).mono ?_
   rintro e w1 ⟨rfl, rfl⟩
   rw [hre, hz, hw]
   refine ⟨none, 0, 10, rfl, ?_, by simp, fun _ => rfl, fun _ => Or.inl rfl, Nat.le_refl _, Below.refl _ _⟩
   rw [if_neg (by simp)]; rfl
 | some f =>
   have hw : aV S = f.b := by unfold aV; rw [hg]
   cases hd : S.down with
   | true =>
     have hre : readE S logS = 12 := by unfold readE; rw [if_pos gV, hg]; simp [hd]
     have hz : eQ S = 0 := by unfold eQ; rw [if_pos hd]
     refine (Read_no logS_size h (by rw [hre]; decide)).mono ?_
     rintro e w1 ⟨rfl, rfl⟩
     rw [hre, hz]
     refine ⟨none, 0, 12, rfl, ?_, by simp, fun h => by simp [dB] at h, fun h => by simp [dB] at h, Nat.le_refl _, Below.refl _ _⟩
     rw [if_pos (by simp)]; rfl
   | false =>
     have hz : eQ S = f.b.length := by unfold eQ; rw [if_neg (by rw [hd]; decide), hw]
     refine (Read_yes logS_size h gV hg hd (Nat.le_trans (hi.ok f (getF_mem hg)).len (by decide))).mono ?_
     rintro e w1 ⟨v, rfl, hown, hb⟩
     obtain ⟨a, k, rfl, hin, hk⟩ := own_bytesIn hown
     rw [hz, hw]
     refine ⟨a, k, 0, rfl, ?_, by simp, fun _ => rfl, fun _ => hin, hk, hb⟩
     rw [if_neg (by simp)]; rfl
theorem iD (h : DkIn w F d S b D) (hi : DInv S) : Calls Tryz.prog 17 #[.pointer (some ⟨d, 0, none⟩)] w fun e w' => e = .returned (.int .i64 (eQ S : Nat)) ∧ Below w.heap.size w w' := by
 have HN := Lib.hid (jO h hi)
 clear h
 go_enter Tryz.func17, Tryz.ntmps17
 go_wp2_with (go_at_call 30; (with_reducible refine HN.out.mono ?_); rintro e w1 ⟨a, cap, c, rfl, -, -, -, -, hc, hb⟩)
 go_ret
 exact ⟨rfl, hb⟩
/-! ### a record appended -/
theorem ny (x : Rec) (p a : Option Addr) (cap : Nat) (w : World) (hs : EvSmall x.e) (hover : DotsIn w a x.e.over) (hno : bH x = false) :
 Calls Tryz.prog 9 #[.pointer p, aU x a cap] w fun e w' => e = .returned (.int .i64 1) ∧ Below w.heap.size w w' := by
 have HL := Lib.hid (fun (W : World) (h : DotsIn W a x.e.over) => rM x (.slice none 0 0) a cap W hs h hno)
 clear hno
 go_enter Tryz.func9, Tryz.ntmps9
 go_upto_region 1 with fail
 refine wp_name (fun W hW => ?_)
 have hb0 : Below w.heap.size w W := by rw [hW.out]; go_grown
 have hC : W.rangeAt w.heap.size 0 (ah x a cap) := by rw [hW.out]; exact bi x a cap w _
 have ho := hover.kept hb0
 clear hW hover
 go_wp2_with (first
  | ((with_reducible refine wpList_load_to 44 _ w.heap.size 0 (ah x a cap) (aU x a cap) rfl _ Tryz.underlying44 rfl (by kernel_rfl) hC ?_ rfl ?_); exact rfl)
  | (go_at_call 22; (with_reducible refine (HL.out _ ho).mono ?_); rintro e w1 ⟨rfl, hb⟩; replace hb0 := below2 hb0 hb))
 go_ret
 exact ⟨rfl, hb0⟩
theorem fJ (x : Rec) (a : Option Addr) (cap : Nat) (h : DkIn w F d S b D) (hi : DInv S) (hover : DotsIn w a x.e.over) (hold : ∀ A off, a = some ⟨A, off, none⟩ → x.e.over ≠ [] → A < w.heap.size) (hok : bH x = true) :
 Calls Tryz.prog 9 #[.pointer (some ⟨d, 0, none⟩), aU x a cap] w (RetDk F d b (S.append logS (aN x)).1 (S.append logS (aN x)).2 w) := by
 have hlen := jR hok
 obtain ⟨M, hM⟩ : ∃ M, M = aN x := ⟨_, rfl⟩
 have hL0 := fun (W : World) (h : DotsIn W a x.e.over) (ho : ∀ A off, a = some ⟨A, off, none⟩ → x.e.over ≠ [] → A < W.heap.size) => qc x none 0 [] a cap W (by simp) (Or.inl rfl) h ho hok
 rw [List.nil_append, ← hM] at hL0
 rw [← hM] at hlen
 unfold vO at hL0
 have wX := fun (W : World) (hb : Below w.heap.size w W) (A : Nat) (off : Nat) (h1 : a = some ⟨A, off, none⟩) (h2 : x.e.over ≠ []) => Nat.lt_of_lt_of_le (hold A off h1 h2) hb.size
 have HL : Hid (∀ (W : World), DotsIn W a x.e.over → (∀ A off, a = some ⟨A, off, none⟩ → x.e.over ≠ [] → A < W.heap.size) → Calls Tryz.prog 22 #[.slice none 0 0, aU x a cap] W _) := Lib.hid hL0
 have HO := Lib.hid wX
 rw [← hM]
 have HA : Hid (∀ X ab cb, Below w.heap.size w X → BytesIn X ab M → Calls Tryz.prog 23 #[.pointer (some ⟨d, 0, none⟩), .string ⟨#[108, 111, 103]⟩, .slice ab M.length cb] X (RetDk F d b (S.append logS M).1 (S.append logS M).2 X)) := Lib.hid fun X ab cb hb hin => Append_any logS_size (h.below hb) hi (by omega) hin
 clear hL0 wX hold hM hlen hok h
 go_enter Tryz.func9, Tryz.ntmps9
 go_upto_region 1 with fail
 refine wp_name (fun W hW => ?_)
 have hb0 : Below w.heap.size w W := by rw [hW.out]; go_grown
 have hC : W.rangeAt w.heap.size 0 (ah x a cap) := by rw [hW.out]; exact bi x a cap w _
 have ho := hover.kept hb0
 clear hW hover
 go_wp2_with (first
  | ((with_reducible refine wpList_load_to 44 _ w.heap.size 0 (ah x a cap) (aU x a cap) rfl _ Tryz.underlying44 rfl (by kernel_rfl) hC ?_ rfl ?_); exact rfl)
  | (go_at_call 22; (with_reducible refine (HL.out _ ho (HO.out _ hb0)).mono ?_); rintro e w1 ⟨v, rfl, hown, hb⟩; obtain ⟨ab, cb, rfl, hin⟩ := own_bytes hown; replace hb0 := below2 hb0 hb)
  | (go_at_call 23; (with_reducible refine (HA.out _ _ _ hb0 hin).mono ?_); rintro e w2 hret; obtain ⟨rfl, ⟨D2, hD2⟩, hf2⟩ := RetDk.from hb0 hret))
 go_ret
 exact ⟨rfl, ⟨D2, hD2⟩, hf2⟩
end Go.Proofs.YtlefejokpdjpgaaGreat
