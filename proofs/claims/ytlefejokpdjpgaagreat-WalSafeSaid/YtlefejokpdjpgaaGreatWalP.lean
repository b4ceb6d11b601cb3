/- The log, plainly: what appending, syncing, clearing, recovering do to a disk. Conditions: none. -/
import Derived.Test.YtlefejokpdjpgaaGreatEq
import Derived.Test.YtlefejokpdjpgaaGreatRecP
set_option linter.unusedSimpArgs false
set_option linter.unusedVariables false
set_option linter.unnecessarySimpa false
set_option maxHeartbeats 16000000
set_option maxRecDepth 100000
namespace Go.Proofs.YtlefejokpdjpgaaGreat
open Go.RowKit
/-- no log is no error -/
def walBut (c : Int) : Int := if c = 10 then 0 else c
/-- the log's bytes -/
def walB (S : DS) : Bytes := match getF S.f logS with | none => [] | some f => f.b
theorem logS_ok : nameOk logS = true := by decide +kernel
theorem walB_len {S : DS} (h : DInv S) : (walB S).length ≤ 16777216 := by
 unfold walB
 cases hg : getF S.f logS with
 | none => simp
 | some f => exact (h.ok f (getF_mem hg)).len
/-- the disk behind a recovery, the records, how many bytes were cut off, the error -/
def DS.recov (S : DS) : DS × List Rec × Nat × Int :=
 if S.down = true ∧ (getF S.f logS).isSome = true then (S, [], 0, 12)
 else if (recScan (walB S)).2 = (walB S).length then (S, (recScan (walB S)).1, 0, 0)
 else if (S.trunc logS ((recScan (walB S)).2 : Nat)).2 = 0 then ((S.trunc logS ((recScan (walB S)).2 : Nat)).1, (recScan (walB S)).1, (walB S).length - (recScan (walB S)).2, 0)
 else ((S.trunc logS ((recScan (walB S)).2 : Nat)).1, [], 0, (S.trunc logS ((recScan (walB S)).2 : Nat)).2)
theorem recov_up {S : DS} (h : ¬ (S.down = true ∧ (getF S.f logS).isSome = true)) (he : (recScan (walB S)).2 = (walB S).length) : S.recov = (S, (recScan (walB S)).1, 0, 0) := by
 unfold DS.recov; rw [if_neg h, if_pos he]
theorem recov_cut {S : DS} (h : ¬ (S.down = true ∧ (getF S.f logS).isSome = true)) (he : ¬ (recScan (walB S)).2 = (walB S).length) {T : DS} {c : Int} (ht : S.trunc logS ((recScan (walB S)).2 : Nat) = (T, c)) :
 S.recov = if c = 0 then (T, (recScan (walB S)).1, (walB S).length - (recScan (walB S)).2, 0) else (T, [], 0, c) := by
 unfold DS.recov; rw [if_neg h, if_neg he, ht]
theorem DInv.recov {S : DS} (h : DInv S) : DInv S.recov.1 := by
 unfold DS.recov
 split
 ·exact h
 ·split
  ·exact h
  ·split
   ·exact h.trunc _ _
   ·exact h.trunc _ _
/-! ### records appended, some synced, a crash, a recovery -/
/-- a disk that has a log of records alone, so many bytes of it safe -/
def walD (R : List Rec) (sb : Nat) : DS := ⟨if R = [] then [] else [⟨logS, linesB R, sb⟩], 0, false⟩
theorem walD_app (R : List Rec) (sb : Nat) (x : Rec) (h0 : R = [] → sb = 0) (hx : (linesB R).length + (recLine x).length ≤ 16777216) : (walD R sb).append logS (recLine x) = (walD (R ++ [x]) sb, 0) := by
 have hne : R ++ [x] ≠ [] := by simp
 unfold walD
 rw [if_neg hne]
 unfold DS.append
 rw [if_pos logS_ok]
 by_cases hR : R = []
 ·subst hR
  rw [if_pos rfl, h0 rfl]
  have hg : getF ([] : List DF) logS = none := rfl
  simp only [hg]
  rw [if_neg (by simp), if_neg (by simp only [linesB, List.flatMap_nil, List.length_nil] at hx; omega), if_neg (by decide)]
  simp [putF, delF, insF, linesB_snoc, linesB, DS.change]
 ·rw [if_neg hR]
  have hg : getF [(⟨logS, linesB R, sb⟩ : DF)] logS = some ⟨logS, linesB R, sb⟩ := by simp [getF]
  simp only [hg]
  rw [if_neg (by omega), if_neg (by simp [DS.change])]
  simp [putF, delF, insF, linesB_snoc, DS.change]
theorem walD_sync (R : List Rec) (sb : Nat) : ∃ c, (walD R sb).sync logS = (walD R (if R = [] then sb else (linesB R).length), c) ∧ walBut c = 0 := by
 unfold walD DS.sync
 rw [if_pos logS_ok]
 by_cases hR : R = []
 ·subst hR
  rw [if_pos rfl, if_pos rfl]
  exact ⟨10, rfl, rfl⟩
 ·rw [if_neg hR, if_neg hR]
  have hg : getF [(⟨logS, linesB R, sb⟩ : DF)] logS = some ⟨logS, linesB R, sb⟩ := by simp [getF]
  simp only [hg]
  rw [if_neg (by simp [DS.change])]
  exact ⟨0, by simp [setF, DS.change, hR], rfl⟩
theorem linesB_take_mono (R : List Rec) {i j : Nat} (h : i ≤ j) : (linesB (R.take i)).length ≤ (linesB (R.take j)).length := by
 have e : R.take j = R.take i ++ (R.take j).drop i := by
  have := (List.take_append_drop i (R.take j)).symm
  rwa [List.take_take, Nat.min_eq_left h] at this
 rw [e]
 unfold linesB
 rw [List.flatMap_append, List.length_append]; omega
/-- where a cut falls -/
theorem cut_at (R : List Rec) (n : Nat) : ∃ k, k ≤ R.length ∧ (linesB (R.take k)).length ≤ n ∧ (k < R.length → n < (linesB (R.take (k + 1))).length) := by
 suffices h : ∀ m, m ≤ R.length → ∃ k, k ≤ m ∧ (linesB (R.take k)).length ≤ n ∧ (k < m → n < (linesB (R.take (k + 1))).length) from h R.length (Nat.le_refl _)
 intro m
 induction m with
 | zero => intro _; exact ⟨0, Nat.le_refl _, by simp [linesB], fun h => by omega⟩
 | succ m ih =>
   intro hm
   obtain ⟨k, h1, h2, h3⟩ := ih (by omega)
   by_cases hk : k < m
   ·exact ⟨k, by omega, h2, fun _ => h3 hk⟩
   ·obtain rfl : k = m := by omega
    by_cases hn : (linesB (R.take (k + 1))).length ≤ n
    ·exact ⟨k + 1, Nat.le_refl _, hn, fun h => by omega⟩
    ·exact ⟨k, by omega, h2, fun _ => by omega⟩
/-- BEHIND A CRASH: recovered, and recovered again -/
theorem walD_crash (R : List Rec) (hR : RecsOk R) (s sb : Nat) (hs : s ≤ R.length) (hsb : sb = (linesB (R.take s)).length) (keep : Int) :
 ∃ k T n, k ≤ R.length ∧ s ≤ k ∧ ((walD R sb).crash [(logS, keep)]).recov = (T, R.take k, n, 0) ∧ T.recov = (T, R.take k, 0, 0) ∧
   (R ≠ [] → (linesB (R.take k)).length ≤ sb + clampK keep ((linesB R).length - sb) ∧ (k < R.length → sb + clampK keep ((linesB R).length - sb) < (linesB (R.take (k + 1))).length) ∧ n = sb + clampK keep ((linesB R).length - sb) - (linesB (R.take k)).length) := by
 by_cases h0 : R = []
 ·subst h0
  refine ⟨0, ⟨[], 0, false⟩, 0, Nat.le_refl _, hs, ?_, ?_, fun h => absurd rfl h⟩
  all_goals
   have hw : walB ⟨[], 0, false⟩ = [] := rfl
   have hc : recScan [] = ([], 0) := recScan_none frGet_nil
   have := recov_up (S := ⟨[], 0, false⟩) (by simp) (by rw [hw, hc]; rfl)
   rw [hw, hc] at this
   exact this
 ·have hle : sb ≤ (linesB R).length := by rw [hsb]; have := linesB_take_mono R hs; rwa [List.take_length] at this
  obtain ⟨m, hme, hm, hsm, hml⟩ : ∃ m, m = sb + clampK keep ((linesB R).length - sb) ∧ (walD R sb).crash [(logS, keep)] = ⟨[⟨logS, (linesB R).take m, m⟩], 0, false⟩ ∧ sb ≤ m ∧ m ≤ (linesB R).length := by
   refine ⟨sb + clampK keep ((linesB R).length - sb), rfl, ?_, by omega, by have := clampK_le keep ((linesB R).length - sb); omega⟩
   unfold walD
   rw [if_neg h0]
   simp [DS.crash, crashF, keepOf]
  rw [hm, ← hme]
  obtain ⟨k, h1, h2, h3⟩ := cut_at R m
  have hsk : s ≤ k := by
   rcases Nat.lt_or_ge k s with h | h
   ·have h4 := h3 (by omega)
    have h5 := linesB_take_mono R (i := k + 1) (j := s) (by omega)
    omega
   ·exact h
  have hsc := recScan_cut R hR m k h1 h2 h3
  have ok1 : RecsOk (R.take k) := fun x hx => hR x (List.mem_of_mem_take hx)
  have hall : recScan (linesB (R.take k)) = (R.take k, (linesB (R.take k)).length) := by
   have := recScan_lines (R.take k) [] ok1
   rw [List.append_nil, recScan_none frGet_nil] at this
   simpa using this
  have hw : walB ⟨[⟨logS, (linesB R).take m, m⟩], 0, false⟩ = (linesB R).take m := by simp [walB, getF]
  have hg : getF [(⟨logS, (linesB R).take m, m⟩ : DF)] logS = some ⟨logS, (linesB R).take m, m⟩ := by simp [getF]
  have hlm : ((linesB R).take m).length = m := List.length_take_of_le hml
  by_cases he : (linesB (R.take k)).length = m
  ·have := recov_up (S := ⟨[⟨logS, (linesB R).take m, m⟩], 0, false⟩) (by simp) (by rw [hw, hsc, hlm]; exact he)
   rw [hw, hsc] at this
   exact ⟨k, _, 0, h1, hsk, this, this, fun _ => ⟨h2, h3, by omega⟩⟩
  ·have ht : DS.trunc ⟨[⟨logS, (linesB R).take m, m⟩], 0, false⟩ logS ((linesB (R.take k)).length : Nat) = (⟨[⟨logS, linesB (R.take k), (linesB (R.take k)).length⟩], 0, false⟩, 0) := by
        unfold DS.trunc
        rw [if_pos logS_ok]
        simp only [hg]
        rw [if_neg (by rw [hlm]; omega), if_neg (by simp [DS.change])]
        have e1 : ((linesB R).take m).take (linesB (R.take k)).length = linesB (R.take k) := by
         rw [List.take_take, Nat.min_eq_left h2]
         have h0 := congrArg (List.flatMap recLine) (List.take_append_drop k R)
         rw [List.flatMap_append] at h0
         unfold linesB
         rw [← h0, List.take_left']
         rfl
        simp [setF, DS.change, e1, Nat.min_eq_right h2]
   have h4 := recov_cut (S := ⟨[⟨logS, (linesB R).take m, m⟩], 0, false⟩) (T := ⟨[⟨logS, linesB (R.take k), (linesB (R.take k)).length⟩], 0, false⟩) (c := 0) (by simp) (by rw [hw, hsc, hlm]; exact he) (by rw [hw, hsc]; exact ht)
   rw [hw, hsc, if_pos rfl] at h4
   refine ⟨k, _, _, h1, hsk, h4, ?_, fun _ => ⟨h2, h3, by rw [hlm]⟩⟩
   have hw2 : walB ⟨[⟨logS, linesB (R.take k), (linesB (R.take k)).length⟩], 0, false⟩ = linesB (R.take k) := by simp [walB, getF]
   have := recov_up (S := ⟨[⟨logS, linesB (R.take k), (linesB (R.take k)).length⟩], 0, false⟩) (by simp) (by rw [hw2, hall])
   rw [hw2, hall] at this
   exact this
end Go.Proofs.YtlefejokpdjpgaaGreat
