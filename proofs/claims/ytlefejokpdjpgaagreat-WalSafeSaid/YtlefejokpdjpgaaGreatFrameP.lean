/- Frames, plainly: what they are, how they are scanned, cut off anywhere; the reference's frame. Conditions: a body of at most 2^20 bytes. -/
import Derived.Test.YtlefejokpdjpgaaGreatCrc
import Derived.Test.YtlefejokpdjpgaaGreatEvs
import Derived.Test.YtlefejokpdjpgaaGreatReadK
import Derived.Test.YtlefejokpdjpgaaGreatRefPut
import Derived.Test.YtlefejokpdjpgaaGreatInj
set_option linter.unusedSimpArgs false
set_option linter.unusedVariables false
set_option linter.unnecessarySimpa false
set_option maxHeartbeats 16000000
set_option maxRecDepth 100000
namespace Go.Proofs.YtlefejokpdjpgaaGreat
open Go.RowKit
theorem numLE_le4 (n : Nat) (h : n < 4294967296) : numLE (le4 n) = n := by
 have e : ∀ k, (UInt8.ofNat (k % 256)).toNat = k % 256 := fun k => by rw [UInt8.toNat_ofNat']; omega
 unfold le4 numLE numLE numLE numLE numLE
 rw [e, e, e, e]; omega
theorem frameB_len (b : Bytes) : (frameB b).length = sizeN b.length := by
 unfold frameB sizeN le4; simp; omega
theorem frGet_frame (b s : Bytes) (hb : b.length ≤ 1048576) : frGet (frameB b ++ s) = (b, sizeN b.length, 0) := by
 have e : frameB b ++ s = shortB b.length ++ (b ++ (le4 (crcSum b) ++ s)) := by unfold frameB; simp
 have hg : getS (frameB b ++ s) = (b.length, (shortB b.length).length, 0) := by rw [e]; exact getS_short _ _ (by omega)
 have hl : (frameB b ++ s).length = (shortB b.length).length + (b.length + (4 + s.length)) := by rw [e]; simp [le4]; omega
 have hd : (frameB b ++ s).drop (shortB b.length).length = b ++ (le4 (crcSum b) ++ s) := by rw [e]; simp
 have hd2 : (frameB b ++ s).drop ((shortB b.length).length + b.length) = le4 (crcSum b) ++ s := by rw [← List.drop_drop, hd]; simp
 unfold frGet
 rw [hg]
 simp only
 rw [if_pos trivial, if_neg (by omega), if_neg (by omega), hd2, hd, List.take_left' (by rfl), List.take_left' (by rfl), if_pos (numLE_le4 _ (crcSum_lt b))]
 rfl
theorem getFrom_high : ∀ (l : Bytes) (k n : Nat), (∀ c ∈ l, 128 ≤ c.toNat) → (getFrom k n l).2.2 ≠ 0
 | [], _, _, _ => by simp [getFrom]
 | c :: r, k, n, h => by
   have hc := h c (by simp)
   unfold getFrom
   split
   ·simp
   ·rw [if_neg (by omega)]
    exact getFrom_high r _ _ (fun d hd => h d (by simp [hd]))
theorem shortB_high (n : Nat) : ∀ k, k < (shortB n).length → ∀ c ∈ (shortB n).take k, 128 ≤ c.toNat := by
 induction n using Nat.strongRecOn with
 | _ n ih =>
   intro k hk c hc
   by_cases h : n < 128
   ·rw [shortB_small n h] at hk hc
    simp at hk
    subst hk
    simp at hc
   ·rw [shortB_big n h] at hk hc
    cases k with
    | zero => simp at hc
    | succ k =>
      simp only [List.take_succ_cons, List.mem_cons] at hc
      rcases hc with rfl | hc
      ·rw [UInt8.toNat_ofNat']; omega
      ·exact ih (n / 128) (by omega) k (by simpa using hk) c hc
/-- a frame that is cut off is none -/
theorem frGet_cut (b s : Bytes) (hb : b.length ≤ 1048576) (k : Nat) (hk : k < (frameB b).length) : (frGet ((frameB b ++ s).take k)).2.2 ≠ 0 := by
 rw [List.take_append_of_le_length (by omega)]
 by_cases h : k < (shortB b.length).length
 ·have e : (frameB b).take k = (shortB b.length).take k := by
   unfold frameB; rw [List.append_assoc, List.take_append_of_le_length (by omega)]
  rw [e]
  have h2 : (getS ((shortB b.length).take k)).2.2 ≠ 0 := getFrom_high _ _ _ (shortB_high _ k h)
  unfold frGet
  rw [if_neg h2]
  exact h2
 ·have e : (frameB b).take k = shortB b.length ++ (b ++ le4 (crcSum b)).take (k - (shortB b.length).length) := by
   unfold frameB; rw [List.append_assoc, List.take_append, List.take_of_length_le (by omega)]
  have hg : getS ((frameB b).take k) = (b.length, (shortB b.length).length, 0) := by rw [e]; exact getS_short _ _ (by omega)
  have hl : ((frameB b).take k).length = k := by simp; omega
  have h3 := frameB_len b
  unfold sizeN at h3
  unfold frGet
  rw [hg]
  simp only
  rw [if_pos trivial, if_neg (by omega), if_pos (by omega)]
  simp
theorem frGet_nil : (frGet []).2.2 ≠ 0 := by simp [frGet, getS, getFrom]
theorem frScan_fit (n : Nat) : ∀ l : Bytes, l.length ≤ n → (∀ b ∈ (frScan l).1, b.length ≤ 1048576) ∧ (frScan l).1.length ≤ l.length := by
 induction n with
 | zero =>
   intro l hl
   have : l = [] := List.length_eq_zero_iff.1 (by omega)
   subst this
   rw [frScan_no (m := (frGet []).1) (n := (frGet []).2.1) (e := (frGet []).2.2) rfl frGet_nil]; simp
 | succ n ih =>
   intro l hl
   have hf := frGet_fit l
   obtain ⟨m, k, e, hx⟩ : ∃ m k e, frGet l = (m, k, e) := ⟨_, _, _, rfl⟩
   rw [hx] at hf
   simp only at hf
   rcases hf with ⟨rfl, h5, h6, h7, _⟩ | ⟨he, _⟩
   ·rw [frScan_ok hx]
    have := ih (l.drop k) (by simp; omega)
    simp only [List.length_drop] at this
    refine ⟨fun b hb => ?_, by simp only [List.length_cons]; omega⟩
    simp only [List.mem_cons] at hb
    rcases hb with rfl | hb
    ·exact h7
    ·exact this.1 b hb
   ·rw [frScan_no hx he]; simp
theorem sizeN_le {n : Nat} (h : n ≤ 1048576) : sizeN n ≤ 1048590 := by
 have := shortB_len10 n (by omega)
 unfold sizeN; omega
/-- an event that may be has short texts -/
theorem evB_short {e : Ev} (h : evOk e = true) : (evB e).length ≤ 8192 := by
 have hf := evOk_fit h
 have h64 := hf.over
 have d1 := dotB_len e.dot
 have d2 := stampB_len e.stamp
 have d3 := shortB_len10 e.over.length (by omega)
 have d4 := dotsB_len e.over
 obtain ⟨s1, s2, s3, s4⟩ := evOk_short h
 have t1 := textB_len (bl e.key.name) (by rw [bl_length]; omega)
 have t2 := textB_len (bl e.key.domain) (by rw [bl_length]; omega)
 have t3 := textB_len (bl e.key.path) (by rw [bl_length]; omega)
 have t4 := textB_len (bl e.ck.value) (by rw [bl_length]; omega)
 simp only [bl_length] at t1 t2 t3 t4
 unfold evB evHead evTail
 split
 ·rename_i h1
  obtain ⟨⟨f1, f2⟩, ⟨f3, f4⟩, f5, f6⟩ := hf.item h1
  have t5 := zigB_len e.ck.expiry (by omega) (by omega)
  have t6 := shortB_len10 e.ck.creation.toNat (by omega)
  have t7 := shortB_len10 e.ck.access.toNat (by omega)
  simp only [List.length_append, List.length_singleton]; omega
 ·simp only [List.length_append, List.length_singleton, List.length_nil]; omega
end Go.Proofs.YtlefejokpdjpgaaGreat
