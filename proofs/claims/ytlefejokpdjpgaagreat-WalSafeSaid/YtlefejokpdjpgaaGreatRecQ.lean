/- Bytes of a frame with one byte changed are no frame: plain laws. Conditions: a body of at most 2^20 bytes. -/
import Derived.Test.YtlefejokpdjpgaaGreatFrameP
import Derived.Test.YtlefejokpdjpgaaGreatRecG
set_option linter.unusedSimpArgs false
set_option linter.unusedVariables false
set_option linter.unnecessarySimpa false
set_option maxHeartbeats 16000000
set_option maxRecDepth 100000
namespace Go.Proofs.YtlefejokpdjpgaaGreat
/-- the bytes of a number are the only ones that are read as it -/
theorem getFrom_form : ∀ (l : Bytes) (j m n k : Nat), j ≤ 9 → getFrom j m l = (n, k, 0) → ∃ q, n = m + q * 128 ^ j ∧ k = j + (shortB q).length ∧ l.take (k - j) = shortB q ∧ (0 < j → 0 < q)
 | [], j, m, n, k, _, h => by simp [getFrom] at h
 | c :: r, j, m, n, k, hj, h => by
   unfold getFrom at h
   split at h
   ·simp at h
   ·rename_i h1
    have hc := c.toNat_lt
    split at h
    ·rename_i h2
     simp only [Prod.mk.injEq, and_true] at h
     obtain ⟨hn, hk⟩ := h
     refine ⟨c.toNat, ?_, ?_, ?_, fun h0 => ?_⟩
     ·rw [← hn, Nat.mod_eq_of_lt h2]
     ·rw [shortB_small _ h2, ← hk]; rfl
     ·rw [shortB_small _ h2, ← hk, show j + 1 - j = 1 by omega]; simp
     ·by_cases hz : c.toNat = 0
      ·exact absurd (Or.inl ⟨h0, hz⟩) h1
      ·omega
    ·rename_i h2
     have hj9 : j ≠ 9 := fun e => h1 (Or.inr ⟨e, by omega⟩)
     obtain ⟨q, hn, hk, ht, hq⟩ := getFrom_form r (j + 1) _ n k (by omega) h
     have hq0 := hq (by omega)
     have hb : ¬ (c.toNat % 128 + 128 * q) < 128 := by omega
     have e1 : (c.toNat % 128 + 128 * q) % 128 = c.toNat % 128 := by omega
     have e2 : (c.toNat % 128 + 128 * q) / 128 = q := by omega
     have e3 : UInt8.ofNat (c.toNat % 128 + 128) = c := by
      apply UInt8.toNat_inj.1
      rw [UInt8.toNat_ofNat']; omega
     refine ⟨c.toNat % 128 + 128 * q, ?_, ?_, ?_, fun _ => by omega⟩
     ·rw [hn, Nat.pow_succ, Nat.add_mul, ← Nat.add_assoc]
      congr 1
      rw [Nat.mul_comm 128 q, Nat.mul_assoc, Nat.mul_comm 128]
     ·rw [shortB_big _ hb, e2, List.length_cons, hk]; omega
     ·have e4 : k - j = (k - (j + 1)) + 1 := by omega
      rw [shortB_big _ hb, e1, e2, e3, e4, List.take_succ_cons, ht]
theorem getS_form {l : Bytes} {n k : Nat} (h : getS l = (n, k, 0)) : k = (shortB n).length ∧ l.take k = shortB n := by
 obtain ⟨q, hn, hk, ht, _⟩ := getFrom_form l 0 0 n k (by omega) h
 simp at hn hk ht
 subst hn
 exact ⟨hk, ht⟩
end Go.Proofs.YtlefejokpdjpgaaGreat
/- Records at the beginning of bytes, plainly; lists of records cut off. Conditions: none. -/
namespace Go.Proofs.YtlefejokpdjpgaaGreat
open Go.RowKit
theorem frGet_size {l b : Bytes} {n : Nat} (h : frGet l = (b, n, 0)) : n = sizeN b.length ∧ n ≤ l.length := by
 have hf := frGet_fit l
 have hfit := getS_fit l
 unfold frGet at h
 obtain ⟨m, k, e, hg⟩ : ∃ m k e, getS l = (m, k, e) := ⟨_, _, _, rfl⟩
 rw [hg] at h hfit
 simp only at h hfit
 by_cases he : e = 0
 ·subst he
  have hk := (getS_form hg).1
  rw [if_pos rfl] at h
  split at h
  ·simp at h
  ·split at h
   ·simp at h
   ·rename_i h1 h2
    split at h
    ·simp only [Prod.mk.injEq] at h
     obtain ⟨rfl, rfl, -⟩ := h
     have hl : ((l.drop k).take m).length = m := by simp; omega
     refine ⟨?_, by omega⟩
     unfold sizeN
     rw [hl, ← hk]
    ·simp at h
 ·rw [if_neg he] at h
  simp only [Prod.mk.injEq] at h
  exact absurd h.2.2 he
theorem recScan_ok {l b : Bytes} {n : Nat} {x : Rec} (h : frGet l = (b, n, 0)) (hx : recRead b = (x, 0)) : recScan l = (x :: (recScan (l.drop n)).1, n + (recScan (l.drop n)).2) := by
 have hs := (frGet_size h).1
 unfold recScan
 rw [frScan_ok h]
 simp only [recScanB, hx, if_true, ← hs]
theorem recScan_bad {l b : Bytes} {n : Nat} {x : Rec} {e : Int} (h : frGet l = (b, n, 0)) (hx : recRead b = (x, e)) (he : e ≠ 0) : recScan l = ([], 0) := by
 unfold recScan
 rw [frScan_ok h]
 simp only [recScanB, hx, if_neg he]
theorem recScan_len : ∀ (n : Nat) (l : Bytes), l.length ≤ n → (recScan l).2 ≤ l.length
 | 0, l, h => by
   obtain rfl : l = [] := List.length_eq_zero_iff.1 (by omega)
   rw [recScan_none frGet_nil]; exact Nat.le_refl _
 | n + 1, l, h => by
   obtain ⟨b, k, e, hx⟩ : ∃ b k e, frGet l = (b, k, e) := ⟨_, _, _, rfl⟩
   by_cases he : e = 0
   ·subst he
    obtain ⟨h1, h2⟩ := frGet_size hx
    have h3 := sizeN_pos b.length
    obtain ⟨x, f, hr⟩ : ∃ x f, recRead b = (x, f) := ⟨_, _, rfl⟩
    by_cases hf : f = 0
    ·subst hf
     rw [recScan_ok hx hr]
     have h4 := recScan_len n (l.drop k) (by rw [List.length_drop]; omega)
     rw [List.length_drop] at h4
     simp only
     omega
    ·rw [recScan_bad hx hr hf]; exact Nat.zero_le _
   ·rw [recScan_none (by rw [hx]; exact he)]; exact Nat.zero_le _
theorem RecsIn.take {w : World} {a : Option Addr} {ls : List RecIt} (h : RecsIn w a ls) (n : Nat) : RecsIn w a (ls.take n) := by
 refine ⟨?_, fun x hx => h.dots x (List.mem_of_mem_take hx)⟩
 rcases h.rows with h | ⟨A, off, rfl, hr⟩
 ·exact Or.inl (by rw [h]; simp)
 ·refine Or.inr ⟨A, off, rfl, fun i hi => ?_⟩
  have hi2 : i < ls.length := by simp at hi; omega
  rw [List.getElem_take]
  exact hr i hi2
end Go.Proofs.YtlefejokpdjpgaaGreat
