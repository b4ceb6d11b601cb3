/- Package host's reference, fifth part: four numbers. Conditions: texts of at most 2^30 bytes. -/
import Derived.Test.YtdlhbmhdcdfocaaHostD
set_option linter.unusedSimpArgs false
set_option linter.unusedVariables false
set_option linter.unnecessarySimpa false
namespace Go.Proofs.Ytdlhbmhdcdfocaa
open Go.RowKit

/-- what the reference asks of a number of an address -/
def octetR (p : Bytes) : Bool := decide (1 ≤ p.length) && decide (p.length ≤ 3) && p.all isDigit && decide (numL p ≤ 255) && decide (textN (numL p).toNat = p)

theorem foldl_ge : ∀ (l : Bytes) (n : Int), 0 ≤ n → n ≤ 1099511627776 → l.all isDigit = true → n ≤ l.foldl numStep n
  | [], _, _, _, _ => Int.le_refl _
  | c :: r, n, h0, h1, hl => by
    simp only [List.all_cons, Bool.and_eq_true] at hl
    have h2 := numStep_bd h0 hl.1
    have h3 := foldl_ge r (numStep n c) h2.1 h2.2 hl.2
    have hd := hl.1
    unfold isDigit at hd; simp at hd
    have h4 : n ≤ numStep n c := by unfold numStep; omega
    exact Int.le_trans h4 h3
theorem dig_bd {c : UInt8} (h : isDigit c = true) : 48 ≤ c.toNat ∧ c.toNat ≤ 57 := by simpa [isDigit] using h
theorem ofNat_eq (n : Nat) (c : UInt8) (h : n = c.toNat) : UInt8.ofNat n = c := by
  apply UInt8.toNat_inj.1; rw [h]; simp
theorem octet_eqR (p : Bytes) : octet p = octetR p := by
  match p with
  | [] => rfl
  | [a] =>
    unfold octet octetR
    by_cases ha : isDigit a = true
    · have h := dig_bd ha
      have hn : numL [a] = ((a.toNat - 48 : Nat) : Int) := by simp [numL, numStep]; omega
      have ht : textN (a.toNat - 48) = [a] := by rw [textN_small _ (by omega), ofNat_eq _ a (by omega)]
      rw [hn]; simp [ha, ht]; 
    · simp [ha]
  | [a, b] =>
    unfold octet octetR
    by_cases ha : isDigit a = true
    · by_cases hb : isDigit b = true
      · have h1 := dig_bd ha
        have h2 := dig_bd hb
        have hn : numL [a, b] = (((a.toNat - 48) * 10 + (b.toNat - 48) : Nat) : Int) := by simp [numL, numStep]; omega
        rw [hn]
        by_cases h0 : a.toNat = 48
        · have ht : textN ((a.toNat - 48) * 10 + (b.toNat - 48)) = [b] := by rw [h0]; simp; rw [textN_small _ (by omega), ofNat_eq _ b (by omega)]
          simp [ha, hb, h0]
          rw [h0] at ht
          simp at ht
          rw [ht]; simp
        · have ht : textN ((a.toNat - 48) * 10 + (b.toNat - 48)) = [a, b] := by
            rw [textN_big _ (by omega), textN_small _ (by omega), ofNat_eq _ a (by omega), ofNat_eq _ b (by omega)]; rfl
          rw [Int.toNat_natCast, ht]; simp [ha, hb, h0]
      · simp [ha, hb]
    · simp [ha]
  | [a, b, c] =>
    unfold octet octetR
    by_cases ha : isDigit a = true
    · by_cases hb : isDigit b = true
      · by_cases hc : isDigit c = true
        · have h1 := dig_bd ha
          have h2 := dig_bd hb
          have h3 := dig_bd hc
          have hn : numL [a, b, c] = (((a.toNat - 48) * 100 + (b.toNat - 48) * 10 + (c.toNat - 48) : Nat) : Int) := by simp [numL, numStep]; omega
          rw [hn]
          by_cases h0 : a.toNat = 48
          · have ht : textN ((a.toNat - 48) * 100 + (b.toNat - 48) * 10 + (c.toNat - 48)) ≠ [a, b, c] := by
              intro h
              have hl := congrArg List.length h
              by_cases hs : (a.toNat - 48) * 100 + (b.toNat - 48) * 10 + (c.toNat - 48) < 10
              · rw [textN_small _ hs] at hl; simp at hl
              · rw [textN_big _ hs, textN_small _ (by omega)] at hl; simp at hl
            simp [ha, hb, hc, h0] at ht ⊢
            intro _; exact ht
          · have ht : textN ((a.toNat - 48) * 100 + (b.toNat - 48) * 10 + (c.toNat - 48)) = [a, b, c] := by
              rw [textN_big _ (by omega), textN_big _ (by omega), textN_small _ (by omega), ofNat_eq _ a (by omega), ofNat_eq _ b (by omega), ofNat_eq _ c (by omega)]; rfl
            rw [Int.toNat_natCast, ht]; simp [ha, hb, hc, h0]
        · simp [ha, hb, hc]
      · simp [ha, hb]
    · simp [ha]
  | a :: b :: c :: d :: r =>
    have e2 : octetR (a :: b :: c :: d :: r) = false := by unfold octetR; simp
    rw [e2]
    by_cases hall : (a :: b :: c :: d :: r).all isDigit = true
    · by_cases h0 : a.toNat = 48
      · unfold octet; simp [h0]
      · have hx := hall
        simp only [List.all_cons, Bool.and_eq_true] at hx
        obtain ⟨ha, hb, hc, hd, hr⟩ := hx
        have h1 := dig_bd ha
        have h2 := dig_bd hb
        have h3 := dig_bd hc
        have h4 := dig_bd hd
        have hs : [a, b, c, d].foldl numStep 0 = (((a.toNat - 48) * 1000 + (b.toNat - 48) * 100 + (c.toNat - 48) * 10 + (d.toNat - 48) : Nat) : Int) := by simp [numStep]; omega
        have hg := foldl_ge r ([a, b, c, d].foldl numStep 0) (by rw [hs]; omega) (by rw [hs]; omega) hr
        have hn : ¬ numL (a :: b :: c :: d :: r) ≤ 255 := by
          have : numL (a :: b :: c :: d :: r) = r.foldl numStep ([a, b, c, d].foldl numStep 0) := rfl
          rw [this, hs]; rw [hs] at hg; omega
        unfold octet; simp [hn]
    · unfold octet; simp only [hall]; simp
end Go.Proofs.Ytdlhbmhdcdfocaa
