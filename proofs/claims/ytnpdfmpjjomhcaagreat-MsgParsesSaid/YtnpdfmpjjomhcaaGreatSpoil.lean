/- Bytes of a frame with one byte changed are no frame: plain laws. Conditions: a body of at most 2^20 bytes. -/
import Derived.Test.YtnpdfmpjjomhcaaGreatFrameP
set_option linter.unusedSimpArgs false
set_option linter.unusedVariables false
set_option linter.unnecessarySimpa false
namespace Go.Proofs.YtnpdfmpjjomhcaaGreat

/-- the bytes of a number are the only ones that are read as it -/
theorem getFrom_form : ∀ (l : Bytes) (j m n k : Nat), j ≤ 9 → getFrom j m l = (n, k, 0) → ∃ q, n = m + q * 128 ^ j ∧ k = j + (shortB q).length ∧ l.take (k - j) = shortB q ∧ (0 < j → 0 < q)
  | [], j, m, n, k, _, h => by simp [getFrom] at h
  | c :: r, j, m, n, k, hj, h => by
    unfold getFrom at h
    split at h
    · simp at h
    · rename_i h1
      have hc := c.toNat_lt
      split at h
      · rename_i h2
        simp only [Prod.mk.injEq, and_true] at h
        obtain ⟨hn, hk⟩ := h
        refine ⟨c.toNat, ?_, ?_, ?_, fun h0 => ?_⟩
        · rw [← hn, Nat.mod_eq_of_lt h2]
        · rw [shortB_small _ h2, ← hk]; rfl
        · rw [shortB_small _ h2, ← hk, show j + 1 - j = 1 by omega]; simp
        · by_cases hz : c.toNat = 0
          · exact absurd (Or.inl ⟨h0, hz⟩) h1
          · omega
      · rename_i h2
        have hj9 : j ≠ 9 := fun e => h1 (Or.inr ⟨e, by omega⟩)
        obtain ⟨q, hn, hk, ht, hq⟩ := getFrom_form r (j + 1) _ n k (by omega) h
        have hq0 := hq (by omega)
        have hb : ¬ (c.toNat % 128 + 128 * q) < 128 := by omega
        have e1 : (c.toNat % 128 + 128 * q) % 128 = c.toNat % 128 := by omega
        have e2 : (c.toNat % 128 + 128 * q) / 128 = q := by omega
        have e3 : UInt8.ofNat (c.toNat % 128 + 128) = c := by
          apply UInt8.toNat_inj.1
          rw [UInt8.toNat_ofNat']; omega
        refine ⟨c.toNat % 128 + 128 * q, ?_, ?_, ?_, fun _ => by omega⟩
        · rw [hn, Nat.pow_succ, Nat.add_mul, ← Nat.add_assoc]
          congr 1
          rw [Nat.mul_comm 128 q, Nat.mul_assoc, Nat.mul_comm 128]
        · rw [shortB_big _ hb, e2, List.length_cons, hk]; omega
        · have e4 : k - j = (k - (j + 1)) + 1 := by omega
          rw [shortB_big _ hb, e1, e2, e3, e4, List.take_succ_cons, ht]
theorem getS_form {l : Bytes} {n k : Nat} (h : getS l = (n, k, 0)) : k = (shortB n).length ∧ l.take k = shortB n := by
  obtain ⟨q, hn, hk, ht, _⟩ := getFrom_form l 0 0 n k (by omega) h
  simp at hn hk ht
  subst hn
  exact ⟨hk, ht⟩
theorem crcL_append : ∀ (l m : Bytes) (s : Nat), crcL s (l ++ m) = crcL (crcL s l) m
  | [], _, _ => rfl
  | c :: r, m, s => crcL_append r m (crcByte s c.toNat)
theorem xor_zero_eq {a b : Nat} (h : a ^^^ b = 0) : a = b := Nat.eq_of_testBit_eq (fun i => by
  have := congrArg (fun n => n.testBit i) h
  simp [Nat.testBit_xor] at this
  exact this)
theorem crcByte_ne {t c d : Nat} (hc : c < 256) (hd : d < 256) (h : crcByte t c = crcByte t d) : c = d := by
  have h2 := crcByte_xor t t c d
  rw [h, Nat.xor_self, Nat.xor_self] at h2
  unfold crcByte at h2
  rw [Nat.zero_xor] at h2
  have h3 : c ^^^ d < 4294967296 := Nat.lt_of_lt_of_le (Nat.xor_lt_two_pow (n := 8) hc hd) (by omega)
  exact xor_zero_eq (step4_inj0 h3 (step4_inj0 (step4_lt h3) h2))
theorem crcSum_set (l : Bytes) (i : Nat) (y : UInt8) (hi : i < l.length) (hy : y ≠ l[i]) : crcSum (l.set i y) ≠ crcSum l := by
  intro h
  unfold crcSum at h
  have a1 := crcL_lt (l.set i y) (s := 4294967295) (by omega)
  have a2 := crcL_lt l (s := 4294967295) (by omega)
  have h2 : crcL 4294967295 (l.set i y) = crcL 4294967295 l := by omega
  have e1 : l.set i y = l.take i ++ y :: l.drop (i + 1) := List.set_eq_take_append_cons_drop.trans (by rw [if_pos hi])
  have e2 : l = l.take i ++ l[i] :: l.drop (i + 1) := by
    rw [← List.drop_eq_getElem_cons hi]; simp
  rw [e1] at h2
  have h3 : crcL 4294967295 (l.take i ++ y :: l.drop (i + 1)) = crcL 4294967295 (l.take i ++ l[i] :: l.drop (i + 1)) := h2.trans (congrArg (crcL 4294967295) e2)
  rw [crcL_append, crcL_append] at h3
  have ht := crcL_lt (l.take i) (s := 4294967295) (by omega)
  have c1 := y.toNat_lt
  have c2 := l[i].toNat_lt
  have h4 := crcL_inj (l.drop (i + 1)) (crcByte_lt ht (by omega)) (crcByte_lt ht (by omega)) h3
  exact hy (UInt8.toNat_inj.1 (crcByte_ne (by omega) (by omega) h4))
theorem numLE_inj : ∀ (l m : Bytes), l.length = m.length → numLE l = numLE m → l = m
  | [], [], _, _ => rfl
  | [], _ :: _, h, _ => by simp at h
  | _ :: _, [], h, _ => by simp at h
  | a :: l, b :: m, h, h2 => by
    simp only [numLE] at h2
    have ha := a.toNat_lt
    have hb := b.toNat_lt
    have e1 : a.toNat = b.toNat := by omega
    have e2 := numLE_inj l m (by simpa using h) (by omega)
    rw [UInt8.toNat_inj.1 e1, e2]
theorem frOne_ok {c : Bytes} (h : (frOne c).2 = 0) : ∃ n k, getS c = (n, k, 0) ∧ k + n + 4 = c.length ∧ n ≤ 1048576 ∧ numLE ((c.drop (k + n)).take 4) = crcSum ((c.drop k).take n) := by
  obtain ⟨n, k, e, hg⟩ : ∃ n k e, getS c = (n, k, e) := ⟨_, _, _, rfl⟩
  unfold frOne frGet at h
  rw [hg] at h
  simp only at h
  by_cases he : e = 0
  · subst he
    simp only [if_true] at h
    by_cases h1 : 1048576 < n
    · rw [if_pos h1] at h; simp at h
    · rw [if_neg h1] at h
      by_cases h2 : c.length < k + n + 4
      · rw [if_pos h2] at h; simp at h
      · rw [if_neg h2] at h
        by_cases h3 : numLE ((c.drop (k + n)).take 4) = crcSum ((c.drop k).take n)
        · rw [if_pos h3] at h
          simp only [if_true] at h
          by_cases h4 : k + n + 4 < c.length
          · rw [if_pos h4] at h; simp at h
          · exact ⟨n, k, hg, by omega, by omega, h3⟩
        · rw [if_neg h3] at h; simp at h
  · rw [if_neg he] at h
    simp [he] at h
/-- one byte of a frame changed: no frame -/
theorem frOne_spoilt (body : Bytes) (hb : body.length ≤ 1048576) (i : Nat) (y : UInt8) (hi : i < (frameB body).length) (hy : y ≠ (frameB body)[i]) : (frOne ((frameB body).set i y)).2 ≠ 0 := by
  intro h
  obtain ⟨n, k, hg, hlen, hn, hsum⟩ := frOne_ok h
  obtain ⟨hk, htk⟩ := getS_form hg
  have hl := frameB_len body
  rw [List.length_set, hl] at hlen
  unfold sizeN at hlen
  have hk0 := List.length_pos_iff.2 (shortB_ne2 n)
  have hkb := List.length_pos_iff.2 (shortB_ne2 body.length)
  obtain ⟨kb, hkbe⟩ : ∃ kb, kb = (shortB body.length).length := ⟨_, rfl⟩
  have s1 := short_le n kb (by omega)
  have s2 := short_le body.length k (by omega)
  have s3 := short_le n k (by omega)
  have s4 := short_le body.length kb (by omega)
  have hkk : k = kb := by
    rcases Nat.lt_trichotomy k kb with hlt | heq | hgt
    · have : body.length < 128 ^ k := Nat.lt_of_le_of_lt (by omega) (s3.1 (by omega))
      have := s2.2 this
      omega
    · exact heq
    · have : n < 128 ^ kb := Nat.lt_of_le_of_lt (by omega) (s4.1 (by omega))
      have := s1.2 this
      omega
  have hnn : n = body.length := by omega
  subst hnn
  have hfr : frameB body = shortB body.length ++ (body ++ le4 (crcSum body)) := by unfold frameB; rw [List.append_assoc]
  have hik : k ≤ i := by
    by_cases hlt : i < k
    · exfalso
      have h1 : ((frameB body).set i y)[i]? = some y := by rw [List.getElem?_set_self hi]
      have h2 : (((frameB body).set i y).take k)[i]? = some y := by rw [List.getElem?_take, if_pos hlt, h1]
      rw [htk] at h2
      have h3 : (frameB body)[i]? = (shortB body.length)[i]? := by rw [hfr, List.getElem?_append_left (by omega)]
      rw [List.getElem?_eq_getElem hi, h2] at h3
      exact hy (Option.some.inj h3).symm
    · omega
  have hd : ((frameB body).set i y).drop k = (body ++ le4 (crcSum body)).set (i - k) y := by
    rw [List.drop_set, if_neg (by omega), hfr, hkk, hkbe, List.drop_left]
  have hd2 : ((frameB body).set i y).drop (k + body.length) = ((body ++ le4 (crcSum body)).set (i - k) y).drop body.length := by rw [← List.drop_drop, hd]
  rw [hd2, hd] at hsum
  have hs4 := numLE_le4 (crcSum body) (crcSum_lt body)
  have h4l : (le4 (crcSum body)).length = 4 := rfl
  have hfl : (frameB body).length = kb + body.length + 4 := by rw [hl]; unfold sizeN; omega
  by_cases hin : i - k < body.length
  · rw [List.set_append_left _ _ hin, List.drop_left' (by simp), List.take_left' (by simp), List.take_of_length_le (by omega), hs4] at hsum
    refine crcSum_set body (i - k) y hin ?_ hsum.symm
    intro e
    apply hy
    rw [e]
    have : (frameB body)[i]? = body[i - k]? := by rw [hfr, List.getElem?_append_right (by omega), List.getElem?_append_left (by omega)]; congr 1; omega
    rw [List.getElem?_eq_getElem hi, List.getElem?_eq_getElem hin] at this
    exact (Option.some.inj this).symm
  · have hj : i - k - body.length < 4 := by omega
    rw [List.set_append_right _ _ (by omega), List.drop_left' rfl, List.take_left' rfl, List.take_of_length_le (by simp [h4l])] at hsum
    have hq := numLE_inj ((le4 (crcSum body)).set (i - k - body.length) y) (le4 (crcSum body)) (by simp) (by rw [hsum, hs4])
    apply hy
    have h1 : ((le4 (crcSum body)).set (i - k - body.length) y)[i - k - body.length]? = some y := by rw [List.getElem?_set_self (by omega)]
    rw [hq] at h1
    have : (frameB body)[i]? = (le4 (crcSum body))[i - k - body.length]? := by
      rw [hfr, List.getElem?_append_right (by omega), List.getElem?_append_right (by omega)]; congr 1; omega
    rw [List.getElem?_eq_getElem hi, h1] at this
    exact (Option.some.inj this).symm
end Go.Proofs.YtnpdfmpjjomhcaaGreat
