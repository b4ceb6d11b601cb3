/- Bytes of a frame with one byte changed are no frame: plain laws. Conditions: a body of at most 2^20 bytes. -/
import Derived.Test.YtdlmbflhbecggaaGreatCel
import Derived.Test.YtdlmbflhbecggaaGreatEvOwn
import Derived.Test.YtdlmbflhbecggaaGreatReadJ
set_option linter.unusedSimpArgs false
set_option linter.unusedVariables false
set_option linter.unnecessarySimpa false
set_option maxHeartbeats 16000000
set_option maxRecDepth 100000
namespace Go.Proofs.YtdlmbflhbecggaaGreat
/-- the bytes of a number are the only ones that are read as it -/
theorem tu : ∀ (l : Bytes) (j m n k : Nat), j ≤ 9 → dM j m l = (n, k, 0) → ∃ q, n = m + q * 128 ^ j ∧ k = j + (bg q).length ∧ l.take (k - j) = bg q ∧ (0 < j → 0 < q)
 | [], j, m, n, k, _, h => by simp [dM] at h
 | c :: r, j, m, n, k, hj, h => by
   unfold dM at h
   split at h
   ·simp at h
   ·rename_i h1
    have hc := c.toNat_lt
    split at h
    ·rename_i h2
     simp only [Prod.mk.injEq, and_true] at h
     obtain ⟨hn, hk⟩ := h
     refine ⟨c.toNat, ?_, ?_, ?_, fun h0 => ?_⟩
     ·rw [← hn, Nat.mod_eq_of_lt h2]
     ·rw [ku _ h2, ← hk]; rfl
     ·rw [ku _ h2, ← hk, show j + 1 - j = 1 by omega]; simp
     ·by_cases hz : c.toNat = 0
      ·exact absurd (Or.inl ⟨h0, hz⟩) h1
      ·omega
    ·rename_i h2
     have hj9 : j ≠ 9 := fun e => h1 (Or.inr ⟨e, by omega⟩)
     obtain ⟨q, hn, hk, ht, hq⟩ := tu r (j + 1) _ n k (by omega) h
     have hq0 := hq (by omega)
     have hb : ¬ (c.toNat % 128 + 128 * q) < 128 := by omega
     have e1 : (c.toNat % 128 + 128 * q) % 128 = c.toNat % 128 := by omega
     have e2 : (c.toNat % 128 + 128 * q) / 128 = q := by omega
     have e3 : UInt8.ofNat (c.toNat % 128 + 128) = c := by
      apply UInt8.toNat_inj.1
      rw [UInt8.toNat_ofNat']; omega
     refine ⟨c.toNat % 128 + 128 * q, ?_, ?_, ?_, fun _ => by omega⟩
     ·rw [hn, Nat.pow_succ, Nat.add_mul, ← Nat.add_assoc]
      congr 1
      rw [Nat.mul_comm 128 q, Nat.mul_assoc, Nat.mul_comm 128]
     ·rw [oH _ hb, e2, List.length_cons, hk]; omega
     ·have e4 : k - j = (k - (j + 1)) + 1 := by omega
      rw [oH _ hb, e1, e2, e3, e4, List.take_succ_cons, ht]
theorem Af {l : Bytes} {n k : Nat} (h : dD l = (n, k, 0)) : k = (bg n).length ∧ l.take k = bg n := by
 obtain ⟨q, hn, hk, ht, _⟩ := tu l 0 0 n k (by omega) h
 simp at hn hk ht
 subst hn
 exact ⟨hk, ht⟩
end Go.Proofs.YtdlmbflhbecggaaGreat
/- What is read has just the bytes that it is packed to: plain laws. Conditions: none. -/
namespace Go.Proofs.YtdlmbflhbecggaaGreat
theorem fP {most : Nat} {r x : Rd} {n : Nat} (h : bu most r = (x, n)) (he : x.e = 0) : r.e = 0 ∧ r.b = bg n ++ x.b := by
 have hfit := mD r.b
 unfold bu at h
 split at h
 ·rename_i h0
  split at h
  ·rename_i h1
   split at h
   ·cases h; simp at he
   ·simp only [Prod.mk.injEq] at h
    obtain ⟨rfl, rfl⟩ := h
    obtain ⟨m, k, e, hg⟩ : ∃ m k e, dD r.b = (m, k, e) := ⟨_, _, _, rfl⟩
    rw [hg] at h1 ⊢
    simp only at h1 ⊢
    subst h1
    have := (Af hg).2
    exact ⟨h0, by rw [← this, List.take_append_drop]⟩
  ·rename_i h1; cases h; exact absurd he h1
 ·rename_i h0; cases h; exact absurd he h0
theorem Ht (n : Nat) : Lib.zigzag (jr n) = n := by
 unfold jr Lib.zigzag
 split <;> split <;> omega
theorem Ik {most : Int} {r x : Rd} {v : Int} (h : gB most r = (x, v)) (he : x.e = 0) : r.e = 0 ∧ r.b = wC v ++ x.b := by
 have hfit := mD r.b
 unfold gB at h
 split at h
 ·rename_i h0
  split at h
  ·rename_i h1
   split at h
   ·cases h; simp at he
   ·simp only [Prod.mk.injEq] at h
    obtain ⟨rfl, rfl⟩ := h
    obtain ⟨m, k, e, hg⟩ : ∃ m k e, dD r.b = (m, k, e) := ⟨_, _, _, rfl⟩
    rw [hg] at h1 ⊢
    simp only at h1 ⊢
    subst h1
    have := (Af hg).2
    refine ⟨h0, ?_⟩
    unfold wC
    rw [Ht, ← this, List.take_append_drop]
  ·rename_i h1; cases h; exact absurd he h1
 ·rename_i h0; cases h; exact absurd he h0
theorem oJ {most : Nat} {r x : Rd} {t : Bytes} (h : aJ most r = (x, t)) (he : x.e = 0) : r.e = 0 ∧ r.b = gV t ++ x.b := by
 obtain ⟨y, n, hn⟩ : ∃ y n, bu most r = (y, n) := ⟨_, _, rfl⟩
 unfold aJ at h
 rw [hn] at h
 simp only at h
 split at h
 ·rename_i h0
  split at h
  ·rename_i h1
   split at h
   ·cases h; simp at he
   ·rename_i h2
    simp only [Prod.mk.injEq] at h
    obtain ⟨rfl, rfl⟩ := h
    have := (fP hn h1).2
    refine ⟨h0, ?_⟩
    unfold gV
    rw [this, List.length_take, Nat.min_eq_left (by omega), List.append_assoc, List.take_append_drop]
  ·rename_i h1; cases h; exact absurd he h1
 ·rename_i h0; cases h; exact absurd he h0
theorem ED : ∀ c : Fin 32, eG (iy c.val) = c.val := by decide +kernel
theorem Di {r x : Rd} {fl : List Bool} (h : dw r = (x, fl)) (he : x.e = 0) : r.e = 0 ∧ (∃ b0 b1 b2 b3 b4, fl = [b0, b1, b2, b3, b4]) ∧ r.b = UInt8.ofNat (eG fl) :: x.b := by
 unfold dw at h
 split at h
 ·rename_i h0
  split at h
  ·cases h; simp at he
  ·rename_i h1
   split at h
   ·rename_i h2
    simp only [Prod.mk.injEq] at h
    obtain ⟨rfl, rfl⟩ := h
    refine ⟨h0, ⟨_, _, _, _, _, rfl⟩, ?_⟩
    cases hb : r.b with
    | nil => exact absurd hb h1
    | cons c s =>
      rw [hb] at h2
      simp only [List.headD_cons, List.drop_succ_cons, List.drop_zero] at h2 ⊢
      have := ED ⟨c.toNat, h2⟩
      simp only at this
      rw [this]
      simp
   ·cases h; simp at he
 ·rename_i h0; cases h; exact absurd he h0
theorem Aa {r x : Rd} {d : Dot} (h : dS r = (x, d)) (he : x.e = 0) : r.e = 0 ∧ bK d = true ∧ r.b = oq d ++ x.b := by
 obtain ⟨y1, a, h1⟩ : ∃ x a, bu 63 r = (x, a) := ⟨_, _, rfl⟩
 obtain ⟨y2, b, h2⟩ : ∃ y b, bu 1048576 y1 = (y, b) := ⟨_, _, rfl⟩
 obtain ⟨y3, c, h3⟩ : ∃ z c, bu 4294967296 y2 = (z, c) := ⟨_, _, rfl⟩
 rw [Bo r h1 h2 h3] at h
 split at h
 ·rename_i h0
  split at h
  ·rename_i hok
   simp only [Prod.mk.injEq] at h
   obtain ⟨rfl, rfl⟩ := h
   obtain ⟨e2, b3⟩ := fP h3 he
   obtain ⟨e1, b2⟩ := fP h2 e2
   obtain ⟨e0, b1⟩ := fP h1 e1
   refine ⟨e0, hok, ?_⟩
   unfold oq
   rw [if_pos hok, b1, b2, b3]
   simp
  ·simp only [Prod.mk.injEq] at h
   obtain ⟨rfl, rfl⟩ := h
   unfold eF at he
   rw [if_pos h0] at he
   simp at he
 ·rename_i h0; cases h; exact absurd he h0
theorem CZ {r x : Rd} {s : Stamp} (h : gz r = (x, s)) (he : x.e = 0) : r.e = 0 ∧ r.b = jJ s ++ x.b := by
 obtain ⟨y1, a, h1⟩ : ∃ x a, bu 4398046511104 r = (x, a) := ⟨_, _, rfl⟩
 obtain ⟨y2, b, h2⟩ : ∃ y b, bu 65535 y1 = (y, b) := ⟨_, _, rfl⟩
 obtain ⟨y3, c, h3⟩ : ∃ z c, bu 63 y2 = (z, c) := ⟨_, _, rfl⟩
 have f1 := (bC 4398046511104 r).2
 have f2 := (bC 65535 y1).2
 have f3 := (bC 63 y2).2
 rw [h1] at f1
 rw [h2] at f2
 rw [h3] at f3
 simp only at f1 f2 f3
 rw [uB r h1 h2 h3] at h
 split at h
 ·simp only [Prod.mk.injEq] at h
  obtain ⟨rfl, rfl⟩ := h
  obtain ⟨e2, b3⟩ := fP h3 he
  obtain ⟨e1, b2⟩ := fP h2 e2
  obtain ⟨e0, b1⟩ := fP h1 e1
  refine ⟨e0, ?_⟩
  have hok : iH ⟨a, b, c⟩ = true := by simp [iH]; omega
  unfold jJ
  rw [if_pos hok, b1, b2, b3]
  simp
 ·rename_i h0; cases h; exact absurd he h0
theorem Gg (d : Dot) (l : List Dot) : dX (d :: l) = oq d ++ dX l := by simp [dX]
theorem oM : ∀ (n : Nat) {r x : Rd} {l : List Dot}, bQ n r = (x, l) → x.e = 0 → r.e = 0 ∧ l.length = n ∧ r.b = dX l ++ x.b
 | 0, r, x, l, h, he => by
   rw [Fp] at h
   cases h
   exact ⟨he, rfl, by simp [dX]⟩
 | n + 1, r, x, l, h, he => by
   by_cases h0 : r.e = 0
   ·obtain ⟨r2, d, hd⟩ : ∃ r2 d, dS r = (r2, d) := ⟨_, _, rfl⟩
    obtain ⟨r3, l3, hl⟩ : ∃ r3 l3, bQ n r2 = (r3, l3) := ⟨_, _, rfl⟩
    rw [jL h0, hd] at h
    simp only [hl, Prod.mk.injEq] at h
    obtain ⟨rfl, rfl⟩ := h
    obtain ⟨e2, hn, hb⟩ := oM n hl he
    obtain ⟨_, _, hb2⟩ := Aa hd e2
    exact ⟨h0, by simp [hn], by rw [hb2, hb, Gg, List.append_assoc]⟩
   ·rw [jS h0] at h
    cases h
    exact absurd he h0
theorem Fg {r x : Rd} {e ei : Ev} (h : fE r = x) (hw : bW e r = ei) (hk : e.kind = 1) (he : x.e = 0) : r.e = 0 ∧ r.b = rW ei ++ x.b := by
 obtain ⟨r1, v1, g1⟩ : ∃ r1 v1, aJ 256 r = (r1, v1) := ⟨_, _, rfl⟩
 obtain ⟨r2, v2, g2⟩ : ∃ r2 v2, aJ 256 r1 = (r2, v2) := ⟨_, _, rfl⟩
 obtain ⟨r3, v3, g3⟩ : ∃ r3 v3, aJ 256 r2 = (r3, v3) := ⟨_, _, rfl⟩
 obtain ⟨r4, v4, g4⟩ : ∃ r4 v4, aJ 1024 r3 = (r4, v4) := ⟨_, _, rfl⟩
 obtain ⟨r5, v5, g5⟩ : ∃ r5 v5, gB 1099511627776 r4 = (r5, v5) := ⟨_, _, rfl⟩
 obtain ⟨r6, v6, g6⟩ : ∃ r6 v6, bu 1099511627776 r5 = (r6, v6) := ⟨_, _, rfl⟩
 obtain ⟨r7, v7, g7⟩ : ∃ r7 v7, bu 1099511627776 r6 = (r7, v7) := ⟨_, _, rfl⟩
 have h7 : r7 = x := by rw [← h]; unfold fE; simp only [g1, g2, g3, g4, g5, g6, g7]
 subst h7
 obtain ⟨e6, b7⟩ := fP g7 he
 obtain ⟨e5, b6⟩ := fP g6 e6
 obtain ⟨e4, b5⟩ := Ik g5 e5
 obtain ⟨e3, b4⟩ := oJ g4 e4
 obtain ⟨e2, b3⟩ := oJ g3 e3
 obtain ⟨e1, b2⟩ := oJ g2 e2
 obtain ⟨e0, b1⟩ := oJ g1 e1
 refine ⟨e0, ?_⟩
 have hei : ei = { e with key := ⟨mkS v1, mkS v2, mkS v3⟩, ck := { e.ck with value := mkS v4, expiry := v5, creation := v6, access := v7 } } := by rw [← hw]; unfold bW; simp only [g1, g2, g3, g4, g5, g6, g7]
 rw [hei]
 unfold rW
 simp only [hk, if_true, kP, Int.toNat_natCast]
 rw [b1, b2, b3, b4, b5, b6, b7]
 simp
theorem JI {r x : Rd} {e : Ev} (h : rEv r = (x, e)) (he : x.e = 0) : r.e = 0 ∧ dN e = true ∧ r.b = evB e ++ x.b := by
 obtain ⟨y, g, hg⟩ : ∃ y g, qN r = (y, g) := ⟨_, _, rfl⟩
 unfold rEv yT at h
 rw [hg] at h
 simp only at h
 split at h
 ·split at h
  ·rename_i hok
   simp only [Prod.mk.injEq] at h
   obtain ⟨rfl, rfl⟩ := h
   obtain ⟨ra, d, h1⟩ : ∃ a d, dS r = (a, d) := ⟨_, _, rfl⟩
   obtain ⟨rb, s, h2⟩ : ∃ b s, gz ra = (b, s) := ⟨_, _, rfl⟩
   obtain ⟨rf, fl, h3⟩ : ∃ f fl, dw rb = (f, fl) := ⟨_, _, rfl⟩
   obtain ⟨rn, k, h4⟩ : ∃ n k, bu 64 rf = (n, k) := ⟨_, _, rfl⟩
   obtain ⟨ro, l, h5⟩ : ∃ o l, bQ k rn = (o, l) := ⟨_, _, rfl⟩
   rw [BX r h1 h2 h3 h4 h5] at hg
   have chain : ro.e = 0 → r.e = 0 ∧ (∃ b0 b1 b2 b3 b4, fl = [b0, b1, b2, b3, b4]) ∧ l.length = k ∧ r.b = oq d ++ (jJ s ++ (UInt8.ofNat (eG fl) :: (bg k ++ (dX l ++ ro.b)))) := fun e5 => by
        obtain ⟨e4, hl, b5⟩ := oM k h5 e5
        obtain ⟨e3, b4⟩ := fP h4 e4
        obtain ⟨e2, hf, b3⟩ := Di h3 e3
        obtain ⟨e1, b2⟩ := CZ h2 e2
        obtain ⟨e0, _, b1⟩ := Aa h1 e1
        exact ⟨e0, hf, hl, by rw [b1, b2, b3, b4, b5]⟩
   split at hg
   ·rename_i hf0
    simp only [Prod.mk.injEq] at hg
    obtain ⟨rfl, rfl⟩ := hg
    obtain ⟨_, ⟨b0, b1, b2, b3, b4, hf⟩, _⟩ := chain he
    rw [hf] at hf0; simp at hf0
   ·split at hg
    ·rename_i hk
     simp only [Prod.mk.injEq] at hg
     obtain ⟨h6, h7⟩ := hg
     obtain ⟨e5, b6⟩ := Fg h6 h7 rfl he
     obtain ⟨e0, ⟨b0, b1, b2, b3, b4, hf⟩, hl, hb⟩ := chain e5
     refine ⟨e0, hok, ?_⟩
     subst hf
     have hb0 : b0 = true := by simpa [iw] using hk
     subst hb0
     have hev : uS g = oq d ++ jJ s ++ [UInt8.ofNat (eG [true, b1, b2, b3, b4])] ++ bg l.length ++ dX l := by
      rw [← h7]; rfl
     unfold evB
     rw [hb, b6, hev, hl]
     simp
    ·rename_i hk
     simp only [Prod.mk.injEq] at hg
     obtain ⟨rfl, h7⟩ := hg
     obtain ⟨e0, ⟨b0, b1, b2, b3, b4, hf⟩, hl, hb⟩ := chain he
     refine ⟨e0, hok, ?_⟩
     subst hf
     have hb0 : b0 = false := by simpa [iw] using hk
     subst hb0
     have hev : uS g = oq d ++ jJ s ++ [UInt8.ofNat (eG [false, b1, b2, b3, b4])] ++ bg l.length ++ dX l := by
      rw [← h7]; rfl
     have het : rW g = [] := by rw [← h7]; rfl
     unfold evB
     rw [hb, hev, het, hl]
     simp
  ·cases h; simp at he
 ·rename_i h0; cases h; exact absurd he h0
theorem Df {r x : Rd} {l : List Dot} (h : dW r = (x, l)) (he : x.e = 0) : r.e = 0 ∧ r.b = jM l ++ x.b := by
 obtain ⟨y, n, h1⟩ : ∃ y n, bu 4096 r = (y, n) := ⟨_, _, rfl⟩
 obtain ⟨z, m, h2⟩ : ∃ z m, bQ n y = (z, m) := ⟨_, _, rfl⟩
 unfold dW gI at h
 simp only [h1, h2] at h
 split at h
 ·rename_i h0
  split at h
  ·simp only [Prod.mk.injEq] at h
   obtain ⟨rfl, rfl⟩ := h
   obtain ⟨e1, hl, b2⟩ := oM n h2 he
   obtain ⟨e0, b1⟩ := fP h1 e1
   refine ⟨e0, ?_⟩
   unfold jM
   rw [b1, b2, hl, List.append_assoc]
  ·rename_i hm
   simp only [Prod.mk.injEq] at h
   obtain ⟨rfl, rfl⟩ := h
   unfold eF at he
   rw [if_pos h0] at he
   exact absurd he hm
 ·rename_i h0; cases h; exact absurd he h0
theorem zX : ∀ (n : Nat) {r x : Rd} {l : List Ev}, jK n r = (x, l) → x.e = 0 → r.e = 0 ∧ l.length = n ∧ r.b = mW l ++ x.b
 | 0, r, x, l, h, he => by
   unfold jK at h
   cases h
   exact ⟨he, rfl, by simp [mW]⟩
 | n + 1, r, x, l, h, he => by
   by_cases h0 : r.e = 0
   ·obtain ⟨r2, d, hd⟩ : ∃ r2 d, rEv r = (r2, d) := ⟨_, _, rfl⟩
    obtain ⟨r3, l3, hl⟩ : ∃ r3 l3, jK n r2 = (r3, l3) := ⟨_, _, rfl⟩
    rw [uC h0, hd] at h
    simp only [hl, Prod.mk.injEq] at h
    obtain ⟨rfl, rfl⟩ := h
    obtain ⟨e2, hn, hb⟩ := zX n hl he
    obtain ⟨_, _, hb2⟩ := JI hd e2
    exact ⟨h0, by simp [hn], by rw [hb2, hb]; simp [mW]⟩
   ·rw [xQ h0] at h
    cases h
    exact absurd he h0
end Go.Proofs.YtdlmbflhbecggaaGreat
