/- What is read has just the bytes that it is packed to: plain laws. Conditions: none. -/
import Derived.Test.YtnpdfmpjjomhcaaGreatVecGet
import Derived.Test.YtnpdfmpjjomhcaaGreatSpoil
import Derived.Test.YtnpdfmpjjomhcaaGreatMsgD
set_option linter.unusedSimpArgs false
set_option linter.unusedVariables false
set_option linter.unnecessarySimpa false
namespace Go.Proofs.YtnpdfmpjjomhcaaGreat

theorem rNum_form {most : Nat} {r x : Rd} {n : Nat} (h : rNum most r = (x, n)) (he : x.e = 0) : r.e = 0 ∧ r.b = shortB n ++ x.b := by
  have hfit := getS_fit r.b
  unfold rNum at h
  split at h
  · rename_i h0
    split at h
    · rename_i h1
      split at h
      · cases h; simp at he
      · simp only [Prod.mk.injEq] at h
        obtain ⟨rfl, rfl⟩ := h
        obtain ⟨m, k, e, hg⟩ : ∃ m k e, getS r.b = (m, k, e) := ⟨_, _, _, rfl⟩
        rw [hg] at h1 ⊢
        simp only at h1 ⊢
        subst h1
        have := (getS_form hg).2
        exact ⟨h0, by rw [← this, List.take_append_drop]⟩
    · rename_i h1; cases h; exact absurd he h1
  · rename_i h0; cases h; exact absurd he h0
theorem zig_unzig (n : Nat) : Lib.zigzag (unzig n) = n := by
  unfold unzig Lib.zigzag
  split <;> split <;> omega
theorem rInt_form {most : Int} {r x : Rd} {v : Int} (h : rInt most r = (x, v)) (he : x.e = 0) : r.e = 0 ∧ r.b = zigB v ++ x.b := by
  have hfit := getS_fit r.b
  unfold rInt at h
  split at h
  · rename_i h0
    split at h
    · rename_i h1
      split at h
      · cases h; simp at he
      · simp only [Prod.mk.injEq] at h
        obtain ⟨rfl, rfl⟩ := h
        obtain ⟨m, k, e, hg⟩ : ∃ m k e, getS r.b = (m, k, e) := ⟨_, _, _, rfl⟩
        rw [hg] at h1 ⊢
        simp only at h1 ⊢
        subst h1
        have := (getS_form hg).2
        refine ⟨h0, ?_⟩
        unfold zigB
        rw [zig_unzig, ← this, List.take_append_drop]
    · rename_i h1; cases h; exact absurd he h1
  · rename_i h0; cases h; exact absurd he h0
theorem rText_form {most : Nat} {r x : Rd} {t : Bytes} (h : rText most r = (x, t)) (he : x.e = 0) : r.e = 0 ∧ r.b = textB t ++ x.b := by
  obtain ⟨y, n, hn⟩ : ∃ y n, rNum most r = (y, n) := ⟨_, _, rfl⟩
  unfold rText at h
  rw [hn] at h
  simp only at h
  split at h
  · rename_i h0
    split at h
    · rename_i h1
      split at h
      · cases h; simp at he
      · rename_i h2
        simp only [Prod.mk.injEq] at h
        obtain ⟨rfl, rfl⟩ := h
        have := (rNum_form hn h1).2
        refine ⟨h0, ?_⟩
        unfold textB
        rw [this, List.length_take, Nat.min_eq_left (by omega), List.append_assoc, List.take_append_drop]
    · rename_i h1; cases h; exact absurd he h1
  · rename_i h0; cases h; exact absurd he h0
theorem bits5_flags : ∀ c : Fin 32, flagsN (bits5 c.val) = c.val := by decide +kernel
theorem rFlags_form {r x : Rd} {fl : List Bool} (h : rFlags r = (x, fl)) (he : x.e = 0) : r.e = 0 ∧ (∃ b0 b1 b2 b3 b4, fl = [b0, b1, b2, b3, b4]) ∧ r.b = UInt8.ofNat (flagsN fl) :: x.b := by
  unfold rFlags at h
  split at h
  · rename_i h0
    split at h
    · cases h; simp at he
    · rename_i h1
      split at h
      · rename_i h2
        simp only [Prod.mk.injEq] at h
        obtain ⟨rfl, rfl⟩ := h
        refine ⟨h0, ⟨_, _, _, _, _, rfl⟩, ?_⟩
        cases hb : r.b with
        | nil => exact absurd hb h1
        | cons c s =>
          rw [hb] at h2
          simp only [List.headD_cons, List.drop_succ_cons, List.drop_zero] at h2 ⊢
          have := bits5_flags ⟨c.toNat, h2⟩
          simp only at this
          rw [this]
          simp
      · cases h; simp at he
  · rename_i h0; cases h; exact absurd he h0
theorem rDot_form {r x : Rd} {d : Dot} (h : rDot r = (x, d)) (he : x.e = 0) : r.e = 0 ∧ dotOk d = true ∧ r.b = dotB d ++ x.b := by
  obtain ⟨y1, a, h1⟩ : ∃ x a, rNum 63 r = (x, a) := ⟨_, _, rfl⟩
  obtain ⟨y2, b, h2⟩ : ∃ y b, rNum 1048576 y1 = (y, b) := ⟨_, _, rfl⟩
  obtain ⟨y3, c, h3⟩ : ∃ z c, rNum 4294967296 y2 = (z, c) := ⟨_, _, rfl⟩
  rw [rDot_eq r h1 h2 h3] at h
  split at h
  · rename_i h0
    split at h
    · rename_i hok
      simp only [Prod.mk.injEq] at h
      obtain ⟨rfl, rfl⟩ := h
      obtain ⟨e2, b3⟩ := rNum_form h3 he
      obtain ⟨e1, b2⟩ := rNum_form h2 e2
      obtain ⟨e0, b1⟩ := rNum_form h1 e1
      refine ⟨e0, hok, ?_⟩
      unfold dotB
      rw [if_pos hok, b1, b2, b3]
      simp
    · simp only [Prod.mk.injEq] at h
      obtain ⟨rfl, rfl⟩ := h
      unfold rFail at he
      rw [if_pos h0] at he
      simp at he
  · rename_i h0; cases h; exact absurd he h0
theorem rStamp_form {r x : Rd} {s : Stamp} (h : rStamp r = (x, s)) (he : x.e = 0) : r.e = 0 ∧ r.b = stampB s ++ x.b := by
  obtain ⟨y1, a, h1⟩ : ∃ x a, rNum 4398046511104 r = (x, a) := ⟨_, _, rfl⟩
  obtain ⟨y2, b, h2⟩ : ∃ y b, rNum 65535 y1 = (y, b) := ⟨_, _, rfl⟩
  obtain ⟨y3, c, h3⟩ : ∃ z c, rNum 63 y2 = (z, c) := ⟨_, _, rfl⟩
  have f1 := (rNum_fit 4398046511104 r).2
  have f2 := (rNum_fit 65535 y1).2
  have f3 := (rNum_fit 63 y2).2
  rw [h1] at f1
  rw [h2] at f2
  rw [h3] at f3
  simp only at f1 f2 f3
  rw [rStamp_eq r h1 h2 h3] at h
  split at h
  · simp only [Prod.mk.injEq] at h
    obtain ⟨rfl, rfl⟩ := h
    obtain ⟨e2, b3⟩ := rNum_form h3 he
    obtain ⟨e1, b2⟩ := rNum_form h2 e2
    obtain ⟨e0, b1⟩ := rNum_form h1 e1
    refine ⟨e0, ?_⟩
    have hok : stampOk ⟨a, b, c⟩ = true := by simp [stampOk]; omega
    unfold stampB
    rw [if_pos hok, b1, b2, b3]
    simp
  · rename_i h0; cases h; exact absurd he h0
theorem dotsB_cons (d : Dot) (l : List Dot) : dotsB (d :: l) = dotB d ++ dotsB l := by simp [dotsB]
theorem rDots_form : ∀ (n : Nat) {r x : Rd} {l : List Dot}, rDots n r = (x, l) → x.e = 0 → r.e = 0 ∧ l.length = n ∧ r.b = dotsB l ++ x.b
  | 0, r, x, l, h, he => by
    rw [rDots_zero] at h
    cases h
    exact ⟨he, rfl, by simp [dotsB]⟩
  | n + 1, r, x, l, h, he => by
    by_cases h0 : r.e = 0
    · obtain ⟨r2, d, hd⟩ : ∃ r2 d, rDot r = (r2, d) := ⟨_, _, rfl⟩
      obtain ⟨r3, l3, hl⟩ : ∃ r3 l3, rDots n r2 = (r3, l3) := ⟨_, _, rfl⟩
      rw [rDots_next h0, hd] at h
      simp only [hl, Prod.mk.injEq] at h
      obtain ⟨rfl, rfl⟩ := h
      obtain ⟨e2, hn, hb⟩ := rDots_form n hl he
      obtain ⟨_, _, hb2⟩ := rDot_form hd e2
      exact ⟨h0, by simp [hn], by rw [hb2, hb, dotsB_cons, List.append_assoc]⟩
    · rw [rDots_err h0] at h
      cases h
      exact absurd he h0
theorem rItem_form {r x : Rd} {e ei : Ev} (h : rItem r = x) (hw : withItem e r = ei) (hk : e.kind = 1) (he : x.e = 0) : r.e = 0 ∧ r.b = evTail ei ++ x.b := by
  obtain ⟨r1, v1, g1⟩ : ∃ r1 v1, rText 256 r = (r1, v1) := ⟨_, _, rfl⟩
  obtain ⟨r2, v2, g2⟩ : ∃ r2 v2, rText 256 r1 = (r2, v2) := ⟨_, _, rfl⟩
  obtain ⟨r3, v3, g3⟩ : ∃ r3 v3, rText 256 r2 = (r3, v3) := ⟨_, _, rfl⟩
  obtain ⟨r4, v4, g4⟩ : ∃ r4 v4, rText 1024 r3 = (r4, v4) := ⟨_, _, rfl⟩
  obtain ⟨r5, v5, g5⟩ : ∃ r5 v5, rInt 1099511627776 r4 = (r5, v5) := ⟨_, _, rfl⟩
  obtain ⟨r6, v6, g6⟩ : ∃ r6 v6, rNum 1099511627776 r5 = (r6, v6) := ⟨_, _, rfl⟩
  obtain ⟨r7, v7, g7⟩ : ∃ r7 v7, rNum 1099511627776 r6 = (r7, v7) := ⟨_, _, rfl⟩
  have h7 : r7 = x := by rw [← h]; unfold rItem; simp only [g1, g2, g3, g4, g5, g6, g7]
  subst h7
  obtain ⟨e6, b7⟩ := rNum_form g7 he
  obtain ⟨e5, b6⟩ := rNum_form g6 e6
  obtain ⟨e4, b5⟩ := rInt_form g5 e5
  obtain ⟨e3, b4⟩ := rText_form g4 e4
  obtain ⟨e2, b3⟩ := rText_form g3 e3
  obtain ⟨e1, b2⟩ := rText_form g2 e2
  obtain ⟨e0, b1⟩ := rText_form g1 e1
  refine ⟨e0, ?_⟩
  have hei : ei = { e with key := ⟨mkS v1, mkS v2, mkS v3⟩, ck := { e.ck with value := mkS v4, expiry := v5, creation := v6, access := v7 } } := by rw [← hw]; unfold withItem; simp only [g1, g2, g3, g4, g5, g6, g7]
  rw [hei]
  unfold evTail
  simp only [hk, if_true, bl_mkS, Int.toNat_natCast]
  rw [b1, b2, b3, b4, b5, b6, b7]
  simp
theorem rEv_form {r x : Rd} {e : Ev} (h : rEv r = (x, e)) (he : x.e = 0) : r.e = 0 ∧ evOk e = true ∧ r.b = evB e ++ x.b := by
  obtain ⟨y, g, hg⟩ : ∃ y g, evGo r = (y, g) := ⟨_, _, rfl⟩
  unfold rEv evFin at h
  rw [hg] at h
  simp only at h
  split at h
  · split at h
    · rename_i hok
      simp only [Prod.mk.injEq] at h
      obtain ⟨rfl, rfl⟩ := h
      obtain ⟨ra, d, h1⟩ : ∃ a d, rDot r = (a, d) := ⟨_, _, rfl⟩
      obtain ⟨rb, s, h2⟩ : ∃ b s, rStamp ra = (b, s) := ⟨_, _, rfl⟩
      obtain ⟨rf, fl, h3⟩ : ∃ f fl, rFlags rb = (f, fl) := ⟨_, _, rfl⟩
      obtain ⟨rn, k, h4⟩ : ∃ n k, rNum 64 rf = (n, k) := ⟨_, _, rfl⟩
      obtain ⟨ro, l, h5⟩ : ∃ o l, rDots k rn = (o, l) := ⟨_, _, rfl⟩
      rw [evGo_eq r h1 h2 h3 h4 h5] at hg
      have chain : ro.e = 0 → r.e = 0 ∧ (∃ b0 b1 b2 b3 b4, fl = [b0, b1, b2, b3, b4]) ∧ l.length = k ∧ r.b = dotB d ++ (stampB s ++ (UInt8.ofNat (flagsN fl) :: (shortB k ++ (dotsB l ++ ro.b)))) := fun e5 => by
        obtain ⟨e4, hl, b5⟩ := rDots_form k h5 e5
        obtain ⟨e3, b4⟩ := rNum_form h4 e4
        obtain ⟨e2, hf, b3⟩ := rFlags_form h3 e3
        obtain ⟨e1, b2⟩ := rStamp_form h2 e2
        obtain ⟨e0, _, b1⟩ := rDot_form h1 e1
        exact ⟨e0, hf, hl, by rw [b1, b2, b3, b4, b5]⟩
      split at hg
      · rename_i hf0
        simp only [Prod.mk.injEq] at hg
        obtain ⟨rfl, rfl⟩ := hg
        obtain ⟨_, ⟨b0, b1, b2, b3, b4, hf⟩, _⟩ := chain he
        rw [hf] at hf0; simp at hf0
      · split at hg
        · rename_i hk
          simp only [Prod.mk.injEq] at hg
          obtain ⟨h6, h7⟩ := hg
          obtain ⟨e5, b6⟩ := rItem_form h6 h7 rfl he
          obtain ⟨e0, ⟨b0, b1, b2, b3, b4, hf⟩, hl, hb⟩ := chain e5
          refine ⟨e0, hok, ?_⟩
          subst hf
          have hb0 : b0 = true := by simpa [flagOf] using hk
          subst hb0
          have hev : evHead g = dotB d ++ stampB s ++ [UInt8.ofNat (flagsN [true, b1, b2, b3, b4])] ++ shortB l.length ++ dotsB l := by
            rw [← h7]; rfl
          unfold evB
          rw [hb, b6, hev, hl]
          simp
        · rename_i hk
          simp only [Prod.mk.injEq] at hg
          obtain ⟨rfl, h7⟩ := hg
          obtain ⟨e0, ⟨b0, b1, b2, b3, b4, hf⟩, hl, hb⟩ := chain he
          refine ⟨e0, hok, ?_⟩
          subst hf
          have hb0 : b0 = false := by simpa [flagOf] using hk
          subst hb0
          have hev : evHead g = dotB d ++ stampB s ++ [UInt8.ofNat (flagsN [false, b1, b2, b3, b4])] ++ shortB l.length ++ dotsB l := by
            rw [← h7]; rfl
          have het : evTail g = [] := by rw [← h7]; rfl
          unfold evB
          rw [hb, hev, het, hl]
          simp
    · cases h; simp at he
  · rename_i h0; cases h; exact absurd he h0
theorem rMarks_form {r x : Rd} {l : List Dot} (h : rMarks r = (x, l)) (he : x.e = 0) : r.e = 0 ∧ r.b = marksB l ++ x.b := by
  obtain ⟨y, n, h1⟩ : ∃ y n, rNum 4096 r = (y, n) := ⟨_, _, rfl⟩
  obtain ⟨z, m, h2⟩ : ∃ z m, rDots n y = (z, m) := ⟨_, _, rfl⟩
  unfold rMarks rMarksEnd at h
  simp only [h1, h2] at h
  split at h
  · rename_i h0
    split at h
    · simp only [Prod.mk.injEq] at h
      obtain ⟨rfl, rfl⟩ := h
      obtain ⟨e1, hl, b2⟩ := rDots_form n h2 he
      obtain ⟨e0, b1⟩ := rNum_form h1 e1
      refine ⟨e0, ?_⟩
      unfold marksB
      rw [b1, b2, hl, List.append_assoc]
    · rename_i hm
      simp only [Prod.mk.injEq] at h
      obtain ⟨rfl, rfl⟩ := h
      unfold rFail at he
      rw [if_pos h0] at he
      exact absurd he hm
  · rename_i h0; cases h; exact absurd he h0
theorem rEvs_form : ∀ (n : Nat) {r x : Rd} {l : List Ev}, rEvs n r = (x, l) → x.e = 0 → r.e = 0 ∧ l.length = n ∧ r.b = evsB l ++ x.b
  | 0, r, x, l, h, he => by
    unfold rEvs at h
    cases h
    exact ⟨he, rfl, by simp [evsB]⟩
  | n + 1, r, x, l, h, he => by
    by_cases h0 : r.e = 0
    · obtain ⟨r2, d, hd⟩ : ∃ r2 d, rEv r = (r2, d) := ⟨_, _, rfl⟩
      obtain ⟨r3, l3, hl⟩ : ∃ r3 l3, rEvs n r2 = (r3, l3) := ⟨_, _, rfl⟩
      rw [rEvs_next h0, hd] at h
      simp only [hl, Prod.mk.injEq] at h
      obtain ⟨rfl, rfl⟩ := h
      obtain ⟨e2, hn, hb⟩ := rEvs_form n hl he
      obtain ⟨_, _, hb2⟩ := rEv_form hd e2
      exact ⟨h0, by simp [hn], by rw [hb2, hb]; simp [evsB]⟩
    · rw [rEvs_err h0] at h
      cases h
      exact absurd he h0
theorem msgRead_form {l : Bytes} {m : Msg} (h : msgRead l = (m, 0)) : msgOk m = true ∧ msgB m = l := by
  obtain ⟨r1, k, h1⟩ : ∃ x y, rNum 3 ⟨l, 0⟩ = (x, y) := ⟨_, _, rfl⟩
  obtain ⟨r2, f, h2⟩ : ∃ x y, rNum 63 r1 = (x, y) := ⟨_, _, rfl⟩
  obtain ⟨r3, d, h3⟩ : ∃ x y, rNum 63 r2 = (x, y) := ⟨_, _, rfl⟩
  obtain ⟨r4, mk, h4⟩ : ∃ x y, rMarks r3 = (x, y) := ⟨_, _, rfl⟩
  obtain ⟨r5, N, h5⟩ : ∃ x y, rNum 256 r4 = (x, y) := ⟨_, _, rfl⟩
  obtain ⟨r6, es, h6⟩ : ∃ x y, rEvs N r5 = (x, y) := ⟨_, _, rfl⟩
  unfold msgRead at h
  simp only [h1, h2, h3, h4, h5, h6] at h
  unfold msgEnd at h
  simp only at h
  split at h
  · rename_i hre
    split at h
    · rename_i hok
      simp only [Prod.mk.injEq, and_true] at h
      subst h
      have he : r6.e = 0 := by
        unfold rEnd at hre
        split at hre
        · assumption
        · exact hre
      have hb : r6.b = [] := by
        unfold rEnd at hre
        rw [if_pos he] at hre
        split at hre
        · simp at hre
        · exact List.length_eq_zero_iff.1 (by omega)
      obtain ⟨e5, hn, b6⟩ := rEvs_form N h6 he
      obtain ⟨e4, b5⟩ := rNum_form h5 e5
      obtain ⟨e3, b4⟩ := rMarks_form h4 e4
      obtain ⟨e2, b3⟩ := rNum_form h3 e3
      obtain ⟨e1, b2⟩ := rNum_form h2 e2
      obtain ⟨_, b1⟩ := rNum_form h1 e1
      simp only at b1
      refine ⟨hok, ?_⟩
      rw [b1, b2, b3, b4, b5, b6, hb]
      unfold msgB msgHead
      simp only [Int.toNat_natCast, hn]
      simp
    · simp at h
  · rename_i hre
    simp only [Prod.mk.injEq] at h
    exact absurd h.2 hre
theorem frOne_form {l b : Bytes} (h : frOne l = (b, 0)) : frameB b = l := by
  obtain ⟨n, k, hg, hlen, hn, hsum⟩ := frOne_ok (c := l) (by rw [h])
  have hb : b = (l.drop k).take n := by
    unfold frOne frGet at h
    rw [hg] at h
    simp only [if_true, if_neg (show ¬ 1048576 < n by omega), if_neg (show ¬ l.length < k + n + 4 by omega), if_pos hsum, if_neg (show ¬ k + n + 4 < l.length by omega)] at h
    simp only [Prod.mk.injEq, and_true] at h
    exact h.symm
  have hbl : b.length = n := by rw [hb]; simp; omega
  have hq : (l.drop (k + n)).take 4 = le4 (crcSum b) := by
    refine numLE_inj _ _ ?_ ?_
    · simp [le4]; omega
    · rw [hsum, ← hb, numLE_le4 _ (crcSum_lt b)]
  have h4 : (l.drop (k + n)).take 4 = l.drop (k + n) := List.take_of_length_le (by simp; omega)
  unfold frameB
  rw [hbl, ← (getS_form hg).2, ← hq, h4, hb, List.append_assoc]
  have e1 : List.take n (List.drop k l) ++ List.drop (k + n) l = List.drop k l := by
    rw [← List.drop_drop, List.take_append_drop]
  rw [e1, List.take_append_drop]
theorem msgParse_form {l : Bytes} {m : Msg} (h : msgParse l = (m, 0)) : msgOk m = true ∧ frameB (msgB m) = l := by
  obtain ⟨b, e, hx⟩ : ∃ b e, frOne l = (b, e) := ⟨_, _, rfl⟩
  unfold msgParse at h
  rw [hx] at h
  simp only at h
  split at h
  · rename_i he
    subst he
    obtain ⟨h1, h2⟩ := msgRead_form h
    exact ⟨h1, by rw [h2]; exact frOne_form hx⟩
  · rename_i he
    simp only [Prod.mk.injEq] at h
    exact absurd h.2 he
end Go.Proofs.YtnpdfmpjjomhcaaGreat
