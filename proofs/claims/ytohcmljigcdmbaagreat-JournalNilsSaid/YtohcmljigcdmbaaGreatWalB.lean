/- Bytes of a frame with one byte changed are no frame: plain laws. Conditions: a body of at most 2^20 bytes. -/
import Derived.Test.YtohcmljigcdmbaaGreatOpen
import Derived.Test.YtohcmljigcdmbaaGreatRecG
set_option linter.unusedSimpArgs false
set_option linter.unusedVariables false
set_option linter.unnecessarySimpa false
set_option maxHeartbeats 16000000
set_option maxRecDepth 100000
namespace Go.Proofs.YtohcmljigcdmbaaGreat
/-- the bytes of a number are the only ones that are read as it -/
theorem getFrom_form : ∀ (l : Bytes) (j m n k : Nat), j ≤ 9 → getFrom j m l = (n, k, 0) → ∃ q, n = m + q * 128 ^ j ∧ k = j + (shortB q).length ∧ l.take (k - j) = shortB q ∧ (0 < j → 0 < q)
 | [], j, m, n, k, _, h => by simp [getFrom] at h
 | c :: r, j, m, n, k, hj, h => by
   unfold getFrom at h
   split at h
   ·simp at h
   ·rename_i h1
    have hc := c.toNat_lt
    split at h
    ·rename_i h2
     simp only [Prod.mk.injEq, and_true] at h
     obtain ⟨hn, hk⟩ := h
     refine ⟨c.toNat, ?_, ?_, ?_, fun h0 => ?_⟩
     ·rw [← hn, Nat.mod_eq_of_lt h2]
     ·rw [shortB_small _ h2, ← hk]; rfl
     ·rw [shortB_small _ h2, ← hk, show j + 1 - j = 1 by omega]; simp
     ·by_cases hz : c.toNat = 0
      ·exact absurd (Or.inl ⟨h0, hz⟩) h1
      ·omega
    ·rename_i h2
     have hj9 : j ≠ 9 := fun e => h1 (Or.inr ⟨e, by omega⟩)
     obtain ⟨q, hn, hk, ht, hq⟩ := getFrom_form r (j + 1) _ n k (by omega) h
     have hq0 := hq (by omega)
     have hb : ¬ (c.toNat % 128 + 128 * q) < 128 := by omega
     have e1 : (c.toNat % 128 + 128 * q) % 128 = c.toNat % 128 := by omega
     have e2 : (c.toNat % 128 + 128 * q) / 128 = q := by omega
     have e3 : UInt8.ofNat (c.toNat % 128 + 128) = c := by
      apply UInt8.toNat_inj.1
      rw [UInt8.toNat_ofNat']; omega
     refine ⟨c.toNat % 128 + 128 * q, ?_, ?_, ?_, fun _ => by omega⟩
     ·rw [hn, Nat.pow_succ, Nat.add_mul, ← Nat.add_assoc]
      congr 1
      rw [Nat.mul_comm 128 q, Nat.mul_assoc, Nat.mul_comm 128]
     ·rw [shortB_big _ hb, e2, List.length_cons, hk]; omega
     ·have e4 : k - j = (k - (j + 1)) + 1 := by omega
      rw [shortB_big _ hb, e1, e2, e3, e4, List.take_succ_cons, ht]
theorem getS_form {l : Bytes} {n k : Nat} (h : getS l = (n, k, 0)) : k = (shortB n).length ∧ l.take k = shortB n := by
 obtain ⟨q, hn, hk, ht, _⟩ := getFrom_form l 0 0 n k (by omega) h
 simp at hn hk ht
 subst hn
 exact ⟨hk, ht⟩
end Go.Proofs.YtohcmljigcdmbaaGreat
/- Records at the beginning of bytes, plainly; lists of records cut off. Conditions: none. -/
namespace Go.Proofs.YtohcmljigcdmbaaGreat
open Go.RowKit
theorem frGet_size {l b : Bytes} {n : Nat} (h : frGet l = (b, n, 0)) : n = sizeN b.length ∧ n ≤ l.length := by
 have hf := frGet_fit l
 have hfit := getS_fit l
 unfold frGet at h
 obtain ⟨m, k, e, hg⟩ : ∃ m k e, getS l = (m, k, e) := ⟨_, _, _, rfl⟩
 rw [hg] at h hfit
 simp only at h hfit
 by_cases he : e = 0
 ·subst he
  have hk := (getS_form hg).1
  rw [if_pos rfl] at h
  split at h
  ·simp at h
  ·split at h
   ·simp at h
   ·rename_i h1 h2
    split at h
    ·simp only [Prod.mk.injEq] at h
     obtain ⟨rfl, rfl, -⟩ := h
     have hl : ((l.drop k).take m).length = m := by simp; omega
     refine ⟨?_, by omega⟩
     unfold sizeN
     rw [hl, ← hk]
    ·simp at h
 ·rw [if_neg he] at h
  simp only [Prod.mk.injEq] at h
  exact absurd h.2.2 he
theorem recScan_ok {l b : Bytes} {n : Nat} {x : Rec} (h : frGet l = (b, n, 0)) (hx : recRead b = (x, 0)) : recScan l = (x :: (recScan (l.drop n)).1, n + (recScan (l.drop n)).2) := by
 have hs := (frGet_size h).1
 unfold recScan
 rw [frScan_ok h]
 simp only [recScanB, hx, if_true, ← hs]
theorem recScan_bad {l b : Bytes} {n : Nat} {x : Rec} {e : Int} (h : frGet l = (b, n, 0)) (hx : recRead b = (x, e)) (he : e ≠ 0) : recScan l = ([], 0) := by
 unfold recScan
 rw [frScan_ok h]
 simp only [recScanB, hx, if_neg he]
theorem recScan_len : ∀ (n : Nat) (l : Bytes), l.length ≤ n → (recScan l).2 ≤ l.length
 | 0, l, h => by
   obtain rfl : l = [] := List.length_eq_zero_iff.1 (by omega)
   rw [recScan_none frGet_nil]; exact Nat.le_refl _
 | n + 1, l, h => by
   obtain ⟨b, k, e, hx⟩ : ∃ b k e, frGet l = (b, k, e) := ⟨_, _, _, rfl⟩
   by_cases he : e = 0
   ·subst he
    obtain ⟨h1, h2⟩ := frGet_size hx
    have h3 := sizeN_pos b.length
    obtain ⟨x, f, hr⟩ : ∃ x f, recRead b = (x, f) := ⟨_, _, rfl⟩
    by_cases hf : f = 0
    ·subst hf
     rw [recScan_ok hx hr]
     have h4 := recScan_len n (l.drop k) (by rw [List.length_drop]; omega)
     rw [List.length_drop] at h4
     simp only
     omega
    ·rw [recScan_bad hx hr hf]; exact Nat.zero_le _
   ·rw [recScan_none (by rw [hx]; exact he)]; exact Nat.zero_le _
theorem RecsIn.take {w : World} {a : Option Addr} {ls : List RecIt} (h : RecsIn w a ls) (n : Nat) : RecsIn w a (ls.take n) := by
 refine ⟨?_, fun x hx => h.dots x (List.mem_of_mem_take hx)⟩
 rcases h.rows with h | ⟨A, off, rfl, hr⟩
 ·exact Or.inl (by rw [h]; simp)
 ·refine Or.inr ⟨A, off, rfl, fun i hi => ?_⟩
  have hi2 : i < ls.length := by simp at hi; omega
  rw [List.getElem_take]
  exact hr i hi2
end Go.Proofs.YtohcmljigcdmbaaGreat
/- The log on a disk: Recover. Conditions: as in the text. -/
namespace Go.Proofs.YtohcmljigcdmbaaGreat
open Go.RowKit
variable {F : Nat → Prop} {d : Nat} {S : DS} {b : Nat} {D : DataW Unit} {w w' : World}
/-- what a recovery hands back -/
def RetRecov (F : Nat → Prop) (d b : Nat) (r : DS × List Rec × Nat × Int) (w : World) (e : Ending) (w' : World) : Prop :=
 ∃ (a : Option Addr) (ls : List RecIt) (cap : Nat), e = .returned (.tuple #[.slice a ls.length cap, .int .i64 (r.2.2.1 : Nat), .int .i64 r.2.2.2]) ∧ RecsIn w' a ls ∧ ls.length ≤ cap ∧ recsOf ls = r.2.1 ∧ (∃ D', DkIn w' (grow F w) d r.1 b D') ∧ Fr F w w'
theorem recsIn_nil (w : World) : RecsIn w none [] := ⟨Or.inl rfl, fun x hx => by simp at hx⟩
theorem RecsOwn.fr {w0 W : World} {v : Value} {ls : List RecIt} (h : RecsOwn w0 v ls W) (hf : Fr F W w') (hF : ∀ k, F k → k < w0.heap.size) : ∃ a cap, v = .slice a ls.length cap ∧ RecsIn w' a ls ∧ ls.length ≤ cap := by
 refine recsIn_own (own_fr30 h.own hf (fun k hk e => ?_)) (fun x hx => ?_)
 ·have := (h.own.lt k hk).1
  have := hF k e
  omega
 ·refine (h.dots x hx).keep (fun A off hA hne => hf.block A ?_ (fun e => ?_))
  ·have := h.dots x hx
   rw [hA] at this
   exact this.lt hne
  ·have := (h.ne x hx A off hA).1
   have := hF A e
   omega
theorem walRecover_any (h : DkIn w F d S b D) (hi : DInv S) (hF : ∀ k, F k → k < w.heap.size) : Calls Tryz.prog 23 #[.pointer (some ⟨d, 0, none⟩)] w (RetRecov F d b S.recov w) := by
 have HR := Lib.hid (walRead_any h hi)
 have hwl := walB_len hi
 by_cases h1 : S.down = true ∧ (getF S.f logS).isSome = true
 ·have hr : S.recov = (S, [], 0, 12) := by unfold DS.recov; rw [if_pos h1]
  rw [hr]
  have HB : Hid (∀ X, Calls Tryz.prog 55 #[.int .i64 12] X fun e w' => e = .returned (.int .i64 12) ∧ X = w') := Lib.hid fun X => walBut_any 12 X
  have H1 := Lib.hid h1
  have H0 := Lib.hid h
  clear hr h1 h hF
  go_enter Tryz.func23, Tryz.ntmps23
  go_upto_region 2 with (go_at_call 54; (with_reducible refine HR.out.mono ?_); rintro e w1 ⟨a, cap, c, rfl, hc, hc3, -, -, -, hb⟩)
  obtain rfl : c = 12 := by
   rw [if_pos H1.out] at hc
   rcases hc3 with rfl | rfl | rfl
   ·simp [walBut] at hc
   ·simp [walBut] at hc
   ·rfl
  clear hc hc3
  go_wp2_with (go_at_call 55; (with_reducible refine (HB.out _).mono ?_); rintro e w1 ⟨rfl, rfl⟩)
  go_returns
  exact ⟨none, [], 0, rfl, recsIn_nil _, Nat.le_refl _, rfl, ⟨D, (H0.out.below hb).mono fun k hk => Or.inl hk⟩, Fr.of_below hb⟩
 ·obtain ⟨L, n, hLn⟩ : ∃ L n, recScan (walB S) = (L, n) := ⟨_, _, rfl⟩
  have HS0 := fun (W : World) (A : Option Addr) (C : Nat) (hc : (walB S).length ≤ C) (h : BytesIn W A (walB S)) => RecScan_any A C (walB S) W (by omega) hc h
  rw [hLn] at HS0
  have hn : n ≤ (walB S).length := by have := recScan_len _ (walB S) (Nat.le_refl _); rw [hLn] at this; exact this
  obtain ⟨m, hm⟩ : ∃ m, m = (walB S).length := ⟨_, rfl⟩
  have H1 := Lib.hid h1
  have H0 := Lib.hid h
  have HFF := Lib.hid hF
  rw [← hm] at HS0 hn hwl
  have HS := Lib.hid HS0
  have hru := fun he => recov_up (S := S) h1 he
  have hrc := fun he T c ht => recov_cut (S := S) h1 he (T := T) (c := c) ht
  rw [hLn] at hru hrc
  simp only at hru hrc
  rw [← hm] at hru hrc
  have HT0 : ∀ X, Below w.heap.size w X → Calls Tryz.prog 57 #[.pointer (some ⟨d, 0, none⟩), .string ⟨#[108, 111, 103]⟩, .int .i64 (n : Nat)] X (RetDk F d b (S.trunc logS (n : Nat)).1 (S.trunc logS (n : Nat)).2 X) := fun X hb => Truncate_any logS_size (h.below hb) hi.arm (fun f hf => Nat.le_trans (hi.ok f (getF_mem hf)).len (by decide))
  have HM := Lib.hid hm
  have HBX := Lib.hid (fun c X => walBut_any c X)
  by_cases he : n = m
  ·have q1 : ((n : Int) == (m : Int)) = true := beq_iff_eq.2 (by omega)
   have q2 : (n == m) = true := beq_iff_eq.2 he
   have HRU := Lib.hid (hru he)
   rw [HRU.out]
   clear HT0 HS0 hru hrc hLn h h1 hF hm he
   go_enter Tryz.func23, Tryz.ntmps23
   go_upto_region 2 with (go_at_call 54; (with_reducible refine HR.out.mono ?_); rintro e w1 ⟨a, cap, c, rfl, hc, -, hsz, hin, hcap, hb⟩)
   rw [if_neg H1.out] at hc
   have hz := hsz hc
   have hin1 := hin hc
   rw [hz, ← HM.out] at hcap
   rw [hz, ← HM.out]
   have HB0 := fun X => HBX.out c X
   rw [hc] at HB0
   have HB := Lib.hid HB0
   clear HB0 hc hsz hin hz HBX
   go_upto_region 5 with (first
        | (go_at_call 55; (with_reducible refine (HB.out _).mono ?_); rintro e w2 ⟨rfl, rfl⟩)
        | (go_at_call 56; (with_reducible refine (HS.out _ _ _ hcap hin1).mono ?_); rintro e w3 ⟨v, ls, W1, rfl, hb1, hinv, hmap⟩))
   have hb3 : Below w.heap.size w w3 := below2 hb (below2 hb1 hinv.bel)
   have hls : recsOf ls = L := hmap
   have HLS := Lib.hid hls
   have HV := Lib.hid hinv
   have HB1 := Lib.hid (below2 hb hb1)
   clear hb hb1 hinv hmap hls hin1 HR
   go_wp2
   go_returns
   obtain ⟨a2, c2, rfl, hin2, hc2⟩ := recsIn_own HV.out.own HV.out.dots
   exact ⟨a2, ls, c2, rfl, hin2, hc2, HLS.out, ⟨D, (H0.out.below hb3).mono fun k hk => Or.inl hk⟩, Fr.of_below hb3⟩
  ·have q1 : ((n : Int) == (m : Int)) = false := beq_eq_false_iff_ne.2 (by omega)
   have q2 : (n == m) = false := beq_eq_false_iff_ne.2 he
   obtain ⟨T, c, hT⟩ : ∃ T c, S.trunc logS (n : Nat) = (T, c) := ⟨_, _, rfl⟩
   rw [hT] at HT0
   simp only at HT0
   have HT := Lib.hid HT0
   have hrx := hrc he T c hT
   by_cases hc0 : c = 0
   ·subst hc0
    rw [if_pos rfl] at hrx
    rw [hrx]
    clear HT0 HS0 hru hrc hLn h h1 hF hm he hT hrx
    go_enter Tryz.func23, Tryz.ntmps23
    go_upto_region 2 with (go_at_call 54; (with_reducible refine HR.out.mono ?_); rintro e w1 ⟨a, cap, c, rfl, hc, -, hsz, hin, hcap, hb⟩)
    rw [if_neg H1.out] at hc
    have hz := hsz hc
    have hin1 := hin hc
    rw [hz, ← HM.out] at hcap
    rw [hz, ← HM.out]
    have HB0 := fun X => HBX.out c X
    rw [hc] at HB0
    have HB := Lib.hid HB0
    clear HB0 hc hsz hin hz HBX
    go_upto_region 5 with (first
     | (go_at_call 55; (with_reducible refine (HB.out _).mono ?_); rintro e w2 ⟨rfl, rfl⟩)
     | (go_at_call 56; (with_reducible refine (HS.out _ _ _ hcap hin1).mono ?_); rintro e w3 ⟨v, ls, W1, rfl, hb1, hinv, hmap⟩))
    have hb3 : Below w.heap.size w w3 := below2 hb (below2 hb1 hinv.bel)
    have hls : recsOf ls = L := hmap
    have HLS := Lib.hid hls
    have HV := Lib.hid hinv
    have HB1 := Lib.hid (below2 hb hb1)
    clear hb hb1 hinv hmap hls hin1 HR
    go_wp2_with (go_at_call 57; (with_reducible refine (HT.out _ hb3).mono ?_); rintro e w4 ⟨rfl, ⟨D4, hD4⟩, hf4⟩)
    go_returns
    obtain ⟨a2, c2, rfl, hin2, hc2⟩ := HV.out.fr hf4 (fun k hk => Nat.lt_of_lt_of_le (HFF.out k hk) HB1.out.size)
    refine ⟨a2, ls, c2, ?_, hin2, hc2, HLS.out, ⟨D4, hD4.mono fun k hk => hk.imp id fun g => Nat.le_trans hb3.size g⟩, (Fr.of_below hb3).again hf4⟩
    rw [show ((m : Int) - (n : Int)) = ((m - n : Nat) : Int) by omega]
    rfl
   ·rw [if_neg hc0] at hrx
    rw [hrx]
    have q3 : (c != 0) = true := bne_iff_ne.2 hc0
    clear HT0 HS0 hru hrc hLn h h1 hF hm he hT hrx hc0
    go_enter Tryz.func23, Tryz.ntmps23
    go_upto_region 2 with (go_at_call 54; (with_reducible refine HR.out.mono ?_); rintro e w1 ⟨a, cap, c, rfl, hc, -, hsz, hin, hcap, hb⟩)
    rw [if_neg H1.out] at hc
    have hz := hsz hc
    have hin1 := hin hc
    rw [hz, ← HM.out] at hcap
    rw [hz, ← HM.out]
    have HB0 := fun X => HBX.out c X
    rw [hc] at HB0
    have HB := Lib.hid HB0
    clear HB0 hc hsz hin hz HBX
    go_upto_region 5 with (first
     | (go_at_call 55; (with_reducible refine (HB.out _).mono ?_); rintro e w2 ⟨rfl, rfl⟩)
     | (go_at_call 56; (with_reducible refine (HS.out _ _ _ hcap hin1).mono ?_); rintro e w3 ⟨v, ls, W1, rfl, hb1, hinv, hmap⟩))
    have hb3 : Below w.heap.size w w3 := below2 hb (below2 hb1 hinv.bel)
    have hls : recsOf ls = L := hmap
    have HLS := Lib.hid hls
    have HV := Lib.hid hinv
    have HB1 := Lib.hid (below2 hb hb1)
    clear hb hb1 hinv hmap hls hin1 HR
    go_wp2_with (go_at_call 57; (with_reducible refine (HT.out _ hb3).mono ?_); rintro e w4 ⟨rfl, ⟨D4, hD4⟩, hf4⟩)
    go_returns
    exact ⟨none, [], 0, rfl, recsIn_nil _, Nat.le_refl _, rfl, ⟨D4, hD4.mono fun k hk => hk.imp id fun g => Nat.le_trans hb3.size g⟩, (Fr.of_below hb3).again hf4⟩
end Go.Proofs.YtohcmljigcdmbaaGreat
