/- What was packed is read again: plain laws. Conditions: texts as an event that may be has them. -/
import Derived.Test.YtohcmljigcdmbaaGreatMkB
import Derived.Test.YtohcmljigcdmbaaGreatReadI
set_option linter.unusedSimpArgs false
set_option linter.unusedVariables false
set_option linter.unnecessarySimpa false
set_option maxHeartbeats 16000000
set_option maxRecDepth 100000
namespace Go.Proofs.YtohcmljigcdmbaaGreat
theorem getFrom_short : ∀ (n k m : Nat) (s : Bytes), n * 128 ^ k + m < 18446744073709551616 → k ≤ 9 → m < 128 ^ k → (0 < k → 0 < n) → getFrom k m (shortB n ++ s) = (n * 128 ^ k + m, k + (shortB n).length, 0) := by
 intro n
 induction n using Nat.strongRecOn with
 | _ n ih =>
   intro k m s hlt hk hm hpos
   by_cases hn : n < 128
   ·rw [shortB_small n hn]
    simp only [List.singleton_append, getFrom, List.length_singleton]
    have hc : (UInt8.ofNat n).toNat = n := by simp; omega
    rw [hc]
    have h1 : ¬ ((0 < k ∧ n = 0) ∨ (k = 9 ∧ 1 < n)) := by
       rintro (⟨a, b⟩ | ⟨a, b⟩)
       ·have := hpos a; omega
       ·subst a
        have h4 : 128 ^ 9 = 9223372036854775808 := by decide
        rw [h4] at hlt; omega
    rw [if_neg h1, if_pos hn, Nat.mod_eq_of_lt hn, Nat.add_comm]
   ·rw [shortB_big n hn]
    simp only [List.cons_append, getFrom, List.length_cons]
    have hc : (UInt8.ofNat (n % 128 + 128)).toNat = n % 128 + 128 := by simp; omega
    rw [hc]
    have hk8 : k ≤ 8 := by
       by_cases h9 : k = 9
       ·subst h9
        have h4 : 128 ^ 9 = 9223372036854775808 := by decide
        rw [h4] at hlt; omega
       ·omega
    have h1 : ¬ ((0 < k ∧ n % 128 + 128 = 0) ∨ (k = 9 ∧ 1 < n % 128 + 128)) := by omega
    rw [if_neg h1, if_neg (by omega)]
    have h6 : 128 ^ (k + 1) = 128 ^ k * 128 := Nat.pow_succ ..
    have h7 : (n % 128 + 128) % 128 = n % 128 := by omega
    rw [h7]
    have h8 : n * 128 ^ k = n / 128 * 128 ^ (k + 1) + n % 128 * 128 ^ k := by
       rw [h6]
       have : n = n / 128 * 128 + n % 128 := by omega
       conv => lhs; rw [this]
       rw [Nat.add_mul, Nat.mul_assoc, Nat.mul_comm 128]
    have hmb : n % 128 * 128 ^ k ≤ 127 * 128 ^ k := Nat.mul_le_mul_right _ (by omega)
    rw [ih (n / 128) (by omega) (k + 1) (m + n % 128 * 128 ^ k) s (by omega) (by omega) (by omega) (by omega)]
    simp only [Prod.mk.injEq, and_true]
    constructor
    ·omega
    ·omega
theorem getS_short (n : Nat) (s : Bytes) (h : n < 18446744073709551616) : getS (shortB n ++ s) = (n, (shortB n).length, 0) := by
 have := getFrom_short n 0 0 s (by simpa using h) (by omega) (by decide) (by omega)
 unfold getS
 rw [this]; simp
theorem rNum_short (most n : Nat) (s : Bytes) (h : n < 18446744073709551616) (hm : n ≤ most) : rNum most ⟨shortB n ++ s, 0⟩ = (⟨s, 0⟩, n) := by
 unfold rNum
 simp only [getS_short n s h, if_true]
 rw [if_neg (by omega)]
 simp
theorem unzig_zig (n : Int) (h0 : -4398046511104 ≤ n) (h1 : n ≤ 4398046511104) : unzig (Lib.zigzag n) = n := by
 unfold unzig Lib.zigzag
 split <;> split <;> omega
theorem rInt_zig (most n : Int) (s : Bytes) (h0 : 0 ≤ most) (hm : most ≤ 4398046511104) (h1 : -most ≤ n) (h2 : n ≤ most) : rInt most ⟨zigB n ++ s, 0⟩ = (⟨s, 0⟩, n) := by
 have hz := zig_lt n (by omega) (by omega)
 unfold rInt zigB
 simp only [getS_short (Lib.zigzag n) s (by omega), unzig_zig n (by omega) (by omega), if_true]
 rw [if_neg (by omega)]
 simp
theorem rText_text (most : Nat) (l s : Bytes) (hl : l.length ≤ most) (hm : most < 18446744073709551616) : rText most ⟨textB l ++ s, 0⟩ = (⟨s, 0⟩, l) := by
 unfold rText textB
 rw [List.append_assoc, rNum_short most l.length (l ++ s) (by omega) hl]
 simp
theorem rFlags_byte (b0 b1 b2 b3 b4 : Bool) (s : Bytes) : rFlags ⟨UInt8.ofNat (flagsN [b0, b1, b2, b3, b4]) :: s, 0⟩ = (⟨s, 0⟩, [b0, b1, b2, b3, b4]) := by
 have h : ∀ a b c d e : Bool, flagsN [a, b, c, d, e] % 256 < 32 ∧ bits5 (flagsN [a, b, c, d, e] % 256) = [a, b, c, d, e] := by decide
 obtain ⟨h1, h2⟩ := h b0 b1 b2 b3 b4
 unfold rFlags
 simp [h1, h2]
theorem rDot_dot {d : Dot} (hd : dotOk d = true) (s : Bytes) : rDot ⟨dotB d ++ s, 0⟩ = (⟨s, 0⟩, d) := by
 have hp := dotOk_pos hd
 have hq := hd
 unfold dotOk actorOk at hq
 simp only [Bool.and_eq_true, decide_eq_true_eq] at hq
 unfold dotB
 rw [if_pos hd]
 unfold rDot
 simp only [List.append_assoc]
 rw [rNum_short 63 _ _ (by omega) (by omega)]
 simp only
 rw [rNum_short 1048576 _ _ (by omega) (by omega)]
 simp only
 rw [rNum_short 4294967296 _ _ (by omega) (by omega)]
 have e : (⟨⟨(d.a.dev.toNat : Int), (d.a.inc.toNat : Int)⟩, (d.seq.toNat : Int)⟩ : Dot) = d := by
  obtain ⟨⟨x, y⟩, z⟩ := d
  simp only at hp ⊢
  rw [Int.toNat_of_nonneg hp.1, Int.toNat_of_nonneg hp.2.1, Int.toNat_of_nonneg hp.2.2]
 simp only [e, hd, if_true]
theorem rStamp_stamp {d : Stamp} (hd : stampOk d = true) (s : Bytes) : rStamp ⟨stampB d ++ s, 0⟩ = (⟨s, 0⟩, d) := by
 have hq := hd
 unfold stampOk at hq
 simp only [Bool.and_eq_true, decide_eq_true_eq] at hq
 unfold stampB
 rw [if_pos hd]
 unfold rStamp
 simp only [List.append_assoc]
 rw [rNum_short 4398046511104 _ _ (by omega) (by omega)]
 simp only
 rw [rNum_short 65535 _ _ (by omega) (by omega)]
 simp only
 rw [rNum_short 63 _ _ (by omega) (by omega)]
 obtain ⟨x, y, z⟩ := d
 simp only at hq ⊢
 rw [Int.toNat_of_nonneg (by omega), Int.toNat_of_nonneg (by omega), Int.toNat_of_nonneg (by omega)]
 simp
theorem rDots_dots : ∀ (l : List Dot) (s : Bytes), (∀ d ∈ l, dotOk d = true) → rDots l.length ⟨dotsB l ++ s, 0⟩ = (⟨s, 0⟩, l)
 | [], s, _ => by simp [rDots, dotsB]
 | d :: l, s, h => by
   have h1 : dotsB (d :: l) ++ s = dotB d ++ (dotsB l ++ s) := by simp [dotsB]
   rw [h1, List.length_cons, rDots, if_pos rfl, rDot_dot (h d (by simp))]
   simp only [rDots_dots l s (fun x hx => h x (by simp [hx]))]
/-- an event that may be is read as it was packed -/
theorem rEv_ev {e : Ev} (he : evOk e = true) (s : Bytes) : rEv ⟨evB e ++ s, 0⟩ = (⟨s, 0⟩, e) := by
 have hfit := evOk_fit he
 have hq := he
 unfold evOk at hq
 simp only [Bool.and_eq_true, decide_eq_true_eq] at hq
 obtain ⟨x1, x2, _, x4, x5⟩ := hq
 unfold overOk at x4
 simp only [Bool.and_eq_true] at x4
 have hall := overFrom_all _ _ _ x4.2
 have h1 : rDot ⟨evB e ++ s, 0⟩ = (⟨stampB e.stamp ++ (UInt8.ofNat (flagsN [e.kind == 1, e.ck.hostOnly, e.ck.secure, e.ck.httpOnly, e.ck.persistent]) :: (shortB e.over.length ++ (dotsB e.over ++ (evTail e ++ s)))), 0⟩, e.dot) := by
  have : evB e ++ s = dotB e.dot ++ (stampB e.stamp ++ (UInt8.ofNat (flagsN [e.kind == 1, e.ck.hostOnly, e.ck.secure, e.ck.httpOnly, e.ck.persistent]) :: (shortB e.over.length ++ (dotsB e.over ++ (evTail e ++ s))))) := by
   unfold evB evHead; simp
  rw [this, rDot_dot x1]
 have hover := hfit.over
 have hgo : evGo ⟨evB e ++ s, 0⟩ = (⟨s, 0⟩, e) := by
  rw [evGo_eq _ h1 (rStamp_stamp x2 _) (rFlags_byte _ _ _ _ _ _) (rNum_short 64 _ _ (by omega) hover) (rDots_dots _ _ hall)]
  rw [if_neg (by simp)]
  simp only [flagOf, List.getD_cons_zero, List.getD_cons_succ]
  rcases hfit.kind with hk | hk
  ·obtain ⟨⟨c1, c2⟩, ⟨a1, a2⟩, e1, e2⟩ := hfit.item hk
   have hk' : (e.kind == 1) = true := beq_iff_eq.2 hk
   unfold kindOk at x5
   rw [if_neg (by omega), if_pos hk] at x5
   unfold itemOk pathOk plainOk canonical at x5
   simp only [Bool.and_eq_true, decide_eq_true_eq] at x5
   rw [if_pos hk']
   have ht : evTail e = textB (bl e.key.name) ++ textB (bl e.key.domain) ++ textB (bl e.key.path) ++ textB (bl e.ck.value) ++ zigB e.ck.expiry ++ shortB e.ck.creation.toNat ++ shortB e.ck.access.toNat := by unfold evTail; rw [if_pos hk]
   obtain ⟨_, ⟨hn, _⟩, ⟨hv, _⟩, ⟨hd, _⟩, ⟨_, _, hp⟩, _⟩ := x5
   have r1 : ∀ s, rText 256 ⟨textB (bl e.key.name) ++ s, 0⟩ = (⟨s, 0⟩, bl e.key.name) := fun s => rText_text 256 _ s hn (by omega)
   have r2 : ∀ s, rText 256 ⟨textB (bl e.key.domain) ++ s, 0⟩ = (⟨s, 0⟩, bl e.key.domain) := fun s => rText_text 256 _ s hd (by omega)
   have r3 : ∀ s, rText 256 ⟨textB (bl e.key.path) ++ s, 0⟩ = (⟨s, 0⟩, bl e.key.path) := fun s => rText_text 256 _ s hp (by omega)
   have r4 : ∀ s, rText 1024 ⟨textB (bl e.ck.value) ++ s, 0⟩ = (⟨s, 0⟩, bl e.ck.value) := fun s => rText_text 1024 _ s hv (by omega)
   have r5 : ∀ s, rInt 1099511627776 ⟨zigB e.ck.expiry ++ s, 0⟩ = (⟨s, 0⟩, e.ck.expiry) := fun s => rInt_zig _ _ s (by omega) (by omega) (by omega) (by omega)
   have r6 : ∀ s, rNum 1099511627776 ⟨shortB e.ck.creation.toNat ++ s, 0⟩ = (⟨s, 0⟩, e.ck.creation.toNat) := fun s => rNum_short _ _ s (by omega) (by omega)
   have r7 : ∀ s, rNum 1099511627776 ⟨shortB e.ck.access.toNat ++ s, 0⟩ = (⟨s, 0⟩, e.ck.access.toNat) := fun s => rNum_short _ _ s (by omega) (by omega)
   simp only [rItem, withItem, ht, List.append_assoc, r1, r2, r3, r4, r5, r6, r7, mkS_bl, Int.toNat_of_nonneg c1, Int.toNat_of_nonneg a1]
   obtain ⟨d, st, kd, ky, c, o⟩ := e
   simp only at hk ⊢
   subst hk
   rfl
  ·have hk' : (e.kind == 1) = false := beq_eq_false_iff_ne.2 (by omega)
   unfold kindOk at x5
   rw [if_pos hk] at x5
   simp only [Bool.and_eq_true, decide_eq_true_eq] at x5
   rw [if_neg (by rw [hk']; decide)]
   have ht : evTail e = [] := by unfold evTail; rw [if_neg (by omega)]
   rw [ht]
   obtain ⟨⟨hkey, hck⟩, _⟩ := x5
   obtain ⟨d, st, kd, ky, c, o⟩ := e
   simp only at hk hkey hck ⊢
   subst hk hkey hck
   rfl
 unfold rEv evFin
 rw [hgo]
 simp [he]
end Go.Proofs.YtohcmljigcdmbaaGreat
/- An event, read off bytes: event.Read. Conditions: at most 2^30 bytes. -/
namespace Go.Proofs.YtohcmljigcdmbaaGreat
open Go.RowKit
end Go.Proofs.YtohcmljigcdmbaaGreat
