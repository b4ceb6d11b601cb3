/- What was packed is read again: plain laws. Conditions: texts as an event that may be has them. -/
import Derived.Test.YtdlmbflhbecggaaGreatDec
import Derived.Test.YtdlmbflhbecggaaGreatReadI
set_option linter.unusedSimpArgs false
set_option linter.unusedVariables false
set_option linter.unnecessarySimpa false
set_option maxHeartbeats 16000000
set_option maxRecDepth 100000
namespace Go.Proofs.YtdlmbflhbecggaaGreat
theorem AQ : ∀ (n k m : Nat) (s : Bytes), n * 128 ^ k + m < 18446744073709551616 → k ≤ 9 → m < 128 ^ k → (0 < k → 0 < n) → gJ k m (aN n ++ s) = (n * 128 ^ k + m, k + (aN n).length, 0) := by
 intro n
 induction n using Nat.strongRecOn with
 | _ n ih =>
   intro k m s hlt hk hm hpos
   by_cases hn : n < 128
   ·rw [kG n hn]
    simp only [List.singleton_append, gJ, List.length_singleton]
    have hc : (UInt8.ofNat n).toNat = n := by simp; omega
    rw [hc]
    have h1 : ¬ ((0 < k ∧ n = 0) ∨ (k = 9 ∧ 1 < n)) := by
       rintro (⟨a, b⟩ | ⟨a, b⟩)
       ·have := hpos a; omega
       ·subst a
        have h4 : 128 ^ 9 = 9223372036854775808 := by decide
        rw [h4] at hlt; omega
    rw [if_neg h1, if_pos hn, Nat.mod_eq_of_lt hn, Nat.add_comm]
   ·rw [oQ n hn]
    simp only [List.cons_append, gJ, List.length_cons]
    have hc : (UInt8.ofNat (n % 128 + 128)).toNat = n % 128 + 128 := by simp; omega
    rw [hc]
    have hk8 : k ≤ 8 := by
       by_cases h9 : k = 9
       ·subst h9
        have h4 : 128 ^ 9 = 9223372036854775808 := by decide
        rw [h4] at hlt; omega
       ·omega
    have h1 : ¬ ((0 < k ∧ n % 128 + 128 = 0) ∨ (k = 9 ∧ 1 < n % 128 + 128)) := by omega
    rw [if_neg h1, if_neg (by omega)]
    have h6 : 128 ^ (k + 1) = 128 ^ k * 128 := Nat.pow_succ ..
    have h7 : (n % 128 + 128) % 128 = n % 128 := by omega
    rw [h7]
    have h8 : n * 128 ^ k = n / 128 * 128 ^ (k + 1) + n % 128 * 128 ^ k := by
       rw [h6]
       have : n = n / 128 * 128 + n % 128 := by omega
       conv => lhs; rw [this]
       rw [Nat.add_mul, Nat.mul_assoc, Nat.mul_comm 128]
    have hmb : n % 128 * 128 ^ k ≤ 127 * 128 ^ k := Nat.mul_le_mul_right _ (by omega)
    rw [ih (n / 128) (by omega) (k + 1) (m + n % 128 * 128 ^ k) s (by omega) (by omega) (by omega) (by omega)]
    simp only [Prod.mk.injEq, and_true]
    constructor
    ·omega
    ·omega
theorem zJ (n : Nat) (s : Bytes) (h : n < 18446744073709551616) : gz (aN n ++ s) = (n, (aN n).length, 0) := by
 have := AQ n 0 0 s (by simpa using h) (by omega) (by decide) (by omega)
 unfold gz
 rw [this]; simp
theorem fF (most n : Nat) (s : Bytes) (h : n < 18446744073709551616) (hm : n ≤ most) : bW most ⟨aN n ++ s, 0⟩ = (⟨s, 0⟩, n) := by
 unfold bW
 simp only [zJ n s h, if_true]
 rw [if_neg (by omega)]
 simp
theorem Jh (n : Int) (h0 : -4398046511104 ≤ n) (h1 : n ≤ 4398046511104) : jY (Lib.zigzag n) = n := by
 unfold jY Lib.zigzag
 split <;> split <;> omega
theorem LC (most n : Int) (s : Bytes) (h0 : 0 ≤ most) (hm : most ≤ 4398046511104) (h1 : -most ≤ n) (h2 : n ≤ most) : kS most ⟨pR n ++ s, 0⟩ = (⟨s, 0⟩, n) := by
 have hz := Cf n (by omega) (by omega)
 unfold kS pR
 simp only [zJ (Lib.zigzag n) s (by omega), Jh n (by omega) (by omega), if_true]
 rw [if_neg (by omega)]
 simp
theorem oV (most : Nat) (l s : Bytes) (hl : l.length ≤ most) (hm : most < 18446744073709551616) : aZ most ⟨dD l ++ s, 0⟩ = (⟨s, 0⟩, l) := by
 unfold aZ dD
 rw [List.append_assoc, fF most l.length (l ++ s) (by omega) hl]
 simp
theorem Et (b0 b1 b2 b3 b4 : Bool) (s : Bytes) : gG ⟨UInt8.ofNat (dL [b0, b1, b2, b3, b4]) :: s, 0⟩ = (⟨s, 0⟩, [b0, b1, b2, b3, b4]) := by
 have h : ∀ a b c d e : Bool, dL [a, b, c, d, e] % 256 < 32 ∧ kT (dL [a, b, c, d, e] % 256) = [a, b, c, d, e] := by decide
 obtain ⟨h1, h2⟩ := h b0 b1 b2 b3 b4
 unfold gG
 simp [h1, h2]
theorem Ey {d : Dot} (hd : bu d = true) (s : Bytes) : iL ⟨jy d ++ s, 0⟩ = (⟨s, 0⟩, d) := by
 have hp := KA hd
 have hq := hd
 unfold bu iW at hq
 simp only [Bool.and_eq_true, decide_eq_true_eq] at hq
 unfold jy
 rw [if_pos hd]
 unfold iL
 simp only [List.append_assoc]
 rw [fF 63 _ _ (by omega) (by omega)]
 simp only
 rw [fF 1048576 _ _ (by omega) (by omega)]
 simp only
 rw [fF 4294967296 _ _ (by omega) (by omega)]
 have e : (⟨⟨(d.a.dev.toNat : Int), (d.a.inc.toNat : Int)⟩, (d.seq.toNat : Int)⟩ : Dot) = d := by
  obtain ⟨⟨x, y⟩, z⟩ := d
  simp only at hp ⊢
  rw [Int.toNat_of_nonneg hp.1, Int.toNat_of_nonneg hp.2.1, Int.toNat_of_nonneg hp.2.2]
 simp only [e, hd, if_true]
theorem CW {d : Stamp} (hd : gV d = true) (s : Bytes) : iR ⟨fE d ++ s, 0⟩ = (⟨s, 0⟩, d) := by
 have hq := hd
 unfold gV at hq
 simp only [Bool.and_eq_true, decide_eq_true_eq] at hq
 unfold fE
 rw [if_pos hd]
 unfold iR
 simp only [List.append_assoc]
 rw [fF 4398046511104 _ _ (by omega) (by omega)]
 simp only
 rw [fF 65535 _ _ (by omega) (by omega)]
 simp only
 rw [fF 63 _ _ (by omega) (by omega)]
 obtain ⟨x, y, z⟩ := d
 simp only at hq ⊢
 rw [Int.toNat_of_nonneg (by omega), Int.toNat_of_nonneg (by omega), Int.toNat_of_nonneg (by omega)]
 simp
theorem oZ : ∀ (l : List Dot) (s : Bytes), (∀ d ∈ l, bu d = true) → dP l.length ⟨bU l ++ s, 0⟩ = (⟨s, 0⟩, l)
 | [], s, _ => by simp [dP, bU]
 | d :: l, s, h => by
   have h1 : bU (d :: l) ++ s = jy d ++ (bU l ++ s) := by simp [bU]
   rw [h1, List.length_cons, dP, if_pos rfl, Ey (h d (by simp))]
   simp only [oZ l s (fun x hx => h x (by simp [hx]))]
/-- an event that may be is read as it was packed -/
theorem Ph {e : Ev} (he : cu e = true) (s : Bytes) : rEv ⟨evB e ++ s, 0⟩ = (⟨s, 0⟩, e) := by
 have hfit := oI he
 have hq := he
 unfold cu at hq
 simp only [Bool.and_eq_true, decide_eq_true_eq] at hq
 obtain ⟨x1, x2, _, x4, x5⟩ := hq
 unfold overOk at x4
 simp only [Bool.and_eq_true] at x4
 have hall := o6 _ _ _ x4.2
 have h1 : iL ⟨evB e ++ s, 0⟩ = (⟨fE e.stamp ++ (UInt8.ofNat (dL [e.kind == 1, e.ck.hostOnly, e.ck.secure, e.ck.httpOnly, e.ck.persistent]) :: (aN e.over.length ++ (bU e.over ++ (kX e ++ s)))), 0⟩, e.dot) := by
  have : evB e ++ s = jy e.dot ++ (fE e.stamp ++ (UInt8.ofNat (dL [e.kind == 1, e.ck.hostOnly, e.ck.secure, e.ck.httpOnly, e.ck.persistent]) :: (aN e.over.length ++ (bU e.over ++ (kX e ++ s))))) := by
   unfold evB vP; simp
  rw [this, Ey x1]
 have ou := hfit.over
 have hgo : vU ⟨evB e ++ s, 0⟩ = (⟨s, 0⟩, e) := by
  rw [IX _ h1 (CW x2 _) (Et _ _ _ _ _ _) (fF 64 _ _ (by omega) ou) (oZ _ _ hall)]
  rw [if_neg (by simp)]
  simp only [jo, List.getD_cons_zero, List.getD_cons_succ]
  rcases hfit.kind with hk | hk
  ·obtain ⟨⟨c1, c2⟩, ⟨a1, a2⟩, e1, e2⟩ := hfit.item hk
   have hk' : (e.kind == 1) = true := beq_iff_eq.2 hk
   unfold kindOk at x5
   rw [if_neg (by omega), if_pos hk] at x5
   unfold gp kH fC fZ at x5
   simp only [Bool.and_eq_true, decide_eq_true_eq] at x5
   rw [if_pos hk']
   have ht : kX e = dD (bl e.key.name) ++ dD (bl e.key.domain) ++ dD (bl e.key.path) ++ dD (bl e.ck.value) ++ pR e.ck.expiry ++ aN e.ck.creation.toNat ++ aN e.ck.access.toNat := by unfold kX; rw [if_pos hk]
   obtain ⟨_, ⟨hn, _⟩, ⟨hv, _⟩, ⟨hd, _⟩, ⟨_, _, hp⟩, _⟩ := x5
   have r1 : ∀ s, aZ 256 ⟨dD (bl e.key.name) ++ s, 0⟩ = (⟨s, 0⟩, bl e.key.name) := fun s => oV 256 _ s hn (by omega)
   have r2 : ∀ s, aZ 256 ⟨dD (bl e.key.domain) ++ s, 0⟩ = (⟨s, 0⟩, bl e.key.domain) := fun s => oV 256 _ s hd (by omega)
   have r3 : ∀ s, aZ 256 ⟨dD (bl e.key.path) ++ s, 0⟩ = (⟨s, 0⟩, bl e.key.path) := fun s => oV 256 _ s hp (by omega)
   have r4 : ∀ s, aZ 1024 ⟨dD (bl e.ck.value) ++ s, 0⟩ = (⟨s, 0⟩, bl e.ck.value) := fun s => oV 1024 _ s hv (by omega)
   have r5 : ∀ s, kS 1099511627776 ⟨pR e.ck.expiry ++ s, 0⟩ = (⟨s, 0⟩, e.ck.expiry) := fun s => LC _ _ s (by omega) (by omega) (by omega) (by omega)
   have r6 : ∀ s, bW 1099511627776 ⟨aN e.ck.creation.toNat ++ s, 0⟩ = (⟨s, 0⟩, e.ck.creation.toNat) := fun s => fF _ _ s (by omega) (by omega)
   have r7 : ∀ s, bW 1099511627776 ⟨aN e.ck.access.toNat ++ s, 0⟩ = (⟨s, 0⟩, e.ck.access.toNat) := fun s => fF _ _ s (by omega) (by omega)
   simp only [iJ, dI, ht, List.append_assoc, r1, r2, r3, r4, r5, r6, r7, Dl, Int.toNat_of_nonneg c1, Int.toNat_of_nonneg a1]
   obtain ⟨d, st, kd, ky, c, o⟩ := e
   simp only at hk ⊢
   subst hk
   rfl
  ·have hk' : (e.kind == 1) = false := beq_eq_false_iff_ne.2 (by omega)
   unfold kindOk at x5
   rw [if_pos hk] at x5
   simp only [Bool.and_eq_true, decide_eq_true_eq] at x5
   rw [if_neg (by rw [hk']; decide)]
   have ht : kX e = [] := by unfold kX; rw [if_neg (by omega)]
   rw [ht]
   obtain ⟨⟨hkey, hck⟩, _⟩ := x5
   obtain ⟨d, st, kd, ky, c, o⟩ := e
   simp only at hk hkey hck ⊢
   subst hk hkey hck
   rfl
 unfold rEv zV
 rw [hgo]
 simp [he]
end Go.Proofs.YtdlmbflhbecggaaGreat
/- An event, read off bytes: event.Read. Conditions: at most 2^30 bytes. -/
namespace Go.Proofs.YtdlmbflhbecggaaGreat
open Go.RowKit
end Go.Proofs.YtdlmbflhbecggaaGreat
