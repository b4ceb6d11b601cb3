/- A slice cut out of a slice: the value behind one name, in a plain region and in one whose order is open. Conditions: none. -/
import Derived.Test.YtlefejokpdjpgaaGreatRest
import Derived.Test.YtlefejokpdjpgaaGreatDiskC
import Derived.OrdersHeld
import Derived.Deep.RegionLaw
import Derived.Deep.RegionHeld3
import Derived.BigQuiet
import Derived.Test.YtlefejokpdjpgaaGreatFrameP
import Derived.Test.YtlefejokpdjpgaaGreatLoad
import Derived.Test.YtlefejokpdjpgaaGreatCel
import Derived.Test.YtlefejokpdjpgaaGreatRead
import Derived.Laws.ResultCell
set_option linter.unusedSimpArgs false
set_option linter.unusedVariables false
set_option linter.unnecessarySimpa false
set_option maxHeartbeats 16000000
set_option maxRecDepth 100000
namespace Go.Proofs.YtlefejokpdjpgaaGreat
open Go.RowKit
theorem jI (w : World) (a : Option Addr) (n cap : Nat) (k : IntKind) (i : Nat) (h1 : i ≤ n) :
 (Instr.sliceAt 65 (.slice a n cap) (some (.int k i)) none none).run Tryz.prog w = .ok (.slice (cutA a cap i 1) (n - i) (cap - i)) w := by
 obtain ⟨i0, hi, _, hz1, _⟩ := info_parts Tryz.infoByte
 exact kN w _ _ i0 a n cap k i 1 Tryz.underlying65 hi hz1 h1
theorem uw (w : World) (a : Option Addr) (n cap : Nat) (k : IntKind) (j : Nat) (h1 : j ≤ cap) :
 (Instr.sliceAt 65 (.slice a n cap) none (some (.int k j)) none).run Tryz.prog w = .ok (.slice a j cap) w := by
 obtain ⟨i0, hi, _, hz1, _⟩ := info_parts Tryz.infoByte
 exact dW w _ _ i0 a n cap k j Tryz.underlying65 hi h1
theorem ku (w : World) (a : Option Addr) (n cap : Nat) (k k2 : IntKind) (i j : Nat) (h1 : i ≤ j) (h2 : j ≤ cap) :
 (Instr.sliceAt 65 (.slice a n cap) (some (.int k i)) (some (.int k2 j)) none).run Tryz.prog w = .ok (.slice (cutA a cap i 1) (j - i) (cap - i)) w := by
 obtain ⟨i0, hi, _, hz1, _⟩ := info_parts Tryz.infoByte
 exact nG w _ _ i0 a n cap k k2 i j 1 Tryz.underlying65 hi hz1 h1 h2
theorem qB (n : Nat) (w : World) (hn : n ≤ 63) : Calls Tryz.prog 175 #[.int .i64 n] w fun x w' => x = .returned (.int .u64 (2 ^ n : Nat)) ∧ w = w' := by
 go_enter Tryz.func175, Tryz.ntmps175
 go_wp2
 go_loop [3, 4] (fun o i => ∃ k : Nat, k ≤ n ∧ o = .int .u64 (2 ^ k : Nat) ∧ i = .int .i64 k) (fun _ i => n - (intOf i).toNat)
 case atStart => exact ⟨0, Nat.zero_le _, rfl, rfl⟩
 case round =>
  obtain ⟨k, hk, rfl, rfl⟩ := hrel
  by_cases hlt : k < n
  ·have h1 : 2 ^ (k + 1) ≤ 2 ^ 63 := Nat.pow_le_pow_right (by decide) (by omega)
   obtain ⟨v, hv⟩ : ∃ v, v = 2 ^ k := ⟨_, rfl⟩
   have h2 : 2 ^ (k + 1) = v * 2 := by rw [hv, Nat.pow_succ]
   have H2 := Lib.hid h2
   rw [h2] at h1
   rw [← hv]
   clear hv h2
   go_wp2
   go_round
   case rel => exact ⟨k + 1, by omega, by rw [H2.out]; go_num, by go_num⟩
   case measure => simp [intOf]; omega
  ·obtain rfl : k = n := by omega
   go_wp2
   go_ret
   exact ⟨rfl, rfl⟩
theorem qP (l : Bytes) (i : Nat) (hi : i < l.length) : bU (l.drop i) = l[i].toNat + 256 * bU (l.drop (i + 1)) := by
 rw [List.drop_eq_getElem_cons hi]; rfl
theorem lY (l : Bytes) (i : Nat) (h8 : l.length ≤ 8) : bU (l.drop i) < 18446744073709551616 := by
 have h := iM (l.drop i)
 have : 256 ^ (l.drop i).length ≤ 256 ^ 8 := Nat.pow_le_pow_right (by decide) (by simp; omega)
 omega
theorem qC (a : Option Addr) (cap : Nat) (l : Bytes) (w : World) (h8 : l.length ≤ 8) (h : BytesIn w a l) : Calls Tryz.prog 141 #[.slice a l.length cap] w fun x w' => x = .returned (.int .u64 (bU l)) ∧ w = w' := by
 go_enter Tryz.func141, Tryz.ntmps141
 go_wp2
 go_loop [3, 4] (fun o i => ∃ k : Nat, k ≤ l.length ∧ o = .int .u64 (bU (l.drop k)) ∧ i = .int .i64 ((k : Int) - 1)) (fun _ i => (intOf i + 1).toNat)
 case atStart => exact ⟨l.length, Nat.le_refl _, by simp [bU], rfl⟩
 case round =>
  obtain ⟨k, hk, rfl, rfl⟩ := hrel
  by_cases hlt : 0 < k
  ·obtain ⟨i, rfl⟩ : ∃ i, k = i + 1 := ⟨k - 1, by omega⟩
   have e0 : ((i + 1 : Nat) : Int) - 1 = (i : Int) := by omega
   rcases h with h0 | ⟨A, off, rfl, hb⟩
   ·rw [h0] at hk; simp at hk
   have hc := hb.cell (show i < l.length by omega)
   have hd := qP l i (by omega)
   have hl := lY l i h8
   rw [hd] at hl
   have HD := Lib.hid hd
   have hcl := l[i].toNat_lt
   generalize bU (l.drop (i + 1)) = v at *
   generalize l[i] = c at *
   clear hd
   rw [e0]
   go_wp2
   go_round
   case rel => exact ⟨i, by omega, by rw [HD.out]; go_num, by go_num⟩
   case measure => first | (simp [intOf]; done) | (simp [intOf]; omega)
  ·obtain rfl : k = 0 := by omega
   rw [List.drop_zero]
   go_wp2
   go_ret
   exact ⟨rfl, rfl⟩
theorem yw (m k c : Nat) (hk : k ≤ 9) (hm : m < 128 ^ k) (h9 : k = 9 → c % 128 ≤ 1) : m + c % 128 * 128 ^ k < 18446744073709551616 := by
 have h1 : c % 128 ≤ 127 := by omega
 by_cases e : k = 9
 ·subst e
  have := h9 rfl
  omega
 ·have h2 : 128 ^ k ≤ 128 ^ 8 := Nat.pow_le_pow_right (by decide) (by omega)
  have h3 : c % 128 * 128 ^ k ≤ 127 * 128 ^ k := Nat.mul_le_mul_right _ h1
  omega
theorem jD (a : Option Addr) (cap : Nat) (l : Bytes) (w : World) (hl : l.length ≤ 1073741824) (h : BytesIn w a l) :
 Calls Tryz.prog 140 #[.slice a l.length cap] w fun x w' => x = .returned (.tuple #[.int .u64 (getS l).1, .int .i64 (getS l).2.1, .int .i64 (getS l).2.2]) ∧ w = w' := by
 go_enter Tryz.func140, Tryz.ntmps140
 go_wp2
 go_loop [5, 6] (fun n i => ∃ k m : Nat, k ≤ l.length ∧ k ≤ 9 ∧ n = .int .u64 m ∧ i = .int .i64 k ∧ m < 128 ^ k ∧ getS l = getFrom k m (l.drop k)) (fun _ i => l.length - (intOf i).toNat)
 case atStart => exact ⟨0, 0, Nat.zero_le _, by omega, rfl, rfl, by decide, rfl⟩
 case round =>
  obtain ⟨k, m, hk, hk9, rfl, rfl, hm, hpre⟩ := hrel
  have HP := Lib.hid hpre
  have HM := Lib.hid hm
  clear hpre hm
  by_cases hlt : k < l.length
  ·rcases h with h0 | ⟨A, off, rfl, hb⟩
   ·rw [h0] at hlt; simp at hlt
   have hc := hb.cell hlt
   have HS : Hid (getS l = if (0 < k ∧ l[k].toNat = 0) ∨ (k = 9 ∧ 1 < l[k].toNat) then (0, 0, 1) else if l[k].toNat < 128 then (m + l[k].toNat % 128 * 128 ^ k, k + 1, 0) else getFrom (k + 1) (m + l[k].toNat % 128 * 128 ^ k) (l.drop (k + 1))) := by
        rw [Hid, HP.out, List.drop_eq_getElem_cons hlt, getFrom]
   clear HP
   obtain ⟨c, hcc⟩ : ∃ c, c = l[k] := ⟨_, rfl⟩
   rw [← hcc] at hc HS
   clear hcc
   have hcl := c.toNat_lt
   generalize c.toNat = c at *
   by_cases hbad : (0 < k ∧ c = 0) ∨ (k = 9 ∧ 1 < c)
   ·have HE : Hid (getS l = (0, 0, 1)) := by rw [Hid, HS.out, if_pos hbad]
    clear HS
    rcases hbad with ⟨h1, h2⟩ | ⟨h1, h2⟩
    ·have d1 : decide (0 < k) = true := decide_eq_true h1
     subst h2
     go_wp2
     go_ret3
     exact ⟨by rw [HE.out]; first | rfl | go_num, rfl⟩
    ·subst h1
     have d2 : ((c : Int) == 0) = false := beq_eq_false_iff_ne.2 (by omega)
     have d3 : decide (1 < c) = true := decide_eq_true h2
     have d4 : decide ((1 : Int) < (c : Int)) = true := decide_eq_true (by omega)
     go_wp2
     go_ret3
     exact ⟨by rw [HE.out]; first | rfl | go_num, rfl⟩
   ·have HE := Lib.hid (HS.out.trans (if_neg hbad))
    have h9 : k = 9 → c ≤ 1 := by omega
    have h0 : 0 < k → c ≠ 0 := by omega
    have hlt2 := yw m k c hk9 HM.out (fun e => by have := h9 e; omega)
    have HPW := Lib.hid (show ∀ W : World, Calls Tryz.prog 175 #[.int .i64 (7 * (k : Int))] W fun x w' => x = .returned (.int .u64 (128 ^ k : Nat)) ∧ W = w' from fun W => by
     have := qB (7 * k) W (by omega)
     rw [Nat.pow_mul] at this
     rwa [show ((7 * k : Nat) : Int) = 7 * (k : Int) by omega] at this)
    obtain ⟨p, hp⟩ : ∃ p : Nat, p = c % 128 * 128 ^ k := ⟨_, rfl⟩
    rw [← hp] at hlt2
    have hw : IntKind.u64.wrap ((c : Int) % 128 * ((128 ^ k : Nat) : Int)) = (p : Int) := by
     have e : ((c % 128 : Nat) : Int) = (c : Int) % 128 := by omega
     rw [← e, ← Int.natCast_mul, ← hp, IntKind.wrap_u64]; omega
    have HPp := Lib.hid hp
    generalize hq : 128 ^ k = q at *
    have HQ := Lib.hid hq
    clear hq hp HS hbad
    by_cases hk0 : 0 < k
    ·have d1 : decide (0 < k) = true := decide_eq_true hk0
     have d2 : ((c : Int) == 0) = false := beq_eq_false_iff_ne.2 (by have := h0 hk0; omega)
     by_cases hk9 : k = 9
     ·have d3 : ((k : Int) == 9) = true := beq_iff_eq.2 (by omega)
      have d4 : decide (1 < c) = false := decide_eq_false (by have := h9 hk9; omega)
      have d5 : decide ((1 : Int) < (c : Int)) = false := decide_eq_false (by have := h9 hk9; omega)
      have h1 : c < 128 := by have := h9 hk9; omega
      have c1 : c ≤ 1 := h9 hk9
      clear hk9 h9 h0
      have HE2 : Hid (getS l = (m + p, k + 1, 0)) := by rw [Hid, HE.out, if_pos h1, ← HPp.out]
      clear HE
      go_wp2_with (go_at_call 175; (with_reducible refine (HPW.out _).mono ?_); rintro x w1 ⟨rfl, rfl⟩)
      try rw [Exit.noGoto_ret]
      go_ret3
      exact ⟨by rw [HE2.out]; first | rfl | go_num, rfl⟩
     ·have d3 : ((k : Int) == 9) = false := beq_eq_false_iff_ne.2 (by omega)
      have h8 : k + 1 ≤ 9 := by omega
      clear h9 h0
      by_cases h1 : c < 128
      ·skip
       have HE2 : Hid (getS l = (m + p, k + 1, 0)) := by rw [Hid, HE.out, if_pos h1, ← HPp.out]
       clear HE
       go_wp2_with (go_at_call 175; (with_reducible refine (HPW.out _).mono ?_); rintro x w1 ⟨rfl, rfl⟩)
       try rw [Exit.noGoto_ret]
       go_ret3
       exact ⟨by rw [HE2.out]; first | rfl | go_num, rfl⟩
      ·skip
       have HE2 : Hid (getS l = getFrom (k + 1) (m + p) (l.drop (k + 1))) := by rw [Hid, HE.out, if_neg h1, ← HPp.out]
       have h128 : 128 ≤ c := by omega
       have hvm : Hid (m + p < 128 ^ (k + 1)) := by
            have h6 : 128 ^ (k + 1) = 128 ^ k * 128 := Nat.pow_succ ..
            have h3 : c % 128 * q ≤ 127 * q := Nat.mul_le_mul_right _ (by omega)
            have h0 := HM.out
            have h7 := HPp.out
            rw [Hid, h6, HQ.out]; omega
       clear HE h1
       go_wp2_with (go_at_call 175; (with_reducible refine (HPW.out _).mono ?_); rintro x w1 ⟨rfl, rfl⟩)
       go_round
       case rel => exact ⟨k + 1, m + p, by omega, h8, by go_num, by go_num, hvm.out, HE2.out⟩
       case measure => first | (simp [intOf]; done) | (simp [intOf]; omega)
    ·have d1 : decide (0 < k) = false := decide_eq_false hk0
     have d3 : ((k : Int) == 9) = false := beq_eq_false_iff_ne.2 (by omega)
     have h8 : k + 1 ≤ 9 := by omega
     clear h9 h0
     by_cases h1 : c < 128
     ·skip
      have HE2 : Hid (getS l = (m + p, k + 1, 0)) := by rw [Hid, HE.out, if_pos h1, ← HPp.out]
      clear HE
      go_wp2_with (go_at_call 175; (with_reducible refine (HPW.out _).mono ?_); rintro x w1 ⟨rfl, rfl⟩)
      try rw [Exit.noGoto_ret]
      go_ret3
      exact ⟨by rw [HE2.out]; first | rfl | go_num, rfl⟩
     ·skip
      have HE2 : Hid (getS l = getFrom (k + 1) (m + p) (l.drop (k + 1))) := by rw [Hid, HE.out, if_neg h1, ← HPp.out]
      have h128 : 128 ≤ c := by omega
      have hvm : Hid (m + p < 128 ^ (k + 1)) := by
       have h6 : 128 ^ (k + 1) = 128 ^ k * 128 := Nat.pow_succ ..
       have h3 : c % 128 * q ≤ 127 * q := Nat.mul_le_mul_right _ (by omega)
       have h0 := HM.out
       have h7 := HPp.out
       rw [Hid, h6, HQ.out]; omega
      clear HE h1
      go_wp2_with (go_at_call 175; (with_reducible refine (HPW.out _).mono ?_); rintro x w1 ⟨rfl, rfl⟩)
      go_round
      case rel => exact ⟨k + 1, m + p, by omega, h8, by go_num, by go_num, hvm.out, HE2.out⟩
      case measure => first | (simp [intOf]; done) | (simp [intOf]; omega)
  ·obtain rfl : k = l.length := by omega
   have HE : Hid (getS l = (0, 0, 2)) := by rw [Hid, HP.out, List.drop_length]; rfl
   go_wp2
   try rw [Exit.noGoto_ret]
   go_ret3
   exact ⟨by rw [HE.out]; first | rfl | go_num, rfl⟩
theorem gU {P : Program} {f : FuncId} {args : Array Value} {w : World} {n : Nat} {v : Value}
 (h : Calls P f args (w.drewN n) fun e w' => e = .returned v ∧ w.drewN n = w') : Calls P f args (w.drewN n) fun e w'' => e = .returned v ∧ ∃ m, w'' = w.drewN m :=
 h.mono fun _ _ ⟨he, hm⟩ => ⟨he, n, hm.symm⟩
theorem qF (a : Option Addr) (cap : Nat) (l : Bytes) (w : World) (hl : l.length ≤ 1073741824) (hcap : l.length ≤ cap) (h : BytesIn w a l) :
 Calls Tryz.prog 103 #[.slice a l.length cap] w (pW (aS l) w) := by
 have hd := jD a cap l w hl h
 have hfit := getS_fit l
 have HV : Hid (aS l = if (getS l).2.2 = 0 then
  (if 1048576 < (getS l).1 then ([], 0, 3)
  else if l.length < (getS l).2.1 + (getS l).1 + 4 then ([], 0, 2)
  else if bU ((l.drop ((getS l).2.1 + (getS l).1)).take 4) = aX ((l.drop (getS l).2.1).take (getS l).1) then ((l.drop (getS l).2.1).take (getS l).1, (getS l).2.1 + (getS l).1 + 4, 0)
  else ([], 0, 5))
 else ([], 0, (getS l).2.2)) := rfl
 obtain ⟨n, k, e, hg⟩ : ∃ n k e, getS l = (n, k, e) := ⟨_, _, _, rfl⟩
 rw [hg] at hd hfit HV
 simp only at hd hfit HV
 clear hg
 have HG := Lib.hid hd
 clear hd
 rcases hfit with ⟨rfl, hn, hk0, hkl⟩ | ⟨he2, rfl, rfl⟩
 ·replace HV := Lib.hid (HV.out.trans (if_pos rfl))
  by_cases hbig : 1048576 < n
  ·have HE := Lib.hid (HV.out.trans (if_pos hbig))
   clear HV
   rw [HE.out]
   go_enter Tryz.func103, Tryz.ntmps103
   go_wp2_with (go_at_call 140; (with_reducible refine HG.out.mono ?_); rintro x w1 ⟨rfl, rfl⟩)
   go_ret3
   exact fB _ _ _ (Below.refl _ _)
  ·replace HV := Lib.hid (HV.out.trans (if_neg hbig))
   by_cases hsh : l.length < k + n + 4
   ·have HE := Lib.hid (HV.out.trans (if_pos hsh))
    have hlt : decide ((l.length : Int) < (k : Int) + (n : Int) + 4) = true := decide_eq_true (by omega)
    have hlt2 : decide (l.length < k + n + 4) = true := decide_eq_true (by omega)
    have hw : IntKind.i64.wrap (n : Int) = (n : Int) := IntWalk.i64_in _ (by omega)
    clear HV
    rw [HE.out]
    go_enter Tryz.func103, Tryz.ntmps103
    go_wp2_with (go_at_call 140; (with_reducible refine HG.out.mono ?_); rintro x w1 ⟨rfl, rfl⟩)
    go_ret3
    exact fB _ _ _ (Below.refl _ _)
   ·have hlt : decide ((l.length : Int) < (k : Int) + (n : Int) + 4) = false := decide_eq_false (by omega)
    have hlt2 : decide (l.length < k + n + 4) = false := decide_eq_false (by omega)
    have hw : IntKind.i64.wrap (n : Int) = (n : Int) := IntWalk.i64_in _ (by omega)
    replace HV := Lib.hid (HV.out.trans (if_neg hsh))
    have hnb : n ≤ 1048576 := by omega
    have yG : k + n + 4 ≤ l.length := by omega
    have hBl : ((l.drop k).take n).length = n := by simp; omega
    have hQl : ((l.drop (k + n)).take 4).length = 4 := by simp; omega
    have hBi := fun (W : World) (h : BytesIn W a l) => (h.cut hcap k).take n
    have hQi := fun (W : World) (h : BytesIn W a l) => (h.cut hcap (k + n)).take 4
    have hsl1 : ∀ W, (Instr.sliceAt 65 (.slice a l.length cap) (some (.int .i64 ((k : Int) + (n : Int)))) (some (.int .i64 ((k : Int) + (n : Int) + 4))) none).run Tryz.prog W = .ok (.slice (cutA a cap (k + n) 1) 4 (cap - (k + n))) W := fun W => by
     have := ku W a l.length cap .i64 .i64 (k + n) (k + n + 4) (by omega) (by omega)
     rw [show ((k + n + 4 : Nat) : Int) = (k : Int) + (n : Int) + 4 by omega, show ((k + n : Nat) : Int) = (k : Int) + (n : Int) by omega, show k + n + 4 - (k + n) = 4 by omega] at this
     exact this
    have hsl2 : ∀ W, (Instr.sliceAt 65 (.slice a l.length cap) (some (.int .i64 (k : Int))) (some (.int .i64 ((k : Int) + (n : Int)))) none).run Tryz.prog W = .ok (.slice (cutA a cap k 1) n (cap - k)) W := fun W => by
     have := ku W a l.length cap .i64 .i64 k (k + n) (by omega) (by omega)
     rw [show ((k + n : Nat) : Int) = (k : Int) + (n : Int) by omega, show k + n - k = n by omega] at this
     exact this
    have hql := iM ((l.drop (k + n)).take 4)
    rw [hQl, show 256 ^ 4 = 4294967296 by decide] at hql
    have hcl := fC ((l.drop k).take n)
    have hN := fun (x : Option Addr) (c : Nat) (W : World) (h : BytesIn W x ((l.drop (k + n)).take 4)) => qC x c ((l.drop (k + n)).take 4) W (by omega) h
    have hC := fun (x : Option Addr) (c : Nat) (W : World) (h : BytesIn W x ((l.drop k).take n)) => o5 x c ((l.drop k).take n) W (by omega) h
    rw [hQl] at hN
    rw [hBl] at hC
    generalize (l.drop k).take n = B at *
    generalize (l.drop (k + n)).take 4 = Q at *
    generalize bU Q = q at *
    generalize aX B = c at *
    have HN := Lib.hid hN
    have HC := Lib.hid hC
    have HB := Lib.hid hBl
    have HQ := Lib.hid (fun (m : Nat) => hQi (w.drewN m) (h.kept (below_drewN (Below.refl _ _) m)))
    have HBI := Lib.hid (fun (m : Nat) => hBi (w.drewN m) (h.kept (below_drewN (Below.refl _ _) m)))
    have hw3 : IntKind.i64.wrap ((k : Int) + (n : Int) + 4) = (k : Int) + (n : Int) + 4 := IntWalk.i64_in _ (by omega)
    have hwr : IntKind.u64.wrap (c : Int) = (c : Int) := IntWalk.u64_in _ (by omega)
    clear hN hC hBl hQl hBi hQi hsh hbig
    by_cases hqc : q = c
    ·have HE := Lib.hid (HV.out.trans (if_pos hqc))
     have hq1 : ((q : Int) == (c : Int)) = true := by rw [beq_iff_eq]; omega
     have hq2 : ((q : Int) != (c : Int)) = false := by rw [bne_eq_false_iff_eq]; omega
     have hq3 : (q == c) = true := by rw [beq_iff_eq]; omega
     have hq4 : (q != c) = false := by rw [bne_eq_false_iff_eq]; omega
     clear HV hqc
     rw [HE.out]
     go_enter Tryz.func103, Tryz.ntmps103
     go_upto_region 9 with (go_at_call 140; (with_reducible refine HG.out.mono ?_); rintro x w1 ⟨rfl, rfl⟩)
     refine wp_region_quiet_lit (by kernel_rfl) (by kernel_rfl) ?_
     iterate 4 go_big_quiet_step (fail)
     refine dK rfl _ (fun W _ => bu _ _ _ _ _ rfl _ (hsl1 W)) ?_
     try simp only [pS]
     go_big_quiet_step (exact gU (HN.out _ _ _ (HQ.out _)))
     iterate 3 go_big_quiet_step (fail)
     refine dK rfl _ (fun W _ => bu _ _ _ _ _ rfl _ (hsl2 W)) ?_
     try simp only [pS]
     go_big_quiet_step (exact gU (HC.out _ _ _ (HBI.out _)))
     iterate 2 go_big_quiet_step (fail)
     refine wpQuiet_nil ?_
     intro _ hw'
     obtain ⟨nq, hw''⟩ := hw'
     subst hw''
     have hbd : Below w.heap.size w (w.drewN nq) := below_drewN (Below.refl _ _) nq
     have hbi := HBI.out nq
     generalize w.drewN nq = V at hbd hbi ⊢
     have hown0 : (V.alloc (Obj.cells #[] 5)).ownsRow V.heap.size 5 1 (.slice (some ⟨V.heap.size, 0, none⟩) 0 0) ([] : Bytes).length (byteVals []) := World.ownsRow_made _ _ _ (Nat.le_refl _) (by decide) rfl
     have hbA : Below V.heap.size V (V.alloc (Obj.cells #[] 5)) := (Below.refl _ _).alloc (Nat.le_refl _) _
     have hsz := hbd.size
     have hle : B.length ≤ 1048576 := by rw [HB.out]; exact hnb
     go_wp2_with (first
          | (refine dm rfl _ (bu _ _ _ _ _ rfl _ (hsl2 _)) ?_)
          | (refine iW rfl (.tmp 42) (.tmp 46) rfl rfl V.heap.size _ [] rfl hown0 (cutA a cap k 1) B (cap - k) (by rw [HB.out]; rfl) (hbi.kept hbA) (by rw [List.length_nil]; omega) (by simp) ?_))
     intro v' w2 hown2 hg2
     have hb2 := hbA.grown hg2 (by simp) (fun k hk => (hown0.lt k hk).1)
     go_wp2
     go_ret3
     exact ⟨_, rfl, own_low hown2 hsz, below2 hbd hb2⟩
    ·have HE := Lib.hid (HV.out.trans (if_neg hqc))
     have hq1 : ((q : Int) == (c : Int)) = false := by rw [beq_eq_false_iff_ne]; omega
     have hq2 : ((q : Int) != (c : Int)) = true := by rw [bne_iff_ne]; omega
     have hq3 : (q == c) = false := by rw [beq_eq_false_iff_ne]; omega
     have hq4 : (q != c) = true := by rw [bne_iff_ne]; omega
     clear HV hqc
     rw [HE.out]
     go_enter Tryz.func103, Tryz.ntmps103
     go_upto_region 9 with (go_at_call 140; (with_reducible refine HG.out.mono ?_); rintro x w1 ⟨rfl, rfl⟩)
     refine wp_region_quiet_lit (by kernel_rfl) (by kernel_rfl) ?_
     iterate 4 go_big_quiet_step (fail)
     refine dK rfl _ (fun W _ => bu _ _ _ _ _ rfl _ (hsl1 W)) ?_
     try simp only [pS]
     go_big_quiet_step (exact gU (HN.out _ _ _ (HQ.out _)))
     iterate 3 go_big_quiet_step (fail)
     refine dK rfl _ (fun W _ => bu _ _ _ _ _ rfl _ (hsl2 W)) ?_
     try simp only [pS]
     go_big_quiet_step (exact gU (HC.out _ _ _ (HBI.out _)))
     iterate 2 go_big_quiet_step (fail)
     refine wpQuiet_nil ?_
     intro _ hw'
     obtain ⟨nq, hw''⟩ := hw'
     subst hw''
     go_wp2
     go_ret3
     exact fB _ _ _ (below_drewN (Below.refl _ _) nq)
 ·have hne : (e == 0) = false := by rw [beq_eq_false_iff_ne]; omega
  have hne2 : (e != 0) = true := by rw [bne_iff_ne]; omega
  have HE : Hid (aS l = ([], 0, e)) := HV.out.trans (if_neg (by omega))
  clear HV
  rw [HE.out]
  go_enter Tryz.func103, Tryz.ntmps103
  go_wp2_with (go_at_call 140; (with_reducible refine HG.out.mono ?_); rintro x w1 ⟨rfl, rfl⟩)
  go_ret3
  exact fB _ _ _ (Below.refl _ _)
theorem aG {P : Program} {fn : Func} {R : Ending → World → Prop} {a : Act} {w : World} (p u : Tmp) (ty t : TypeId) (g : Nat) (c : Array Value) (d : TypeDesc) (v : Value) (hr : fn.results = #[.cell p ty, .tmp u])
 (hp : a.tmps.getD p undef = .pointer (some ⟨g, 0, none⟩)) (hv : a.tmps.getD u undef = v) (hg : w.heap[g]? = some (.cells c t (0, 0))) (hu : P.underlying ty = some d) (hd : d.isRow = true) (hi : (P.info? ty).map (·.size) = some c.size)
 (hde : a.defers = []) (hR : R (.returned (.tuple #[.agg c, v])) w) : bodyPost P fn R .ret a w := by
 have h1 : w.rangeAt g 0 c.toList := fun j v hv => by
  rw [Nat.zero_add]
  simp only [World.cell?, hg]
  simpa using hv
 have h2 := run_loadVar_mid (P := P) w g 0 ty c.toList d h1 hu hd (by simpa using hi)
 refine bodyPost_ret ?_ hde hR
 rw [results_cell_tmp hr, hp, hv]
 simp [asAddr, h2, Result.andThen]
/-- two results, both structs that lie in blocks of their own -/
theorem aZ {P : Program} {fn : Func} {R : Ending → World → Prop} {a : Act} {w : World} (p p2 : Tmp) (ty ty2 t t2 : TypeId) (g g2 : Nat) (c c2 : Array Value) (d d2 : TypeDesc) (hr : fn.results = #[.cell p ty, .cell p2 ty2])
 (hp : a.tmps.getD p undef = .pointer (some ⟨g, 0, none⟩)) (hp2 : a.tmps.getD p2 undef = .pointer (some ⟨g2, 0, none⟩)) (hg : w.heap[g]? = some (.cells c t (0, 0))) (hg2 : w.heap[g2]? = some (.cells c2 t2 (0, 0)))
 (hu : P.underlying ty = some d) (hd : d.isRow = true) (hi : (P.info? ty).map (·.size) = some c.size) (hu2 : P.underlying ty2 = some d2) (hd2 : d2.isRow = true) (hi2 : (P.info? ty2).map (·.size) = some c2.size)
 (hde : a.defers = []) (hR : R (.returned (.tuple #[.agg c, .agg c2])) w) : bodyPost P fn R .ret a w := by
 have h1 : w.rangeAt g 0 c.toList := fun j v hv => by
  rw [Nat.zero_add]
  simp only [World.cell?, hg]
  simpa using hv
 have h1b : w.rangeAt g2 0 c2.toList := fun j v hv => by
  rw [Nat.zero_add]
  simp only [World.cell?, hg2]
  simpa using hv
 have h2 := run_loadVar_mid (P := P) w g 0 ty c.toList d h1 hu hd (by simpa using hi)
 have h3 := run_loadVar_mid (P := P) w g2 0 ty2 c2.toList d2 h1b hu2 hd2 (by simpa using hi2)
 refine bodyPost_ret ?_ hde hR
 have hp' : a.tmps[p]?.getD undef = .pointer (some ⟨g, 0, none⟩) := by simpa using hp
 have hp2' : a.tmps[p2]?.getD undef = .pointer (some ⟨g2, 0, none⟩) := by simpa using hp2
 simp [results, hr, hp', hp2', asAddr, h2, h3, Sem.run_bind, Result.andThen]
/-- a reader by value -/
abbrev aH (r : Rd) (a : Option Addr) (cap : Nat) : Value := .agg #[.slice a r.b.length cap, .int .i64 r.e]
def aA (r : Rd) (a : Option Addr) (cap : Nat) : Array Value := #[.slice a r.b.length cap, .int .i64 r.e]
/-- behind a read: the reader behind it, and a value; the bytes lie where they lay in w0 -/
def dF (r : Rd) (v : Value) (w0 w : World) (x : Ending) (w' : World) : Prop :=
 ∃ a cap, x = .returned (.tuple #[aH r a cap, v]) ∧ BytesIn w0 a r.b ∧ r.b.length ≤ cap ∧ Below w.heap.size w w'
theorem jl {r : Rd} {v : Value} {w0 w w' : World} {a : Option Addr} {cap n : Nat} {e : Int} (hn : n = r.b.length) (he : e = r.e) (hb : Below w.heap.size w w') (hin : BytesIn w0 a r.b) (hc : n ≤ cap) : dF r v w0 w (.returned (.tuple #[.agg #[.slice a n cap, .int .i64 e], v])) w' :=
 ⟨a, cap, by rw [hn, he], hin, by omega, hb⟩
/-- block R holds a reader -/
def RdBlk (w : World) (R : Nat) (r : Rd) (a : Option Addr) (cap : Nat) : Prop := w.heap[R]? = some (.cells (aA r a cap) 206 (0, 0))
theorem RdBlk.lt {w : World} {R : Nat} {r : Rd} {a : Option Addr} {cap : Nat} (h : RdBlk w R r a cap) : R < w.heap.size := lt_of_block h
theorem RdBlk.below {w w' : World} {R : Nat} {r : Rd} {a : Option Addr} {cap : Nat} (h : RdBlk w R r a cap) (hb : Below w.heap.size w w') : RdBlk w' R r a cap := (hb.block _ h.lt).trans h
theorem RdBlk.two {w : World} {R : Nat} {r : Rd} {a : Option Addr} {cap : Nat} (h : RdBlk w R r a cap) : w.cell? ⟨R, 0, none⟩ = some (.slice a r.b.length cap) ∧ w.cell? ⟨R, 1, none⟩ = some (.int .i64 r.e) ∧ w.frozen? ⟨R, 0, none⟩ = false ∧ w.frozen? ⟨R, 1, none⟩ = false := two_cell h
theorem RdBlk.range {w : World} {R : Nat} {r : Rd} {a : Option Addr} {cap : Nat} (h : RdBlk w R r a cap) : w.rangeAt R 0 [.slice a r.b.length cap, .int .i64 r.e] := fun j v hv => by
 rw [Nat.zero_add]
 have h' : w.heap[R]? = some (.cells #[.slice a r.b.length cap, .int .i64 r.e] 206 (0, 0)) := h
 simp only [World.cell?, h']
 simpa using hv
theorem RdBlk.new (w : World) (r : Rd) (a : Option Addr) (cap : Nat) : RdBlk (w.alloc (.cells (aA r a cap) 206)) w.heap.size r a cap := heap_alloc_last w _
abbrev au : Array Value := #[.slice none 0 0, .int .i64 0]
theorem dD (a : Option Addr) (n cap : Nat) (e0 e : Int) (w : World) : Calls Tryz.prog 176 #[.agg #[.slice a n cap, .int .i64 e0], .int .i64 e] w fun x w' => x = .returned (.agg #[.slice a n cap, .int .i64 e]) ∧ Below w.heap.size w w' := by
 go_enter Tryz.func176, Tryz.ntmps176
 go_upto_region 1 with fail
 refine wp_name (fun W hW => ?_)
 have hbt : Below w.heap.size w W := by rw [hW.out]; go_grown
 have hB : W.heap[w.heap.size]? = some (.cells #[.slice a n cap, .int .i64 e0] 206 (0, 0)) := by
  rw [hW.out, Below.heap_alloc _ _ _ (by simp)]; exact heap_alloc_last w _
 have hZ : W.heap[w.heap.size + 1]? = some (.cells au 206 (0, 0)) := by
  rw [hW.out]
  have := heap_alloc_last (w.alloc (Obj.cells #[.slice a n cap, .int .i64 e0] 206)) (Obj.cells au 206)
  simpa using this
 obtain ⟨q0, q1, f0, f1⟩ := two_cell hB
 clear hW hB
 go_wp2_with (refine wpList_store_row rfl 206 _ _ rfl (w.heap.size + 1) #[.slice a n cap, .int .i64 e] rfl rfl 206 au hZ (by kernel_rfl) rfl (by kernel_rfl) ?_)
 refine ret_cell 4 206 206 (w.heap.size + 1) #[.slice a n cap, .int .i64 e] _ rfl rfl (setRow_heap _ _ _ _ _ _ hZ) Tryz.underlying206 rfl (by kernel_rfl) rfl ?_
 exact ⟨rfl, below_setRow hbt (by omega) _⟩
theorem aW (r : Rd) (a : Option Addr) (cap most : Nat) (w0 w : World) (h0 : Below w0.heap.size w0 w) (hl : r.b.length ≤ 1073741824) (hc : r.b.length ≤ cap) (hm : most < 18446744073709551616) (hby : BytesIn w0 a r.b) :
 Calls Tryz.prog 142 #[aH r a cap, .int .u64 most] w (dF (rNum most r).1 (.int .u64 (rNum most r).2) w0 w) := by
 by_cases he : r.e = 0
 ·have hd := fun (W : World) (h : BytesIn W a r.b) => jD a cap r.b W hl h
  have hfit := getS_fit r.b
  have HV : Hid (rNum most r = if (getS r.b).2.2 = 0 then (if most < (getS r.b).1 then (⟨r.b, 3⟩, 0) else (⟨r.b.drop (getS r.b).2.1, 0⟩, (getS r.b).1)) else (⟨r.b, (getS r.b).2.2⟩, 0)) := by unfold Hid rNum; rw [if_pos he]
  obtain ⟨n, k, e, hg⟩ : ∃ n k e, getS r.b = (n, k, e) := ⟨_, _, _, rfl⟩
  rw [hg] at hfit HV
  simp only [hg] at hd
  simp only at hfit HV
  clear hg
  have HG := Lib.hid hd
  have hq : (r.e == 0) = true := beq_iff_eq.2 he
  have hq2 : (r.e != 0) = false := by rw [bne_eq_false_iff_eq]; exact he
  clear hd he
  rcases hfit with ⟨rfl, hn, hk0, hkl⟩ | ⟨he2, rfl, rfl⟩
  ·by_cases hmn : most < n
   ·have HE : Hid (rNum most r = (⟨r.b, 3⟩, 0)) := by rw [Hid, HV.out, if_pos rfl, if_pos hmn]
    clear HV
    go_enter Tryz.func142, Tryz.ntmps142
    go_upto_region 1 with fail
    refine wp_name (fun W hW => ?_)
    have hbt : Below w.heap.size w W := by rw [hW.out]; go_grown
    have hB : RdBlk W w.heap.size r a cap := by
     rw [hW.out]; unfold RdBlk; rw [Below.heap_alloc _ _ _ (by simp)]; exact heap_alloc_last w _
    have hZ : W.heap[w.heap.size + 1]? = some (.cells au 206 (0, 0)) := by
     rw [hW.out]
     have := heap_alloc_last (w.alloc (Obj.cells (aA r a cap) 206)) (Obj.cells au 206)
     rw [show (w.alloc (Obj.cells (aA r a cap) 206)).heap.size = w.heap.size + 1 by simp] at this
     exact this
    have h0W := h0.trans (hbt.mono h0.size)
    have hin := hby.kept h0W
    obtain ⟨q0, q1, f0, f1⟩ := hB.two
    have hrg := hB.range
    clear hW
    go_wp2_with (first
     | ((with_reducible refine wpList_load_to 206 _ w.heap.size 0 [.slice a r.b.length cap, .int .i64 r.e] (aH r a cap) rfl _ Tryz.underlying206 rfl (by kernel_rfl) hrg ?_ rfl ?_); exact rfl)
     | (go_at_call 140; (with_reducible refine (HG.out _ hin).mono ?_); rintro x w1 ⟨rfl, rfl⟩)
     | (go_at_call 176; (with_reducible refine (dD _ _ _ _ _ _).mono ?_); rintro x w2 ⟨rfl, hb2⟩; replace hZ := (hb2.block _ (lt_of_block hZ)).trans hZ; replace hbt := below2 hbt hb2)
     | (refine wpList_store_row rfl 206 _ _ rfl (w.heap.size + 1) #[.slice a r.b.length cap, .int .i64 3] rfl rfl 206 au hZ (by kernel_rfl) rfl (by kernel_rfl) ?_)
     )
    refine aG 4 5 206 206 (w.heap.size + 1) #[.slice a r.b.length cap, .int .i64 3] _ (.int .u64 0) rfl rfl rfl (setRow_heap _ _ _ _ _ _ hZ) Tryz.underlying206 rfl (by kernel_rfl) rfl ?_
    rw [HE.out]
    have hbf := below_setRow hbt (show w.heap.size ≤ w.heap.size + 1 by omega) #[.slice a r.b.length cap, .int .i64 3]
    exact ⟨a, cap, rfl, hby, hc, hbf⟩
   ·have HE : Hid (rNum most r = (⟨r.b.drop k, 0⟩, n)) := by rw [Hid, HV.out, if_pos rfl, if_neg hmn]
    clear HV
    go_enter Tryz.func142, Tryz.ntmps142
    go_upto_region 1 with fail
    refine wp_name (fun W hW => ?_)
    have hbt : Below w.heap.size w W := by rw [hW.out]; go_grown
    have hB : RdBlk W w.heap.size r a cap := by
     rw [hW.out]; unfold RdBlk; rw [Below.heap_alloc _ _ _ (by simp)]; exact heap_alloc_last w _
    have hZ : W.heap[w.heap.size + 1]? = some (.cells au 206 (0, 0)) := by
     rw [hW.out]
     have := heap_alloc_last (w.alloc (Obj.cells (aA r a cap) 206)) (Obj.cells au 206)
     rw [show (w.alloc (Obj.cells (aA r a cap) 206)).heap.size = w.heap.size + 1 by simp] at this
     exact this
    have h0W := h0.trans (hbt.mono h0.size)
    have hin := hby.kept h0W
    obtain ⟨q0, q1, f0, f1⟩ := hB.two
    have hrg := hB.range
    clear hW
    go_wp2_with (first
     | (go_at_call 140; (with_reducible refine (HG.out _ hin).mono ?_); rintro x w1 ⟨rfl, rfl⟩)
     | (refine wpList_store_row rfl 206 _ _ rfl (w.heap.size + 1) _ rfl rfl 206 au hZ (by kernel_rfl) rfl (by kernel_rfl) ?_))
    all_goals
     refine aG 4 5 206 206 (w.heap.size + 1) _ _ (.int .u64 n) rfl rfl rfl (setRow_heap _ _ _ _ _ _ hZ) Tryz.underlying206 rfl (by kernel_rfl) rfl ?_
     rw [HE.out]
     have hbf := fun c : Array Value => below_setRow hbt (show w.heap.size ≤ w.heap.size + 1 by omega) c
     refine jl (by simp only [List.length_drop]) rfl (hbf _) ?_ (by omega)
     first | exact hby.tail k | exact Or.inl (List.drop_eq_nil_of_le (by omega))
  ·have hne : (e == 0) = false := by rw [beq_eq_false_iff_ne]; omega
   have hne2 : (e != 0) = true := by rw [bne_iff_ne]; omega
   have HE : Hid (rNum most r = (⟨r.b, e⟩, 0)) := by rw [Hid, HV.out, if_neg (by omega)]
   clear HV he2
   go_enter Tryz.func142, Tryz.ntmps142
   go_upto_region 1 with fail
   refine wp_name (fun W hW => ?_)
   have hbt : Below w.heap.size w W := by rw [hW.out]; go_grown
   have hB : RdBlk W w.heap.size r a cap := by
        rw [hW.out]; unfold RdBlk; rw [Below.heap_alloc _ _ _ (by simp)]; exact heap_alloc_last w _
   have hZ : W.heap[w.heap.size + 1]? = some (.cells au 206 (0, 0)) := by
        rw [hW.out]
        have := heap_alloc_last (w.alloc (Obj.cells (aA r a cap) 206)) (Obj.cells au 206)
        rw [show (w.alloc (Obj.cells (aA r a cap) 206)).heap.size = w.heap.size + 1 by simp] at this
        exact this
   have h0W := h0.trans (hbt.mono h0.size)
   have hin := hby.kept h0W
   obtain ⟨q0, q1, f0, f1⟩ := hB.two
   have hrg := hB.range
   clear hW
   go_wp2_with (first
        | ((with_reducible refine wpList_load_to 206 _ w.heap.size 0 [.slice a r.b.length cap, .int .i64 r.e] (aH r a cap) rfl _ Tryz.underlying206 rfl (by kernel_rfl) hrg ?_ rfl ?_); exact rfl)
        | (go_at_call 140; (with_reducible refine (HG.out _ hin).mono ?_); rintro x w1 ⟨rfl, rfl⟩)
        | (go_at_call 176; (with_reducible refine (dD _ _ _ _ _ _).mono ?_); rintro x w2 ⟨rfl, hb2⟩; replace hZ := (hb2.block _ (lt_of_block hZ)).trans hZ; replace hbt := below2 hbt hb2)
        | (refine wpList_store_row rfl 206 _ _ rfl (w.heap.size + 1) #[.slice a r.b.length cap, .int .i64 e] rfl rfl 206 au hZ (by kernel_rfl) rfl (by kernel_rfl) ?_)
        )
   refine aG 4 5 206 206 (w.heap.size + 1) #[.slice a r.b.length cap, .int .i64 e] _ (.int .u64 0) rfl rfl rfl (setRow_heap _ _ _ _ _ _ hZ) Tryz.underlying206 rfl (by kernel_rfl) rfl ?_
   rw [HE.out]
   have hbf := below_setRow hbt (show w.heap.size ≤ w.heap.size + 1 by omega) #[.slice a r.b.length cap, .int .i64 e]
   exact ⟨a, cap, rfl, hby, hc, hbf⟩
 ·have hne : (r.e == 0) = false := beq_eq_false_iff_ne.2 he
  have hne2 : (r.e != 0) = true := by rw [bne_iff_ne]; exact he
  have HE : Hid (rNum most r = (r, 0)) := by unfold Hid rNum; rw [if_neg he]
  clear he
  go_enter Tryz.func142, Tryz.ntmps142
  go_upto_region 1 with fail
  refine wp_name (fun W hW => ?_)
  have hbt : Below w.heap.size w W := by rw [hW.out]; go_grown
  have hB : RdBlk W w.heap.size r a cap := by
   rw [hW.out]; unfold RdBlk; rw [Below.heap_alloc _ _ _ (by simp)]; exact heap_alloc_last w _
  have hZ : W.heap[w.heap.size + 1]? = some (.cells au 206 (0, 0)) := by
   rw [hW.out]
   have := heap_alloc_last (w.alloc (Obj.cells (aA r a cap) 206)) (Obj.cells au 206)
   rw [show (w.alloc (Obj.cells (aA r a cap) 206)).heap.size = w.heap.size + 1 by simp] at this
   exact this
  have h0W := h0.trans (hbt.mono h0.size)
  have hin := hby.kept h0W
  obtain ⟨q0, q1, f0, f1⟩ := hB.two
  have hrg := hB.range
  clear hW
  go_wp2_with (first
   | ((with_reducible refine wpList_load_to 206 _ w.heap.size 0 [.slice a r.b.length cap, .int .i64 r.e] (aH r a cap) rfl _ Tryz.underlying206 rfl (by kernel_rfl) hrg ?_ rfl ?_); exact rfl)
   | (refine wpList_store_row rfl 206 _ _ rfl (w.heap.size + 1) #[.slice a r.b.length cap, .int .i64 r.e] rfl rfl 206 au hZ (by kernel_rfl) rfl (by kernel_rfl) ?_)
   )
  refine aG 4 5 206 206 (w.heap.size + 1) #[.slice a r.b.length cap, .int .i64 r.e] _ (.int .u64 0) rfl rfl rfl (setRow_heap _ _ _ _ _ _ hZ) Tryz.underlying206 rfl (by kernel_rfl) rfl ?_
  rw [HE.out]
  have hbf := below_setRow hbt (show w.heap.size ≤ w.heap.size + 1 by omega) #[.slice a r.b.length cap, .int .i64 r.e]
  exact ⟨a, cap, rfl, hby, hc, hbf⟩
theorem tN {most : Int} {r : Rd} {n k m : Nat} (he : r.e = 0) (hg : getS r.b = (n, k, 0)) (h0 : 0 < most) (hp : n % 2 = 0) (hm : m = n / 2) : rInt most r = if most < (m : Int) then (⟨r.b, 3⟩, 0) else (⟨r.b.drop k, 0⟩, (m : Int)) := by
 unfold rInt unzig
 rw [if_pos he, hg]
 simp only [if_true, hp, ← hm]
 rw [show max most 0 = most by omega]
 by_cases h : most < (m : Int)
 ·rw [if_pos (Or.inl h), if_pos h]
 ·rw [if_neg (by omega), if_neg h]
theorem uQ {most : Int} {r : Rd} {n k m : Nat} (he : r.e = 0) (hg : getS r.b = (n, k, 0)) (h0 : 0 < most) (hp : n % 2 = 1) (hm : m = n / 2) : rInt most r = if most ≤ (m : Int) then (⟨r.b, 3⟩, 0) else (⟨r.b.drop k, 0⟩, -(m : Int) - 1) := by
 unfold rInt unzig
 rw [if_pos he, hg]
 simp only [if_true, show ¬ n % 2 = 0 by omega, if_false, ← hm]
 rw [show max most 0 = most by omega]
 by_cases h : most ≤ (m : Int)
 ·rw [if_pos (by omega), if_pos h]
 ·rw [if_neg (by omega), if_neg h]
theorem nU (r : Rd) (a : Option Addr) (cap : Nat) (most : Int) (w0 w : World) (h0 : Below w0.heap.size w0 w) (hl : r.b.length ≤ 1073741824) (hc : r.b.length ≤ cap) (hm0 : 0 < most) (hm : most < 9223372036854775807) (hby : BytesIn w0 a r.b) :
 Calls Tryz.prog 201 #[aH r a cap, .int .i64 most] w (dF (rInt most r).1 (.int .i64 (rInt most r).2) w0 w) := by
 by_cases he : r.e = 0
 ·have hd := fun (W : World) (h : BytesIn W a r.b) => jD a cap r.b W hl h
  have hfit := getS_fit r.b
  obtain ⟨n, k, e, hg⟩ : ∃ n k e, getS r.b = (n, k, e) := ⟨_, _, _, rfl⟩
  rw [hg] at hfit
  simp only [hg] at hd
  simp only at hfit
  have HG := Lib.hid hd
  have hq : (r.e == 0) = true := beq_iff_eq.2 he
  have hq2 : (r.e != 0) = false := by rw [bne_eq_false_iff_eq]; exact he
  clear hd
  rcases hfit with ⟨rfl, hn, hk0, hkl⟩ | ⟨he2, rfl, rfl⟩
  ·obtain ⟨m, hmm⟩ : ∃ m, m = n / 2 := ⟨_, rfl⟩
   have hm2 : (n : Int) / 2 = (m : Int) := by omega
   have hmb : m < 9223372036854775808 := by omega
   have hdm : decide (0 < most) = true := decide_eq_true hm0
   by_cases hp : n % 2 = 0
   ·have HV := Lib.hid (tN he hg hm0 hp hmm)
    have h2 : (n : Int) % 2 = 0 := by omega
    have HGS := Lib.hid hg
    clear he hg hmm hp
    by_cases hgt : most < (m : Int)
    ·have HE := Lib.hid (HV.out.trans (if_pos hgt))
     have d1 := decide_eq_true hgt
     clear HV hgt
     go_enter Tryz.func201, Tryz.ntmps201
     go_upto_region 1 with fail
     refine wp_name (fun W hW => ?_)
     have hbt : Below w.heap.size w W := by rw [hW.out]; go_grown
     have hB : RdBlk W w.heap.size r a cap := by
          rw [hW.out]; unfold RdBlk; rw [Below.heap_alloc _ _ _ (by simp)]; exact heap_alloc_last w _
     have hZ : W.heap[w.heap.size + 1]? = some (.cells au 206 (0, 0)) := by
          rw [hW.out]
          have := heap_alloc_last (w.alloc (Obj.cells (aA r a cap) 206)) (Obj.cells au 206)
          rw [show (w.alloc (Obj.cells (aA r a cap) 206)).heap.size = w.heap.size + 1 by simp] at this
          exact this
     have h0W := h0.trans (hbt.mono h0.size)
     have hin := hby.kept h0W
     obtain ⟨q0, q1, f0, f1⟩ := hB.two
     have hrg := hB.range
     clear hW
     go_wp2_with (first
          | ((with_reducible refine wpList_load_to 206 _ w.heap.size 0 [.slice a r.b.length cap, .int .i64 r.e] (aH r a cap) rfl _ Tryz.underlying206 rfl (by kernel_rfl) hrg ?_ rfl ?_); exact rfl)
          | (go_at_call 140; (with_reducible refine (HG.out _ hin).mono ?_); rintro x w1 ⟨rfl, rfl⟩)
          | (go_at_call 176; (with_reducible refine (dD _ _ _ _ _ _).mono ?_); rintro x w2 ⟨rfl, hb2⟩; replace hZ := (hb2.block _ (lt_of_block hZ)).trans hZ; replace hbt := below2 hbt hb2)
          | (refine wpList_store_row rfl 206 _ _ rfl (w.heap.size + 1) #[.slice a r.b.length cap, .int .i64 3] rfl rfl 206 au hZ (by kernel_rfl) rfl (by kernel_rfl) ?_)
          )
     refine aG 4 5 206 206 (w.heap.size + 1) #[.slice a r.b.length cap, .int .i64 3] _ (.int .i64 0) rfl rfl rfl (setRow_heap _ _ _ _ _ _ hZ) Tryz.underlying206 rfl (by kernel_rfl) rfl ?_
     rw [HE.out]
     have hbf := below_setRow hbt (show w.heap.size ≤ w.heap.size + 1 by omega) #[.slice a r.b.length cap, .int .i64 3]
     exact ⟨a, cap, rfl, hby, hc, hbf⟩
    ·have HE := Lib.hid (HV.out.trans (if_neg hgt))
     have d1 := decide_eq_false hgt
     have hle : (m : Int) ≤ most := by omega
     clear HV hgt
     go_enter Tryz.func201, Tryz.ntmps201
     go_upto_region 1 with fail
     refine wp_name (fun W hW => ?_)
     have hbt : Below w.heap.size w W := by rw [hW.out]; go_grown
     have hB : RdBlk W w.heap.size r a cap := by
          rw [hW.out]; unfold RdBlk; rw [Below.heap_alloc _ _ _ (by simp)]; exact heap_alloc_last w _
     have hZ : W.heap[w.heap.size + 1]? = some (.cells au 206 (0, 0)) := by
          rw [hW.out]
          have := heap_alloc_last (w.alloc (Obj.cells (aA r a cap) 206)) (Obj.cells au 206)
          rw [show (w.alloc (Obj.cells (aA r a cap) 206)).heap.size = w.heap.size + 1 by simp] at this
          exact this
     have h0W := h0.trans (hbt.mono h0.size)
     have hin := hby.kept h0W
     obtain ⟨q0, q1, f0, f1⟩ := hB.two
     have hrg := hB.range
     clear hW
     go_wp2_with (first
          | (go_at_call 140; (with_reducible refine (HG.out _ hin).mono ?_); rintro x w1 ⟨rfl, rfl⟩)
          | (refine wpList_store_row rfl 206 _ _ rfl (w.heap.size + 1) _ rfl rfl 206 au hZ (by kernel_rfl) rfl (by kernel_rfl) ?_))
     all_goals
          refine aG 4 5 206 206 (w.heap.size + 1) _ _ (.int .i64 (m : Int)) rfl rfl rfl (setRow_heap _ _ _ _ _ _ hZ) Tryz.underlying206 rfl (by kernel_rfl) rfl ?_
          rw [HE.out]
          have hbf := fun c : Array Value => below_setRow hbt (show w.heap.size ≤ w.heap.size + 1 by omega) c
          refine jl (by simp only [List.length_drop]) rfl (hbf _) ?_ (by omega)
          first | exact hby.tail k | exact Or.inl (List.drop_eq_nil_of_le (by omega))
   ·have HV := Lib.hid (uQ he hg hm0 (by omega) hmm)
    have h2 : (n : Int) % 2 = 1 := by omega
    have HGS := Lib.hid hg
    clear he hg hmm hp
    by_cases hgt : most ≤ (m : Int)
    ·have HE := Lib.hid (HV.out.trans (if_pos hgt))
     have d1 := decide_eq_true hgt
     clear HV
     go_enter Tryz.func201, Tryz.ntmps201
     go_upto_region 1 with fail
     refine wp_name (fun W hW => ?_)
     have hbt : Below w.heap.size w W := by rw [hW.out]; go_grown
     have hB : RdBlk W w.heap.size r a cap := by
          rw [hW.out]; unfold RdBlk; rw [Below.heap_alloc _ _ _ (by simp)]; exact heap_alloc_last w _
     have hZ : W.heap[w.heap.size + 1]? = some (.cells au 206 (0, 0)) := by
          rw [hW.out]
          have := heap_alloc_last (w.alloc (Obj.cells (aA r a cap) 206)) (Obj.cells au 206)
          rw [show (w.alloc (Obj.cells (aA r a cap) 206)).heap.size = w.heap.size + 1 by simp] at this
          exact this
     have h0W := h0.trans (hbt.mono h0.size)
     have hin := hby.kept h0W
     obtain ⟨q0, q1, f0, f1⟩ := hB.two
     have hrg := hB.range
     clear hW
     go_wp2_with (first
          | ((with_reducible refine wpList_load_to 206 _ w.heap.size 0 [.slice a r.b.length cap, .int .i64 r.e] (aH r a cap) rfl _ Tryz.underlying206 rfl (by kernel_rfl) hrg ?_ rfl ?_); exact rfl)
          | (go_at_call 140; (with_reducible refine (HG.out _ hin).mono ?_); rintro x w1 ⟨rfl, rfl⟩)
          | (go_at_call 176; (with_reducible refine (dD _ _ _ _ _ _).mono ?_); rintro x w2 ⟨rfl, hb2⟩; replace hZ := (hb2.block _ (lt_of_block hZ)).trans hZ; replace hbt := below2 hbt hb2)
          | (refine wpList_store_row rfl 206 _ _ rfl (w.heap.size + 1) #[.slice a r.b.length cap, .int .i64 3] rfl rfl 206 au hZ (by kernel_rfl) rfl (by kernel_rfl) ?_)
          )
     refine aG 4 5 206 206 (w.heap.size + 1) #[.slice a r.b.length cap, .int .i64 3] _ (.int .i64 0) rfl rfl rfl (setRow_heap _ _ _ _ _ _ hZ) Tryz.underlying206 rfl (by kernel_rfl) rfl ?_
     rw [HE.out]
     have hbf := below_setRow hbt (show w.heap.size ≤ w.heap.size + 1 by omega) #[.slice a r.b.length cap, .int .i64 3]
     exact ⟨a, cap, rfl, hby, hc, hbf⟩
    ·have HE := Lib.hid (HV.out.trans (if_neg hgt))
     have d1 := decide_eq_false hgt
     have hle : (m : Int) < most := by omega
     clear HV hgt
     go_enter Tryz.func201, Tryz.ntmps201
     go_upto_region 1 with fail
     refine wp_name (fun W hW => ?_)
     have hbt : Below w.heap.size w W := by rw [hW.out]; go_grown
     have hB : RdBlk W w.heap.size r a cap := by
          rw [hW.out]; unfold RdBlk; rw [Below.heap_alloc _ _ _ (by simp)]; exact heap_alloc_last w _
     have hZ : W.heap[w.heap.size + 1]? = some (.cells au 206 (0, 0)) := by
          rw [hW.out]
          have := heap_alloc_last (w.alloc (Obj.cells (aA r a cap) 206)) (Obj.cells au 206)
          rw [show (w.alloc (Obj.cells (aA r a cap) 206)).heap.size = w.heap.size + 1 by simp] at this
          exact this
     have h0W := h0.trans (hbt.mono h0.size)
     have hin := hby.kept h0W
     obtain ⟨q0, q1, f0, f1⟩ := hB.two
     have hrg := hB.range
     clear hW
     go_wp2_with (first
          | (go_at_call 140; (with_reducible refine (HG.out _ hin).mono ?_); rintro x w1 ⟨rfl, rfl⟩)
          | (refine wpList_store_row rfl 206 _ _ rfl (w.heap.size + 1) _ rfl rfl 206 au hZ (by kernel_rfl) rfl (by kernel_rfl) ?_))
     all_goals
          refine aG 4 5 206 206 (w.heap.size + 1) _ _ (.int .i64 (-(m : Int) - 1)) rfl rfl rfl (setRow_heap _ _ _ _ _ _ hZ) Tryz.underlying206 rfl (by kernel_rfl) rfl ?_
          rw [HE.out]
          have hbf := fun c : Array Value => below_setRow hbt (show w.heap.size ≤ w.heap.size + 1 by omega) c
          refine jl (by simp only [List.length_drop]) rfl (hbf _) ?_ (by omega)
          first | exact hby.tail k | exact Or.inl (List.drop_eq_nil_of_le (by omega))
  ·have hne : (e == 0) = false := by rw [beq_eq_false_iff_ne]; omega
   have hne2 : (e != 0) = true := by rw [bne_iff_ne]; omega
   have HE : Hid (rInt most r = (⟨r.b, e⟩, 0)) := by unfold Hid rInt; rw [if_pos he, hg, if_neg (by simp only; omega)]
   have HGS := Lib.hid hg
   clear he2 he hg
   go_enter Tryz.func201, Tryz.ntmps201
   go_upto_region 1 with fail
   refine wp_name (fun W hW => ?_)
   have hbt : Below w.heap.size w W := by rw [hW.out]; go_grown
   have hB : RdBlk W w.heap.size r a cap := by
        rw [hW.out]; unfold RdBlk; rw [Below.heap_alloc _ _ _ (by simp)]; exact heap_alloc_last w _
   have hZ : W.heap[w.heap.size + 1]? = some (.cells au 206 (0, 0)) := by
        rw [hW.out]
        have := heap_alloc_last (w.alloc (Obj.cells (aA r a cap) 206)) (Obj.cells au 206)
        rw [show (w.alloc (Obj.cells (aA r a cap) 206)).heap.size = w.heap.size + 1 by simp] at this
        exact this
   have h0W := h0.trans (hbt.mono h0.size)
   have hin := hby.kept h0W
   obtain ⟨q0, q1, f0, f1⟩ := hB.two
   have hrg := hB.range
   clear hW
   go_wp2_with (first
        | ((with_reducible refine wpList_load_to 206 _ w.heap.size 0 [.slice a r.b.length cap, .int .i64 r.e] (aH r a cap) rfl _ Tryz.underlying206 rfl (by kernel_rfl) hrg ?_ rfl ?_); exact rfl)
        | (go_at_call 140; (with_reducible refine (HG.out _ hin).mono ?_); rintro x w1 ⟨rfl, rfl⟩)
        | (go_at_call 176; (with_reducible refine (dD _ _ _ _ _ _).mono ?_); rintro x w2 ⟨rfl, hb2⟩; replace hZ := (hb2.block _ (lt_of_block hZ)).trans hZ; replace hbt := below2 hbt hb2)
        | (refine wpList_store_row rfl 206 _ _ rfl (w.heap.size + 1) #[.slice a r.b.length cap, .int .i64 e] rfl rfl 206 au hZ (by kernel_rfl) rfl (by kernel_rfl) ?_)
        )
   refine aG 4 5 206 206 (w.heap.size + 1) #[.slice a r.b.length cap, .int .i64 e] _ (.int .i64 0) rfl rfl rfl (setRow_heap _ _ _ _ _ _ hZ) Tryz.underlying206 rfl (by kernel_rfl) rfl ?_
   rw [HE.out]
   have hbf := below_setRow hbt (show w.heap.size ≤ w.heap.size + 1 by omega) #[.slice a r.b.length cap, .int .i64 e]
   exact ⟨a, cap, rfl, hby, hc, hbf⟩
 ·have hne : (r.e == 0) = false := beq_eq_false_iff_ne.2 he
  have hne2 : (r.e != 0) = true := by rw [bne_iff_ne]; exact he
  have HE : Hid (rInt most r = (r, 0)) := by unfold Hid rInt; rw [if_neg he]
  clear he
  go_enter Tryz.func201, Tryz.ntmps201
  go_upto_region 1 with fail
  refine wp_name (fun W hW => ?_)
  have hbt : Below w.heap.size w W := by rw [hW.out]; go_grown
  have hB : RdBlk W w.heap.size r a cap := by
   rw [hW.out]; unfold RdBlk; rw [Below.heap_alloc _ _ _ (by simp)]; exact heap_alloc_last w _
  have hZ : W.heap[w.heap.size + 1]? = some (.cells au 206 (0, 0)) := by
   rw [hW.out]
   have := heap_alloc_last (w.alloc (Obj.cells (aA r a cap) 206)) (Obj.cells au 206)
   rw [show (w.alloc (Obj.cells (aA r a cap) 206)).heap.size = w.heap.size + 1 by simp] at this
   exact this
  have h0W := h0.trans (hbt.mono h0.size)
  have hin := hby.kept h0W
  obtain ⟨q0, q1, f0, f1⟩ := hB.two
  have hrg := hB.range
  clear hW
  go_wp2_with (first
   | ((with_reducible refine wpList_load_to 206 _ w.heap.size 0 [.slice a r.b.length cap, .int .i64 r.e] (aH r a cap) rfl _ Tryz.underlying206 rfl (by kernel_rfl) hrg ?_ rfl ?_); exact rfl)
   | (refine wpList_store_row rfl 206 _ _ rfl (w.heap.size + 1) #[.slice a r.b.length cap, .int .i64 r.e] rfl rfl 206 au hZ (by kernel_rfl) rfl (by kernel_rfl) ?_)
   )
  refine aG 4 5 206 206 (w.heap.size + 1) #[.slice a r.b.length cap, .int .i64 r.e] _ (.int .i64 0) rfl rfl rfl (setRow_heap _ _ _ _ _ _ hZ) Tryz.underlying206 rfl (by kernel_rfl) rfl ?_
  rw [HE.out]
  have hbf := below_setRow hbt (show w.heap.size ≤ w.heap.size + 1 by omega) #[.slice a r.b.length cap, .int .i64 r.e]
  exact ⟨a, cap, rfl, hby, hc, hbf⟩
theorem tC {most : Nat} {r : Rd} {b1 : Bytes} {e1 : Int} {n : Nat} (h : rNum most r = (⟨b1, e1⟩, n)) (he : e1 ≠ 0) : rText most r = (⟨r.b, e1⟩, []) := by
 unfold rText
 by_cases h0 : r.e = 0
 ·rw [if_pos h0, h]
  simp only [if_neg he]
  have : b1 = r.b := by
   unfold rNum at h
   rw [if_pos h0] at h
   split at h
   ·split at h
    ·cases h; rfl
    ·cases h; exact absurd rfl he
   ·cases h; rfl
  rw [this]
 ·rw [if_neg h0]
  unfold rNum at h
  rw [if_neg h0] at h
  cases h; rfl
theorem oZ {most : Nat} {r : Rd} {b1 : Bytes} {n : Nat} (h : rNum most r = (⟨b1, 0⟩, n)) (hn : b1.length < n) : rText most r = (⟨r.b, 2⟩, []) := by
 have h0 : r.e = 0 := by
  by_cases h0 : r.e = 0
  ·exact h0
  ·unfold rNum at h; rw [if_neg h0] at h; cases h; exact absurd rfl h0
 unfold rText
 rw [if_pos h0, h]
 simp only [if_true, if_pos hn]
theorem qA {most : Nat} {r : Rd} {b1 : Bytes} {n : Nat} (h : rNum most r = (⟨b1, 0⟩, n)) (hn : ¬ b1.length < n) : rText most r = (⟨b1.drop n, 0⟩, b1.take n) := by
 have h0 : r.e = 0 := by
  by_cases h0 : r.e = 0
  ·exact h0
  ·unfold rNum at h; rw [if_neg h0] at h; cases h; exact absurd rfl h0
 unfold rText
 rw [if_pos h0, h]
 simp only [if_true, if_neg hn]
theorem dX (r : Rd) (a : Option Addr) (cap most : Nat) (w0 w : World) (h0 : Below w0.heap.size w0 w) (hl : r.b.length ≤ 1073741824) (hc : r.b.length ≤ cap) (hm0 : 0 < most) (hm : most ≤ 1073741824) (hby : BytesIn w0 a r.b) :
 Calls Tryz.prog 200 #[aH r a cap, .int .i64 most] w (dF (rText most r).1 (.string (mkS (rText most r).2)) w0 w) := by
 have hnum := fun (W : World) (h : Below w0.heap.size w0 W) => aW r a cap most w0 W h hl hc (by omega) hby
 have hfit := rNum_fit most r
 obtain ⟨b1, e1, n, hg⟩ : ∃ b1 e1 n, rNum most r = (⟨b1, e1⟩, n) := ⟨_, _, _, rfl⟩
 simp only [hg] at hnum
 rw [hg] at hfit
 simp only at hfit
 obtain ⟨hfb, hfn⟩ := hfit
 have HN := Lib.hid hnum
 have hdm : decide (0 < most) = true := decide_eq_true hm0
 have zq : decide ((0 : Int) < (most : Int)) = true := decide_eq_true (by omega)
 clear hnum
 by_cases he1 : e1 = 0
 ·subst he1
  by_cases hbn : b1.length < n
  ·have HE := Lib.hid (oZ hg hbn)
   have d1 := decide_eq_true hbn
   clear hg
   go_enter Tryz.func200, Tryz.ntmps200
   go_upto_region 1 with fail
   refine wp_name (fun W hW => ?_)
   have hbt : Below w.heap.size w W := by rw [hW.out]; go_grown
   have hB : RdBlk W w.heap.size r a cap := by
        rw [hW.out]; unfold RdBlk; rw [Below.heap_alloc _ _ _ (by simp)]; exact heap_alloc_last w _
   have hZ : W.heap[w.heap.size + 1]? = some (.cells au 206 (0, 0)) := by
        rw [hW.out]
        have := heap_alloc_last (w.alloc (Obj.cells (aA r a cap) 206)) (Obj.cells au 206)
        rw [show (w.alloc (Obj.cells (aA r a cap) 206)).heap.size = w.heap.size + 1 by simp] at this
        exact this
   have h0W := h0.trans (hbt.mono h0.size)
   have hin := hby.kept h0W
   obtain ⟨q0, q1, f0, f1⟩ := hB.two
   have hrg := hB.range
   clear hW
   go_upto_region 5 with (first
        | ((with_reducible refine wpList_load_to 206 _ w.heap.size 0 [.slice a r.b.length cap, .int .i64 r.e] (aH r a cap) rfl _ Tryz.underlying206 rfl (by kernel_rfl) hrg ?_ rfl ?_); exact rfl)
        | (go_at_call 142; (with_reducible refine (HN.out _ h0W).mono ?_); rintro x w1 ⟨a1, c1, rfl, hin1, hc1, hb1⟩; replace hZ := (hb1.block _ (lt_of_block hZ)).trans hZ; replace hB := hB.below hb1; replace hbt := below2 hbt hb1; replace h0W := h0W.trans (hb1.mono h0W.size))
        | (refine wpList_store_new 206 _ _ _ #[.slice a1 b1.length c1, .int .i64 0] rfl rfl (by kernel_rfl) rfl (by kernel_rfl) ?_)
        )
   clear q0 q1 f0 f1 hrg
   refine wp_name (fun W4 hW4 => ?_)
   have hb4 : Below w1.heap.size w1 W4 := by rw [hW4.out]; go_grown
   have hZ1 := hZ
   have hX : RdBlk W4 w1.heap.size ⟨b1, 0⟩ a1 c1 := by rw [hW4.out]; exact RdBlk.new w1 ⟨b1, 0⟩ a1 c1
   replace hZ := (hb4.block _ (lt_of_block hZ)).trans hZ
   replace hB := hB.below hb4
   replace hbt := below2 hbt hb4
   replace h0W := h0W.trans (hb4.mono h0W.size)
   have hbne : Hid (w.heap.size + 1 < w1.heap.size) := lt_of_block hZ1
   obtain ⟨p0, p1, g0, g1⟩ := hX.two
   have hrg := hB.range
   clear hW4
   go_wp2_with (first
        | ((with_reducible refine wpList_load_to 206 _ w.heap.size 0 [.slice a r.b.length cap, .int .i64 r.e] (aH r a cap) rfl _ Tryz.underlying206 rfl (by kernel_rfl) hrg ?_ rfl ?_); exact rfl)
        | (go_at_call 176; (with_reducible refine (dD _ _ _ _ _ _).mono ?_); rintro x w2 ⟨rfl, hb2⟩; replace hZ := (hb2.block _ (lt_of_block hZ)).trans hZ; replace hbt := below2 hbt hb2)
        | (refine wpList_store_row rfl 206 _ _ rfl (w.heap.size + 1) #[.slice a r.b.length cap, .int .i64 2] rfl rfl 206 au hZ (by kernel_rfl) rfl (by kernel_rfl) ?_)
        )
   refine aG 4 5 206 206 (w.heap.size + 1) #[.slice a r.b.length cap, .int .i64 2] _ (.string ⟨#[]⟩) rfl rfl rfl (setRow_heap _ _ _ _ _ _ hZ) Tryz.underlying206 rfl (by kernel_rfl) rfl ?_
   rw [HE.out]
   have hbf := below_setRow hbt (show w.heap.size ≤ w.heap.size + 1 by omega) #[.slice a r.b.length cap, .int .i64 2]
   exact ⟨a, cap, rfl, hby, hc, hbf⟩
  ·have HE := Lib.hid (qA hg hbn)
   have d1 := decide_eq_false hbn
   clear hg
   go_enter Tryz.func200, Tryz.ntmps200
   go_upto_region 1 with fail
   refine wp_name (fun W hW => ?_)
   have hbt : Below w.heap.size w W := by rw [hW.out]; go_grown
   have hB : RdBlk W w.heap.size r a cap := by
        rw [hW.out]; unfold RdBlk; rw [Below.heap_alloc _ _ _ (by simp)]; exact heap_alloc_last w _
   have hZ : W.heap[w.heap.size + 1]? = some (.cells au 206 (0, 0)) := by
        rw [hW.out]
        have := heap_alloc_last (w.alloc (Obj.cells (aA r a cap) 206)) (Obj.cells au 206)
        rw [show (w.alloc (Obj.cells (aA r a cap) 206)).heap.size = w.heap.size + 1 by simp] at this
        exact this
   have h0W := h0.trans (hbt.mono h0.size)
   have hin := hby.kept h0W
   obtain ⟨q0, q1, f0, f1⟩ := hB.two
   have hrg := hB.range
   clear hW
   go_upto_region 5 with (first
        | ((with_reducible refine wpList_load_to 206 _ w.heap.size 0 [.slice a r.b.length cap, .int .i64 r.e] (aH r a cap) rfl _ Tryz.underlying206 rfl (by kernel_rfl) hrg ?_ rfl ?_); exact rfl)
        | (go_at_call 142; (with_reducible refine (HN.out _ h0W).mono ?_); rintro x w1 ⟨a1, c1, rfl, hin1, hc1, hb1⟩; replace hZ := (hb1.block _ (lt_of_block hZ)).trans hZ; replace hB := hB.below hb1; replace hbt := below2 hbt hb1; replace h0W := h0W.trans (hb1.mono h0W.size))
        | (refine wpList_store_new 206 _ _ _ #[.slice a1 b1.length c1, .int .i64 0] rfl rfl (by kernel_rfl) rfl (by kernel_rfl) ?_)
        )
   clear q0 q1 f0 f1 hrg
   refine wp_name (fun W4 hW4 => ?_)
   have hb4 : Below w1.heap.size w1 W4 := by rw [hW4.out]; go_grown
   have hZ1 := hZ
   have hX : RdBlk W4 w1.heap.size ⟨b1, 0⟩ a1 c1 := by rw [hW4.out]; exact RdBlk.new w1 ⟨b1, 0⟩ a1 c1
   replace hZ := (hb4.block _ (lt_of_block hZ)).trans hZ
   replace hB := hB.below hb4
   replace hbt := below2 hbt hb4
   replace h0W := h0W.trans (hb4.mono h0W.size)
   have hbne : Hid (w.heap.size + 1 < w1.heap.size) := lt_of_block hZ1
   obtain ⟨p0, p1, g0, g1⟩ := hX.two
   have hrg := hB.range
   clear hW4
   go_upto_region 9 with fail
   have h00 := h0.size
   have hkp : ∀ cs : Array Value, (W4.drew.setRow (w.heap.size + 1) cs).cell? ⟨w1.heap.size, 0, none⟩ = some (.slice a1 b1.length c1) := fun cs => by
        have := hbne.out
        rw [World.cell?_of_block (heap_setRow_other _ _ _ _ (by simp only; omega))]; exact p0
   refine wp_region_noPanic ?_
   refine wp_region_held_drew (S := fun W' => W'.cell? ⟨w1.heap.size, 0, none⟩ = some (.slice a1 b1.length c1) ∧ BytesIn W' a1 b1) (by kernel_rfl) ⟨p0, hin1.kept h0W.drew⟩ (fun hHeld => ?_)
   refine tH (v := ?_) 0 34 rfl (Or.inl ⟨by rfl, ?_⟩) ?_
   case refine_2 => (intro w hSw; go_simp; try with_reducible rfl)
   try simp only [pS]
   refine tH (v := ?_) 1 35 rfl (Or.inl ⟨by rfl, ?_⟩) ?_
   case refine_2 => (intro w hSw; go_simp; try with_reducible rfl)
   try simp only [pS]
   refine tH (v := ?_) 2 36 rfl (Or.inl ⟨by rfl, ?_⟩) ?_
   case refine_2 => (intro w hSw; go_simp; try with_reducible rfl)
   try simp only [pS]
   refine tH (v := ?_) 5 39 rfl (Or.inl ⟨by rfl, ?_⟩) ?_
   case refine_2 => (intro w hSw; go_simp; try with_reducible rfl)
   try simp only [pS]
   refine tH (v := ?_) 6 40 rfl (Or.inl ⟨by rfl, ?_⟩) ?_
   case refine_2 => (intro w hSw; go_simp; try with_reducible rfl)
   try simp only [pS]
   refine tH (v := ?_) 7 41 rfl (Or.inl ⟨by rfl, ?_⟩) ?_
   case refine_2 => (intro w hSw; go_simp; try with_reducible rfl)
   try simp only [pS]
   refine tH 3 37 rfl (Or.inl ⟨by rfl, fun W hSW => bu _ _ _ _ _ rfl _ (jI W a1 b1.length c1 .u64 n (by omega))⟩) ?_
   try simp only [pS]
   refine tH 8 42 rfl (Or.inl ⟨by rfl, fun W hSW => bu _ _ _ _ _ rfl _ (uw W a1 b1.length c1 .u64 n (by omega))⟩) ?_
   try simp only [pS]
   refine tH 9 43 rfl (Or.inl ⟨by rfl, fun W hSW => ut _ _ _ rfl _ (conv_bytes hSW.2 n c1 (by omega))⟩) ?_
   try simp only [pS]
   refine tH (v := ?_) 4 38 rfl (Or.inl ⟨by rfl, ?_⟩) ?_
   case refine_2 => (intro w hSw; go_simp; try with_reducible rfl)
   try simp only [pS]
   refine wpAnyH_ready (rs := [10]) (by kernel_rfl) (by simp) ?_
   refine AllReadyH.cons rfl (fun K hK => ?_) AllReadyH.nil
   refine aP rfl 206 _ _ rfl (w.heap.size + 1) #[.slice (cutA a1 c1 n 1) (b1.length - n) (c1 - n), .int .i64 0] rfl rfl 206 au hZ (by kernel_rfl) rfl (by kernel_rfl) ?_
   refine hK.out _ _ ?_ (fun hHeld => ?_)
   ·exact ⟨hkp _, hin1.kept (below_setRow h0W.drew (by omega) _)⟩
   clear hK K
   try simp only [pS]
   refine tH (v := ?_) 11 5 rfl (Or.inl ⟨by rfl, ?_⟩) ?_
   case refine_2 => (intro w hSw; go_simp; try with_reducible rfl)
   try simp only [pS]
   refine wpAnyH_done (by kernel_rfl) ?_ _
   refine NoPanic.normal ?_
   go_wp2
   refine aG 4 5 206 206 (w.heap.size + 1) _ _ (.string (mkS (b1.take n))) rfl rfl rfl (setRow_heap _ _ _ _ _ _ hZ) Tryz.underlying206 rfl (by kernel_rfl) rfl ?_
   rw [HE.out]
   exact jl (by simp only [List.length_drop]) rfl (below_setRow hbt.drew (by omega) _) (hin1.cut hc1 n) (by omega)
 ·have hne : (e1 == 0) = false := by rw [beq_eq_false_iff_ne]; exact he1
  have hne2 : (e1 != 0) = true := by rw [bne_iff_ne]; exact he1
  have HE := Lib.hid (tC hg he1)
  clear hg he1
  go_enter Tryz.func200, Tryz.ntmps200
  go_upto_region 1 with fail
  refine wp_name (fun W hW => ?_)
  have hbt : Below w.heap.size w W := by rw [hW.out]; go_grown
  have hB : RdBlk W w.heap.size r a cap := by
   rw [hW.out]; unfold RdBlk; rw [Below.heap_alloc _ _ _ (by simp)]; exact heap_alloc_last w _
  have hZ : W.heap[w.heap.size + 1]? = some (.cells au 206 (0, 0)) := by
   rw [hW.out]
   have := heap_alloc_last (w.alloc (Obj.cells (aA r a cap) 206)) (Obj.cells au 206)
   rw [show (w.alloc (Obj.cells (aA r a cap) 206)).heap.size = w.heap.size + 1 by simp] at this
   exact this
  have h0W := h0.trans (hbt.mono h0.size)
  have hin := hby.kept h0W
  obtain ⟨q0, q1, f0, f1⟩ := hB.two
  have hrg := hB.range
  clear hW
  go_upto_region 5 with (first
   | ((with_reducible refine wpList_load_to 206 _ w.heap.size 0 [.slice a r.b.length cap, .int .i64 r.e] (aH r a cap) rfl _ Tryz.underlying206 rfl (by kernel_rfl) hrg ?_ rfl ?_); exact rfl)
   | (go_at_call 142; (with_reducible refine (HN.out _ h0W).mono ?_); rintro x w1 ⟨a1, c1, rfl, hin1, hc1, hb1⟩; replace hZ := (hb1.block _ (lt_of_block hZ)).trans hZ; replace hB := hB.below hb1; replace hbt := below2 hbt hb1; replace h0W := h0W.trans (hb1.mono h0W.size))
   | (refine wpList_store_new 206 _ _ _ #[.slice a1 b1.length c1, .int .i64 e1] rfl rfl (by kernel_rfl) rfl (by kernel_rfl) ?_)
   )
  clear q0 q1 f0 f1 hrg
  refine wp_name (fun W4 hW4 => ?_)
  have hb4 : Below w1.heap.size w1 W4 := by rw [hW4.out]; go_grown
  have hZ1 := hZ
  have hX : RdBlk W4 w1.heap.size ⟨b1, e1⟩ a1 c1 := by rw [hW4.out]; exact RdBlk.new w1 ⟨b1, e1⟩ a1 c1
  replace hZ := (hb4.block _ (lt_of_block hZ)).trans hZ
  replace hB := hB.below hb4
  replace hbt := below2 hbt hb4
  replace h0W := h0W.trans (hb4.mono h0W.size)
  have hbne : Hid (w.heap.size + 1 < w1.heap.size) := lt_of_block hZ1
  obtain ⟨p0, p1, g0, g1⟩ := hX.two
  have hrg := hB.range
  clear hW4
  go_wp2_with (first
   | ((with_reducible refine wpList_load_to 206 _ w.heap.size 0 [.slice a r.b.length cap, .int .i64 r.e] (aH r a cap) rfl _ Tryz.underlying206 rfl (by kernel_rfl) hrg ?_ rfl ?_); exact rfl)
   | (go_at_call 176; (with_reducible refine (dD _ _ _ _ _ _).mono ?_); rintro x w2 ⟨rfl, hb2⟩; replace hZ := (hb2.block _ (lt_of_block hZ)).trans hZ; replace hbt := below2 hbt hb2)
   | (refine wpList_store_row rfl 206 _ _ rfl (w.heap.size + 1) #[.slice a r.b.length cap, .int .i64 e1] rfl rfl 206 au hZ (by kernel_rfl) rfl (by kernel_rfl) ?_)
   )
  refine aG 4 5 206 206 (w.heap.size + 1) #[.slice a r.b.length cap, .int .i64 e1] _ (.string ⟨#[]⟩) rfl rfl rfl (setRow_heap _ _ _ _ _ _ hZ) Tryz.underlying206 rfl (by kernel_rfl) rfl ?_
  rw [HE.out]
  have hbf := below_setRow hbt (show w.heap.size ≤ w.heap.size + 1 by omega) #[.slice a r.b.length cap, .int .i64 e1]
  exact ⟨a, cap, rfl, hby, hc, hbf⟩
def dJ (l : List Bool) : List Value := l.map Value.bool
/-- behind ReadFlags -/
def rG (r : Rd) (fl : List Bool) (w0 w : World) (x : Ending) (w' : World) : Prop :=
 ∃ a cap v, x = .returned (.tuple #[aH r a cap, v]) ∧ BytesIn w0 a r.b ∧ r.b.length ≤ cap ∧ w'.ownsRow w.heap.size 4 1 v fl.length (dJ fl) ∧ Below w.heap.size w w'
theorem jb {r : Rd} {w0 w w' : World} {a : Option Addr} {cap : Nat} (hb : Below w.heap.size w w') (hin : BytesIn w0 a r.b) (hc : r.b.length ≤ cap) : rG r [] w0 w (.returned (.tuple #[aH r a cap, .slice none 0 0])) w' :=
 ⟨a, cap, _, rfl, hin, hc, World.ownsRow_nil _ _ _ _, hb⟩
theorem rE (c k : Nat) (hk : k < 5) : (bits5 c).take (k + 1) = (bits5 c).take k ++ [decide (c / 2 ^ k % 2 = 1)] := by
 have : k = 0 ∨ k = 1 ∨ k = 2 ∨ k = 3 ∨ k = 4 := by omega
 rcases this with rfl | rfl | rfl | rfl | rfl <;> simp [bits5]
theorem lh {w : World} {base : Nat} {e : TypeId} {size : Nat} {v : Value} {n : Nat} {xs : List Value} (h : w.ownsRow base e size v n xs) {g : Nat} (hg : g < base) (cs : Array Value) : (w.setRow g cs).ownsRow base e size v n xs :=
 jE h (fun k hk => heap_setRow_other _ _ _ _ (by omega))
theorem kY (r : Rd) (a : Option Addr) (cap : Nat) (w0 w : World) (h0 : Below w0.heap.size w0 w) (hl : r.b.length ≤ 1073741824) (hc : r.b.length ≤ cap) (hby : BytesIn w0 a r.b) :
 Calls Tryz.prog 179 #[aH r a cap, .int .i64 5] w (rG (rFlags r).1 (rFlags r).2 w0 w) := by
 obtain ⟨i0, hi, hz0, hz1, hz2⟩ := info_parts Tryz.infoBool
 by_cases he : r.e = 0
 ·have HV : Hid (rFlags r = if r.b = [] then (⟨r.b, 2⟩, []) else if (r.b.headD 0).toNat < 32 then (⟨r.b.drop 1, 0⟩, bits5 (r.b.headD 0).toNat) else (⟨r.b, 1⟩, [])) := by unfold Hid rFlags; rw [if_pos he]
  have hq : (r.e == 0) = true := beq_iff_eq.2 he
  have hq2 : (r.e != 0) = false := by rw [bne_eq_false_iff_eq]; exact he
  clear he
  by_cases hn : r.b = []
  ·have hqn : ((r.b.length : Int) == 0) = true := by rw [hn]; rfl
   have HE : Hid (rFlags r = (⟨r.b, 2⟩, [])) := by rw [Hid, HV.out, if_pos hn]
   clear hn HV
   go_enter Tryz.func179, Tryz.ntmps179
   go_upto_region 1 with fail
   refine wp_name (fun W hW => ?_)
   have hbt : Below w.heap.size w W := by rw [hW.out]; go_grown
   have hB : RdBlk W w.heap.size r a cap := by
        rw [hW.out]; unfold RdBlk; rw [Below.heap_alloc _ _ _ (by simp)]; exact heap_alloc_last w _
   have hZ : W.heap[w.heap.size + 1]? = some (.cells au 206 (0, 0)) := by
        rw [hW.out]
        have := heap_alloc_last (w.alloc (Obj.cells (aA r a cap) 206)) (Obj.cells au 206)
        rw [show (w.alloc (Obj.cells (aA r a cap) 206)).heap.size = w.heap.size + 1 by simp] at this
        exact this
   have h0W := h0.trans (hbt.mono h0.size)
   have hin := hby.kept h0W
   obtain ⟨q0, q1, f0, f1⟩ := hB.two
   have hrg := hB.range
   clear hW
   go_wp2_with (first
        | ((with_reducible refine wpList_load_to 206 _ w.heap.size 0 [.slice a r.b.length cap, .int .i64 r.e] (aH r a cap) rfl _ Tryz.underlying206 rfl (by kernel_rfl) hrg ?_ rfl ?_); exact rfl)
        | (go_at_call 176; (with_reducible refine (dD _ _ _ _ _ _).mono ?_); rintro x w2 ⟨rfl, hb2⟩; replace hZ := (hb2.block _ (lt_of_block hZ)).trans hZ; replace hbt := below2 hbt hb2)
        | (refine wpList_store_row rfl 206 _ _ rfl (w.heap.size + 1) #[.slice a r.b.length cap, .int .i64 2] rfl rfl 206 au hZ (by kernel_rfl) rfl (by kernel_rfl) ?_)
        )
   refine aG 4 5 206 206 (w.heap.size + 1) #[.slice a r.b.length cap, .int .i64 2] _ (.slice none 0 0) rfl rfl rfl (setRow_heap _ _ _ _ _ _ hZ) Tryz.underlying206 rfl (by kernel_rfl) rfl ?_
   rw [HE.out]
   exact jb (r := ⟨r.b, 2⟩) (below_setRow hbt (show w.heap.size ≤ w.heap.size + 1 by omega) #[.slice a r.b.length cap, .int .i64 2]) hby hc
  ·have hpos : 0 < r.b.length := List.length_pos_iff.2 hn
   have hqn : ((r.b.length : Int) == 0) = false := by rw [beq_eq_false_iff_ne]; omega
   have yQ := hby
   rcases yQ with hb | ⟨A, off, rfl, hba⟩
   ·exact absurd hb hn
   have hh : r.b.headD 0 = r.b[0] := headD_zero hpos
   have xA := hba 0 hpos
   rw [hh] at HV
   obtain ⟨c, hcc⟩ : ∃ c, c = r.b[0] := ⟨_, rfl⟩
   rw [← hcc] at HV xA
   rw [Nat.add_zero] at xA
   have hcl := c.toNat_lt
   clear hcc hh
   go_enter Tryz.func179, Tryz.ntmps179
   go_upto_region 1 with fail
   refine wp_name (fun W hW => ?_)
   have hbt : Below w.heap.size w W := by rw [hW.out]; go_grown
   have hB : RdBlk W w.heap.size r (some ⟨A, off, none⟩) cap := by
        rw [hW.out]; unfold RdBlk; rw [Below.heap_alloc _ _ _ (by simp)]; exact heap_alloc_last w _
   have hZ : W.heap[w.heap.size + 1]? = some (.cells au 206 (0, 0)) := by
        rw [hW.out]
        have := heap_alloc_last (w.alloc (Obj.cells (aA r (some ⟨A, off, none⟩) cap) 206)) (Obj.cells au 206)
        rw [show (w.alloc (Obj.cells (aA r (some ⟨A, off, none⟩) cap) 206)).heap.size = w.heap.size + 1 by simp] at this
        exact this
   have h0W := h0.trans (hbt.mono h0.size)
   have hin := hby.kept h0W
   obtain ⟨q0, q1, f0, f1⟩ := hB.two
   have hrg := hB.range
   clear hW
   have c0 := kept h0W xA
   go_upto_region 9 with fail
   refine wp_name (fun W1 hW1 => ?_)
   have hb1 : Below W.heap.size W W1 := by rw [hW1.out]; go_grown
   have hown0 : W1.ownsRow W.heap.size 4 1 (.slice (some ⟨W.heap.size, 0, none⟩) 0 0) 0 (dJ []) := by rw [hW1.out]; exact World.ownsRow_made _ _ _ (Nat.le_refl _) (by decide) rfl
   clear hW1 q0 q1 f0 f1 hrg c0 hin
   go_wp2
   go_loopw [6, 7, 8] (fun x out i wr => ∃ k : Nat, k ≤ 5 ∧ i = .int .i64 k ∧ x = .int .i64 ((c.toNat / 2 ^ k : Nat) : Int) ∧ wr.ownsRow W.heap.size 4 1 out k (dJ ((bits5 c.toNat).take k)) ∧ Below W.heap.size W wr) (fun _ _ i _ => 5 - (intOf i).toNat)
   case atStart => exact ⟨0, by omega, rfl, by simp, hown0, hb1⟩
   case round =>
        obtain ⟨k, hk, rfl, rfl, hown, hbw⟩ := hrel
        have hzw := hbw.size
        have hnx := rE c.toNat k
        have hdv : c.toNat / 2 ^ k / 2 = c.toNat / 2 ^ (k + 1) := by rw [Nat.div_div_eq_div_mul, Nat.pow_succ]
        have hml : c.toNat / 2 ^ k ≤ 255 := Nat.le_trans (Nat.div_le_self _ _) (by omega)
        obtain ⟨m, hm⟩ : ∃ m, m = c.toNat / 2 ^ k := ⟨_, rfl⟩
        rw [← hm] at hnx hdv hml ⊢
        by_cases hlt : k < 5
        ·have HN := Lib.hid (hnx hlt)
         have HD := Lib.hid hdv
         have HM := Lib.hid hm
         obtain ⟨b, hb⟩ : ∃ b, b = decide (m % 2 = 1) := ⟨_, rfl⟩
         have hbq : ((m : Int) % 2 == 1) = b := by
          rw [hb]
          by_cases h2 : m % 2 = 1
          ·rw [decide_eq_true h2, beq_iff_eq]; omega
          ·rw [decide_eq_false h2, beq_eq_false_iff_ne]; omega
         have HB := Lib.hid hb
         clear hnx hdv hm hb
         go_wp2_with (at_builtin; go_loud (refine wpList_append_own _ rfl _ _ 177 rfl W.heap.size 4 i0 (.bool false) 1 1 Tryz.underlying177 hi hz0 hz1 hz2 rfl (by decide) _ _ _ rfl (hown.alloc _) ⟨wr.heap.size, 0, none⟩ 1 1 [.bool b] rfl rfl (cell_one_new _ _ _) (by simp [Value.oneCell']) (by unfold maxLen; omega) (by omega) (by simp; omega) ?_))
         intro v' w2 hown3 hgrow _
         have hb3 := (hbw.alloc hzw (Obj.cells #[.bool b] 4)).grown hgrow (by simp; omega) (fun k hk => (hown.lt k hk).1)
         go_wp2
         go_roundw
         case rel => exact ⟨k + 1, by omega, by go_num, by rw [← HD.out]; go_num, by rw [HN.out, ← HB.out]; simpa [dJ] using hown3, hb3⟩
         case measure => simp [intOf]; omega
        ·obtain rfl : k = 5 := by omega
         have HM := Lib.hid hm
         have hbt2 := below2 hbt hbw
         have h0R := h0W.trans (hbw.mono h0W.size)
         have hZR := (hbw.block _ (lt_of_block hZ)).trans hZ
         have hBR := hB.below hbw
         have hin := hby.kept h0R
         obtain ⟨q0, q1, f0, f1⟩ := hBR.two
         have hrg := hBR.range
         have hlen : (dJ (List.take 5 (bits5 c.toNat))).length = 5 := rfl
         have hrw : wr.ownsRow W.heap.size 4 1 _ 5 (dJ (bits5 c.toNat)) := hown
         have hgt : w.heap.size + 1 < W.heap.size := lt_of_block hZ
         clear hnx hdv hm hlt hZ hB hbt h0W hbw
         have hZ := hZR
         have hbt := hbt2
         by_cases h32 : c.toNat < 32
         ·have hm0 : m = 0 := by rw [HM.out]; omega
          subst hm0
          have HE : Hid (rFlags r = (⟨r.b.drop 1, 0⟩, bits5 c.toNat)) := by rw [Hid, HV.out, if_neg hn, if_pos h32]
          clear h32 HV hn
          go_wp2_with (first
            | (refine dm rfl _ (bu _ _ _ _ _ rfl _ (show (Instr.sliceAt 65 (.slice (some ⟨A, off, none⟩) r.b.length cap) (some (.int .i64 1)) none none).run Tryz.prog _ = .ok (.slice (cutA (some ⟨A, off, none⟩) cap 1 1) (r.b.length - 1) (cap - 1)) _ from jI _ (some ⟨A, off, none⟩) r.b.length cap .i64 1 hpos)) ?_)
            | (refine wpList_store_row rfl 206 _ _ rfl (w.heap.size + 1) _ rfl rfl 206 au hZ (by kernel_rfl) rfl (by kernel_rfl) ?_))
          refine aG 4 5 206 206 (w.heap.size + 1) _ _ _ rfl rfl rfl (setRow_heap _ _ _ _ _ _ hZ) Tryz.underlying206 rfl (by kernel_rfl) rfl ?_
          rw [HE.out]
          exact ⟨_, _, _, by simp only [aH, List.length_drop]; rfl, hby.cut hc 1, by simp only [List.length_drop]; omega, own_low (lh hrw (by omega) _) (by omega), below_setRow hbt (by omega) _⟩
         ·have hm0 : 0 < m := by rw [HM.out]; omega
          have HE : Hid (rFlags r = (⟨r.b, 1⟩, [])) := by rw [Hid, HV.out, if_neg hn, if_neg h32]
          clear h32 HV hn
          go_wp2_with (first
            | ((with_reducible refine wpList_load_to 206 _ w.heap.size 0 [.slice (some ⟨A, off, none⟩) r.b.length cap, .int .i64 r.e] (aH r (some ⟨A, off, none⟩) cap) rfl _ Tryz.underlying206 rfl (by kernel_rfl) hrg ?_ rfl ?_); exact rfl)
            | (go_at_call 176; (with_reducible refine (dD _ _ _ _ _ _).mono ?_); rintro x w2 ⟨rfl, hb2⟩; replace hZ := (hb2.block _ (lt_of_block hZ)).trans hZ; replace hbt := below2 hbt hb2)
            | (refine wpList_store_row rfl 206 _ _ rfl (w.heap.size + 1) #[.slice (some ⟨A, off, none⟩) r.b.length cap, .int .i64 1] rfl rfl 206 au hZ (by kernel_rfl) rfl (by kernel_rfl) ?_)
            )
          refine aG 4 5 206 206 (w.heap.size + 1) #[.slice (some ⟨A, off, none⟩) r.b.length cap, .int .i64 1] _ (.slice none 0 0) rfl rfl rfl (setRow_heap _ _ _ _ _ _ hZ) Tryz.underlying206 rfl (by kernel_rfl) rfl ?_
          rw [HE.out]
          exact jb (r := ⟨r.b, 1⟩) (below_setRow hbt (show w.heap.size ≤ w.heap.size + 1 by omega) #[.slice (some ⟨A, off, none⟩) r.b.length cap, .int .i64 1]) hby hc
 ·have hne : (r.e == 0) = false := beq_eq_false_iff_ne.2 he
  have hne2 : (r.e != 0) = true := by rw [bne_iff_ne]; exact he
  have HE : Hid (rFlags r = (r, [])) := by unfold Hid rFlags; rw [if_neg he]
  clear he
  go_enter Tryz.func179, Tryz.ntmps179
  go_upto_region 1 with fail
  refine wp_name (fun W hW => ?_)
  have hbt : Below w.heap.size w W := by rw [hW.out]; go_grown
  have hB : RdBlk W w.heap.size r a cap := by
   rw [hW.out]; unfold RdBlk; rw [Below.heap_alloc _ _ _ (by simp)]; exact heap_alloc_last w _
  have hZ : W.heap[w.heap.size + 1]? = some (.cells au 206 (0, 0)) := by
   rw [hW.out]
   have := heap_alloc_last (w.alloc (Obj.cells (aA r a cap) 206)) (Obj.cells au 206)
   rw [show (w.alloc (Obj.cells (aA r a cap) 206)).heap.size = w.heap.size + 1 by simp] at this
   exact this
  have h0W := h0.trans (hbt.mono h0.size)
  have hin := hby.kept h0W
  obtain ⟨q0, q1, f0, f1⟩ := hB.two
  have hrg := hB.range
  clear hW
  go_wp2_with (first
   | ((with_reducible refine wpList_load_to 206 _ w.heap.size 0 [.slice a r.b.length cap, .int .i64 r.e] (aH r a cap) rfl _ Tryz.underlying206 rfl (by kernel_rfl) hrg ?_ rfl ?_); exact rfl)
   | (go_at_call 176; (with_reducible refine (dD _ _ _ _ _ _).mono ?_); rintro x w2 ⟨rfl, hb2⟩; replace hZ := (hb2.block _ (lt_of_block hZ)).trans hZ; replace hbt := below2 hbt hb2)
   | (refine wpList_store_row rfl 206 _ _ rfl (w.heap.size + 1) #[.slice a r.b.length cap, .int .i64 r.e] rfl rfl 206 au hZ (by kernel_rfl) rfl (by kernel_rfl) ?_)
   )
  refine aG 4 5 206 206 (w.heap.size + 1) #[.slice a r.b.length cap, .int .i64 r.e] _ (.slice none 0 0) rfl rfl rfl (setRow_heap _ _ _ _ _ _ hZ) Tryz.underlying206 rfl (by kernel_rfl) rfl ?_
  rw [HE.out]
  exact jb (r := ⟨r.b, r.e⟩) (below_setRow hbt (show w.heap.size ≤ w.heap.size + 1 by omega) #[.slice a r.b.length cap, .int .i64 r.e]) hby hc
abbrev bz : Array Value := #[.int .i64 0, .int .i64 0, .int .i64 0]
theorem bI {w : World} {g g2 : Nat} {o o2 : Array Value} {t t2 : TypeId} (c c2 : Array Value) (hne : g ≠ g2) (h1 : w.heap[g]? = some (.cells o t (0, 0))) (h2 : w.heap[g2]? = some (.cells o2 t2 (0, 0))) :
 ((w.setRow g c).setRow g2 c2).heap[g]? = some (.cells c t (0, 0)) ∧ ((w.setRow g c).setRow g2 c2).heap[g2]? = some (.cells c2 t2 (0, 0)) :=
 ⟨(heap_setRow_other _ _ _ _ hne.symm).trans (setRow_heap _ _ _ _ _ _ h1), setRow_heap _ _ _ _ _ _ ((heap_setRow_other _ _ _ _ hne).trans h2)⟩
theorem qM (r : Rd) {x y z : Rd} {a b c : Nat} (h1 : rNum 63 r = (x, a)) (h2 : rNum 1048576 x = (y, b)) (h3 : rNum 4294967296 y = (z, c)) :
 rDot r = if z.e = 0 then (if b = 0 ∨ c = 0 then (⟨z.b, 4⟩, dot0) else (z, ⟨⟨a, b⟩, c⟩)) else (z, dot0) := by
 have f1 := (rNum_fit 63 r).2
 have f2 := (rNum_fit 1048576 x).2
 have f3 := (rNum_fit 4294967296 y).2
 rw [h1] at f1
 rw [h2] at f2
 rw [h3] at f3
 simp only at f1 f2 f3
 rw [rDot_eq r h1 h2 h3]
 by_cases hz : z.e = 0
 ·rw [if_pos hz, if_pos hz]
  by_cases hbc : b = 0 ∨ c = 0
  ·have : ¬ dotOk ⟨⟨a, b⟩, c⟩ = true := by simp [dotOk, actorOk]; omega
   rw [if_neg this, if_pos hbc]
   unfold rFail
   rw [if_pos hz]
  ·have : dotOk ⟨⟨a, b⟩, c⟩ = true := by simp [dotOk, actorOk]; omega
   rw [if_pos this, if_neg hbc]
 ·rw [if_neg hz, if_neg hz]
theorem lK (w : World) (c c' : Array Value) (t : TypeId) (o : Obj) : ((w.alloc (.cells c t)).alloc o).setRow w.heap.size c' = (w.alloc (.cells c' t)).alloc o := by
 simp only [World.setRow, World.alloc]
 congr 1
 apply Array.ext_getElem?
 intro i
 rw [Array.getElem?_modify]
 by_cases h : w.heap.size = i
 ·subst h
  simp [Array.getElem?_push]
 ·rw [if_neg h, Array.getElem?_push, Array.getElem?_push (xs := w.heap.push (.cells c' t))]
  simp only [Array.size_push]
  by_cases h2 : i = w.heap.size + 1
  ·rw [if_pos h2, if_pos h2]
  ·rw [if_neg h2, if_neg h2, Array.getElem?_push, Array.getElem?_push, if_neg (fun e => h e.symm), if_neg (fun e => h e.symm)]
theorem bZ {P : Program} {ops : Array Oper} {rest : List Oper} {a : Act} {w : World} {Q : Exit → Act → World → Prop} {type : TypeId} {pos : String} {after : Array Edge} (ty : TypeId) (x y : Operand) (c c' : Array Value) (o : Obj)
 (hx : a.eval x = .pointer (some ⟨w.heap.size, 0, none⟩)) (hy : a.eval y = .agg c') (hi : (P.info? ty).map (·.size) = some c'.size) (hold : c.size = c'.size) (h1 : c'.all (·.oneCell') = true)
 (h : wpList P ops Q rest a ((w.alloc (.cells c' ty)).alloc o)) : wpList P ops Q (⟨none, .store ty x y, type, pos, after, none⟩ :: rest) a ((w.alloc (.cells c ty)).alloc o) := by
 refine wpList_store_row rfl ty x y rfl w.heap.size c' hx hy ty c ?_ hi hold h1 ?_
 ·rw [Below.heap_alloc _ _ _ (by simp)]; exact heap_alloc_last w _
 ·rw [lK]; exact h
/-- block S holds a whole struct -/
def StBlk (w : World) (S : Nat) (cs : Array Value) (t : TypeId) : Prop := w.heap[S]? = some (.cells cs t (0, 0))
theorem StBlk.lt {w : World} {S : Nat} {cs : Array Value} {t : TypeId} (h : StBlk w S cs t) : S < w.heap.size := lt_of_block h
theorem StBlk.below {w w' : World} {S : Nat} {cs : Array Value} {t : TypeId} (h : StBlk w S cs t) (hb : Below w.heap.size w w') : StBlk w' S cs t := (hb.block _ h.lt).trans h
theorem StBlk.range {w : World} {S : Nat} {cs : Array Value} {t : TypeId} (h : StBlk w S cs t) : w.rangeAt S 0 cs.toList := fun j v hv => by
 rw [Nat.zero_add]
 simp only [World.cell?, show w.heap[S]? = _ from h]
 simpa using hv
theorem StBlk.new2 (w : World) (o : Obj) (cs : Array Value) (t : TypeId) : StBlk ((w.alloc o).alloc (.cells cs t)) (w.heap.size + 1) cs t := by
 have := heap_alloc_last (w.alloc o) (Obj.cells cs t)
 rw [show (w.alloc o).heap.size = w.heap.size + 1 by simp] at this
 exact this
theorem RdBlk.new2 (w : World) (r : Rd) (a : Option Addr) (cap : Nat) (o : Obj) : RdBlk ((w.alloc (.cells (aA r a cap) 206)).alloc o) w.heap.size r a cap := by
 unfold RdBlk; rw [Below.heap_alloc _ _ _ (by simp)]; exact heap_alloc_last w _
theorem jV (r : Rd) (a : Option Addr) (cap : Nat) (w0 w : World) (h0 : Below w0.heap.size w0 w) (hl : r.b.length ≤ 1073741824) (hc : r.b.length ≤ cap) (hby : BytesIn w0 a r.b) :
 Calls Tryz.prog 177 #[aH r a cap] w (dF (rDot r).1 (dotValR (rDot r).2) w0 w) := by
 obtain ⟨x, n1, h1⟩ : ∃ x a, rNum 63 r = (x, a) := ⟨_, _, rfl⟩
 obtain ⟨y, n2, h2⟩ : ∃ y b, rNum 1048576 x = (y, b) := ⟨_, _, rfl⟩
 obtain ⟨z, n3, h3⟩ : ∃ z c, rNum 4294967296 y = (z, c) := ⟨_, _, rfl⟩
 have HV := Lib.hid (qM r h1 h2 h3)
 have f1 := rNum_fit 63 r
 have f2 := rNum_fit 1048576 x
 have f3 := rNum_fit 4294967296 y
 rw [h1] at f1
 rw [h2] at f2
 rw [h3] at f3
 simp only at f1 f2 f3
 have hyl : y.b.length ≤ 1073741824 := by omega
 have g1 : Hid (∀ W, Below w0.heap.size w0 W → Calls Tryz.prog 142 #[aH r a cap, .int .u64 63] W (dF x (.int .u64 n1) w0 W)) := fun W h => by have := aW r a cap 63 w0 W h hl hc (by omega) hby; rw [h1] at this; exact this
 have g2 : Hid (∀ (a : Option Addr) (cap : Nat) W, Below w0.heap.size w0 W → x.b.length ≤ cap → BytesIn w0 a x.b → Calls Tryz.prog 142 #[aH x a cap, .int .u64 1048576] W (dF y (.int .u64 n2) w0 W)) := fun a cap W h hc hb => by have := aW x a cap 1048576 w0 W h (by omega) hc (by omega) hb; rw [h2] at this; exact this
 have g3 : Hid (∀ (a : Option Addr) (cap : Nat) W, Below w0.heap.size w0 W → y.b.length ≤ cap → BytesIn w0 a y.b → Calls Tryz.prog 142 #[aH y a cap, .int .u64 4294967296] W (dF z (.int .u64 n3) w0 W)) := fun a cap W h hc hb => by have := aW y a cap 4294967296 w0 W h (by omega) hc (by omega) hb; rw [h3] at this; exact this
 go_enter Tryz.func177, Tryz.ntmps177
 go_upto_region 1 with fail
 refine wp_name (fun W hW => ?_)
 have hbt : Below w.heap.size w W := by rw [hW.out]; go_grown
 have hB : RdBlk W w.heap.size r a cap := by
  rw [hW.out]; unfold RdBlk; rw [Below.heap_alloc _ _ _ (by simp <;> omega), Below.heap_alloc _ _ _ (by simp)]; exact heap_alloc_last w _
 have hZ : W.heap[w.heap.size + 1]? = some (.cells au 206 (0, 0)) := by
  rw [hW.out, Below.heap_alloc _ _ _ (by simp)]
  have := heap_alloc_last (w.alloc (Obj.cells (aA r a cap) 206)) (Obj.cells au 206)
  rw [show (w.alloc (Obj.cells (aA r a cap) 206)).heap.size = w.heap.size + 1 by simp] at this
  exact this
 have hD : W.heap[w.heap.size + 2]? = some (.cells bz 30 (0, 0)) := by
  rw [hW.out]
  have := heap_alloc_last ((w.alloc (Obj.cells (aA r a cap) 206)).alloc (Obj.cells au 206)) (Obj.cells bz 30)
  rw [show ((w.alloc (Obj.cells (aA r a cap) 206)).alloc (Obj.cells au 206)).heap.size = w.heap.size + 2 by simp] at this
  exact this
 have h0W := h0.trans (hbt.mono h0.size)
 have hrg := hB.range
 have hlw := lt_of_block hD
 clear hW hB
 go_upto_region 2 with (first
  | ((with_reducible refine wpList_load_to 206 _ w.heap.size 0 [.slice a r.b.length cap, .int .i64 r.e] (aH r a cap) rfl _ Tryz.underlying206 rfl (by kernel_rfl) hrg ?_ rfl ?_); exact rfl)
  | (go_at_call 142; (with_reducible refine (g1.out _ h0W).mono ?_); rintro x w1 ⟨a1, c1, rfl, hin1, hc1, hb1⟩)
  | (refine wpList_store_new 206 _ _ _ #[.slice a1 x.b.length c1, .int .i64 x.e] rfl rfl (by kernel_rfl) rfl (by kernel_rfl) ?_))
 refine wp_name (fun V1 hV => ?_)
 have hX1 : RdBlk V1 w1.heap.size x a1 c1 := by rw [hV.out]; exact RdBlk.new w1 x a1 c1
 have hbv : Below W.heap.size W V1 := by rw [hV.out]; exact hb1.alloc hb1.size _
 replace h0W := h0W.trans (hbv.mono h0W.size)
 have hlo1 := Nat.lt_of_lt_of_le hlw hb1.size
 replace hlw := Nat.lt_of_lt_of_le hlw hbv.size
 clear hV hb1 hrg
 have hrg := hX1.range
 replace hZ := (hbv.block _ (lt_of_block hZ)).trans hZ
 replace hD := (hbv.block _ (lt_of_block hD)).trans hD
 replace hbt := below2 hbt hbv
 clear hbv
 obtain ⟨W, hWe⟩ : ∃ W, W = V1 := ⟨_, rfl⟩
 subst hWe
 have g2' := Lib.hid (fun W h => g2.out a1 c1 W h hc1 hin1)
 go_upto_region 3 with (first
  | ((with_reducible refine wpList_load_to 206 _ w1.heap.size 0 [.slice a1 x.b.length c1, .int .i64 x.e] (aH x a1 c1) rfl _ Tryz.underlying206 rfl (by kernel_rfl) hrg ?_ rfl ?_); exact rfl)
  | (go_at_call 142; (with_reducible refine (g2'.out _ h0W).mono ?_); rintro x w2 ⟨a2, c2, rfl, hin2, hc2, hb2⟩)
  | (refine wpList_store_new 206 _ _ _ #[.slice a2 y.b.length c2, .int .i64 y.e] rfl rfl (by kernel_rfl) rfl (by kernel_rfl) ?_))
 refine wp_name (fun V2 hV => ?_)
 have hX2 : RdBlk V2 w2.heap.size y a2 c2 := by rw [hV.out]; exact RdBlk.new w2 y a2 c2
 have hbv : Below W.heap.size W V2 := by rw [hV.out]; exact hb2.alloc hb2.size _
 replace h0W := h0W.trans (hbv.mono h0W.size)
 have hlo2 := Nat.lt_of_lt_of_le hlw hb2.size
 replace hlw := Nat.lt_of_lt_of_le hlw hbv.size
 clear hV hb2 hrg
 have hrg := hX2.range
 replace hZ := (hbv.block _ (lt_of_block hZ)).trans hZ
 replace hD := (hbv.block _ (lt_of_block hD)).trans hD
 replace hbt := below2 hbt hbv
 clear hbv
 obtain ⟨W, hWe⟩ : ∃ W, W = V2 := ⟨_, rfl⟩
 subst hWe
 have g3' := Lib.hid (fun W h => g3.out a2 c2 W h hc2 hin2)
 go_upto_region 4 with (first
  | ((with_reducible refine wpList_load_to 206 _ w2.heap.size 0 [.slice a2 y.b.length c2, .int .i64 y.e] (aH y a2 c2) rfl _ Tryz.underlying206 rfl (by kernel_rfl) hrg ?_ rfl ?_); exact rfl)
  | (go_at_call 142; (with_reducible refine (g3'.out _ h0W).mono ?_); rintro x w3 ⟨a3, c3, rfl, ed, hc3, hb3⟩)
  | (refine wpList_store_new 206 _ _ _ #[.slice a3 z.b.length c3, .int .i64 z.e] rfl rfl (by kernel_rfl) rfl (by kernel_rfl) ?_))
 refine wp_name (fun V3 hV => ?_)
 have hX3 : RdBlk V3 w3.heap.size z a3 c3 := by rw [hV.out]; exact RdBlk.new w3 z a3 c3
 have hbv : Below W.heap.size W V3 := by rw [hV.out]; exact hb3.alloc hb3.size _
 replace h0W := h0W.trans (hbv.mono h0W.size)
 have hlo3 := Nat.lt_of_lt_of_le hlw hb3.size
 replace hlw := Nat.lt_of_lt_of_le hlw hbv.size
 clear hV hb3 hrg
 have hrg := hX3.range
 replace hZ := (hbv.block _ (lt_of_block hZ)).trans hZ
 replace hD := (hbv.block _ (lt_of_block hD)).trans hD
 replace hbt := below2 hbt hbv
 clear hbv
 obtain ⟨W, hWe⟩ : ∃ W, W = V3 := ⟨_, rfl⟩
 subst hWe
 obtain ⟨p0, p1, zf0, zf1⟩ := hX3.two
 clear g1 g2 g3 g2' g3' hX1 hX2
 have hzl : z.b.length ≤ 1073741824 := by omega
 obtain ⟨f1a, f1b⟩ := f1
 obtain ⟨f2a, f2b⟩ := f2
 obtain ⟨f3a, f3b⟩ := f3
 clear h1 h2 h3
 by_cases hz : z.e = 0
 ·have HV2 := Lib.hid (HV.out.trans (if_pos hz))
  have q1 : (z.e == 0) = true := beq_iff_eq.2 hz
  have q2 : (z.e != 0) = false := by rw [bne_eq_false_iff_eq]; exact hz
  have HZ0 := Lib.hid hz
  clear hz HV
  by_cases hb0 : n2 = 0
  ·have HE := Lib.hid (HV2.out.trans (if_pos (Or.inl hb0)))
   have d1 : ((n2 : Int) == 0) = true := beq_iff_eq.2 (by omega)
   clear HV2 hb0
   have hDz : ∀ cs : Array Value, (W.setRow (w.heap.size + 1) cs).heap[w.heap.size + 2]? = some (.cells bz 30 (0, 0)) := fun cs => (heap_setRow_other _ _ _ _ (by omega)).trans hD
   go_wp2_with (first
        | ((with_reducible refine wpList_load_to 206 _ w3.heap.size 0 [.slice a3 z.b.length c3, .int .i64 z.e] (aH z a3 c3) rfl _ Tryz.underlying206 rfl (by kernel_rfl) hrg ?_ rfl ?_); exact rfl)
        | (refine wpList_store_row rfl 206 _ _ rfl (w.heap.size + 1) #[.slice a3 z.b.length c3, .int .i64 4] rfl rfl 206 au hZ (by kernel_rfl) rfl (by kernel_rfl) ?_)
        | (refine wpList_store_row rfl 30 _ _ rfl (w.heap.size + 2) bz rfl rfl 30 bz (hDz _) (by kernel_rfl) rfl (by kernel_rfl) ?_))
   have hrows := bI #[.slice a3 z.b.length c3, .int .i64 4] bz (show w.heap.size + 1 ≠ w.heap.size + 2 by omega) hZ hD
   refine aZ 2 3 206 30 206 30 (w.heap.size + 1) (w.heap.size + 2) _ bz _ _ rfl rfl rfl hrows.1 hrows.2 Tryz.underlying206 rfl (by kernel_rfl) Tryz.underlying30 rfl (by kernel_rfl) rfl ?_
   rw [HE.out]
   exact ⟨a3, c3, rfl, ed, hc3, below_setRow (below_setRow hbt (by omega) _) (by omega) _⟩
  ·have d1 : ((n2 : Int) == 0) = false := beq_eq_false_iff_ne.2 (by omega)
   by_cases hc0 : n3 = 0
   ·have HE := Lib.hid (HV2.out.trans (if_pos (Or.inr hc0)))
    have d2 : ((n3 : Int) == 0) = true := beq_iff_eq.2 (by omega)
    clear HV2 hc0 hb0
    have hDz : ∀ cs : Array Value, (W.setRow (w.heap.size + 1) cs).heap[w.heap.size + 2]? = some (.cells bz 30 (0, 0)) := fun cs => (heap_setRow_other _ _ _ _ (by omega)).trans hD
    go_wp2_with (first
     | ((with_reducible refine wpList_load_to 206 _ w3.heap.size 0 [.slice a3 z.b.length c3, .int .i64 z.e] (aH z a3 c3) rfl _ Tryz.underlying206 rfl (by kernel_rfl) hrg ?_ rfl ?_); exact rfl)
     | (refine wpList_store_row rfl 206 _ _ rfl (w.heap.size + 1) #[.slice a3 z.b.length c3, .int .i64 4] rfl rfl 206 au hZ (by kernel_rfl) rfl (by kernel_rfl) ?_)
     | (refine wpList_store_row rfl 30 _ _ rfl (w.heap.size + 2) bz rfl rfl 30 bz (hDz _) (by kernel_rfl) rfl (by kernel_rfl) ?_))
    have hrows := bI #[.slice a3 z.b.length c3, .int .i64 4] bz (show w.heap.size + 1 ≠ w.heap.size + 2 by omega) hZ hD
    refine aZ 2 3 206 30 206 30 (w.heap.size + 1) (w.heap.size + 2) _ bz _ _ rfl rfl rfl hrows.1 hrows.2 Tryz.underlying206 rfl (by kernel_rfl) Tryz.underlying30 rfl (by kernel_rfl) rfl ?_
    rw [HE.out]
    exact ⟨a3, c3, rfl, ed, hc3, below_setRow (below_setRow hbt (by omega) _) (by omega) _⟩
   ·have d2 : ((n3 : Int) == 0) = false := beq_eq_false_iff_ne.2 (by omega)
    have HE := Lib.hid (HV2.out.trans (if_neg (fun h => h.elim hb0 hc0)))
    clear HV2 hc0 hb0
    have hDz : ∀ cs : Array Value, (W.setRow (w.heap.size + 1) cs).heap[w.heap.size + 2]? = some (.cells bz 30 (0, 0)) := fun cs => (heap_setRow_other _ _ _ _ (by omega)).trans hD
    go_wp2_with (first
     | ((with_reducible refine wpList_load_to 206 _ w3.heap.size 0 [.slice a3 z.b.length c3, .int .i64 z.e] (aH z a3 c3) rfl _ Tryz.underlying206 rfl (by kernel_rfl) hrg ?_ rfl ?_); exact rfl)
     | (refine wpList_store_row rfl 206 _ _ rfl (w.heap.size + 1) #[.slice a3 z.b.length c3, .int .i64 z.e] rfl rfl 206 au hZ (by kernel_rfl) rfl (by kernel_rfl) ?_)
     | (refine wpList_store_row rfl 30 _ _ rfl (w.heap.size + 2) #[.int .i64 n1, .int .i64 n2, .int .i64 n3] rfl rfl 30 bz (hDz _) (by kernel_rfl) rfl (by kernel_rfl) ?_))
    have hrows := bI #[.slice a3 z.b.length c3, .int .i64 z.e] #[.int .i64 n1, .int .i64 n2, .int .i64 n3] (show w.heap.size + 1 ≠ w.heap.size + 2 by omega) hZ hD
    refine aZ 2 3 206 30 206 30 (w.heap.size + 1) (w.heap.size + 2) _ #[.int .i64 n1, .int .i64 n2, .int .i64 n3] _ _ rfl rfl rfl hrows.1 hrows.2 Tryz.underlying206 rfl (by kernel_rfl) Tryz.underlying30 rfl (by kernel_rfl) rfl ?_
    rw [HE.out]
    exact ⟨a3, c3, rfl, ed, hc3, below_setRow (below_setRow hbt (by omega) _) (by omega) _⟩
 ·have HE := Lib.hid (HV.out.trans (if_neg hz))
  have q1 : (z.e == 0) = false := beq_eq_false_iff_ne.2 hz
  have q2 : (z.e != 0) = true := by rw [bne_iff_ne]; exact hz
  clear hz HV
  have hDz : ∀ cs : Array Value, (W.setRow (w.heap.size + 1) cs).heap[w.heap.size + 2]? = some (.cells bz 30 (0, 0)) := fun cs => (heap_setRow_other _ _ _ _ (by omega)).trans hD
  go_wp2_with (first
   | ((with_reducible refine wpList_load_to 206 _ w3.heap.size 0 [.slice a3 z.b.length c3, .int .i64 z.e] (aH z a3 c3) rfl _ Tryz.underlying206 rfl (by kernel_rfl) hrg ?_ rfl ?_); exact rfl)
   | (refine wpList_store_row rfl 206 _ _ rfl (w.heap.size + 1) #[.slice a3 z.b.length c3, .int .i64 z.e] rfl rfl 206 au hZ (by kernel_rfl) rfl (by kernel_rfl) ?_)
   | (refine wpList_store_row rfl 30 _ _ rfl (w.heap.size + 2) bz rfl rfl 30 bz (hDz _) (by kernel_rfl) rfl (by kernel_rfl) ?_))
  have hrows := bI #[.slice a3 z.b.length c3, .int .i64 z.e] bz (show w.heap.size + 1 ≠ w.heap.size + 2 by omega) hZ hD
  refine aZ 2 3 206 30 206 30 (w.heap.size + 1) (w.heap.size + 2) _ bz _ _ rfl rfl rfl hrows.1 hrows.2 Tryz.underlying206 rfl (by kernel_rfl) Tryz.underlying30 rfl (by kernel_rfl) rfl ?_
  rw [HE.out]
  exact ⟨a3, c3, rfl, ed, hc3, below_setRow (below_setRow hbt (by omega) _) (by omega) _⟩
theorem lU (r : Rd) (a : Option Addr) (cap : Nat) (w0 w : World) (h0 : Below w0.heap.size w0 w) (hl : r.b.length ≤ 1073741824) (hc : r.b.length ≤ cap) (hby : BytesIn w0 a r.b) :
 Calls Tryz.prog 178 #[aH r a cap] w (dF (rStamp r).1 (stampVal (rStamp r).2) w0 w) := by
 obtain ⟨x, n1, h1⟩ : ∃ x a, rNum 4398046511104 r = (x, a) := ⟨_, _, rfl⟩
 obtain ⟨y, n2, h2⟩ : ∃ y b, rNum 65535 x = (y, b) := ⟨_, _, rfl⟩
 obtain ⟨z, n3, h3⟩ : ∃ z c, rNum 63 y = (z, c) := ⟨_, _, rfl⟩
 have HV := Lib.hid (rStamp_eq r h1 h2 h3)
 have f1 := rNum_fit 4398046511104 r
 have f2 := rNum_fit 65535 x
 have f3 := rNum_fit 63 y
 rw [h1] at f1
 rw [h2] at f2
 rw [h3] at f3
 simp only at f1 f2 f3
 have hyl : y.b.length ≤ 1073741824 := by omega
 have g1 : Hid (∀ W, Below w0.heap.size w0 W → Calls Tryz.prog 142 #[aH r a cap, .int .u64 4398046511104] W (dF x (.int .u64 n1) w0 W)) := fun W h => by have := aW r a cap 4398046511104 w0 W h hl hc (by omega) hby; rw [h1] at this; exact this
 have g2 : Hid (∀ (a : Option Addr) (cap : Nat) W, Below w0.heap.size w0 W → x.b.length ≤ cap → BytesIn w0 a x.b → Calls Tryz.prog 142 #[aH x a cap, .int .u64 65535] W (dF y (.int .u64 n2) w0 W)) := fun a cap W h hc hb => by have := aW x a cap 65535 w0 W h (by omega) hc (by omega) hb; rw [h2] at this; exact this
 have g3 : Hid (∀ (a : Option Addr) (cap : Nat) W, Below w0.heap.size w0 W → y.b.length ≤ cap → BytesIn w0 a y.b → Calls Tryz.prog 142 #[aH y a cap, .int .u64 63] W (dF z (.int .u64 n3) w0 W)) := fun a cap W h hc hb => by have := aW y a cap 63 w0 W h (by omega) hc (by omega) hb; rw [h3] at this; exact this
 go_enter Tryz.func178, Tryz.ntmps178
 go_upto_region 1 with fail
 refine wp_name (fun W hW => ?_)
 have hbt : Below w.heap.size w W := by rw [hW.out]; go_grown
 have hB : RdBlk W w.heap.size r a cap := by
  rw [hW.out]; unfold RdBlk; rw [Below.heap_alloc _ _ _ (by simp <;> omega), Below.heap_alloc _ _ _ (by simp)]; exact heap_alloc_last w _
 have hZ : W.heap[w.heap.size + 1]? = some (.cells au 206 (0, 0)) := by
  rw [hW.out, Below.heap_alloc _ _ _ (by simp)]
  have := heap_alloc_last (w.alloc (Obj.cells (aA r a cap) 206)) (Obj.cells au 206)
  rw [show (w.alloc (Obj.cells (aA r a cap) 206)).heap.size = w.heap.size + 1 by simp] at this
  exact this
 have hD : W.heap[w.heap.size + 2]? = some (.cells bz 32 (0, 0)) := by
  rw [hW.out]
  have := heap_alloc_last ((w.alloc (Obj.cells (aA r a cap) 206)).alloc (Obj.cells au 206)) (Obj.cells bz 32)
  rw [show ((w.alloc (Obj.cells (aA r a cap) 206)).alloc (Obj.cells au 206)).heap.size = w.heap.size + 2 by simp] at this
  exact this
 have h0W := h0.trans (hbt.mono h0.size)
 have hrg := hB.range
 have hlw := lt_of_block hD
 clear hW hB
 go_upto_region 2 with (first
  | ((with_reducible refine wpList_load_to 206 _ w.heap.size 0 [.slice a r.b.length cap, .int .i64 r.e] (aH r a cap) rfl _ Tryz.underlying206 rfl (by kernel_rfl) hrg ?_ rfl ?_); exact rfl)
  | (go_at_call 142; (with_reducible refine (g1.out _ h0W).mono ?_); rintro x w1 ⟨a1, c1, rfl, hin1, hc1, hb1⟩)
  | (refine wpList_store_new 206 _ _ _ #[.slice a1 x.b.length c1, .int .i64 x.e] rfl rfl (by kernel_rfl) rfl (by kernel_rfl) ?_))
 refine wp_name (fun V1 hV => ?_)
 have hX1 : RdBlk V1 w1.heap.size x a1 c1 := by rw [hV.out]; exact RdBlk.new w1 x a1 c1
 have hbv : Below W.heap.size W V1 := by rw [hV.out]; exact hb1.alloc hb1.size _
 replace h0W := h0W.trans (hbv.mono h0W.size)
 have hlo1 := Nat.lt_of_lt_of_le hlw hb1.size
 replace hlw := Nat.lt_of_lt_of_le hlw hbv.size
 clear hV hb1 hrg
 have hrg := hX1.range
 replace hZ := (hbv.block _ (lt_of_block hZ)).trans hZ
 replace hD := (hbv.block _ (lt_of_block hD)).trans hD
 replace hbt := below2 hbt hbv
 clear hbv
 obtain ⟨W, hWe⟩ : ∃ W, W = V1 := ⟨_, rfl⟩
 subst hWe
 have g2' := Lib.hid (fun W h => g2.out a1 c1 W h hc1 hin1)
 go_upto_region 3 with (first
  | ((with_reducible refine wpList_load_to 206 _ w1.heap.size 0 [.slice a1 x.b.length c1, .int .i64 x.e] (aH x a1 c1) rfl _ Tryz.underlying206 rfl (by kernel_rfl) hrg ?_ rfl ?_); exact rfl)
  | (go_at_call 142; (with_reducible refine (g2'.out _ h0W).mono ?_); rintro x w2 ⟨a2, c2, rfl, hin2, hc2, hb2⟩)
  | (refine wpList_store_new 206 _ _ _ #[.slice a2 y.b.length c2, .int .i64 y.e] rfl rfl (by kernel_rfl) rfl (by kernel_rfl) ?_))
 refine wp_name (fun V2 hV => ?_)
 have hX2 : RdBlk V2 w2.heap.size y a2 c2 := by rw [hV.out]; exact RdBlk.new w2 y a2 c2
 have hbv : Below W.heap.size W V2 := by rw [hV.out]; exact hb2.alloc hb2.size _
 replace h0W := h0W.trans (hbv.mono h0W.size)
 have hlo2 := Nat.lt_of_lt_of_le hlw hb2.size
 replace hlw := Nat.lt_of_lt_of_le hlw hbv.size
 clear hV hb2 hrg
 have hrg := hX2.range
 replace hZ := (hbv.block _ (lt_of_block hZ)).trans hZ
 replace hD := (hbv.block _ (lt_of_block hD)).trans hD
 replace hbt := below2 hbt hbv
 clear hbv
 obtain ⟨W, hWe⟩ : ∃ W, W = V2 := ⟨_, rfl⟩
 subst hWe
 have g3' := Lib.hid (fun W h => g3.out a2 c2 W h hc2 hin2)
 go_upto_region 4 with (first
  | ((with_reducible refine wpList_load_to 206 _ w2.heap.size 0 [.slice a2 y.b.length c2, .int .i64 y.e] (aH y a2 c2) rfl _ Tryz.underlying206 rfl (by kernel_rfl) hrg ?_ rfl ?_); exact rfl)
  | (go_at_call 142; (with_reducible refine (g3'.out _ h0W).mono ?_); rintro x w3 ⟨a3, c3, rfl, ed, hc3, hb3⟩)
  | (refine wpList_store_new 206 _ _ _ #[.slice a3 z.b.length c3, .int .i64 z.e] rfl rfl (by kernel_rfl) rfl (by kernel_rfl) ?_))
 refine wp_name (fun V3 hV => ?_)
 have hX3 : RdBlk V3 w3.heap.size z a3 c3 := by rw [hV.out]; exact RdBlk.new w3 z a3 c3
 have hbv : Below W.heap.size W V3 := by rw [hV.out]; exact hb3.alloc hb3.size _
 replace h0W := h0W.trans (hbv.mono h0W.size)
 have hlo3 := Nat.lt_of_lt_of_le hlw hb3.size
 replace hlw := Nat.lt_of_lt_of_le hlw hbv.size
 clear hV hb3 hrg
 have hrg := hX3.range
 replace hZ := (hbv.block _ (lt_of_block hZ)).trans hZ
 replace hD := (hbv.block _ (lt_of_block hD)).trans hD
 replace hbt := below2 hbt hbv
 clear hbv
 obtain ⟨W, hWe⟩ : ∃ W, W = V3 := ⟨_, rfl⟩
 subst hWe
 obtain ⟨p0, p1, zf0, zf1⟩ := hX3.two
 clear g1 g2 g3 g2' g3' hX1 hX2
 have hzl : z.b.length ≤ 1073741824 := by omega
 obtain ⟨f1a, f1b⟩ := f1
 obtain ⟨f2a, f2b⟩ := f2
 obtain ⟨f3a, f3b⟩ := f3
 clear h1 h2 h3
 by_cases hz : z.e = 0
 ·have HE := Lib.hid (HV.out.trans (if_pos hz))
  have q1 : (z.e == 0) = true := beq_iff_eq.2 hz
  have q2 : (z.e != 0) = false := by rw [bne_eq_false_iff_eq]; exact hz
  have HZ0 := Lib.hid hz
  clear hz HV
  have hDz : ∀ cs : Array Value, (W.setRow (w.heap.size + 1) cs).heap[w.heap.size + 2]? = some (.cells bz 32 (0, 0)) := fun cs => (heap_setRow_other _ _ _ _ (by omega)).trans hD
  go_wp2_with (first
   | ((with_reducible refine wpList_load_to 206 _ w3.heap.size 0 [.slice a3 z.b.length c3, .int .i64 z.e] (aH z a3 c3) rfl _ Tryz.underlying206 rfl (by kernel_rfl) hrg ?_ rfl ?_); exact rfl)
   | (refine wpList_store_row rfl 206 _ _ rfl (w.heap.size + 1) #[.slice a3 z.b.length c3, .int .i64 z.e] rfl rfl 206 au hZ (by kernel_rfl) rfl (by kernel_rfl) ?_)
   | (refine wpList_store_row rfl 32 _ _ rfl (w.heap.size + 2) #[.int .i64 n1, .int .i64 n2, .int .i64 n3] rfl rfl 32 bz (hDz _) (by kernel_rfl) rfl (by kernel_rfl) ?_))
  have hrows := bI #[.slice a3 z.b.length c3, .int .i64 z.e] #[.int .i64 n1, .int .i64 n2, .int .i64 n3] (show w.heap.size + 1 ≠ w.heap.size + 2 by omega) hZ hD
  refine aZ 2 3 206 32 206 32 (w.heap.size + 1) (w.heap.size + 2) _ #[.int .i64 n1, .int .i64 n2, .int .i64 n3] _ _ rfl rfl rfl hrows.1 hrows.2 Tryz.underlying206 rfl (by kernel_rfl) Tryz.underlying32 rfl (by kernel_rfl) rfl ?_
  rw [HE.out]
  exact ⟨a3, c3, rfl, ed, hc3, below_setRow (below_setRow hbt (by omega) _) (by omega) _⟩
 ·have HE := Lib.hid (HV.out.trans (if_neg hz))
  have q1 : (z.e == 0) = false := beq_eq_false_iff_ne.2 hz
  have q2 : (z.e != 0) = true := by rw [bne_iff_ne]; exact hz
  clear hz HV
  have hDz : ∀ cs : Array Value, (W.setRow (w.heap.size + 1) cs).heap[w.heap.size + 2]? = some (.cells bz 32 (0, 0)) := fun cs => (heap_setRow_other _ _ _ _ (by omega)).trans hD
  go_wp2_with (first
   | ((with_reducible refine wpList_load_to 206 _ w3.heap.size 0 [.slice a3 z.b.length c3, .int .i64 z.e] (aH z a3 c3) rfl _ Tryz.underlying206 rfl (by kernel_rfl) hrg ?_ rfl ?_); exact rfl)
   | (refine wpList_store_row rfl 206 _ _ rfl (w.heap.size + 1) #[.slice a3 z.b.length c3, .int .i64 z.e] rfl rfl 206 au hZ (by kernel_rfl) rfl (by kernel_rfl) ?_)
   | (refine wpList_store_row rfl 32 _ _ rfl (w.heap.size + 2) bz rfl rfl 32 bz (hDz _) (by kernel_rfl) rfl (by kernel_rfl) ?_))
  have hrows := bI #[.slice a3 z.b.length c3, .int .i64 z.e] bz (show w.heap.size + 1 ≠ w.heap.size + 2 by omega) hZ hD
  refine aZ 2 3 206 32 206 32 (w.heap.size + 1) (w.heap.size + 2) _ bz _ _ rfl rfl rfl hrows.1 hrows.2 Tryz.underlying206 rfl (by kernel_rfl) Tryz.underlying32 rfl (by kernel_rfl) rfl ?_
  rw [HE.out]
  exact ⟨a3, c3, rfl, ed, hc3, below_setRow (below_setRow hbt (by omega) _) (by omega) _⟩
/-- behind a read of an event: the reader behind it, and the event -/
def xN (r : Rd) (e : Ev) (ae : Option Addr) (ce : Nat) (w0 w : World) (x : Ending) (w' : World) : Prop :=
 ∃ a cap, x = .returned (.tuple #[aH r a cap, evVal e ae ce]) ∧ BytesIn w0 a r.b ∧ r.b.length ≤ cap ∧ Below w.heap.size w w'
theorem EvBlk.setKey {w : World} {E : Nat} {e : Ev} {a : Option Addr} {cap : Nat} (h : EvBlk w E e a cap) (x y z : ByteArray) : EvBlk (w.setCells E 7 [.string x, .string y, .string z]) E { e with key := ⟨x, y, z⟩ } a cap := by
 simp [EvBlk, World.setCells, World.setCell, Array.getElem?_modify, show w.heap[E]? = _ from h, evCells]
theorem below_setCells {B : Nat} {W w : World} (h : Below B W w) {g : Nat} (hg : B ≤ g) : ∀ (vs : List Value) (o : Nat), Below B W (w.setCells g o vs) := by
 intro vs
 induction vs generalizing w with
 | nil => intro o; exact h
 | cons v vs ih => intro o; rw [World.setCells]; exact ih (h.setCell hg v) _
theorem sV (r : Rd) (a : Option Addr) (cap : Nat) (e : Ev) (ae : Option Addr) (ce : Nat) (w0 w : World) (h0 : Below w0.heap.size w0 w) (hl : r.b.length ≤ 1073741824) (hc : r.b.length ≤ cap) (hby : BytesIn w0 a r.b) :
 Calls Tryz.prog 180 #[aH r a cap, evVal e ae ce] w (xN (rItem r) (withItem e r) ae ce w0 w) := by
 have HV1 : Hid (rItem r = (rNum 1099511627776 (rNum 1099511627776 (rInt 1099511627776 (rText 1024 (rText 256 (rText 256 (rText 256 r).1).1).1).1).1).1).1) := rfl
 have HV2 : Hid (withItem e r = { e with key := ⟨mkS (rText 256 r).2, mkS (rText 256 (rText 256 r).1).2, mkS (rText 256 (rText 256 (rText 256 r).1).1).2⟩, ck := { e.ck with value := mkS (rText 1024 (rText 256 (rText 256 (rText 256 r).1).1).1).2, expiry := (rInt 1099511627776 (rText 1024 (rText 256 (rText 256 (rText 256 r).1).1).1).1).2, creation := (rNum 1099511627776 (rInt 1099511627776 (rText 1024 (rText 256 (rText 256 (rText 256 r).1).1).1).1).1).2, access := (rNum 1099511627776 (rNum 1099511627776 (rInt 1099511627776 (rText 1024 (rText 256 (rText 256 (rText 256 r).1).1).1).1).1).1).2 } }) := rfl
 obtain ⟨r1, v1, g1⟩ : ∃ r1 v1, rText 256 r = (r1, v1) := ⟨_, _, rfl⟩
 have f1 := rText_fit 256 r
 rw [g1] at f1 HV1 HV2
 simp only at f1 HV1 HV2
 obtain ⟨r2, v2, g2⟩ : ∃ r2 v2, rText 256 r1 = (r2, v2) := ⟨_, _, rfl⟩
 have f2 := rText_fit 256 r1
 rw [g2] at f2 HV1 HV2
 simp only at f2 HV1 HV2
 obtain ⟨r3, v3, g3⟩ : ∃ r3 v3, rText 256 r2 = (r3, v3) := ⟨_, _, rfl⟩
 have f3 := rText_fit 256 r2
 rw [g3] at f3 HV1 HV2
 simp only at f3 HV1 HV2
 obtain ⟨r4, v4, g4⟩ : ∃ r4 v4, rText 1024 r3 = (r4, v4) := ⟨_, _, rfl⟩
 have f4 := rText_fit 1024 r3
 rw [g4] at f4 HV1 HV2
 simp only at f4 HV1 HV2
 obtain ⟨r5, v5, g5⟩ : ∃ r5 v5, rInt 1099511627776 r4 = (r5, v5) := ⟨_, _, rfl⟩
 have f5 := rInt_fit 1099511627776 r4 (by omega)
 rw [g5] at f5 HV1 HV2
 simp only at f5 HV1 HV2
 obtain ⟨r6, v6, g6⟩ : ∃ r6 v6, rNum 1099511627776 r5 = (r6, v6) := ⟨_, _, rfl⟩
 have f6 := rNum_fit 1099511627776 r5
 rw [g6] at f6 HV1 HV2
 simp only at f6 HV1 HV2
 obtain ⟨r7, v7, g7⟩ : ∃ r7 v7, rNum 1099511627776 r6 = (r7, v7) := ⟨_, _, rfl⟩
 have f7 := rNum_fit 1099511627776 r6
 rw [g7] at f7 HV1 HV2
 simp only at f7 HV1 HV2
 have C1 : Hid (∀ (a : Option Addr) (cap : Nat) W, Below w0.heap.size w0 W → r.b.length ≤ cap → BytesIn w0 a r.b → Calls Tryz.prog 200 #[aH r a cap, .int .i64 256] W (dF r1 (.string (mkS v1)) w0 W)) := fun a cap W h hc hb => by have := dX r a cap 256 w0 W h (by omega) hc (by omega) (by omega) hb; rw [g1] at this; exact this
 have C2 : Hid (∀ (a : Option Addr) (cap : Nat) W, Below w0.heap.size w0 W → r1.b.length ≤ cap → BytesIn w0 a r1.b → Calls Tryz.prog 200 #[aH r1 a cap, .int .i64 256] W (dF r2 (.string (mkS v2)) w0 W)) := fun a cap W h hc hb => by have := dX r1 a cap 256 w0 W h (by omega) hc (by omega) (by omega) hb; rw [g2] at this; exact this
 have C3 : Hid (∀ (a : Option Addr) (cap : Nat) W, Below w0.heap.size w0 W → r2.b.length ≤ cap → BytesIn w0 a r2.b → Calls Tryz.prog 200 #[aH r2 a cap, .int .i64 256] W (dF r3 (.string (mkS v3)) w0 W)) := fun a cap W h hc hb => by have := dX r2 a cap 256 w0 W h (by omega) hc (by omega) (by omega) hb; rw [g3] at this; exact this
 have C4 : Hid (∀ (a : Option Addr) (cap : Nat) W, Below w0.heap.size w0 W → r3.b.length ≤ cap → BytesIn w0 a r3.b → Calls Tryz.prog 200 #[aH r3 a cap, .int .i64 1024] W (dF r4 (.string (mkS v4)) w0 W)) := fun a cap W h hc hb => by have := dX r3 a cap 1024 w0 W h (by omega) hc (by omega) (by omega) hb; rw [g4] at this; exact this
 have C5 : Hid (∀ (a : Option Addr) (cap : Nat) W, Below w0.heap.size w0 W → r4.b.length ≤ cap → BytesIn w0 a r4.b → Calls Tryz.prog 201 #[aH r4 a cap, .int .i64 1099511627776] W (dF r5 (.int .i64 v5) w0 W)) := fun a cap W h hc hb => by have := nU r4 a cap 1099511627776 w0 W h (by omega) hc (by omega) (by omega) hb; rw [g5] at this; exact this
 have C6 : Hid (∀ (a : Option Addr) (cap : Nat) W, Below w0.heap.size w0 W → r5.b.length ≤ cap → BytesIn w0 a r5.b → Calls Tryz.prog 142 #[aH r5 a cap, .int .u64 1099511627776] W (dF r6 (.int .u64 v6) w0 W)) := fun a cap W h hc hb => by have := aW r5 a cap 1099511627776 w0 W h (by omega) hc (by omega) hb; rw [g6] at this; exact this
 have C7 : Hid (∀ (a : Option Addr) (cap : Nat) W, Below w0.heap.size w0 W → r6.b.length ≤ cap → BytesIn w0 a r6.b → Calls Tryz.prog 142 #[aH r6 a cap, .int .u64 1099511627776] W (dF r7 (.int .u64 v7) w0 W)) := fun a cap W h hc hb => by have := aW r6 a cap 1099511627776 w0 W h (by omega) hc (by omega) hb; rw [g7] at this; exact this
 have hl7 : r7.b.length ≤ 1073741824 := by omega
 have hv5 : -1099511627776 ≤ v5 ∧ v5 ≤ 1099511627776 := by omega
 have hv6 : v6 ≤ 1099511627776 := by omega
 have hv7 : v7 ≤ 1099511627776 := by omega
 clear g1 f1 g2 f2 g3 f3 g4 f4 g5 f5 g6 f6 g7 f7
 go_enter Tryz.func180, Tryz.ntmps180
 go_upto_region 2 with fail
 refine wp_name (fun W hW => ?_)
 have hbt : Below w.heap.size w W := by rw [hW.out]; go_grown
 have hB : RdBlk W w.heap.size r a cap := by
  rw [hW.out]; unfold RdBlk; rw [Below.heap_alloc _ _ _ (by simp <;> omega), Below.heap_alloc _ _ _ (by simp <;> omega), Below.heap_alloc _ _ _ (by simp)]; exact heap_alloc_last w _
 have hE : EvBlk W (w.heap.size + 1) e ae ce := by
  rw [hW.out]; unfold EvBlk; rw [Below.heap_alloc _ _ _ (by simp <;> omega), Below.heap_alloc _ _ _ (by simp <;> omega)]
  have := heap_alloc_last (w.alloc (Obj.cells (aA r a cap) 206)) (Obj.cells (evCells e ae ce).toArray 39)
  rw [show (w.alloc (Obj.cells (aA r a cap) 206)).heap.size = w.heap.size + 1 by simp] at this
  exact this
 have hZ : W.heap[w.heap.size + 2]? = some (.cells au 206 (0, 0)) := by
  rw [hW.out]; rw [Below.heap_alloc _ _ _ (by simp <;> omega)]
  have := heap_alloc_last ((w.alloc (Obj.cells (aA r a cap) 206)).alloc (Obj.cells (evCells e ae ce).toArray 39)) (Obj.cells au 206)
  rw [show ((w.alloc (Obj.cells (aA r a cap) 206)).alloc (Obj.cells (evCells e ae ce).toArray 39)).heap.size = w.heap.size + 2 by simp] at this
  exact this
 have hD : EvBlk W (w.heap.size + 3) ev0 none 0 := by
  rw [hW.out]
  have := heap_alloc_last (((w.alloc (Obj.cells (aA r a cap) 206)).alloc (Obj.cells (evCells e ae ce).toArray 39)).alloc (Obj.cells au 206)) (Obj.cells (evCells ev0 none 0).toArray 39)
  rw [show (((w.alloc (Obj.cells (aA r a cap) 206)).alloc (Obj.cells (evCells e ae ce).toArray 39)).alloc (Obj.cells au 206)).heap.size = w.heap.size + 3 by simp] at this
  exact this
 have h0W := h0.trans (hbt.mono h0.size)
 have hrg := hB.range
 have hlw := hD.lt
 clear hW hB
 have D1 := Lib.hid (fun W h => C1.out a cap W h hc hby)
 go_upto_region 3 with (first
  | ((with_reducible refine wpList_load_to 206 _ w.heap.size 0 [.slice a r.b.length cap, .int .i64 r.e] (aH r a cap) rfl _ Tryz.underlying206 rfl (by kernel_rfl) hrg ?_ rfl ?_); exact rfl)
  | (go_at_call 200; (with_reducible refine (D1.out _ h0W).mono ?_); rintro x w1 ⟨a1, c1, rfl, hin1, hc1, hb1⟩)
  | (refine wpList_store_new 206 _ _ _ #[.slice a1 r1.b.length c1, .int .i64 r1.e] rfl rfl (by kernel_rfl) rfl (by kernel_rfl) ?_))
 refine wp_name (fun V1 hV => ?_)
 have hX1 : RdBlk V1 w1.heap.size r1 a1 c1 := by rw [hV.out]; exact RdBlk.new w1 r1 a1 c1
 have hbv : Below W.heap.size W V1 := by rw [hV.out]; exact hb1.alloc hb1.size _
 replace h0W := h0W.trans (hbv.mono h0W.size)
 have hlo1 := Nat.lt_of_lt_of_le hlw hb1.size
 replace hlw := Nat.lt_of_lt_of_le hlw hbv.size
 clear hV hb1 hrg
 have hrg := hX1.range
 replace hZ := (hbv.block _ (lt_of_block hZ)).trans hZ
 replace hD := hD.below hbv
 replace hE := hE.below hbv
 replace hbt := below2 hbt hbv
 clear hbv
 obtain ⟨W, hWe⟩ : ∃ W, W = V1 := ⟨_, rfl⟩
 subst hWe
 have D2 := Lib.hid (fun W h => C2.out a1 c1 W h hc1 hin1)
 go_upto_region 4 with (first
  | ((with_reducible refine wpList_load_to 206 _ w1.heap.size 0 [.slice a1 r1.b.length c1, .int .i64 r1.e] (aH r1 a1 c1) rfl _ Tryz.underlying206 rfl (by kernel_rfl) hrg ?_ rfl ?_); exact rfl)
  | (go_at_call 200; (with_reducible refine (D2.out _ h0W).mono ?_); rintro x w2 ⟨a2, c2, rfl, hin2, hc2, hb2⟩)
  | (refine wpList_store_new 206 _ _ _ #[.slice a2 r2.b.length c2, .int .i64 r2.e] rfl rfl (by kernel_rfl) rfl (by kernel_rfl) ?_))
 refine wp_name (fun V2 hV => ?_)
 have hX2 : RdBlk V2 w2.heap.size r2 a2 c2 := by rw [hV.out]; exact RdBlk.new w2 r2 a2 c2
 have hbv : Below W.heap.size W V2 := by rw [hV.out]; exact hb2.alloc hb2.size _
 replace h0W := h0W.trans (hbv.mono h0W.size)
 have hlo2 := Nat.lt_of_lt_of_le hlw hb2.size
 replace hlw := Nat.lt_of_lt_of_le hlw hbv.size
 clear hV hb2 hrg
 have hrg := hX2.range
 replace hZ := (hbv.block _ (lt_of_block hZ)).trans hZ
 replace hD := hD.below hbv
 replace hE := hE.below hbv
 replace hbt := below2 hbt hbv
 clear hbv
 obtain ⟨W, hWe⟩ : ∃ W, W = V2 := ⟨_, rfl⟩
 subst hWe
 have D3 := Lib.hid (fun W h => C3.out a2 c2 W h hc2 hin2)
 go_upto_region 5 with (first
  | ((with_reducible refine wpList_load_to 206 _ w2.heap.size 0 [.slice a2 r2.b.length c2, .int .i64 r2.e] (aH r2 a2 c2) rfl _ Tryz.underlying206 rfl (by kernel_rfl) hrg ?_ rfl ?_); exact rfl)
  | (go_at_call 200; (with_reducible refine (D3.out _ h0W).mono ?_); rintro x w3 ⟨a3, c3, rfl, ed, hc3, hb3⟩)
  | (refine wpList_store_new 206 _ _ _ #[.slice a3 r3.b.length c3, .int .i64 r3.e] rfl rfl (by kernel_rfl) rfl (by kernel_rfl) ?_))
 refine wp_name (fun V3 hV => ?_)
 have hX3 : RdBlk V3 w3.heap.size r3 a3 c3 := by rw [hV.out]; exact RdBlk.new w3 r3 a3 c3
 have hbv : Below W.heap.size W V3 := by rw [hV.out]; exact hb3.alloc hb3.size _
 replace h0W := h0W.trans (hbv.mono h0W.size)
 have hlo3 := Nat.lt_of_lt_of_le hlw hb3.size
 replace hlw := Nat.lt_of_lt_of_le hlw hbv.size
 clear hV hb3 hrg
 have hrg := hX3.range
 replace hZ := (hbv.block _ (lt_of_block hZ)).trans hZ
 replace hD := hD.below hbv
 replace hE := hE.below hbv
 replace hbt := below2 hbt hbv
 clear hbv
 obtain ⟨W, hWe⟩ : ∃ W, W = V3 := ⟨_, rfl⟩
 subst hWe
 have D4 := Lib.hid (fun W h => C4.out a3 c3 W h hc3 ed)
 go_upto_region 6 with (first
  | ((with_reducible refine wpList_load_to 206 _ w3.heap.size 0 [.slice a3 r3.b.length c3, .int .i64 r3.e] (aH r3 a3 c3) rfl _ Tryz.underlying206 rfl (by kernel_rfl) hrg ?_ rfl ?_); exact rfl)
  | (go_at_call 200; (with_reducible refine (D4.out _ h0W).mono ?_); rintro x w4 ⟨a4, c4, rfl, dR, hc4, hb4⟩)
  | (refine wpList_store_new 206 _ _ _ #[.slice a4 r4.b.length c4, .int .i64 r4.e] rfl rfl (by kernel_rfl) rfl (by kernel_rfl) ?_))
 refine wp_name (fun V4 hV => ?_)
 have hX4 : RdBlk V4 w4.heap.size r4 a4 c4 := by rw [hV.out]; exact RdBlk.new w4 r4 a4 c4
 have hbv : Below W.heap.size W V4 := by rw [hV.out]; exact hb4.alloc hb4.size _
 replace h0W := h0W.trans (hbv.mono h0W.size)
 have yF := Nat.lt_of_lt_of_le hlw hb4.size
 replace hlw := Nat.lt_of_lt_of_le hlw hbv.size
 clear hV hb4 hrg
 have hrg := hX4.range
 replace hZ := (hbv.block _ (lt_of_block hZ)).trans hZ
 replace hD := hD.below hbv
 replace hE := hE.below hbv
 replace hbt := below2 hbt hbv
 clear hbv
 obtain ⟨W, hWe⟩ : ∃ W, W = V4 := ⟨_, rfl⟩
 subst hWe
 have D5 := Lib.hid (fun W h => C5.out a4 c4 W h hc4 dR)
 go_upto_region 7 with (first
  | ((with_reducible refine wpList_load_to 206 _ w4.heap.size 0 [.slice a4 r4.b.length c4, .int .i64 r4.e] (aH r4 a4 c4) rfl _ Tryz.underlying206 rfl (by kernel_rfl) hrg ?_ rfl ?_); exact rfl)
  | (go_at_call 201; (with_reducible refine (D5.out _ h0W).mono ?_); rintro x w5 ⟨a5, c5, rfl, l7, hc5, hb5⟩)
  | (refine wpList_store_new 206 _ _ _ #[.slice a5 r5.b.length c5, .int .i64 r5.e] rfl rfl (by kernel_rfl) rfl (by kernel_rfl) ?_))
 refine wp_name (fun V5 hV => ?_)
 have hX5 : RdBlk V5 w5.heap.size r5 a5 c5 := by rw [hV.out]; exact RdBlk.new w5 r5 a5 c5
 have hbv : Below W.heap.size W V5 := by rw [hV.out]; exact hb5.alloc hb5.size _
 replace h0W := h0W.trans (hbv.mono h0W.size)
 have zh := Nat.lt_of_lt_of_le hlw hb5.size
 replace hlw := Nat.lt_of_lt_of_le hlw hbv.size
 clear hV hb5 hrg
 have hrg := hX5.range
 replace hZ := (hbv.block _ (lt_of_block hZ)).trans hZ
 replace hD := hD.below hbv
 replace hE := hE.below hbv
 replace hbt := below2 hbt hbv
 clear hbv
 obtain ⟨W, hWe⟩ : ∃ W, W = V5 := ⟨_, rfl⟩
 subst hWe
 have D6 := Lib.hid (fun W h => C6.out a5 c5 W h hc5 l7)
 go_upto_region 8 with (first
  | ((with_reducible refine wpList_load_to 206 _ w5.heap.size 0 [.slice a5 r5.b.length c5, .int .i64 r5.e] (aH r5 a5 c5) rfl _ Tryz.underlying206 rfl (by kernel_rfl) hrg ?_ rfl ?_); exact rfl)
  | (go_at_call 142; (with_reducible refine (D6.out _ h0W).mono ?_); rintro x w6 ⟨a6, c6, rfl, nY, hc6, hb6⟩)
  | (refine wpList_store_new 206 _ _ _ #[.slice a6 r6.b.length c6, .int .i64 r6.e] rfl rfl (by kernel_rfl) rfl (by kernel_rfl) ?_))
 refine wp_name (fun V6 hV => ?_)
 have hX6 : RdBlk V6 w6.heap.size r6 a6 c6 := by rw [hV.out]; exact RdBlk.new w6 r6 a6 c6
 have hbv : Below W.heap.size W V6 := by rw [hV.out]; exact hb6.alloc hb6.size _
 replace h0W := h0W.trans (hbv.mono h0W.size)
 have zg := Nat.lt_of_lt_of_le hlw hb6.size
 replace hlw := Nat.lt_of_lt_of_le hlw hbv.size
 clear hV hb6 hrg
 have hrg := hX6.range
 replace hZ := (hbv.block _ (lt_of_block hZ)).trans hZ
 replace hD := hD.below hbv
 replace hE := hE.below hbv
 replace hbt := below2 hbt hbv
 clear hbv
 obtain ⟨W, hWe⟩ : ∃ W, W = V6 := ⟨_, rfl⟩
 subst hWe
 have D7 := Lib.hid (fun W h => C7.out a6 c6 W h hc6 nY)
 go_upto_region 9 with (first
  | ((with_reducible refine wpList_load_to 206 _ w6.heap.size 0 [.slice a6 r6.b.length c6, .int .i64 r6.e] (aH r6 a6 c6) rfl _ Tryz.underlying206 rfl (by kernel_rfl) hrg ?_ rfl ?_); exact rfl)
  | (go_at_call 142; (with_reducible refine (D7.out _ h0W).mono ?_); rintro x w7 ⟨a7, c7, rfl, yL, hc7, hb7⟩)
  | (refine wpList_store_new 206 _ _ _ #[.slice a7 r7.b.length c7, .int .i64 r7.e] rfl rfl (by kernel_rfl) rfl (by kernel_rfl) ?_))
 refine wp_name (fun V7 hV => ?_)
 have hX7 : RdBlk V7 w7.heap.size r7 a7 c7 := by rw [hV.out]; exact RdBlk.new w7 r7 a7 c7
 have hbv : Below W.heap.size W V7 := by rw [hV.out]; exact hb7.alloc hb7.size _
 replace h0W := h0W.trans (hbv.mono h0W.size)
 have yE := Nat.lt_of_lt_of_le hlw hb7.size
 replace hlw := Nat.lt_of_lt_of_le hlw hbv.size
 clear hV hb7 hrg
 have hrg := hX7.range
 replace hZ := (hbv.block _ (lt_of_block hZ)).trans hZ
 replace hD := hD.below hbv
 replace hE := hE.below hbv
 replace hbt := below2 hbt hbv
 clear hbv
 obtain ⟨W, hWe⟩ : ∃ W, W = V7 := ⟨_, rfl⟩
 subst hWe
 clear C1 D1 C2 D2 C3 D3 C4 D4 C5 D5 C6 D6 C7 D7
 go_upto_region 10 with (refine wpList_store_mid rfl 34 _ _ rfl (w.heap.size + 1) 7 #[.string (mkS v1), .string (mkS v2), .string (mkS v3)] rfl rfl (hE.there 7 3 (by omega)) (by kernel_rfl) (by kernel_rfl) ?_)
 refine wp_name (fun V hV => ?_)
 have hE2 := hE.setKey (mkS v1) (mkS v2) (mkS v3)
 have hlt := hE.lt
 have hk : ∀ k, k ≠ w.heap.size + 1 → V.heap[k]? = W.heap[k]? := fun k hk => by rw [hV.out]; exact heap_setCells_other _ _ _ _ _ (fun h => hk h.symm)
 have hbt2 : Below w.heap.size w V := by rw [hV.out]; exact below_setCells hbt (by omega) _ _
 rw [← hV.out] at hE2
 have hrz : w.heap.size + 3 < w7.heap.size := yE
 have hX : RdBlk V w7.heap.size r7 a7 c7 := (hk _ (by omega)).trans hX7
 have hZ2 := (hk _ (by omega)).trans hZ
 have hD2 : EvBlk V (w.heap.size + 3) ev0 none 0 := (hk _ (by omega)).trans hD
 clear hV hk hE hbt hX7 hZ hD hrg h0W
 have e10 := hE2.cell 10 _ rfl
 have e15 := hE2.cell 15 _ rfl
 have e16 := hE2.cell 16 _ rfl
 have e17 := hE2.cell 17 _ rfl
 rw [Nat.zero_add] at e10 e15 e16 e17
 have z10 := hE2.free 10
 have z15 := hE2.free 15
 have z16 := hE2.free 16
 have z17 := hE2.free 17
 go_upto_region 14 with fail
 refine wp_name (fun U hU => ?_)
 have hE3 := (((hE2.set10 (mkS v4)).set15 v5).set16 (v6 : Int)).set17 (v7 : Int)
 have hk : ∀ k, k ≠ w.heap.size + 1 → U.heap[k]? = V.heap[k]? := fun k hk => by
  rw [hU.out]
  exact (heap_setCell_other _ _ _ _ (fun h => hk h.symm)).trans ((heap_setCell_other _ _ _ _ (fun h => hk h.symm)).trans ((heap_setCell_other _ _ _ _ (fun h => hk h.symm)).trans (heap_setCell_other _ _ _ _ (fun h => hk h.symm))))
 have hbt : Below w.heap.size w U := by rw [hU.out]; exact (((hbt2.setCell (by simp only; omega) _).setCell (by simp only; omega) _).setCell (by simp only; omega) _).setCell (by simp only; omega) _
 rw [← hU.out] at hE3
 obtain ⟨ef, hef⟩ : ∃ ef : Ev, ef = { e with key := ⟨mkS v1, mkS v2, mkS v3⟩, ck := { e.ck with value := mkS v4, expiry := v5, creation := v6, access := v7 } } := ⟨_, rfl⟩
 have hE : EvBlk U (w.heap.size + 1) ef ae ce := by rw [hef]; exact hE3
 have HE2 : Hid (withItem e r = ef) := by rw [Hid, HV2.out, hef]
 have hX7 : RdBlk U w7.heap.size r7 a7 c7 := (hk _ (by omega)).trans hX
 have hZ := (hk _ (by omega)).trans hZ2
 have hD : EvBlk U (w.heap.size + 3) ev0 none 0 := (hk _ (by omega)).trans hD2
 clear hU hk hE2 hE3 hbt2 hX hZ2 hD2 hef e10 e15 e16 e17 z10 z15 z16 z17
 have hother : ∀ (W' : World) (g : Nat) (cs : Array Value) (b : Nat) (l : List Value), g ≠ b → W'.rangeAt b 0 l → (W'.setRow g cs).rangeAt b 0 l := fun W' g cs b l hne h j v hv => (World.cell?_of_block (heap_setRow_other _ _ _ _ (by simpa using hne))).trans (h j v hv)
 have hD4 : ∀ cs : Array Value, (U.drew.setRow (w.heap.size + 2) cs).heap[w.heap.size + 3]? = some (.cells (evCells ev0 none 0).toArray 39 (0, 0)) := fun cs => (heap_setRow_other _ _ _ _ (by omega)).trans hD
 refine wp_region_noPanic ?_
 refine wp_region_held_drew (S := fun W' => W'.rangeAt (w.heap.size + 1) 0 (evCells ef ae ce) ∧ W'.rangeAt w7.heap.size 0 [.slice a7 r7.b.length c7, .int .i64 r7.e]) (by kernel_rfl) ⟨hE.cell, hX7.range⟩ (fun hHeld => ?_)
 refine tH 0 80 rfl (yieldsIf_load_mid (by rfl) 206 _ rfl w7.heap.size 0 rfl [.slice a7 r7.b.length c7, .int .i64 r7.e] _ (fun _ h => h.2) Tryz.underlying206 rfl (by kernel_rfl)) ?_
 try simp only [pS]
 refine tH 1 81 rfl (yieldsIf_load_mid (by rfl) 39 _ rfl (w.heap.size + 1) 0 rfl (evCells ef ae ce) _ (fun _ h => h.1) Tryz.underlying39 rfl (by kernel_rfl)) ?_
 try simp only [pS]
 refine wpAnyH_ready (rs := [2]) (by kernel_rfl) (by simp) ?_
 refine AllReadyH.cons rfl (fun K hK => ?_) AllReadyH.nil
 refine aP rfl 206 _ _ rfl (w.heap.size + 2) #[.slice a7 r7.b.length c7, .int .i64 r7.e] rfl rfl 206 au hZ (by kernel_rfl) rfl (by kernel_rfl) ?_
 refine hK.out _ _ ?_ (fun hHeld => ?_)
 ·exact ⟨hother _ _ _ _ _ (by omega) hE.cell, hother _ _ _ _ _ (by omega) hX7.range⟩
 clear hK K
 try simp only [pS]
 refine wpAnyH_ready (rs := [3]) (by kernel_rfl) (by simp) ?_
 refine AllReadyH.cons rfl (fun K hK => ?_) AllReadyH.nil
 refine aP rfl 39 _ _ rfl (w.heap.size + 3) (evCells ef ae ce).toArray rfl rfl 39 (evCells ev0 none 0).toArray (hD4 _) (by kernel_rfl) rfl (by kernel_rfl) ?_
 refine hK.out _ _ ?_ (fun hHeld => ?_)
 ·exact ⟨hother _ _ _ _ _ (by omega) (hother _ _ _ _ _ (by omega) hE.cell), hother _ _ _ _ _ (by omega) (hother _ _ _ _ _ (by omega) hX7.range)⟩
 clear hK K
 try simp only [pS]
 refine wpAnyH_done (by kernel_rfl) ?_ _
 refine NoPanic.normal ?_
 go_wp2
 have hrows := bI (w := U.drew) #[.slice a7 r7.b.length c7, .int .i64 r7.e] (evCells ef ae ce).toArray (show w.heap.size + 2 ≠ w.heap.size + 3 by omega) hZ hD
 refine aZ 4 5 206 39 206 39 (w.heap.size + 2) (w.heap.size + 3) _ (evCells ef ae ce).toArray _ _ rfl rfl rfl hrows.1 hrows.2 Tryz.underlying206 rfl (by kernel_rfl) Tryz.underlying39 rfl (by kernel_rfl) rfl ?_
 rw [HV1.out, HE2.out]
 exact ⟨a7, c7, rfl, yL, hc7, below_setRow (below_setRow hbt.drew (by omega) _) (by omega) _⟩
end Go.Proofs.YtlefejokpdjpgaaGreat
