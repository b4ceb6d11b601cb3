/- A slice cut out of a slice: the value behind one name, in a plain region and in one whose order is open. Conditions: none. -/
import Derived.Test.YtdlmbflhbecggaaGreatEq
import Derived.OrdersHeld
import Derived.Deep.RegionLaw
import Derived.Deep.RegionHeld3
import Derived.BigQuiet
import Derived.Test.YtdlmbflhbecggaaGreatCel
import Derived.Test.YtdlmbflhbecggaaGreatLoad
import Derived.Test.YtdlmbflhbecggaaGreatWriter
set_option linter.unusedSimpArgs false
set_option linter.unusedVariables false
set_option linter.unnecessarySimpa false
set_option maxHeartbeats 16000000
set_option maxRecDepth 100000
namespace Go.Proofs.YtdlmbflhbecggaaGreat
open Go.RowKit
theorem AC (w : World) (a : Option Addr) (n cap : Nat) (k : IntKind) (i : Nat) (h1 : i ≤ n) :
 (Instr.sliceAt 22 (.slice a n cap) (some (.int k i)) none none).run Tryz.prog w = .ok (.slice (qh a cap i 1) (n - i) (cap - i)) w := by
 obtain ⟨i0, hi, _, hz1, _⟩ := info_parts Tryz.infoByte
 exact oI w _ _ i0 a n cap k i 1 Tryz.underlying22 hi hz1 h1
theorem Jn (w : World) (a : Option Addr) (n cap : Nat) (k : IntKind) (j : Nat) (h1 : j ≤ cap) :
 (Instr.sliceAt 22 (.slice a n cap) none (some (.int k j)) none).run Tryz.prog w = .ok (.slice a j cap) w := by
 obtain ⟨i0, hi, _, hz1, _⟩ := info_parts Tryz.infoByte
 exact rq w _ _ i0 a n cap k j Tryz.underlying22 hi h1
theorem Fe (n : Nat) (w : World) (hn : n ≤ 63) : Calls Tryz.prog 120 #[.int .i64 n] w fun x w' => x = .returned (.int .u64 (2 ^ n : Nat)) ∧ w = w' := by
 go_enter Tryz.func120, Tryz.ntmps120
 go_wp2
 go_loop [3, 4] (fun o i => ∃ k : Nat, k ≤ n ∧ o = .int .u64 (2 ^ k : Nat) ∧ i = .int .i64 k) (fun _ i => n - (intOf i).toNat)
 case atStart => exact ⟨0, Nat.zero_le _, rfl, rfl⟩
 case round =>
  obtain ⟨k, hk, rfl, rfl⟩ := hrel
  by_cases hlt : k < n
  ·have h1 : 2 ^ (k + 1) ≤ 2 ^ 63 := Nat.pow_le_pow_right (by decide) (by omega)
   obtain ⟨v, hv⟩ : ∃ v, v = 2 ^ k := ⟨_, rfl⟩
   have h2 : 2 ^ (k + 1) = v * 2 := by rw [hv, Nat.pow_succ]
   have H2 := Lib.hid h2
   rw [h2] at h1
   rw [← hv]
   clear hv h2
   go_wp2
   go_round
   case rel => exact ⟨k + 1, by omega, by rw [H2.out]; go_num, by go_num⟩
   case measure => simp [intOf]; omega
  ·obtain rfl : k = n := by omega
   go_wp2
   go_ret
   exact ⟨rfl, rfl⟩
theorem Py (m k c : Nat) (hk : k ≤ 9) (hm : m < 128 ^ k) (h9 : k = 9 → c % 128 ≤ 1) : m + c % 128 * 128 ^ k < 18446744073709551616 := by
 have h1 : c % 128 ≤ 127 := by omega
 by_cases e : k = 9
 ·subst e
  have := h9 rfl
  omega
 ·have h2 : 128 ^ k ≤ 128 ^ 8 := Nat.pow_le_pow_right (by decide) (by omega)
  have h3 : c % 128 * 128 ^ k ≤ 127 * 128 ^ k := Nat.mul_le_mul_right _ h1
  omega
theorem zQ (a : Option Addr) (cap : Nat) (l : Bytes) (w : World) (hl : l.length ≤ 1073741824) (h : BytesIn w a l) :
 Calls Tryz.prog 73 #[.slice a l.length cap] w fun x w' => x = .returned (.tuple #[.int .u64 (dD l).1, .int .i64 (dD l).2.1, .int .i64 (dD l).2.2]) ∧ w = w' := by
 go_enter Tryz.func73, Tryz.ntmps73
 go_wp2
 go_loop [5, 6] (fun n i => ∃ k m : Nat, k ≤ l.length ∧ k ≤ 9 ∧ n = .int .u64 m ∧ i = .int .i64 k ∧ m < 128 ^ k ∧ dD l = dM k m (l.drop k)) (fun _ i => l.length - (intOf i).toNat)
 case atStart => exact ⟨0, 0, Nat.zero_le _, by omega, rfl, rfl, by decide, rfl⟩
 case round =>
  obtain ⟨k, m, hk, hk9, rfl, rfl, hm, hpre⟩ := hrel
  have HP := Lib.hid hpre
  have HM := Lib.hid hm
  clear hpre hm
  by_cases hlt : k < l.length
  ·rcases h with h0 | ⟨A, off, rfl, hb⟩
   ·rw [h0] at hlt; simp at hlt
   have hc := hb.cell hlt
   have HS : Hid (dD l = if (0 < k ∧ l[k].toNat = 0) ∨ (k = 9 ∧ 1 < l[k].toNat) then (0, 0, 1) else if l[k].toNat < 128 then (m + l[k].toNat % 128 * 128 ^ k, k + 1, 0) else dM (k + 1) (m + l[k].toNat % 128 * 128 ^ k) (l.drop (k + 1))) := by
        rw [Hid, HP.out, List.drop_eq_getElem_cons hlt, dM]
   clear HP
   obtain ⟨c, hcc⟩ : ∃ c, c = l[k] := ⟨_, rfl⟩
   rw [← hcc] at hc HS
   clear hcc
   have hcl := c.toNat_lt
   generalize c.toNat = c at *
   by_cases hbad : (0 < k ∧ c = 0) ∨ (k = 9 ∧ 1 < c)
   ·have HE : Hid (dD l = (0, 0, 1)) := by rw [Hid, HS.out, if_pos hbad]
    clear HS
    rcases hbad with ⟨h1, h2⟩ | ⟨h1, h2⟩
    ·have d1 : decide (0 < k) = true := decide_eq_true h1
     subst h2
     go_wp2
     go_ret3
     exact ⟨by rw [HE.out]; first | rfl | go_num, rfl⟩
    ·subst h1
     have d2 : ((c : Int) == 0) = false := beq_eq_false_iff_ne.2 (by omega)
     have d3 : decide (1 < c) = true := decide_eq_true h2
     have d4 : decide ((1 : Int) < (c : Int)) = true := decide_eq_true (by omega)
     go_wp2
     go_ret3
     exact ⟨by rw [HE.out]; first | rfl | go_num, rfl⟩
   ·have HE := Lib.hid (HS.out.trans (if_neg hbad))
    have h9 : k = 9 → c ≤ 1 := by omega
    have h0 : 0 < k → c ≠ 0 := by omega
    have hlt2 := Py m k c hk9 HM.out (fun e => by have := h9 e; omega)
    have HPW := Lib.hid (show ∀ W : World, Calls Tryz.prog 120 #[.int .i64 (7 * (k : Int))] W fun x w' => x = .returned (.int .u64 (128 ^ k : Nat)) ∧ W = w' from fun W => by
     have := Fe (7 * k) W (by omega)
     rw [Nat.pow_mul] at this
     rwa [show ((7 * k : Nat) : Int) = 7 * (k : Int) by omega] at this)
    obtain ⟨p, hp⟩ : ∃ p : Nat, p = c % 128 * 128 ^ k := ⟨_, rfl⟩
    rw [← hp] at hlt2
    have hw : IntKind.u64.wrap ((c : Int) % 128 * ((128 ^ k : Nat) : Int)) = (p : Int) := by
     have e : ((c % 128 : Nat) : Int) = (c : Int) % 128 := by omega
     rw [← e, ← Int.natCast_mul, ← hp, IntKind.wrap_u64]; omega
    have HPp := Lib.hid hp
    generalize hq : 128 ^ k = q at *
    have HQ := Lib.hid hq
    clear hq hp HS hbad
    by_cases hk0 : 0 < k
    ·have d1 : decide (0 < k) = true := decide_eq_true hk0
     have d2 : ((c : Int) == 0) = false := beq_eq_false_iff_ne.2 (by have := h0 hk0; omega)
     by_cases hk9 : k = 9
     ·have d3 : ((k : Int) == 9) = true := beq_iff_eq.2 (by omega)
      have d4 : decide (1 < c) = false := decide_eq_false (by have := h9 hk9; omega)
      have d5 : decide ((1 : Int) < (c : Int)) = false := decide_eq_false (by have := h9 hk9; omega)
      have h1 : c < 128 := by have := h9 hk9; omega
      have c1 : c ≤ 1 := h9 hk9
      clear hk9 h9 h0
      have HE2 : Hid (dD l = (m + p, k + 1, 0)) := by rw [Hid, HE.out, if_pos h1, ← HPp.out]
      clear HE
      go_wp2_with (go_at_call 120; (with_reducible refine (HPW.out _).mono ?_); rintro x w1 ⟨rfl, rfl⟩)
      try rw [Exit.noGoto_ret]
      go_ret3
      exact ⟨by rw [HE2.out]; first | rfl | go_num, rfl⟩
     ·have d3 : ((k : Int) == 9) = false := beq_eq_false_iff_ne.2 (by omega)
      have h8 : k + 1 ≤ 9 := by omega
      clear h9 h0
      by_cases h1 : c < 128
      ·skip
       have HE2 : Hid (dD l = (m + p, k + 1, 0)) := by rw [Hid, HE.out, if_pos h1, ← HPp.out]
       clear HE
       go_wp2_with (go_at_call 120; (with_reducible refine (HPW.out _).mono ?_); rintro x w1 ⟨rfl, rfl⟩)
       try rw [Exit.noGoto_ret]
       go_ret3
       exact ⟨by rw [HE2.out]; first | rfl | go_num, rfl⟩
      ·skip
       have HE2 : Hid (dD l = dM (k + 1) (m + p) (l.drop (k + 1))) := by rw [Hid, HE.out, if_neg h1, ← HPp.out]
       have h128 : 128 ≤ c := by omega
       have hvm : Hid (m + p < 128 ^ (k + 1)) := by
            have h6 : 128 ^ (k + 1) = 128 ^ k * 128 := Nat.pow_succ ..
            have h3 : c % 128 * q ≤ 127 * q := Nat.mul_le_mul_right _ (by omega)
            have h0 := HM.out
            have h7 := HPp.out
            rw [Hid, h6, HQ.out]; omega
       clear HE h1
       go_wp2_with (go_at_call 120; (with_reducible refine (HPW.out _).mono ?_); rintro x w1 ⟨rfl, rfl⟩)
       go_round
       case rel => exact ⟨k + 1, m + p, by omega, h8, by go_num, by go_num, hvm.out, HE2.out⟩
       case measure => first | (simp [intOf]; done) | (simp [intOf]; omega)
    ·have d1 : decide (0 < k) = false := decide_eq_false hk0
     have d3 : ((k : Int) == 9) = false := beq_eq_false_iff_ne.2 (by omega)
     have h8 : k + 1 ≤ 9 := by omega
     clear h9 h0
     by_cases h1 : c < 128
     ·skip
      have HE2 : Hid (dD l = (m + p, k + 1, 0)) := by rw [Hid, HE.out, if_pos h1, ← HPp.out]
      clear HE
      go_wp2_with (go_at_call 120; (with_reducible refine (HPW.out _).mono ?_); rintro x w1 ⟨rfl, rfl⟩)
      try rw [Exit.noGoto_ret]
      go_ret3
      exact ⟨by rw [HE2.out]; first | rfl | go_num, rfl⟩
     ·skip
      have HE2 : Hid (dD l = dM (k + 1) (m + p) (l.drop (k + 1))) := by rw [Hid, HE.out, if_neg h1, ← HPp.out]
      have h128 : 128 ≤ c := by omega
      have hvm : Hid (m + p < 128 ^ (k + 1)) := by
       have h6 : 128 ^ (k + 1) = 128 ^ k * 128 := Nat.pow_succ ..
       have h3 : c % 128 * q ≤ 127 * q := Nat.mul_le_mul_right _ (by omega)
       have h0 := HM.out
       have h7 := HPp.out
       rw [Hid, h6, HQ.out]; omega
      clear HE h1
      go_wp2_with (go_at_call 120; (with_reducible refine (HPW.out _).mono ?_); rintro x w1 ⟨rfl, rfl⟩)
      go_round
      case rel => exact ⟨k + 1, m + p, by omega, h8, by go_num, by go_num, hvm.out, HE2.out⟩
      case measure => first | (simp [intOf]; done) | (simp [intOf]; omega)
  ·obtain rfl : k = l.length := by omega
   have HE : Hid (dD l = (0, 0, 2)) := by rw [Hid, HP.out, List.drop_length]; rfl
   go_wp2
   try rw [Exit.noGoto_ret]
   go_ret3
   exact ⟨by rw [HE.out]; first | rfl | go_num, rfl⟩
abbrev bJ := Ev × Option Addr × Nat
abbrev kN (x : bJ) : List Value := ag x.1 x.2.1 x.2.2
structure EvsIn (w : World) (a : Option Addr) (ls : List bJ) : Prop where
 rows : ls = [] ∨ ∃ A off, a = some ⟨A, off, none⟩ ∧ ∀ i (h : i < ls.length), w.rangeAt A (off + i * 19) (kN ls[i])
 dots : ∀ x ∈ ls, DotsIn w x.2.1 x.1.over
theorem EvsIn.kept {w w' : World} {a : Option Addr} {ls : List bJ} (h : EvsIn w a ls) (hb : Below w.heap.size w w') : EvsIn w' a ls :=
 ⟨h.rows.imp id fun ⟨A, off, h1, h2⟩ => ⟨A, off, h1, fun i hi => aj (h2 i hi) hb⟩, fun x hx => (h.dots x hx).kept hb⟩
theorem EvsIn.at {w : World} {a : Option Addr} {ls : List bJ} (h : EvsIn w a ls) {k : Nat} (hk : k < ls.length) :
 ∃ A off, a = some ⟨A, off, none⟩ ∧ (∀ i (h : i < ls.length), w.rangeAt A (off + i * 19) (kN ls[i])) ∧ DotsIn w ls[k].2.1 ls[k].1.over := by
 rcases h.rows with h1 | ⟨A, off, h1, h2⟩
 ·subst h1; simp at hk
 ·exact ⟨A, off, h1, h2, h.dots _ (List.getElem_mem hk)⟩
/-- the events alone -/
def aQ (ls : List bJ) : List Ev := ls.map (·.1)
theorem aV (ls : List bJ) : (aQ ls).length = ls.length := by simp [aQ]
theorem mF {ls : List bJ} {k : Nat} (h : k < ls.length) : (aQ ls)[k]'(by rw [aV]; exact h) = ls[k].1 := by simp [aQ]
def fC (ls : List bJ) : Prop := ∀ x ∈ ls, EvSmall x.1
/-! ### are they the same -/
theorem oK (a b : Option Addr) (ca cb : Nat) (l m : List bJ) (w : World) (hl : l.length ≤ 1073741824) (hm : m.length ≤ 1073741824) (hsl : fC l) (hsm : fC m) (ha : EvsIn w a l) (hb : EvsIn w b m) :
 Calls Tryz.prog 40 #[.slice a l.length ca, .slice b m.length cb] w fun x w' => x = .returned (.bool (decide (aQ l = aQ m))) ∧ Below w.heap.size w w' := by
 by_cases hlen : l.length = m.length
 ·have hb1 : ((l.length : Nat) != (m.length : Nat)) = false := by rw [bne_eq_false_iff_eq]; exact hlen
  have hb2 : ((l.length : Int) != (m.length : Int)) = false := by rw [bne_eq_false_iff_eq]; omega
  have hl1 : l.length ≤ m.length := by omega
  have hl2 : m.length ≤ l.length := by omega
  clear hlen
  go_enter Tryz.func40, Tryz.ntmps40
  go_wp2
  go_loopw [5] (fun i wr => ∃ k : Nat, k ≤ l.length ∧ i = .int .i64 k ∧ (aQ l).take k = (aQ m).take k ∧ Below w.heap.size w wr) (fun i _ => l.length - (intOf i).toNat)
  case atStart => exact ⟨0, Nat.zero_le _, rfl, rfl, by go_grown⟩
  case round =>
   obtain ⟨k, hk, rfl, hpre, hbw⟩ := hrel
   have HP := Lib.hid hpre
   clear hpre
   have hzw := hbw.size
   by_cases hlt : k < l.length
   ·have hlm : k < m.length := by omega
    obtain ⟨A, off, rfl, hra, hda⟩ := (ha.kept hbw).at hlt
    obtain ⟨B, ofb, rfl, hrb, hdb⟩ := (hb.kept hbw).at hlm
    have r1 := hra k hlt
    have r2 := hrb k hlm
    have s1 := (hsl _ (List.getElem_mem hlt)).over
    have s2 := (hsm _ (List.getElem_mem hlm)).over
    have g1 := @mF l k hlt
    have g2 := @mF m k hlm
    have HN := fun he : l[k].1 = m[k].1 => qp (k := k) (by rw [aV]; exact hlt) (by rw [aV]; exact hlm) HP.out (by rw [g1, g2]; exact he)
    have HD := fun he : ¬ l[k].1 = m[k].1 => decide_eq_false (wQ (k := k) (l := aQ l) (m := aQ m) (by rw [aV]; exact hlt) (by rw [aV]; exact hlm) (by rw [g1, g2]; exact he))
    clear hra hrb g1 g2 HP
    generalize l[k] = x at *
    generalize m[k] = y at *
    obtain ⟨e, ax, cx⟩ := x
    obtain ⟨f, ay, cy⟩ := y
    simp only [kN] at *
    have hS0 := fun (W : World) (h1 : DotsIn W ax e.over) (h2 : DotsIn W ay f.over) => C9 e f ax ay cx cy W s1 s2 h1 h2
    by_cases he : e = f
    ·have HE := Lib.hid (HN he)
     rw [decide_eq_true he] at hS0
     have HS := Lib.hid hS0
     clear hS0 he HN HD
     go_upto_region 6 with fail
     refine ai (by kernel_rfl) (by kernel_rfl) (fun W2 hW2 => ?_)
     have R1 : W2.rangeAt A (off + k * 19) (ag e ax cx) := by rw [hW2.out]; exact r1
     have R2 : W2.rangeAt B (ofb + k * 19) (ag f ay cy) := by rw [hW2.out]; exact r2
     have D1 : ∀ i : After W2, DotsIn i.w ax e.over := fun i => (show DotsIn W2 ax e.over by rw [hW2.out]; exact hda).kept i.h
     have D2 : ∀ i : After W2, DotsIn i.w ay f.over := fun i => (show DotsIn W2 ay f.over by rw [hW2.out]; exact hdb).kept i.h
     iterate 3 go_big_quiet_step (fail)
     ((with_reducible refine ji _ A (off + k * 19) e ax cx R1 ?_ rfl ?_); exact rfl; go_simp)
     iterate 3 go_big_quiet_step (fail)
     ((with_reducible refine ji _ B (ofb + k * 19) f ay cy R2 ?_ rfl ?_); exact rfl; go_simp)
     go_big_quiet_step (exact Calls.after (HS.out _ (D1 _) (D2 _)))
     go_big_quiet_step (fail)
     refine wpQuiet_nil ?_
     first | (intro _ hi; obtain ⟨i, rfl⟩ := hi) | intro i
     have hib := i.h
     clear D1 D2 R1 R2
     generalize i.w = wi at hib ⊢
     rw [hW2.out] at hib
     go_wp2
     go_roundw
     case rel => exact ⟨k + 1, by omega, by go_num, HE.out, hbw.trans (hib.mono hzw)⟩
     case measure => simp [intOf] <;> omega
    ·have HE := Lib.hid (HD he)
     rw [decide_eq_false he] at hS0
     have HS := Lib.hid hS0
     clear hS0 he HN HD
     go_upto_region 6 with fail
     refine ai (by kernel_rfl) (by kernel_rfl) (fun W2 hW2 => ?_)
     have R1 : W2.rangeAt A (off + k * 19) (ag e ax cx) := by rw [hW2.out]; exact r1
     have R2 : W2.rangeAt B (ofb + k * 19) (ag f ay cy) := by rw [hW2.out]; exact r2
     have D1 : ∀ i : After W2, DotsIn i.w ax e.over := fun i => (show DotsIn W2 ax e.over by rw [hW2.out]; exact hda).kept i.h
     have D2 : ∀ i : After W2, DotsIn i.w ay f.over := fun i => (show DotsIn W2 ay f.over by rw [hW2.out]; exact hdb).kept i.h
     iterate 3 go_big_quiet_step (fail)
     ((with_reducible refine ji _ A (off + k * 19) e ax cx R1 ?_ rfl ?_); exact rfl; go_simp)
     iterate 3 go_big_quiet_step (fail)
     ((with_reducible refine ji _ B (ofb + k * 19) f ay cy R2 ?_ rfl ?_); exact rfl; go_simp)
     go_big_quiet_step (exact Calls.after (HS.out _ (D1 _) (D2 _)))
     go_big_quiet_step (fail)
     refine wpQuiet_nil ?_
     first | (intro _ hi; obtain ⟨i, rfl⟩ := hi) | intro i
     have hib := i.h
     clear D1 D2 R1 R2
     generalize i.w = wi at hib ⊢
     rw [hW2.out] at hib
     go_wp2
     go_ret
     exact ⟨ah HE.out.symm, hbw.trans (hib.mono hzw)⟩
   ·have hlm : ¬ k < m.length := by omega
    have HE : Hid (decide (aQ l = aQ m) = true) := decide_eq_true (sG (k := k) (by rw [aV]; exact hlt) (by rw [aV]; exact hlm) HP.out)
    go_wp2
    go_ret
    exact ⟨ah HE.out.symm, hbw⟩
 ·have HE : Hid (decide (aQ l = aQ m) = false) := decide_eq_false (BL (by rw [aV, aV]; exact hlen))
  have hb1 : ((l.length : Nat) != (m.length : Nat)) = true := by rw [bne_iff_ne]; exact hlen
  have hb2 : ((l.length : Int) != (m.length : Int)) = true := by rw [bne_iff_ne]; omega
  clear hlen
  go_enter Tryz.func40, Tryz.ntmps40
  go_wp2
  go_ret
  exact ⟨ah HE.out.symm, by go_grown⟩
end Go.Proofs.YtdlmbflhbecggaaGreat
