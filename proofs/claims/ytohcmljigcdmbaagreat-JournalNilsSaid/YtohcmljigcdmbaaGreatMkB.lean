/- The number that bytes begin with: a plain function. Conditions: none. -/
import Derived.Test.YtohcmljigcdmbaaGreatCel
import Derived.IntWalk
import Derived.Laws.BitsAllLaws
import Derived.Test.YtohcmljigcdmbaaGreatInj
import Derived.Test.YtohcmljigcdmbaaGreatPut
import Derived.Test.YtohcmljigcdmbaaGreatLoad
import Derived.Test.YtohcmljigcdmbaaGreatMark
set_option linter.unusedSimpArgs false
set_option linter.unusedVariables false
set_option linter.unnecessarySimpa false
set_option maxHeartbeats 16000000
set_option maxRecDepth 100000
namespace Go.Proofs.YtohcmljigcdmbaaGreat
/-- from place k on, n so far: the number, how many bytes, the error -/
def getFrom : Nat → Nat → Bytes → Nat × Nat × Int
 | _, _, [] => (0, 0, 2)
 | k, n, c :: r => if (0 < k ∧ c.toNat = 0) ∨ (k = 9 ∧ 1 < c.toNat) then (0, 0, 1) else if c.toNat < 128 then (n + c.toNat % 128 * 128 ^ k, k + 1, 0) else getFrom (k + 1) (n + c.toNat % 128 * 128 ^ k) r
def getS (l : Bytes) : Nat × Nat × Int := getFrom 0 0 l
theorem pow128 {k : Nat} (h : k ≤ 9) : 128 ^ k ≤ 9223372036854775808 := by
 have := Nat.pow_le_pow_right (show 0 < 128 by omega) h
 exact Nat.le_trans this (by decide)
theorem getFrom_fit : ∀ (l : Bytes) (k n : Nat), k ≤ 9 → n < 128 ^ k → ((getFrom k n l).2.2 = 0 ∧ (getFrom k n l).1 < 18446744073709551616 ∧ k < (getFrom k n l).2.1 ∧ (getFrom k n l).2.1 ≤ k + l.length) ∨ (((getFrom k n l).2.2 = 1 ∨ (getFrom k n l).2.2 = 2) ∧ (getFrom k n l).1 = 0 ∧ (getFrom k n l).2.1 = 0)
 | [], k, n, _, _ => by right; simp [getFrom]
 | c :: r, k, n, hk, hn => by
   have hp := pow128 hk
   unfold getFrom
   split
   ·right; simp
   ·rename_i h1
    split
    ·rename_i h2
     left
     refine ⟨rfl, ?_, Nat.lt_succ_self k, by simp only [List.length_cons]; omega⟩
     by_cases h9 : k = 9
     ·subst h9
      have : c.toNat ≤ 1 := by omega
      have h3 : c.toNat % 128 * 128 ^ 9 ≤ 1 * 128 ^ 9 := Nat.mul_le_mul_right _ (by omega)
      have h4 : 128 ^ 9 = 9223372036854775808 := by decide
      simp only
      omega
     ·have h3 : c.toNat % 128 * 128 ^ k ≤ 127 * 128 ^ k := Nat.mul_le_mul_right _ (by omega)
      have h5 : 128 ^ k ≤ 128 ^ 8 := Nat.pow_le_pow_right (by omega) (by omega)
      have h4 : 128 ^ 8 = 72057594037927936 := by decide
      simp only
      omega
    ·rename_i h2
     have hk8 : k + 1 ≤ 9 := by
      by_cases h9 : k = 9
      ·subst h9; omega
      ·omega
     have h3 : c.toNat % 128 * 128 ^ k ≤ 127 * 128 ^ k := Nat.mul_le_mul_right _ (by omega)
     have h6 : 128 ^ (k + 1) = 128 ^ k * 128 := Nat.pow_succ ..
     have := getFrom_fit r (k + 1) (n + c.toNat % 128 * 128 ^ k) hk8 (by omega)
     rcases this with ⟨a, b, c', d⟩ | h
     ·left; exact ⟨a, b, by omega, by simp only [List.length_cons]; omega⟩
     ·right; exact h
theorem getS_fit (l : Bytes) : ((getS l).2.2 = 0 ∧ (getS l).1 < 18446744073709551616 ∧ 0 < (getS l).2.1 ∧ (getS l).2.1 ≤ l.length) ∨ (((getS l).2.2 = 1 ∨ (getS l).2.2 = 2) ∧ (getS l).1 = 0 ∧ (getS l).2.1 = 0) := by
 have := getFrom_fit l 0 0 (by omega) (by decide)
 simpa [getS] using this
end Go.Proofs.YtohcmljigcdmbaaGreat
/- Package varint's Get. Conditions: at most 2^30 bytes. -/
namespace Go.Proofs.YtohcmljigcdmbaaGreat
open Go.RowKit
theorem and127_fin : ∀ x : Fin 256, bits BinOp.and IntKind.u8 ((x.val : Nat) : Int) 127 = ((x.val % 128 : Nat) : Int) := by decide +kernel
theorem and127 (c : UInt8) : bits BinOp.and IntKind.u8 (c.toNat : Int) 127 = ((c.toNat % 128 : Nat) : Int) := and127_fin ⟨c.toNat, by have := c.toNat_lt; omega⟩
theorem orAt (m k c : Nat) (hk : k ≤ 9) (hm : m < 128 ^ k) (hc : k = 9 → c % 128 ≤ 1) : bits BinOp.or IntKind.u64 (m : Int) (IntKind.u64.wrap ((c : Int) % 128 * 2 ^ (7 * k))) = ((m + c % 128 * 128 ^ k : Nat) : Int) := by
 have e : (2 : Int) ^ (7 * k) = ((128 ^ k : Nat) : Int) := by
  have h : (2 : Nat) ^ (7 * k) = 128 ^ k := by rw [Nat.pow_mul]
  rw [← h]; simp
 have hp := pow128 hk
 have hx : c % 128 * 128 ^ k + 128 ^ k ≤ 18446744073709551616 := by
  by_cases h9 : k = 9
  ·have h1 := Nat.mul_le_mul_right (128 ^ k) (hc h9)
   omega
  ·have h3 : c % 128 * 128 ^ k ≤ 127 * 128 ^ k := Nat.mul_le_mul_right _ (by omega)
   have h5 : 128 ^ k ≤ 128 ^ 8 := Nat.pow_le_pow_right (by omega) (by omega)
   have h4 : 128 ^ 8 = 72057594037927936 := by decide
   omega
 have e2 : ((c : Int) % 128 * 2 ^ (7 * k)) = ((c % 128 * 128 ^ k : Nat) : Int) := by
  rw [e]; simp
 have hpos : 0 < 128 ^ k := Nat.pow_pos (by omega)
 rw [e2, IntWalk.u64_in _ (by omega), u64_or_nat m (c % 128 * 128 ^ k) (by omega) (by omega)]
 have h7 : (128 : Nat) ^ k = 2 ^ (7 * k) := by rw [Nat.pow_mul]
 have h8 : m ||| c % 128 * 128 ^ k = c % 128 * 128 ^ k + m := by
  rw [h7] at hm ⊢
  rw [Nat.or_comm, ← Nat.shiftLeft_eq, Nat.shiftLeft_add_eq_or_of_lt hm]
 rw [h8, Nat.add_comm]
theorem Get_any (a : Option Addr) (cap : Nat) (l : Bytes) (w : World) (hl : l.length ≤ 1073741824) (h : BytesIn w a l) :
 Calls Tryz.prog 161 #[.slice a l.length cap] w fun x w' => x = .returned (.tuple #[.int .u64 (getS l).1, .int .i64 (getS l).2.1, .int .i64 (getS l).2.2]) ∧ w = w' := by
 go_enter Tryz.func161, Tryz.ntmps161
 go_wp2
 go_step3
 go_wp2
 go_step3
 go_wp2
 go_loop [5, 6] (fun n i => ∃ k m : Nat, k ≤ l.length ∧ k ≤ 9 ∧ n = .int .u64 m ∧ i = .int .i64 k ∧ m < 128 ^ k ∧ getS l = getFrom k m (l.drop k)) (fun _ i => l.length - (intOf i).toNat)
 case atStart => exact ⟨0, 0, Nat.zero_le _, by omega, rfl, rfl, by decide, rfl⟩
 case round =>
  obtain ⟨k, m, hk, hk9, rfl, rfl, hm, hpre⟩ := hrel
  have HP := Lib.hid hpre
  have HM := Lib.hid hm
  clear hpre hm
  by_cases hlt : k < l.length
  ·rcases h with h0 | ⟨A, off, rfl, hb⟩
   ·rw [h0] at hlt; simp at hlt
   have hc := hb.cell hlt
   have hne : ((k : Int) == (l.length : Int)) = false := by rw [beq_eq_false_iff_ne]; omega
   have hne2 : (k == l.length) = false := by rw [beq_eq_false_iff_ne]; omega
   have hu := and127 l[k]
   have HS : Hid (getS l = if (0 < k ∧ l[k].toNat = 0) ∨ (k = 9 ∧ 1 < l[k].toNat) then (0, 0, 1) else if l[k].toNat < 128 then (m + l[k].toNat % 128 * 128 ^ k, k + 1, 0) else getFrom (k + 1) (m + l[k].toNat % 128 * 128 ^ k) (l.drop (k + 1))) := by
        rw [Hid, HP.out, List.drop_eq_getElem_cons hlt, getFrom]
   clear HP
   obtain ⟨c, hcc⟩ : ∃ c, c = l[k] := ⟨_, rfl⟩
   rw [← hcc] at hc hu HS
   clear hcc
   have hcl := c.toNat_lt
   by_cases hk0 : 0 < k
   ·by_cases hc0 : c.toNat = 0
    ·have hq : ((c.toNat : Int) == 0) = true := by rw [beq_iff_eq]; omega
     have HE : Hid (getS l = (0, 0, 1)) := by rw [Hid, HS.out, if_pos (Or.inl ⟨hk0, hc0⟩)]
     clear hc0 HS
     go_wp2
     try rw [Exit.noGoto_ret]
     go_ret3
     exact ⟨by rw [HE.out]; first | rfl | go_num, rfl⟩
    ·have hq : ((c.toNat : Int) == 0) = false := by rw [beq_eq_false_iff_ne]; omega
     by_cases h9 : k = 9
     ·have h63 : (7 * (k : Int) == 63) = true := by rw [beq_iff_eq]; omega
      by_cases hc1 : 1 < c.toNat
      ·have HE : Hid (getS l = (0, 0, 1)) := by rw [Hid, HS.out, if_pos (Or.inr ⟨h9, hc1⟩)]
       clear h9 hc0 HS
       go_wp2
       try rw [Exit.noGoto_ret]
       go_ret3
       exact ⟨by rw [HE.out]; first | rfl | go_num, rfl⟩
      ·have hd0 : decide (1 < c.toNat) = false := decide_eq_false hc1
       have HE := Lib.hid (HS.out.trans (if_neg (by omega)))
       have h90 : k ≤ 9 ∧ 9 ≤ k := by omega
       clear hc0 HS h9
       have hor := orAt m k c.toNat hk9 HM.out (fun h => by omega)
       obtain ⟨v, hv⟩ : ∃ v : Nat, v = m + c.toNat % 128 * 128 ^ k := ⟨_, rfl⟩
       rw [← hv] at hor HE
       by_cases h1 : c.toNat < 128
       ·have hc127 : c.toNat ≤ 127 := by omega
        have HE2 : Hid (getS l = (v, k + 1, 0)) := by rw [Hid, HE.out, if_pos h1]
        clear HE hv h1
        go_wp2
        try rw [Exit.noGoto_ret]
        go_ret3
        exact ⟨by rw [HE2.out]; go_num, rfl⟩
       ·exact absurd (show c.toNat < 128 by omega) h1
     ·have h63 : (7 * (k : Int) == 63) = false := by rw [beq_eq_false_iff_ne]; omega
      have HE := Lib.hid (HS.out.trans (if_neg (by omega)))
      clear hc0 HS
      have hor := orAt m k c.toNat hk9 HM.out (fun h => by omega)
      obtain ⟨v, hv⟩ : ∃ v : Nat, v = m + c.toNat % 128 * 128 ^ k := ⟨_, rfl⟩
      rw [← hv] at hor HE
      by_cases h1 : c.toNat < 128
      ·have hc127 : c.toNat ≤ 127 := by omega
       have HE2 : Hid (getS l = (v, k + 1, 0)) := by rw [Hid, HE.out, if_pos h1]
       clear HE hv h1
       go_wp2
       try rw [Exit.noGoto_ret]
       go_ret3
       exact ⟨by rw [HE2.out]; go_num, rfl⟩
      ·skip
       have hc128 : 128 ≤ c.toNat := by omega
       have HV := Lib.hid hv
       have HE2 : Hid (getS l = getFrom (k + 1) v (l.drop (k + 1))) := by rw [Hid, HE.out, if_neg h1]
       clear HE hv h1
       have h8 : k + 1 ≤ 9 := by omega
       have hvm : v < 128 ^ (k + 1) := by have h6 : 128 ^ (k + 1) = 128 ^ k * 128 := Nat.pow_succ ..; have h3 : c.toNat % 128 * 128 ^ k ≤ 127 * 128 ^ k := Nat.mul_le_mul_right _ (by omega); have h0 := HM.out; rw [HV.out, h6]; omega
       have HVM := Lib.hid hvm
       clear hvm
       go_wp2
       go_round
       case rel => exact ⟨k + 1, v, by omega, h8, rfl, by go_num, HVM.out, HE2.out⟩
       case measure => simp [intOf] <;> omega
   ·have h9 : k ≠ 9 := by omega
    have hd0 : decide (0 < k) = false := decide_eq_false hk0
    have h63 : (7 * (k : Int) == 63) = false := by rw [beq_eq_false_iff_ne]; omega
    have HE := Lib.hid (HS.out.trans (if_neg (by omega)))
    clear HS
    have hor := orAt m k c.toNat hk9 HM.out (fun h => by omega)
    obtain ⟨v, hv⟩ : ∃ v : Nat, v = m + c.toNat % 128 * 128 ^ k := ⟨_, rfl⟩
    rw [← hv] at hor HE
    by_cases h1 : c.toNat < 128
    ·have hc127 : c.toNat ≤ 127 := by omega
     have HE2 : Hid (getS l = (v, k + 1, 0)) := by rw [Hid, HE.out, if_pos h1]
     clear HE hv h1
     go_wp2
     try rw [Exit.noGoto_ret]
     go_ret3
     exact ⟨by rw [HE2.out]; go_num, rfl⟩
    ·skip
     have hc128 : 128 ≤ c.toNat := by omega
     have HV := Lib.hid hv
     have HE2 : Hid (getS l = getFrom (k + 1) v (l.drop (k + 1))) := by rw [Hid, HE.out, if_neg h1]
     clear HE hv h1
     have h8 : k + 1 ≤ 9 := by omega
     have hvm : v < 128 ^ (k + 1) := by have h6 : 128 ^ (k + 1) = 128 ^ k * 128 := Nat.pow_succ ..; have h3 : c.toNat % 128 * 128 ^ k ≤ 127 * 128 ^ k := Nat.mul_le_mul_right _ (by omega); have h0 := HM.out; rw [HV.out, h6]; omega
     have HVM := Lib.hid hvm
     clear hvm
     go_wp2
     go_round
     case rel => exact ⟨k + 1, v, by omega, h8, rfl, by go_num, HVM.out, HE2.out⟩
     case measure => simp [intOf] <;> omega
  ·have HE : Hid (getS l = (0, 0, 2)) := by rw [Hid, HP.out, List.drop_eq_nil_of_le (by omega)]; rfl
   have hne : ((k : Int) == (l.length : Int)) = true := by rw [beq_iff_eq]; omega
   have hne2 : (k == l.length) = true := by rw [beq_iff_eq]; omega
   go_wp2
   try rw [Exit.noGoto_ret]
   go_ret3
   exact ⟨by rw [HE.out]; rfl, rfl⟩
end Go.Proofs.YtohcmljigcdmbaaGreat
/- What bytes are read as: plain functions. Conditions: none. -/
namespace Go.Proofs.YtohcmljigcdmbaaGreat
/-- what is left, and the first error -/
structure Rd where
 b : Bytes
 e : Int
def rNum (most : Nat) (r : Rd) : Rd × Nat :=
 if r.e = 0 then (if (getS r.b).2.2 = 0 then (if most < (getS r.b).1 then (⟨r.b, 3⟩, 0) else (⟨r.b.drop (getS r.b).2.1, 0⟩, (getS r.b).1)) else (⟨r.b, (getS r.b).2.2⟩, 0)) else (r, 0)
/-- the whole number of a fold -/
def unzig (n : Nat) : Int := if n % 2 = 0 then ((n / 2 : Nat) : Int) else -((n / 2 : Nat) : Int) - 1
def rInt (most : Int) (r : Rd) : Rd × Int :=
 if r.e = 0 then (if (getS r.b).2.2 = 0 then (if max most 0 < unzig (getS r.b).1 ∨ unzig (getS r.b).1 < - max most 0 then (⟨r.b, 3⟩, 0) else (⟨r.b.drop (getS r.b).2.1, 0⟩, unzig (getS r.b).1)) else (⟨r.b, (getS r.b).2.2⟩, 0)) else (r, 0)
def rText (most : Nat) (r : Rd) : Rd × Bytes :=
 if r.e = 0 then
    (if (rNum most r).1.e = 0 then (if (rNum most r).1.b.length < (rNum most r).2 then (⟨r.b, 2⟩, []) else (⟨(rNum most r).1.b.drop (rNum most r).2, 0⟩, (rNum most r).1.b.take (rNum most r).2)) else ((rNum most r).1, []))
 else (r, [])
theorem rNum_fit (most : Nat) (r : Rd) : (rNum most r).1.b.length ≤ r.b.length ∧ (rNum most r).2 ≤ most := by
 unfold rNum
 split
 ·split
  ·split
   ·simp
   ·simp; omega
  ·simp
 ·simp
theorem rText_fit (most : Nat) (r : Rd) : (rText most r).1.b.length ≤ r.b.length ∧ (rText most r).2.length ≤ most := by
 have h := rNum_fit most r
 unfold rText
 split
 ·split
  ·split
   ·simp
   ·simp; omega
  ·simp; omega
 ·simp
theorem rInt_fit (most : Int) (r : Rd) (h0 : 0 ≤ most) : (rInt most r).1.b.length ≤ r.b.length ∧ -most ≤ (rInt most r).2 ∧ (rInt most r).2 ≤ most := by
 unfold rInt
 split
 ·split
  ·split
   ·simp; omega
   ·simp; omega
  ·simp; omega
 ·simp; omega
/-- the five lowest bits -/
def bits5 (c : Nat) : List Bool := [decide (c % 2 = 1), decide (c / 2 % 2 = 1), decide (c / 4 % 2 = 1), decide (c / 8 % 2 = 1), decide (c / 16 % 2 = 1)]
def rFlags (r : Rd) : Rd × List Bool :=
 if r.e = 0 then (if r.b = [] then (⟨r.b, 2⟩, []) else if (r.b.headD 0).toNat < 32 then (⟨r.b.drop 1, 0⟩, bits5 (r.b.headD 0).toNat) else (⟨r.b, 1⟩, [])) else (r, [])
theorem rFlags_fit (r : Rd) : (rFlags r).1.b.length ≤ r.b.length := by
 unfold rFlags
 split
 ·split
  ·simp
  ·split <;> simp
 ·simp
def rFail (r : Rd) (e : Int) : Rd := if r.e = 0 then ⟨r.b, e⟩ else r
def rEnd (r : Rd) : Int := if r.e = 0 then (if 0 < r.b.length then 1 else 0) else r.e
def rDot (r : Rd) : Rd × Dot :=
 let x := rNum 63 r
 let y := rNum 1048576 x.1
 let z := rNum 4294967296 y.1
 let d : Dot := ⟨⟨x.2, y.2⟩, z.2⟩
 if z.1.e = 0 then (if dotOk d = true then (z.1, d) else (rFail z.1 4, dot0)) else (z.1, dot0)
def rStamp (r : Rd) : Rd × Stamp :=
 let x := rNum 4398046511104 r
 let y := rNum 65535 x.1
 let z := rNum 63 y.1
 if z.1.e = 0 then (z.1, ⟨x.2, y.2, z.2⟩) else (z.1, stamp0)
/-- n dots, one behind the other, till an error -/
def rDots : Nat → Rd → Rd × List Dot
 | 0, r => (r, [])
 | n + 1, r => if r.e = 0 then ((rDots n (rDot r).1).1, (rDot r).2 :: (rDots n (rDot r).1).2) else (r, [])
/-- the reader behind a put's key and cookie -/
def rItem (r : Rd) : Rd := (rNum 1099511627776 (rNum 1099511627776 (rInt 1099511627776 (rText 1024 (rText 256 (rText 256 (rText 256 r).1).1).1).1).1).1).1
/-- an event with the key and the cookie that are read -/
def withItem (e : Ev) (r : Rd) : Ev :=
 { e with
   key := ⟨mkS (rText 256 r).2, mkS (rText 256 (rText 256 r).1).2, mkS (rText 256 (rText 256 (rText 256 r).1).1).2⟩
   ck := { e.ck with
     value := mkS (rText 1024 (rText 256 (rText 256 (rText 256 r).1).1).1).2
     expiry := (rInt 1099511627776 (rText 1024 (rText 256 (rText 256 (rText 256 r).1).1).1).1).2
     creation := (rNum 1099511627776 (rInt 1099511627776 (rText 1024 (rText 256 (rText 256 (rText 256 r).1).1).1).1).1).2
     access := (rNum 1099511627776 (rNum 1099511627776 (rInt 1099511627776 (rText 1024 (rText 256 (rText 256 (rText 256 r).1).1).1).1).1).1).2 } }
def flagOf (l : List Bool) (k : Nat) : Bool := l.getD k false
/-- an event, read: ahead of the last test -/
def evGo (r : Rd) : Rd × Ev :=
 let a := rDot r
 let b := rStamp a.1
 let f := rFlags b.1
 let n := rNum 64 f.1
 let o := rDots n.2 n.1
 let e0 : Ev := ⟨a.2, b.2, 2, key0, ck0, o.2⟩
 let e1 : Ev := ⟨a.2, b.2, 2, key0, ⟨ByteArray.empty, flagOf f.2 1, flagOf f.2 2, flagOf f.2 3, flagOf f.2 4, 0, 0, 0⟩, o.2⟩
 if f.2 = [] then (o.1, e0) else if flagOf f.2 0 = true then (rItem o.1, withItem { e1 with kind := 1 } o.1) else (o.1, e1)
/-- the last test -/
def evFin (x : Rd × Ev) : Rd × Ev := if x.1.e = 0 then (if evOk x.2 = true then x else (⟨x.1.b, 1⟩, ev0)) else (x.1, ev0)
def rEv (r : Rd) : Rd × Ev := evFin (evGo r)
theorem evGo_eq (r : Rd) {a b f n o : Rd} {d : Dot} {s : Stamp} {fl : List Bool} {k : Nat} {l : List Dot} (h1 : rDot r = (a, d)) (h2 : rStamp a = (b, s)) (h3 : rFlags b = (f, fl)) (h4 : rNum 64 f = (n, k)) (h5 : rDots k n = (o, l)) :
 evGo r = if fl = [] then (o, ⟨d, s, 2, key0, ck0, l⟩) else if flagOf fl 0 = true then (rItem o, withItem ⟨d, s, 1, key0, ⟨ByteArray.empty, flagOf fl 1, flagOf fl 2, flagOf fl 3, flagOf fl 4, 0, 0, 0⟩, l⟩ o) else (o, ⟨d, s, 2, key0, ⟨ByteArray.empty, flagOf fl 1, flagOf fl 2, flagOf fl 3, flagOf fl 4, 0, 0, 0⟩, l⟩) := by
 unfold evGo; simp only [h1, h2, h3, h4, h5]
theorem rFlags_five (r : Rd) : (rFlags r).2 = [] ∨ ∃ b0 b1 b2 b3 b4, (rFlags r).2 = [b0, b1, b2, b3, b4] := by
 unfold rFlags
 split
 ·split
  ·exact Or.inl rfl
  ·split
   ·exact Or.inr ⟨_, _, _, _, _, rfl⟩
   ·exact Or.inl rfl
 ·exact Or.inl rfl
end Go.Proofs.YtohcmljigcdmbaaGreat
/- Marks and events, packed: by the program and by the reference. Conditions: marks that may be. -/
namespace Go.Proofs.YtohcmljigcdmbaaGreat
open Go.RowKit
theorem DotsIn.keep {w w' : World} {a : Option Addr} {l : List Dot} (h : DotsIn w a l) (hk : ∀ A off, a = some ⟨A, off, none⟩ → l ≠ [] → w'.heap[A]? = w.heap[A]?) : DotsIn w' a l := by
 rcases h with h | ⟨A, off, ha, hd⟩
 ·exact Or.inl h
 ·by_cases h0 : l = []
  ·exact Or.inl h0
  ·have hc : ∀ o, w'.cell? ⟨A, o, none⟩ = w.cell? ⟨A, o, none⟩ := fun o => World.cell?_of_block (hk A off ha h0)
   exact Or.inr ⟨A, off, ha, ⟨fun i hi => (hc _).trans (hd.dev i hi), fun i hi => (hc _).trans (hd.inc i hi), fun i hi => (hc _).trans (hd.seq i hi)⟩⟩
structure EvShort (e : Ev) : Prop where
 name : e.key.name.size ≤ 256
 domain : e.key.domain.size ≤ 256
 path : e.key.path.size ≤ 256
 value : e.ck.value.size ≤ 1024
theorem evOk_short {e : Ev} (h : evOk e = true) : EvShort e := by
 have hfit := evOk_fit h
 unfold evOk at h
 simp only [Bool.and_eq_true, decide_eq_true_eq] at h
 obtain ⟨_, _, _, _, h5⟩ := h
 unfold kindOk at h5
 rcases hfit.kind with hk | hk
 ·rw [if_neg (by omega), if_pos hk] at h5
  unfold itemOk pathOk plainOk canonical at h5
  simp only [Bool.and_eq_true, decide_eq_true_eq] at h5
  obtain ⟨_, ⟨hn, _⟩, ⟨hv, _⟩, ⟨hd, _⟩, ⟨_, _, hp⟩, _⟩ := h5
  exact ⟨hn, hd, hp, hv⟩
 ·rw [if_pos hk] at h5
  simp only [Bool.and_eq_true, decide_eq_true_eq] at h5
  obtain ⟨⟨h1, h2⟩, _⟩ := h5
  exact ⟨by rw [h1]; exact Nat.zero_le _, by rw [h1]; exact Nat.zero_le _, by rw [h1]; exact Nat.zero_le _, by rw [h2]; exact Nat.zero_le _⟩
theorem EvShort.tiny {e : Ev} (h : EvShort e) : EvTiny e := ⟨by have := h.name; omega, by have := h.domain; omega, by have := h.path; omega, by have := h.value; omega⟩
theorem evOk_small {e : Ev} (h : evOk e = true) : EvSmall e := by
 have s := evOk_short h
 have f := evOk_fit h
 exact ⟨by have := s.name; omega, by have := s.domain; omega, by have := s.path; omega, by have := s.value; omega, by have := f.over; omega⟩
/-- what a list lies on was there in w0, and is none of S -/
def OldAt (w0 : World) (S : Nat → Prop) (a : Option Addr) (ne : Prop) : Prop := ∀ A off, a = some ⟨A, off, none⟩ → ne → A < w0.heap.size ∧ ¬ S A
theorem Hold.dots {S : Nat → Prop} {w0 w : World} {B : Nat} {l : Bytes} (h : Hold S w0 B w l) {a : Option Addr} {mk : List Dot} (hd : DotsIn w0 a mk) (ho : OldAt w0 S a (mk ≠ [])) : DotsIn w a mk :=
 hd.keep (fun A off ha hne => h.fr.block A (ho A off ha hne).1 (ho A off ha hne).2)
theorem Hold.alloc {S : Nat → Prop} {w0 w : World} {B : Nat} {l : Bytes} (h : Hold S w0 B w l) (o : Obj) : Hold S w0 B (w.alloc o) l := h.below ((Below.refl _ _).alloc (Nat.le_refl _) o)
end Go.Proofs.YtohcmljigcdmbaaGreat
