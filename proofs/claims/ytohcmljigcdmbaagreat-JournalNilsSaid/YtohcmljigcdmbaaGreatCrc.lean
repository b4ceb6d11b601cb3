/- Sums of 32 bits: a byte further, by steps of one bit and of four; what a change does to a sum. Conditions: none. -/
import Derived.Laws.BitsAllLaws
import Derived.Test.YtohcmljigcdmbaaGreatCel
import Derived.Test.YtohcmljigcdmbaaGreatClone
import Derived.IntWalk
import Derived.Lib.AppendZerosOnto
import Derived.Test.YtohcmljigcdmbaaGreatMkB
set_option linter.unusedSimpArgs false
set_option linter.unusedVariables false
set_option linter.unnecessarySimpa false
set_option maxHeartbeats 16000000
set_option maxRecDepth 100000
namespace Go.Proofs.YtohcmljigcdmbaaGreat
def crcPoly : Nat := 3988292384
def crcStep (s : Nat) : Nat := if s % 2 = 1 then s / 2 ^^^ crcPoly else s / 2
def step4 (s : Nat) : Nat := crcStep (crcStep (crcStep (crcStep s)))
def crcByte (s c : Nat) : Nat := step4 (step4 (s ^^^ c))
def crcL : Nat → List UInt8 → Nat
 | s, [] => s
 | s, c :: r => crcL (crcByte s c.toNat) r
def crcSum (l : List UInt8) : Nat := 4294967295 - crcL 4294967295 l
theorem xor_half (a b : Nat) : (a ^^^ b) / 2 = a / 2 ^^^ b / 2 := by
 have := Nat.shiftRight_xor_distrib (a := a) (b := b) (i := 1)
 simpa [Nat.shiftRight_eq_div_pow] using this
theorem xor_odd (a b : Nat) : (a ^^^ b) % 2 = 1 ↔ ¬ (a % 2 = 1 ↔ b % 2 = 1) := by
 have h := Nat.testBit_xor a b 0
 simp only [Nat.testBit_zero] at h
 by_cases ha : a % 2 = 1 <;> by_cases hb : b % 2 = 1 <;> simp [ha, hb] at h ⊢ <;> omega
theorem crcStep_xor (a b : Nat) : crcStep (a ^^^ b) = crcStep a ^^^ crcStep b := by
 unfold crcStep
 have h := xor_odd a b
 have h2 := xor_half a b
 by_cases ha : a % 2 = 1 <;> by_cases hb : b % 2 = 1
 ·rw [if_neg (by rw [h]; simp [ha, hb]), if_pos ha, if_pos hb, h2, Nat.xor_assoc, Nat.xor_comm (b / 2), ← Nat.xor_assoc crcPoly, Nat.xor_self, Nat.zero_xor]
 ·rw [if_pos (by rw [h]; simp [ha, hb]), if_pos ha, if_neg hb, h2, Nat.xor_assoc, Nat.xor_comm (b / 2), Nat.xor_assoc]
 ·rw [if_pos (by rw [h]; simp [ha, hb]), if_neg ha, if_pos hb, h2, Nat.xor_assoc]
 ·rw [if_neg (by rw [h]; simp [ha, hb]), if_neg ha, if_neg hb, h2]
theorem crcStep_lt {s : Nat} (h : s < 4294967296) : crcStep s < 4294967296 := by
 unfold crcStep crcPoly
 split
 ·exact Nat.xor_lt_two_pow (n := 32) (by omega) (by omega)
 ·omega
theorem step4_xor (a b : Nat) : step4 (a ^^^ b) = step4 a ^^^ step4 b := by unfold step4; simp only [crcStep_xor]
theorem step4_lt {s : Nat} (h : s < 4294967296) : step4 s < 4294967296 := crcStep_lt (crcStep_lt (crcStep_lt (crcStep_lt h)))
theorem crcStep_even (h : Nat) : crcStep (2 * h) = h := by unfold crcStep; rw [if_neg (by omega)]; omega
theorem step4_high (h : Nat) : step4 (16 * h) = h := by
 unfold step4
 rw [show 16 * h = 2 * (2 * (2 * (2 * h))) by omega, crcStep_even, crcStep_even, crcStep_even, crcStep_even]
/-- what four steps make of the lowest four bits -/
def crcTab : List Nat := [0x00000000, 0x1db71064, 0x3b6e20c8, 0x26d930ac, 0x76dc4190, 0x6b6b51f4, 0x4db26158, 0x5005713c, 0xedb88320, 0xf00f9344, 0xd6d6a3e8, 0xcb61b38c, 0x9b64c2b0, 0x86d3d2d4, 0xa00ae278, 0xbdbdf21c]
theorem step4_low : ∀ k : Fin 16, step4 k.val = crcTab.getD k.val 0 := by decide +kernel
theorem low_xor (x : Nat) : x = 16 * (x / 16) ^^^ (x % 16) := by
 have h : 16 * (x / 16) ||| x % 16 = 16 * (x / 16) ^^^ (x % 16) := by
  apply Nat.eq_of_testBit_eq
  intro i
  simp only [Nat.testBit_or, Nat.testBit_xor]
  rw [show 16 * (x / 16) = 2 ^ 4 * (x / 16) from rfl, show x % 16 = x % 2 ^ 4 from rfl, Nat.testBit_two_pow_mul, Nat.testBit_mod_two_pow]
  by_cases hi : i < 4
  ·simp [show ¬ i ≥ 4 by omega]
  ·simp [hi]
 have h2 : 16 * (x / 16) ||| x % 16 = 16 * (x / 16) + x % 16 := by
  have := Nat.two_pow_add_eq_or_of_lt (i := 4) (b := x % 16) (by omega) (x / 16)
  simpa using this.symm
 rw [← h, h2]; omega
theorem step4_tab (x : Nat) : step4 x = x / 16 ^^^ crcTab.getD (x % 16) 0 := by
 have h := low_xor x
 have h2 := step4_xor (16 * (x / 16)) (x % 16)
 rw [← h, step4_high, step4_low ⟨x % 16, by omega⟩] at h2
 exact h2
end Go.Proofs.YtohcmljigcdmbaaGreat
/- The sum of bytes, by a table of sixteen numbers. Conditions: at most 2^30 bytes. -/
namespace Go.Proofs.YtohcmljigcdmbaaGreat
open Go.RowKit
def tabVals : Array Value := #[.int .u32 0, .int .u32 498536548, .int .u32 997073096, .int .u32 651767980, .int .u32 1994146192, .int .u32 1802195444, .int .u32 1303535960, .int .u32 1342533948, .int .u32 3988292384, .int .u32 4027552580, .int .u32 3604390888, .int .u32 3412177804, .int .u32 2607071920, .int .u32 2262029012, .int .u32 2685067896, .int .u32 3183342108]
theorem tabVals_at (k : Nat) (h : k < 16) : tabVals[k]? = some (.int .u32 ((crcTab.getD k 0 : Nat) : Int)) := by
 match k, h with
 | 0, _ => rfl
 | 1, _ => rfl
 | 2, _ => rfl
 | 3, _ => rfl
 | 4, _ => rfl
 | 5, _ => rfl
 | 6, _ => rfl
 | 7, _ => rfl
 | 8, _ => rfl
 | 9, _ => rfl
 | 10, _ => rfl
 | 11, _ => rfl
 | 12, _ => rfl
 | 13, _ => rfl
 | 14, _ => rfl
 | 15, _ => rfl
 | k + 16, h => exact absurd h (by omega)
theorem crcTab_lt : ∀ k : Fin 16, crcTab.getD k.val 0 < 4294967296 := by decide
theorem table_any (w : World) : Calls Tryz.prog 182 #[] w fun e w' => e = .returned (.agg tabVals) ∧ Below w.heap.size w w' := by
 go_enter Tryz.func182, Tryz.ntmps182
 go_wp2_with (first
  | (refine Great.wpList_buildTo rfl 247 _ rfl _ rfl tabVals (by kernel_rfl) ?_)
  | (refine wpList_store_new 247 _ _ _ tabVals rfl rfl (by kernel_rfl) rfl (by kernel_rfl) ?_))
 refine ret_cell _ _ 247 w.heap.size tabVals _ rfl rfl (heap_alloc_last w _) Tryz.underlying247 rfl (by kernel_rfl) rfl ⟨rfl, (Below.refl _ _).alloc (Nat.le_refl _) _⟩
theorem setRow_heap1 (w : World) (b : Nat) (cs cs' : Array Value) (t : TypeId) (f : Nat × Nat) (h : w.heap[b]? = some (.cells cs' t f)) : (w.setRow b cs).heap[b]? = some (.cells cs t f) := by
 simp [World.setRow, Array.getElem?_modify, h]
theorem not32_nat (x : Nat) (h : x < 4294967296) : 4294967295 ^^^ x = 4294967295 - x := by
 apply Nat.eq_of_testBit_eq
 intro i
 have h1 := Nat.testBit_two_pow_sub_succ (n := 32) (x := x) h i
 have h2 := Nat.testBit_two_pow_sub_one 32 i
 rw [show 2 ^ 32 - (x + 1) = 4294967295 - x by omega] at h1
 rw [show 2 ^ 32 - 1 = 4294967295 from rfl] at h2
 rw [Nat.testBit_xor, h1, h2]
 by_cases hi : i < 32
 ·simp [hi]
 ·have h3 : x.testBit i = false := Nat.testBit_lt_two_pow (Nat.lt_of_lt_of_le (show x < 2 ^ 32 from h) (Nat.pow_le_pow_right (by omega) (by omega)))
  simp [hi, h3]
theorem not32 (x : Nat) (h : x < 4294967296) : bits .xor .u32 IntKind.u32.max (x : Int) = ((4294967295 - x : Nat) : Int) := by
 have h2 := u32_xor_nat 4294967295 x (by omega) h
 rw [not32_nat x h] at h2
 exact h2
theorem crcL_cons (s : Nat) (c : UInt8) (r : Bytes) : crcL s (c :: r) = crcL (crcByte s c.toNat) r := rfl
theorem Add_any (s : Nat) (a : Option Addr) (cap : Nat) (l : Bytes) (w : World) (hs : s < 4294967296) (hl : l.length ≤ 1073741824) (h : BytesIn w a l) :
 Calls Tryz.prog 154 #[.agg #[.int .u32 s], .slice a l.length cap] w fun e w' => e = .returned (.agg #[.int .u32 ((4294967295 - crcL (4294967295 - s) l : Nat) : Int)]) ∧ Below w.heap.size w w' := by
 have HT := Lib.hid (fun (W : World) => table_any W)
 go_enter Tryz.func154, Tryz.ntmps154
 go_upto_region 2 with fail
 refine wp_name (fun W hW => ?_)
 have hb0 : Below w.heap.size w W := by rw [hW.out]; go_grown
 have hin := h.kept hb0
 have hZ : W.heap[w.heap.size + 1]? = some (.cells #[.int .u32 0] 218 (0, 0)) := by
  rw [hW.out]
  have := heap_alloc_last (w.alloc (Obj.cells #[.int .u32 s] 218)) (.cells #[.int .u32 0] 218)
  simpa only [World.size_alloc] using this
 have hz : w.heap.size + 1 < W.heap.size := by rw [hW.out]; simp
 clear hW h
 go_upto_region 3 with (first
  | (go_at_call 182; (with_reducible refine (HT.out _).mono ?_); rintro v w1 ⟨rfl, hb⟩)
  | (refine wpList_store_new 247 _ _ _ tabVals rfl rfl (by kernel_rfl) rfl (by kernel_rfl) ?_))
 refine wp_name (fun W2 hW2 => ?_)
 have hb1 : Below w1.heap.size w1 W2 := by rw [hW2.out]; go_grown
 have hC : ∀ k, k < 16 → W2.cell? ⟨w1.heap.size, k, none⟩ = some (.int .u32 ((crcTab.getD k 0 : Nat) : Int)) := by
  intro k hk; rw [hW2.out, World.cell?_alloc_new]; exact tabVals_at k hk
 replace hZ := (hb1.block _ (Nat.lt_of_lt_of_le hz hb.size)).trans ((hb.block _ hz).trans hZ)
 replace hin := (hin.kept hb).kept hb1
 replace hb := below2 (below2 hb0 hb) hb1
 have hn0 : w.heap.size + 1 < W2.heap.size := lt_of_block hZ
 clear hb0 hb1 hz hW2 HT
 generalize w1.heap.size = T at *
 go_wp2
 go_loop [5, 15] (fun x i => ∃ k m : Nat, k ≤ l.length ∧ m < 4294967296 ∧ x = .int .u32 m ∧ i = .int .i64 k ∧ crcL (4294967295 - s) l = crcL m (l.drop k)) (fun _ i => l.length - (intOf i).toNat)
 case atStart => exact ⟨0, 4294967295 - s, Nat.zero_le _, by omega, by rw [not32 s hs], rfl, rfl⟩
 case round =>
  obtain ⟨k, m, hk, hm, rfl, rfl, hpre⟩ := hrel
  have HP := Lib.hid hpre
  clear hpre
  by_cases hlt : k < l.length
  ·rcases hin with h0 | ⟨A, off, rfl, hB⟩
   ·rw [h0] at hlt; simp at hlt
   have hc := hB.cell hlt
   have HS : Hid (crcL (4294967295 - s) l = crcL (crcByte m l[k].toNat) (l.drop (k + 1))) :=
        HP.out.trans ((congrArg (crcL m) (List.drop_eq_getElem_cons hlt)).trans (crcL_cons _ _ _))
   clear HP
   obtain ⟨c, hcc⟩ : ∃ c, c = l[k] := ⟨_, rfl⟩
   rw [← hcc] at hc HS
   clear hcc
   have hcl := c.toNat_lt
   have hx1 : bits .xor .u32 (m : Int) (c.toNat : Int) = ((m ^^^ c.toNat : Nat) : Int) := u32_xor_nat _ _ hm (by omega)
   have hq0 : m ^^^ c.toNat < 4294967296 := Nat.xor_lt_two_pow (n := 32) hm (by omega)
   have HQ : Hid (crcByte m c.toNat = step4 (step4 (m ^^^ c.toNat))) := rfl
   generalize m ^^^ c.toNat = q at hx1 hq0 HQ
   have hr0 := step4_lt hq0
   have hq1 : bits .xor .u32 ((q : Int) / 16) ((crcTab.getD (q % 16) 0 : Nat) : Int) = ((step4 q : Nat) : Int) := by
        rw [show ((q : Int) / 16) = ((q / 16 : Nat) : Int) by omega, u32_xor_nat _ _ (by omega) (crcTab_lt ⟨q % 16, by omega⟩), ← step4_tab]
   have hr1 : bits .xor .u32 (((step4 q : Nat) : Int) / 16) ((crcTab.getD (step4 q % 16) 0 : Nat) : Int) = ((step4 (step4 q) : Nat) : Int) := by
        rw [show (((step4 q : Nat) : Int) / 16) = ((step4 q / 16 : Nat) : Int) by omega, u32_xor_nat _ _ (by omega) (crcTab_lt ⟨step4 q % 16, by omega⟩), ← step4_tab]
   have hs0 := step4_lt hr0
   generalize step4 q = r at *
   generalize step4 r = t at *
   have ha1 : bits .and .u32 (q : Int) 15 = ((q % 16 : Nat) : Int) := by
        have := u32_and_nat q 15 hq0 (by decide)
        rw [show ((15 : Nat) : Int) = 15 from rfl] at this
        rw [this, show (15 : Nat) = 2 ^ 4 - 1 from rfl, Nat.and_two_pow_sub_one_eq_mod]
   have ha2 : bits .and .u32 (r : Int) 15 = ((r % 16 : Nat) : Int) := by
        have := u32_and_nat r 15 hr0 (by decide)
        rw [show ((15 : Nat) : Int) = 15 from rfl] at this
        rw [this, show (15 : Nat) = 2 ^ 4 - 1 from rfl, Nat.and_two_pow_sub_one_eq_mod]
   have hc1 := hC (q % 16) (by omega)
   have hc2 := hC (r % 16) (by omega)
   generalize crcTab.getD (q % 16) 0 = u1 at hq1 hc1
   generalize crcTab.getD (r % 16) 0 = u2 at hr1 hc2
   have hne : ((k : Int) == (l.length : Int)) = false := by rw [beq_eq_false_iff_ne]; omega
   have hw1 : q % 16 < 16 := by omega
   have hw2 : r % 16 < 16 := by omega
   rw [HQ.out] at HS
   clear hC
   go_wp2
   go_round
   case rel => exact ⟨k + 1, t, by omega, hs0, rfl, by go_num, HS.out⟩
   case measure => simp [intOf] <;> omega
  ·have HE : Hid (crcL (4294967295 - s) l = m) := HP.out.trans (congrArg (crcL m) (List.drop_eq_nil_of_le (by omega)))
   have hm2 := not32 m hm
   clear hC
   go_wp2_with (refine wpList_store_row rfl 218 _ _ rfl (w.heap.size + 1) #[.int .u32 ((4294967295 - m : Nat) : Int)] rfl rfl 218 #[.int .u32 0] hZ (by kernel_rfl) rfl (by kernel_rfl) ?_)
   refine ret_cell _ _ 218 (w.heap.size + 1) #[.int .u32 ((4294967295 - m : Nat) : Int)] _ rfl rfl (setRow_heap1 _ _ _ _ _ _ hZ) Tryz.underlying218 rfl (by kernel_rfl) rfl ?_
   rw [HE.out]
   exact ⟨rfl, below_setRow hb (by omega) _⟩
theorem crcNew_any (w : World) : Calls Tryz.prog 153 #[] w fun e w' => e = .returned (.agg #[.int .u32 0]) ∧ Below w.heap.size w w' := by
 go_enter Tryz.func153, Tryz.ntmps153
 go_wp2_with (refine wpList_store_new 218 _ _ _ #[.int .u32 0] rfl rfl (by kernel_rfl) rfl (by kernel_rfl) ?_)
 refine ret_cell 0 _ 218 w.heap.size #[.int .u32 0] _ rfl rfl (heap_alloc_last w _) Tryz.underlying218 rfl (by kernel_rfl) rfl ⟨rfl, (Below.refl _ _).alloc (Nat.le_refl _) _⟩
theorem stateSum_any (s : Nat) (w : World) : Calls Tryz.prog 155 #[.agg #[.int .u32 s]] w fun e w' => e = .returned (.int .u32 s) ∧ Below w.heap.size w w' := by
 go_enter Tryz.func155, Tryz.ntmps155
 go_wp2
 go_ret
 exact ⟨rfl, (Below.refl _ _).alloc (Nat.le_refl _) _⟩
theorem CrcSum_any (a : Option Addr) (cap : Nat) (l : Bytes) (w : World) (hl : l.length ≤ 1073741824) (h : BytesIn w a l) :
 Calls Tryz.prog 120 #[.slice a l.length cap] w fun e w' => e = .returned (.int .u32 ((crcSum l : Nat) : Int)) ∧ Below w.heap.size w w' := by
 have HN := Lib.hid (fun (W : World) => crcNew_any W)
 have HA0 : ∀ (W : World), BytesIn W a l → Calls Tryz.prog 154 #[.agg #[.int .u32 0], .slice a l.length cap] W fun e w' => e = .returned (.agg #[.int .u32 ((4294967295 - crcL 4294967295 l : Nat) : Int)]) ∧ Below W.heap.size W w' := fun W h => Add_any 0 a cap l W (by omega) hl h
 have HA := Lib.hid HA0
 clear HA0
 have HS := Lib.hid (fun (n : Nat) (W : World) => stateSum_any n W)
 have HE : Hid (crcSum l = 4294967295 - crcL 4294967295 l) := rfl
 go_enter Tryz.func120, Tryz.ntmps120
 go_wp2_with (first
  | (go_at_call 153; (with_reducible refine (HN.out _).mono ?_); rintro v w1 ⟨rfl, hb⟩; replace h := h.kept hb)
  | (go_at_call 154; (with_reducible refine (HA.out _ h).mono ?_); rintro v w2 ⟨rfl, hb2⟩; replace hb := below2 hb hb2)
  | (go_at_call 155; (with_reducible refine (HS.out _ _).mono ?_); rintro v w3 ⟨rfl, hb3⟩; replace hb := below2 hb hb3))
 go_ret
 rw [HE.out]
 exact ⟨rfl, hb⟩
end Go.Proofs.YtohcmljigcdmbaaGreat
/- Bytes in frames: a number's four bytes, slices one behind the other, a body's frame. Conditions: at most 2^28 bytes. -/
namespace Go.Proofs.YtohcmljigcdmbaaGreat
open Go.RowKit
/-- a number's four bytes, the lowest first -/
def le4 (n : Nat) : Bytes := [UInt8.ofNat (n % 256), UInt8.ofNat (n / 256 % 256), UInt8.ofNat (n / 65536 % 256), UInt8.ofNat (n / 16777216 % 256)]
/-- a body's frame -/
def frameB (body : Bytes) : Bytes := shortB body.length ++ body ++ le4 (crcSum body)
theorem room32_any (n : Nat) (w : World) (hn : n < 4294967296) : Calls Tryz.prog 152 #[.int .u64 n, .int .i64 32] w fun e w' => e = .returned (.bool true) ∧ w = w' := by
 have h0 : ((n : Int) / 4294967296 == 0) = true := by rw [beq_iff_eq]; omega
 go_enter Tryz.func152, Tryz.ntmps152
 go_wp2
 go_ret
 exact ⟨rfl, rfl⟩
def RetSum (n : Nat) (w : World) (e : Ending) (w' : World) : Prop :=
 ∃ v, e = .returned (.tuple #[v, .int .i64 0]) ∧ w'.ownsRow w.heap.size 5 1 v 4 (byteVals (le4 n)) ∧ Below w.heap.size w w'
def vals4 (a b c d : Int) : Array Value := #[.int .u8 a, .int .u8 b, .int .u8 c, .int .u8 d]
theorem vals4_le (n : Nat) : (vals4 ((n % 256 : Nat) : Int) ((n / 256 % 256 : Nat) : Int) ((n / 65536 % 256 : Nat) : Int) ((n / 16777216 % 256 : Nat) : Int)).toList = byteVals (le4 n) := by
 have h : ∀ m : Nat, (UInt8.ofNat (m % 256)).toNat = m % 256 := fun m => by rw [UInt8.toNat_ofNat']; omega
 simp [vals4, byteVals, le4, h]
theorem set_vals4 (w : World) (B : Nat) (a b c d : Int) (t : TypeId) (f : Nat × Nat) (h : w.heap[B]? = some (.cells (vals4 a b c d) t f)) :
 (∀ x, (w.setCell ⟨B, 0, none⟩ (.int .u8 x)).heap[B]? = some (.cells (vals4 x b c d) t f)) ∧ (∀ x, (w.setCell ⟨B, 1, none⟩ (.int .u8 x)).heap[B]? = some (.cells (vals4 a x c d) t f)) ∧
 (∀ x, (w.setCell ⟨B, 2, none⟩ (.int .u8 x)).heap[B]? = some (.cells (vals4 a b x d) t f)) ∧ (∀ x, (w.setCell ⟨B, 3, none⟩ (.int .u8 x)).heap[B]? = some (.cells (vals4 a b c x) t f)) := by
 refine ⟨fun x => ?_, fun x => ?_, fun x => ?_, fun x => ?_⟩ <;> simp [World.setCell, Array.getElem?_modify, h, vals4]
theorem cell_vals4 (w : World) (B : Nat) (a b c d : Int) (t : TypeId) (h : w.heap[B]? = some (.cells (vals4 a b c d) t (0, 0))) :
 w.cell? ⟨B, 0, none⟩ = some (.int .u8 a) ∧ w.cell? ⟨B, 1, none⟩ = some (.int .u8 b) ∧ w.cell? ⟨B, 2, none⟩ = some (.int .u8 c) ∧ w.cell? ⟨B, 3, none⟩ = some (.int .u8 d) ∧ (∀ o, w.frozen? ⟨B, o, none⟩ = false) := by
 simp [World.cell?, World.frozen?, h, vals4]
theorem below_setCell0 {B : Nat} {W w : World} (h : Below B W w) {g o : Nat} (hg : B ≤ g) (v : Value) : Below B W (w.setCell ⟨g, o, none⟩ v) :=
 h.trans ⟨rfl, rfl, rfl, by simp [World.setCell], fun k hk => by simp [World.setCell, Array.getElem?_modify]; omega⟩
theorem Bytes4_any (n : Nat) (w : World) (hn : n < 4294967296) : Calls Tryz.prog 119 #[.int .u64 n, .int .i64 4] w (RetSum n w) := by
 obtain ⟨i0, hi, hz0, hz1, hz2⟩ := info_parts Tryz.infoByte
 have HR := Lib.hid (fun (W : World) => room32_any n W hn)
 have hmk : ∀ W : World, (Instr.makeSlice 82 (.int .i64 4) (.int .i64 4)).run Tryz.prog W = .ok (.slice (some ⟨W.heap.size, 0, none⟩) 4 4) (W.alloc (.cells (vals4 0 0 0 0) 5)) := fun W => by
  have h := run_makeSlice W 82 5 i0 (.int .u8 0) Tryz.underlying82 hi hz0 .i64 .i64 4 4 (by omega) (by omega) (by rw [hz1]; decide) (by rw [hz2]; decide) (by omega)
  rw [hz1, show madeCells (Value.int IntKind.u8 0).cells (Int.toNat 4 * 1) = vals4 0 0 0 0 by kernel_rfl] at h
  exact h
 have hv := Lib.hid (vals4_le n)
 have hb0 : Below w.heap.size w (w.alloc (.cells (vals4 0 0 0 0) 5)) := (Below.refl _ _).alloc (Nat.le_refl _) _
 have hB0 : (w.alloc (.cells (vals4 0 0 0 0) 5)).heap[w.heap.size]? = some (.cells (vals4 0 0 0 0) 5 (0, 0)) := heap_alloc_last w _
 go_enter Tryz.func119, Tryz.ntmps119
 go_wp2_with (go_at_call 152; (with_reducible refine (HR.out _).mono ?_); rintro v w1 ⟨rfl, rfl⟩)
 generalize w.alloc (.cells (vals4 0 0 0 0) 5) = W at hb0 hB0 ⊢
 go_loopw [24] (fun i wr => Below w.heap.size w wr ∧ ∃ k : Nat, i = .int .i64 k ∧ k ≤ 4 ∧ wr.heap[w.heap.size]? = some (.cells (vals4 (if 0 < k then ((n % 256 : Nat) : Int) else 0) (if 1 < k then ((n / 256 % 256 : Nat) : Int) else 0) (if 2 < k then ((n / 65536 % 256 : Nat) : Int) else 0) (if 3 < k then ((n / 16777216 % 256 : Nat) : Int) else 0)) 5 (0, 0))) (fun i _ => 4 - (intOf i).toNat)
 case atStart => exact ⟨hb0, 0, rfl, by omega, hB0⟩
 case round =>
  obtain ⟨hb, k, rfl, hk, hB⟩ := hrel
  have hk5 : k = 0 ∨ k = 1 ∨ k = 2 ∨ k = 3 ∨ k = 4 := by omega
  clear hb0 hB0 hk
  rcases hk5 with rfl | rfl | rfl | rfl | rfl
  ·have hB1 : wr.heap[w.heap.size]? = some (.cells (vals4 0 0 0 0) 5 (0, 0)) := hB
   obtain ⟨q0, q1, q2, q3, qf⟩ := cell_vals4 _ _ _ _ _ _ _ hB1
   have HS := Lib.hid (set_vals4 _ _ _ _ _ _ _ _ hB1)
   have qf0 := qf 0
   have hx : Hid ((n : Int)  % 256 = ((n % 256 : Nat) : Int)) := by unfold Hid; omega
   clear qf hB hB1
   go_wp2
   go_roundw
   case rel => exact ⟨below_setCell0 hb (Nat.le_refl _) _, 1, rfl, by omega, by rw [hx.out]; exact HS.out.1 _⟩
   case measure => simp [intOf]
  ·have hB1 : wr.heap[w.heap.size]? = some (.cells (vals4 ((n % 256 : Nat) : Int) 0 0 0) 5 (0, 0)) := hB
   obtain ⟨q0, q1, q2, q3, qf⟩ := cell_vals4 _ _ _ _ _ _ _ hB1
   have HS := Lib.hid (set_vals4 _ _ _ _ _ _ _ _ hB1)
   have qf0 := qf 1
   have hx : Hid ((n : Int) / 256  % 256 = ((n / 256 % 256 : Nat) : Int)) := by unfold Hid; omega
   clear qf hB hB1
   go_wp2
   go_roundw
   case rel => exact ⟨below_setCell0 hb (Nat.le_refl _) _, 2, rfl, by omega, by rw [hx.out]; exact HS.out.2.1 _⟩
   case measure => simp [intOf]
  ·have hB1 : wr.heap[w.heap.size]? = some (.cells (vals4 ((n % 256 : Nat) : Int) ((n / 256 % 256 : Nat) : Int) 0 0) 5 (0, 0)) := hB
   obtain ⟨q0, q1, q2, q3, qf⟩ := cell_vals4 _ _ _ _ _ _ _ hB1
   have HS := Lib.hid (set_vals4 _ _ _ _ _ _ _ _ hB1)
   have qf0 := qf 2
   have hx : Hid ((n : Int) / 65536  % 256 = ((n / 65536 % 256 : Nat) : Int)) := by unfold Hid; omega
   clear qf hB hB1
   go_wp2
   go_roundw
   case rel => exact ⟨below_setCell0 hb (Nat.le_refl _) _, 3, rfl, by omega, by rw [hx.out]; exact HS.out.2.2.1 _⟩
   case measure => simp [intOf]
  ·have hB1 : wr.heap[w.heap.size]? = some (.cells (vals4 ((n % 256 : Nat) : Int) ((n / 256 % 256 : Nat) : Int) ((n / 65536 % 256 : Nat) : Int) 0) 5 (0, 0)) := hB
   obtain ⟨q0, q1, q2, q3, qf⟩ := cell_vals4 _ _ _ _ _ _ _ hB1
   have HS := Lib.hid (set_vals4 _ _ _ _ _ _ _ _ hB1)
   have qf0 := qf 3
   have hx : Hid ((n : Int) / 16777216  = ((n / 16777216 % 256 : Nat) : Int)) := by unfold Hid; omega
   clear qf hB hB1
   go_wp2
   go_roundw
   case rel => exact ⟨below_setCell0 hb (Nat.le_refl _) _, 4, rfl, by omega, by rw [hx.out]; exact HS.out.2.2.2 _⟩
   case measure => simp [intOf]
  ·have hB1 : wr.heap[w.heap.size]? = some (.cells (vals4 ((n % 256 : Nat) : Int) ((n / 256 % 256 : Nat) : Int) ((n / 65536 % 256 : Nat) : Int) ((n / 16777216 % 256 : Nat) : Int)) 5 (0, 0)) := hB
   have HB := Lib.hid hB1
   clear hB hB1
   go_wp2
   go_ret2
   exact ⟨_, rfl, ⟨by rw [byteVals_length]; rfl, .inr ⟨w.heap.size, 4, _, rfl, Nat.le_refl _, HB.out, Nat.le_refl _, by decide, rfl, hv.out⟩⟩, hb⟩
theorem zeros_bytes (n : Nat) : (Builtin.zeroCells #[Value.int .u8 0] n).size = n := by simp [Builtin.zeroCells]
theorem Grow_any (n : Nat) (w : World) (h0 : 0 < n) (hn : n ≤ 1073741824) : Calls Tryz.prog 156 #[.slice none 0 0, .int .i64 n] w fun e w' =>
 ∃ v, e = .returned v ∧ w'.ownsRow w.heap.size 5 1 v 0 [] ∧ Below w.heap.size w w' := by
 obtain ⟨i0, hi, hz0, hz1, hz2⟩ := info_parts Tryz.infoByte
 have hrun : ∀ (W : World) (ty : TypeId), (Builtin.append_ #[82, 3] ty #[.slice none 0 0, .int .i64 n]).run Tryz.prog W =
  .ok (.slice (some ⟨W.heap.size, 0, none⟩) n (grownCap W n 0 5)) (W.drew.alloc (.cells (Builtin.zeroCells (Value.int .u8 0).cells n ++ Builtin.zeroCells (Value.int .u8 0).cells (grownCap W n 0 5 - n)) 5)) := fun W ty => by
  have h := Lib.run_append_grow_zeros (P := Tryz.prog) W 82 3 ty 5 i0 (.int .u8 0) .i64 .i64 Tryz.underlying82 Tryz.underlying3 hi hz0 none 0 0 [] (run_firstCells_none W.drew i0.size 0 0 0) n h0 (by rw [hz1]; decide) (by omega) (by omega) (by rw [hz2]; omega)
   (by rw [hz2]; exact growslice_fits (by omega) (by omega))
  rw [Nat.zero_add] at h
  simpa using h
 have hG := fun W : World => grownCap_ge W n 0 5
 have hG2 := fun W : World => grownCap_le_maxLen W n 0 5 (by unfold maxLen; omega)
 have HG := Lib.hid (And.intro hG hG2)
 clear hG hG2
 go_enter Tryz.func156, Tryz.ntmps156
 go_wp2_with (at_builtin; refine Lib.wpList_append_run _ rfl _ _ _ _ rfl _ _ rfl rfl _ _ (hrun _ _) ?_)
 go_ret
 refine ⟨_, rfl, World.ownsRow_made w.drew _ _ (Nat.le_refl _) (HG.out.2 w) ?_, ((Below.refl w.heap.size w).drew).alloc (Nat.le_refl _) _⟩
 have := HG.out.1 w
 rw [Array.size_append, zeros_bytes, zeros_bytes]
 omega
theorem shortB_ne2 (n : Nat) : shortB n ≠ [] := by
 rw [shortB]; split <;> simp
/-- from block A on lie these slices of bytes -/
def SlicesAt (w : World) (A : Nat) (ls : List (Option Addr × Nat × Bytes)) : Prop :=
 ∀ j (h : j < ls.length), w.cell? ⟨A, j, none⟩ = some (.slice ls[j].1 ls[j].2.2.length ls[j].2.1) ∧ BytesIn w ls[j].1 ls[j].2.2
def joinB (ls : List (Option Addr × Nat × Bytes)) : Bytes := ls.flatMap fun x => x.2.2
theorem SlicesAt.kept {w w' : World} {A : Nat} {ls : List (Option Addr × Nat × Bytes)} (h : SlicesAt w A ls) (hb : Below w.heap.size w w') : SlicesAt w' A ls := fun j hj => ⟨Proofs.YtohcmljigcdmbaaGreat.kept hb (h j hj).1, (h j hj).2.kept hb⟩
theorem joinB_snoc (ls : List (Option Addr × Nat × Bytes)) (k : Nat) (h : k < ls.length) : joinB (ls.take (k + 1)) = joinB (ls.take k) ++ ls[k].2.2 := by
 unfold joinB; rw [List.take_succ_eq_append_getElem h, List.flatMap_append]; simp
theorem joinB_le (ls : List (Option Addr × Nat × Bytes)) (k : Nat) : (joinB (ls.take k)).length ≤ (joinB ls).length := by
 have : joinB ls = joinB (ls.take k) ++ joinB (ls.drop k) := by unfold joinB; rw [← List.flatMap_append, List.take_append_drop]
 rw [this]; simp
theorem Concat_any (A cap : Nat) (ls : List (Option Addr × Nat × Bytes)) (w : World) (hne : ∀ x ∈ ls, x.2.2 ≠ []) (hl : (joinB ls).length ≤ 1073741824) (h0 : 0 < (joinB ls).length) (hls : ls.length ≤ 1073741824) (h : SlicesAt w A ls) :
 Calls Tryz.prog 121 #[.slice (some ⟨A, 0, none⟩) ls.length cap] w (RetBytes (joinB ls) w) := by
 obtain ⟨i0, hi, hz0, hz1, hz2⟩ := info_parts Tryz.infoByte
 have HG := Lib.hid (fun (W : World) => Grow_any (joinB ls).length W h0 hl)
 have HA := Lib.hid h
 go_enter Tryz.func121, Tryz.ntmps121
 go_wp2
 go_loop [3, 11] (fun s i => ∃ k : Nat, k ≤ ls.length ∧ i = .int .i64 k ∧ s = .int .i64 ((joinB (ls.take k)).length : Nat)) (fun _ i => ls.length - (intOf i).toNat)
 case atStart => exact ⟨0, Nat.zero_le _, rfl, rfl⟩
 case round =>
  obtain ⟨k, hk, rfl, rfl⟩ := hrel
  by_cases hlt : k < ls.length
  ·have hc := (h k hlt).1
   have hs := congrArg List.length (joinB_snoc ls k hlt)
   rw [List.length_append] at hs
   have hle := joinB_le ls k
   have hle2 := joinB_le ls (k + 1)
   rw [hs] at hle2
   have HS := Lib.hid hs
   clear hs h
   generalize ls[k] = x at *
   generalize (joinB (ls.take k)).length = n at *
   have hneg : decide (((n : Int) + (x.2.2.length : Int)) < 0) = false := decide_eq_false (by omega)
   go_wp2
   go_round
   case rel => exact ⟨k + 1, by omega, by go_num, by rw [HS.out]; go_num⟩
   case measure => simp [intOf] <;> omega
  ·have hk2 : Hid ((joinB (ls.take k)).length = (joinB ls).length) := by unfold Hid; rw [List.take_of_length_le (by omega)]
   rw [hk2.out]
   clear hk2
   obtain ⟨n, hn⟩ : ∃ n, n = (joinB ls).length := ⟨_, rfl⟩
   rw [← hn] at HG hl h0 ⊢
   have HN := Lib.hid hn
   clear hn h
   go_wp2_with (go_at_call 156; (with_reducible refine (HG.out _).mono ?_); rintro v w1 ⟨v, rfl, hown, hbt⟩)
   go_loopw [6, 27] (fun out i wr => Below w.heap.size w wr ∧ ∃ k : Nat, k ≤ ls.length ∧ i = .int .i64 k ∧ wr.ownsRow w.heap.size 5 1 out (joinB (ls.take k)).length (byteVals (joinB (ls.take k)))) (fun _ i _ => ls.length - (intOf i).toNat)
   case atStart => exact ⟨hbt, 0, Nat.zero_le _, rfl, hown⟩
   case round =>
        clear hbt hown
        obtain ⟨hbt, k, hk, rfl, hown⟩ := hrel
        have hz := hbt.size
        have hA := HA.out.kept (w' := wr) hbt
        by_cases hlt : k < ls.length
        ·have hx := hne _ (List.getElem_mem hlt)
         have hc := (hA k hlt).1
         have hin := (hA k hlt).2
         have hs := joinB_snoc ls k hlt
         have hle2 := joinB_le ls (k + 1)
         rw [hs, List.length_append, ← HN.out] at hle2
         have HS := Lib.hid hs
         clear hs hA
         generalize ls[k] = x at *
         obtain ⟨a, cap2, m⟩ := x
         simp only at hx hc hin HS hle2
         rcases hin with h9 | ⟨A', off, rfl, hb'⟩
         ·exact absurd h9 hx
         have hnews := hb'.news
         clear hx hb' hne HA
         generalize joinB (ls.take k) = d at *
         go_wp2_with (at_builtin; refine wpList_append_own _ rfl _ _ 82 rfl w.heap.size 5 i0 (.int .u8 0) 1 1 Tryz.underlying82 hi hz0 hz1 hz2 rfl (by decide) _ _ _ rfl hown ⟨A', off, none⟩ _ _ (byteVals m) rfl (by rw [byteVals_length]; simp) hnews (byteVals_one _) (by unfold maxLen; omega) (by omega) (by omega) ?_; intro v2 w2 hown2 hgrow _; have hown3 : w2.ownsRow w.heap.size 5 1 v2 (d ++ m).length (byteVals (d ++ m)) := (by rw [byteVals_append, List.length_append]; exact hown2); have hbt3 := hbt.grown hgrow (by omega) (fun k hk => (hown.lt k hk).1); have hz3 := Nat.le_trans hz hgrow.size; clear hown2 hgrow; replace hown := hown3; replace hbt := hbt3; replace hz := hz3; clear hown3 hbt3 hz3)
         go_roundw
         case rel => exact ⟨hbt, k + 1, by omega, by go_num, by rw [HS.out]; exact hown⟩
         case measure => simp [intOf] <;> omega
        ·have hk2 : Hid (joinB (ls.take k) = joinB ls) := by unfold Hid; rw [List.take_of_length_le (by omega)]
         rw [hk2.out] at hown
         clear hk2 hA hne HA
         go_wp2
         go_ret
         exact ⟨_, rfl, hown, hbt⟩
def slOf (x : Option Addr × Nat × Bytes) : Value := .slice x.1 x.2.2.length x.2.1
theorem slices3_new (W : World) (t : TypeId) (x y z : Option Addr × Nat × Bytes) (hx : BytesIn W x.1 x.2.2) (hy : BytesIn W y.1 y.2.2) (hz : BytesIn W z.1 z.2.2) :
 SlicesAt (W.alloc (.cells #[slOf x, slOf y, slOf z] t)) W.heap.size [x, y, z] := by
 have hb : Below W.heap.size W (W.alloc (.cells #[slOf x, slOf y, slOf z] t)) := (Below.refl _ _).alloc (Nat.le_refl _) _
 intro j hj
 match j, hj with
 | 0, _ => exact ⟨by rw [World.cell?_alloc_new]; rfl, hx.kept hb⟩
 | 1, _ => exact ⟨by rw [World.cell?_alloc_new]; rfl, hy.kept hb⟩
 | 2, _ => exact ⟨by rw [World.cell?_alloc_new]; rfl, hz.kept hb⟩
/-- what hands back bytes in memory of its own, and no error -/
def RetOk (l : Bytes) (w : World) (e : Ending) (w' : World) : Prop :=
 ∃ v, e = .returned (.tuple #[v, .int .i64 0]) ∧ w'.ownsRow w.heap.size 5 1 v l.length (byteVals l) ∧ Below w.heap.size w w'
theorem crcSum_lt (l : Bytes) : crcSum l < 4294967296 := by unfold crcSum; omega
theorem FramePut_any (a a2 : Option Addr) (cap cap2 : Nat) (l body : Bytes) (w : World) (hl : l.length ≤ 268435456) (hb : body.length ≤ 1048576) (hne : body ≠ []) (h1 : BytesIn w a l) (h2 : BytesIn w a2 body) :
 Calls Tryz.prog 78 #[.slice a l.length cap, .slice a2 body.length cap2] w (RetOk (l ++ frameB body) w) := by
 have hS := Lib.hid (fun (W : World) (h : BytesIn W a2 body) => CrcSum_any a2 cap2 body W (by omega) h)
 have hq := fun (W : World) => Bytes4_any (crcSum body) W (crcSum_lt body)
 have hp := fun (W : World) (h : BytesIn W a l) => Put_any a cap l body.length W (by omega) (by omega) h
 have hl2 := shortB_len10 body.length (by omega)
 have hs2 := List.length_pos_iff.2 (shortB_ne2 body.length)
 have hwr : IntKind.u64.wrap ((crcSum body : Nat) : Int) = ((crcSum body : Nat) : Int) := IntWalk.u64_in _ (by have := crcSum_lt body; omega)
 obtain ⟨d, hd⟩ : ∃ d, d = l ++ shortB body.length := ⟨_, rfl⟩
 have hdl : d.length = l.length + (shortB body.length).length := by rw [hd, List.length_append]
 obtain ⟨q, hq4⟩ : ∃ q, q = le4 (crcSum body) := ⟨_, rfl⟩
 have hql : q.length = 4 := by rw [hq4]; rfl
 rw [← hd] at hp
 unfold RetSum at hq
 rw [← hq4, ← hql] at hq
 have hbl := List.length_pos_iff.2 hne
 have HR : Hid (l ++ frameB body = joinB [((none : Option Addr), 0, d), (none, 0, body), (none, 0, q)]) := by
  unfold Hid frameB; rw [hd, hq4]; simp [joinB]
 have hJ : ∀ (x y z : Option Addr) (i j k : Nat), joinB [(x, i, d), (y, j, body), (z, k, q)] = joinB [((none : Option Addr), 0, d), (none, 0, body), (none, 0, q)] := fun _ _ _ _ _ _ => rfl
 have hJl : (joinB [((none : Option Addr), 0, d), (none, 0, body), (none, 0, q)]).length = d.length + (body.length + q.length) := by simp [joinB]
 have HC : Hid (∀ (x y z : Option Addr) (i j k : Nat) (W : World), BytesIn W x d → BytesIn W y body → BytesIn W z q → ∀ (t : TypeId),
  Calls Tryz.prog 121 #[.slice (some ⟨W.heap.size, 0, none⟩) 3 3] (W.alloc (.cells #[.slice x d.length i, .slice y body.length j, .slice z q.length k] t))
        (RetBytes (joinB [((none : Option Addr), 0, d), (none, 0, body), (none, 0, q)]) (W.alloc (.cells #[.slice x d.length i, .slice y body.length j, .slice z q.length k] t)))) := by
  intro x y z i j k W hx hy hz t
  refine Concat_any W.heap.size 3 [(x, i, d), (y, j, body), (z, k, q)] _ ?_ ?_ ?_ (by simp) (slices3_new W t (x, i, d) (y, j, body) (z, k, q) hx hy hz)
  ·intro u hu
   simp only [List.mem_cons, List.not_mem_nil, or_false] at hu
   rcases hu with rfl | rfl | rfl
   ·exact List.length_pos_iff.1 (by rw [hdl]; omega)
   ·exact hne
   ·exact List.length_pos_iff.1 (by rw [hql]; omega)
  ·rw [hJ, hJl]; omega
  ·rw [hJ, hJl]; omega
 have HP := Lib.hid hp
 have HQ := Lib.hid hq
 have HL := Lib.hid hql
 clear hp hq hd hq4 hdl hJ hJl hl2 hs2 hql
 go_enter Tryz.func78, Tryz.ntmps78
 go_wp2_with (first
  | (go_at_call 120; (with_reducible refine (hS.out _ h2).mono ?_); rintro x w1 ⟨rfl, hb1⟩; replace h1 := h1.kept hb1; replace h2 := h2.kept hb1)
  | (go_at_call 119; (with_reducible refine (HQ.out _).mono ?_); rintro x w2 ⟨v, rfl, hown, hb2⟩; replace h1 := h1.kept hb2; replace h2 := h2.kept hb2; replace hb2 := below2 hb1 hb2; obtain ⟨a3, cap3, rfl, hin3⟩ := own_bytes hown; clear hown)
  | (go_at_call 115; (with_reducible refine (HP.out _ h1).mono ?_); rintro x w3 ⟨v, rfl, hown, hb3⟩; obtain ⟨a1, cap1, rfl, hin1⟩ := own_bytes hown; clear hown h1; replace h2 := h2.kept hb3; replace hin3 := hin3.kept hb3; replace hb3 := below2 hb2 hb3)
  | (go_at_call 121; refine (HC.out _ _ _ _ _ _ _ hin1 h2 hin3 _).mono ?_; rintro x w4 ⟨v, rfl, hown, hb4⟩))
 go_ret2
 rw [HR.out]
 refine ⟨_, rfl, own_low hown (by have := hb3.size; simp; omega), below2 (below2 hb3 ((Below.refl _ _).alloc (Nat.le_refl _) _)) hb4⟩
end Go.Proofs.YtohcmljigcdmbaaGreat
/- Bytes in frames, read: a number of four bytes, a frame, one frame. Conditions: at most 2^30 bytes. -/
namespace Go.Proofs.YtohcmljigcdmbaaGreat
open Go.RowKit
/-- the number of bytes, the lowest first -/
def numLE : Bytes → Nat
 | [] => 0
 | c :: r => c.toNat + 256 * numLE r
theorem numLE_lt : ∀ l : Bytes, numLE l < 256 ^ l.length
 | [] => by simp [numLE]
 | c :: r => by
   have := numLE_lt r
   have := c.toNat_lt
   simp only [numLE, List.length_cons, Nat.pow_succ]
   omega
theorem numLE_snoc : ∀ (l : Bytes) (c : UInt8), numLE (l ++ [c]) = numLE l + c.toNat * 256 ^ l.length
 | [], c => by simp [numLE]
 | a :: r, c => by
   have := numLE_snoc r c
   simp only [List.cons_append, numLE, this, List.length_cons, Nat.pow_succ]
   rw [Nat.mul_add, Nat.add_assoc]
   congr 2
   rw [Nat.mul_left_comm, Nat.mul_comm 256]
theorem orShift8 (m k c : Nat) (hk : k ≤ 7) (hm : m < 256 ^ k) (hc : c < 256) : bits BinOp.or IntKind.u64 (m : Int) (IntKind.u64.wrap ((c : Int) * 2 ^ (8 * k))) = ((m + c * 256 ^ k : Nat) : Int) := by
 have e : (2 : Int) ^ (8 * k) = ((256 ^ k : Nat) : Int) := by
  have h : (2 : Nat) ^ (8 * k) = 256 ^ k := by rw [Nat.pow_mul]
  rw [← h]; simp
 have hp : 256 ^ k ≤ 256 ^ 7 := Nat.pow_le_pow_right (by omega) hk
 have h4 : 256 ^ 7 = 72057594037927936 := by decide
 have hx : c * 256 ^ k + 256 ^ k ≤ 18446744073709551616 := by
  have h3 : c * 256 ^ k ≤ 255 * 256 ^ k := Nat.mul_le_mul_right _ (by omega)
  omega
 have e2 : ((c : Int) * 2 ^ (8 * k)) = ((c * 256 ^ k : Nat) : Int) := by rw [e]; simp
 have hpos : 0 < 256 ^ k := Nat.pow_pos (by omega)
 rw [e2, IntWalk.u64_in _ (by omega), u64_or_nat m (c * 256 ^ k) (by omega) (by omega)]
 have h7 : (256 : Nat) ^ k = 2 ^ (8 * k) := by rw [Nat.pow_mul]
 have h8 : m ||| c * 256 ^ k = c * 256 ^ k + m := by
  rw [h7] at hm ⊢
  rw [Nat.or_comm, ← Nat.shiftLeft_eq, Nat.shiftLeft_add_eq_or_of_lt hm]
 rw [h8, Nat.add_comm]
theorem Number_bytes (a : Option Addr) (cap : Nat) (l : Bytes) (w : World) (h4 : l.length = 4) (h : BytesIn w a l) :
 Calls Tryz.prog 166 #[.slice a l.length cap] w fun e w' => e = .returned (.tuple #[.int .u64 (numLE l : Nat), .int .i64 0]) ∧ w = w' := by
 rcases h with h0 | ⟨A, off, rfl, hb⟩
 ·rw [h0] at h4; simp at h4
 have H4 := Lib.hid h4
 have hls : l.length ≤ 4 ∧ 4 ≤ l.length := by omega
 have hl0 : ((l.length : Int) == 0) = false := by rw [beq_eq_false_iff_ne]; omega
 have hl8 : decide ((l.length : Int) > 8) = false := decide_eq_false (by omega)
 clear h4
 go_enter Tryz.func166, Tryz.ntmps166
 go_wp2
 go_loop [4, 17] (fun n i => ∃ k : Nat, k ≤ l.length ∧ i = .int .i64 k ∧ n = .int .u64 (numLE (l.take k) : Nat)) (fun _ i => l.length - (intOf i).toNat)
 case atStart => exact ⟨0, Nat.zero_le _, rfl, rfl⟩
 case round =>
  obtain ⟨k, hk, rfl, rfl⟩ := hrel
  by_cases hlt : k < l.length
  ·have hc := hb.cell hlt
   have hs := numLE_snoc (l.take k) l[k]
   rw [← List.take_succ_eq_append_getElem hlt, List.length_take, Nat.min_eq_left (by omega)] at hs
   have hm := numLE_lt (l.take k)
   rw [List.length_take, Nat.min_eq_left (by omega)] at hm
   have hcl := l[k].toNat_lt
   have ho := orShift8 (numLE (l.take k)) k l[k].toNat (by omega) hm hcl
   rw [← hs] at ho
   generalize numLE (l.take k) = m at *
   obtain ⟨m2, hm2⟩ : ∃ m2, m2 = numLE (l.take (k + 1)) := ⟨_, rfl⟩
   rw [← hm2] at ho
   have HM := Lib.hid hm2
   generalize l[k] = c at *
   clear hs hm hm2
   go_wp2
   go_round
   case rel => exact ⟨k + 1, by omega, by go_num, by rw [← HM.out]⟩
   case measure => simp [intOf] <;> omega
  ·have hk2 : Hid (l.take k = l) := List.take_of_length_le (by omega)
   rw [hk2.out]
   clear hk2
   go_wp2
   go_ret2
   exact ⟨rfl, rfl⟩
/-- the frame that bytes begin with: its body, how many bytes it has, the error -/
def frGet (b : Bytes) : Bytes × Nat × Int :=
 if (getS b).2.2 = 0 then
    (if 1048576 < (getS b).1 then ([], 0, 3)
    else if b.length < (getS b).2.1 + (getS b).1 + 4 then ([], 0, 2)
    else if numLE ((b.drop ((getS b).2.1 + (getS b).1)).take 4) = crcSum ((b.drop (getS b).2.1).take (getS b).1) then ((b.drop (getS b).2.1).take (getS b).1, (getS b).2.1 + (getS b).1 + 4, 0)
    else ([], 0, 5))
 else ([], 0, (getS b).2.2)
/-- behind frame.Get -/
def RetFr (r : Bytes × Nat × Int) (w : World) (e : Ending) (w' : World) : Prop :=
 ∃ v, e = .returned (.tuple #[v, .int .i64 r.2.1, .int .i64 r.2.2]) ∧ w'.ownsRow w.heap.size 5 1 v r.1.length (byteVals r.1) ∧ Below w.heap.size w w'
theorem BytesIn.part {w : World} {a : Option Addr} {l : Bytes} (h : BytesIn w a l) (i n : Nat) : BytesIn w (a.map (fun x => x.add i)) ((l.drop i).take n) := by
 rcases h with h | ⟨A, off, rfl, hb⟩
 ·exact Or.inl (by rw [h]; simp)
 ·refine Or.inr ⟨A, off + i, by simp [Addr.add_mid], fun j hj => ?_⟩
  have hj2 : j < l.length - i ∧ j < n := by simp at hj; omega
  have := hb (i + j) (by omega)
  rw [← Nat.add_assoc] at this
  rw [this, List.getElem_take, List.getElem_drop]
theorem retFr_nil (w w' : World) (k : Int) (hb : Below w.heap.size w w') : RetFr ([], 0, k) w (.returned (.tuple #[.slice none 0 0, .int .i64 0, .int .i64 k])) w' := ⟨_, rfl, World.ownsRow_nil _ _ _ _, hb⟩
theorem FrameGet_any (a : Option Addr) (cap : Nat) (l : Bytes) (w : World) (hl : l.length ≤ 1073741824) (hcap : l.length ≤ cap) (h : BytesIn w a l) :
 Calls Tryz.prog 135 #[.slice a l.length cap] w (RetFr (frGet l) w) := by
 have hd := Get_any a cap l w hl h
 have hfit := getS_fit l
 have HV : Hid (frGet l = if (getS l).2.2 = 0 then
  (if 1048576 < (getS l).1 then ([], 0, 3)
  else if l.length < (getS l).2.1 + (getS l).1 + 4 then ([], 0, 2)
  else if numLE ((l.drop ((getS l).2.1 + (getS l).1)).take 4) = crcSum ((l.drop (getS l).2.1).take (getS l).1) then ((l.drop (getS l).2.1).take (getS l).1, (getS l).2.1 + (getS l).1 + 4, 0)
  else ([], 0, 5))
 else ([], 0, (getS l).2.2)) := rfl
 obtain ⟨n, k, e, hg⟩ : ∃ n k e, getS l = (n, k, e) := ⟨_, _, _, rfl⟩
 rw [hg] at hd hfit HV
 simp only at hd hfit HV
 clear hg
 have HG := Lib.hid hd
 clear hd
 rcases hfit with ⟨rfl, hn, hk0, hkl⟩ | ⟨he2, rfl, rfl⟩
 ·replace HV := Lib.hid (HV.out.trans (if_pos rfl))
  by_cases hbig : 1048576 < n
  ·have HE := Lib.hid (HV.out.trans (if_pos hbig))
   clear HV
   rw [HE.out]
   go_enter Tryz.func135, Tryz.ntmps135
   go_wp2_with (go_at_call 161; (with_reducible refine HG.out.mono ?_); rintro x w1 ⟨rfl, rfl⟩)
   go_ret3
   exact retFr_nil _ _ _ (Below.refl _ _)
  ·replace HV := Lib.hid (HV.out.trans (if_neg hbig))
   by_cases hsh : l.length < k + n + 4
   ·have HE := Lib.hid (HV.out.trans (if_pos hsh))
    have hlt : decide ((l.length : Int) - (k : Int) - 4 < (n : Int)) = true := decide_eq_true (by omega)
    clear HV
    rw [HE.out]
    go_enter Tryz.func135, Tryz.ntmps135
    go_wp2_with (go_at_call 161; (with_reducible refine HG.out.mono ?_); rintro x w1 ⟨rfl, rfl⟩)
    go_ret3
    exact retFr_nil _ _ _ (Below.refl _ _)
   ·have hlt : decide ((l.length : Int) - (k : Int) - 4 < (n : Int)) = false := decide_eq_false (by omega)
    replace HV := Lib.hid (HV.out.trans (if_neg hsh))
    have hnb : n ≤ 1048576 := by omega
    have hkn4 : k + n + 4 ≤ l.length := by omega
    have hBl : ((l.drop k).take n).length = n := by simp; omega
    have hQl : ((l.drop (k + n)).take 4).length = 4 := by simp; omega
    have hBi := fun (W : World) (h : BytesIn W a l) => BytesIn.part h k n
    have hQi := fun (W : World) (h : BytesIn W a l) => BytesIn.part h (k + n) 4
    have hql := numLE_lt ((l.drop (k + n)).take 4)
    rw [hQl, show 256 ^ 4 = 4294967296 by decide] at hql
    have hcl := crcSum_lt ((l.drop k).take n)
    have hN := fun (x : Option Addr) (c : Nat) (W : World) (h : BytesIn W x ((l.drop (k + n)).take 4)) => Number_bytes x c ((l.drop (k + n)).take 4) W hQl h
    have hC := fun (x : Option Addr) (c : Nat) (W : World) (h : BytesIn W x ((l.drop k).take n)) => CrcSum_any x c ((l.drop k).take n) W (by omega) h
    have hK := fun (x : Option Addr) (c : Nat) (W : World) (h : BytesIn W x ((l.drop k).take n)) => CloneBytes_any x c ((l.drop k).take n) W (by omega) h
    rw [hQl] at hN
    rw [hBl] at hC hK
    generalize (l.drop k).take n = B at *
    generalize (l.drop (k + n)).take 4 = Q at *
    generalize numLE Q = q at *
    generalize crcSum B = c at *
    have hwr : IntKind.u32.wrap (q : Int) = (q : Int) := IntWalk.u32_in _ (by omega)
    have HN := Lib.hid hN
    have HC := Lib.hid hC
    have HK := Lib.hid hK
    have HI := Lib.hid (And.intro hBi hQi)
    have HB := Lib.hid hBl
    clear hN hC hK hBl hQl hBi hQi hsh hbig
    by_cases hqc : q = c
    ·have HE := Lib.hid (HV.out.trans (if_pos hqc))
     have hq1 : ((q : Int) == (c : Int)) = true := by rw [beq_iff_eq]; omega
     have hq2 : ((q : Int) != (c : Int)) = false := by rw [bne_eq_false_iff_eq]; omega
     have hq3 : (q == c) = true := by rw [beq_iff_eq]; omega
     have hq4 : (q != c) = false := by rw [bne_eq_false_iff_eq]; omega
     clear HV hqc
     rw [HE.out]
     rcases Nat.eq_zero_or_pos n with rfl | hn0
     ·have HB0 : Hid (B = []) := List.length_eq_zero_iff.1 HB.out
      have HBN : Hid (∀ (x : Option Addr) (W : World), BytesIn W x B) := fun _ _ => Or.inl HB0.out
      go_enter Tryz.func135, Tryz.ntmps135
      go_wp2_with (first
           | (go_at_call 161; (with_reducible refine HG.out.mono ?_); rintro x w1 ⟨rfl, rfl⟩)
           | (go_at_call 166; (with_reducible refine (HN.out _ _ _ (by first | exact HI.out.2 _ h | simpa using HI.out.2 _ h)).mono ?_); rintro x w2 ⟨rfl, rfl⟩)
           | (go_at_call 120; (with_reducible refine (HC.out _ _ _ (by first | exact HI.out.1 _ h | exact HBN.out _ _)).mono ?_); rintro x w3 ⟨rfl, hb1⟩; replace h := h.kept hb1)
           | (go_at_call 122; (with_reducible refine (HK.out _ _ _ (by first | exact HI.out.1 _ h | exact HBN.out _ _)).mono ?_); rintro x w4 ⟨v, rfl, hown, hb2⟩))
      go_ret3
      rw [HB0.out] at hown ⊢
      exact ⟨_, rfl, own_low hown hb1.size, below2 hb1 hb2⟩
     ·have hkn : ¬ (k + n = k) := by omega
      have hnn : ¬ (n = 0) := by omega
      go_enter Tryz.func135, Tryz.ntmps135
      go_wp2_with (first
           | (go_at_call 161; (with_reducible refine HG.out.mono ?_); rintro x w1 ⟨rfl, rfl⟩)
           | (go_at_call 166; (with_reducible refine (HN.out _ _ _ (by first | exact HI.out.2 _ h | simpa using HI.out.2 _ h)).mono ?_); rintro x w2 ⟨rfl, rfl⟩)
           | (go_at_call 120; (with_reducible refine (HC.out _ _ _ (by first | exact HI.out.1 _ h | exact HBN.out _ _)).mono ?_); rintro x w3 ⟨rfl, hb1⟩; replace h := h.kept hb1)
           | (go_at_call 122; (with_reducible refine (HK.out _ _ _ (by first | exact HI.out.1 _ h | exact HBN.out _ _)).mono ?_); rintro x w4 ⟨v, rfl, hown, hb2⟩))
      go_ret3
      exact ⟨_, rfl, own_low hown hb1.size, below2 hb1 hb2⟩
    ·have HE := Lib.hid (HV.out.trans (if_neg hqc))
     have hq1 : ((q : Int) == (c : Int)) = false := by rw [beq_eq_false_iff_ne]; omega
     have hq2 : ((q : Int) != (c : Int)) = true := by rw [bne_iff_ne]; omega
     have hq3 : (q == c) = false := by rw [beq_eq_false_iff_ne]; omega
     have hq4 : (q != c) = true := by rw [bne_iff_ne]; omega
     clear HV hqc
     rw [HE.out]
     rcases Nat.eq_zero_or_pos n with rfl | hn0
     ·have HB0 : Hid (B = []) := List.length_eq_zero_iff.1 HB.out
      have HBN : Hid (∀ (x : Option Addr) (W : World), BytesIn W x B) := fun _ _ => Or.inl HB0.out
      go_enter Tryz.func135, Tryz.ntmps135
      go_wp2_with (first
           | (go_at_call 161; (with_reducible refine HG.out.mono ?_); rintro x w1 ⟨rfl, rfl⟩)
           | (go_at_call 166; (with_reducible refine (HN.out _ _ _ (by first | exact HI.out.2 _ h | simpa using HI.out.2 _ h)).mono ?_); rintro x w2 ⟨rfl, rfl⟩)
           | (go_at_call 120; (with_reducible refine (HC.out _ _ _ (by first | exact HI.out.1 _ h | exact HBN.out _ _)).mono ?_); rintro x w3 ⟨rfl, hb1⟩; replace h := h.kept hb1)
           | (go_at_call 122; (with_reducible refine (HK.out _ _ _ (by first | exact HI.out.1 _ h | exact HBN.out _ _)).mono ?_); rintro x w4 ⟨v, rfl, hown, hb2⟩))
      go_ret3
      exact retFr_nil _ _ _ hb1
     ·have hkn : ¬ (k + n = k) := by omega
      have hnn : ¬ (n = 0) := by omega
      go_enter Tryz.func135, Tryz.ntmps135
      go_wp2_with (first
           | (go_at_call 161; (with_reducible refine HG.out.mono ?_); rintro x w1 ⟨rfl, rfl⟩)
           | (go_at_call 166; (with_reducible refine (HN.out _ _ _ (by first | exact HI.out.2 _ h | simpa using HI.out.2 _ h)).mono ?_); rintro x w2 ⟨rfl, rfl⟩)
           | (go_at_call 120; (with_reducible refine (HC.out _ _ _ (by first | exact HI.out.1 _ h | exact HBN.out _ _)).mono ?_); rintro x w3 ⟨rfl, hb1⟩; replace h := h.kept hb1)
           | (go_at_call 122; (with_reducible refine (HK.out _ _ _ (by first | exact HI.out.1 _ h | exact HBN.out _ _)).mono ?_); rintro x w4 ⟨v, rfl, hown, hb2⟩))
      go_ret3
      exact retFr_nil _ _ _ hb1
 ·have hne : (e == 0) = false := by rw [beq_eq_false_iff_ne]; omega
  have hne2 : (e != 0) = true := by rw [bne_iff_ne]; omega
  have HE : Hid (frGet l = ([], 0, e)) := HV.out.trans (if_neg (by omega))
  clear HV
  rw [HE.out]
  go_enter Tryz.func135, Tryz.ntmps135
  go_wp2_with (go_at_call 161; (with_reducible refine HG.out.mono ?_); rintro x w1 ⟨rfl, rfl⟩)
  go_ret3
  exact retFr_nil _ _ _ (Below.refl _ _)
end Go.Proofs.YtohcmljigcdmbaaGreat
/- One frame; how many bytes a frame has; the frames at the beginning of bytes. Conditions: at most 2^30 bytes. -/
namespace Go.Proofs.YtohcmljigcdmbaaGreat
open Go.RowKit
theorem frGet_fit (l : Bytes) : ((frGet l).2.2 = 0 ∧ 5 ≤ (frGet l).2.1 ∧ (frGet l).2.1 ≤ l.length ∧ (frGet l).1.length ≤ 1048576 ∧ (frGet l).1.length + 5 ≤ (frGet l).2.1) ∨ ((frGet l).2.2 ≠ 0 ∧ (frGet l).2.2 ≤ 5 ∧ 0 ≤ (frGet l).2.2 ∧ (frGet l).1 = [] ∧ (frGet l).2.1 = 0) := by
 have h := getS_fit l
 unfold frGet
 split
 ·split
  ·right; simp
  ·split
   ·right; simp
   ·split
    ·left; simp; omega
    ·right; simp
 ·right; refine ⟨by assumption, ?_, ?_, rfl, rfl⟩ <;> simp only <;> omega
/-- how many bits a number has -/
def widthN (n : Nat) : Nat := if n = 0 then 0 else Nat.log2 n + 1
theorem width_le (n k : Nat) : widthN n ≤ k ↔ n < 2 ^ k := by
 unfold widthN
 split
 ·rename_i h; subst h; simp; exact Nat.pow_pos (by omega)
 ·rename_i h; rw [← Nat.log2_lt h]; omega
theorem width_shift (n k : Nat) (h : 2 ^ k ≤ n) : widthN n = k + widthN (n / 2 ^ k) := by
 have hp : 0 < 2 ^ k := Nat.pow_pos (by omega)
 have hk : ¬ widthN n ≤ k := fun g => by have := (width_le n k).1 g; omega
 apply Nat.le_antisymm
 ·rw [width_le, Nat.pow_add, Nat.mul_comm, ← Nat.div_lt_iff_lt_mul hp, ← width_le]
  exact Nat.le_refl _
 ·have : widthN (n / 2 ^ k) ≤ widthN n - k := by
   rw [width_le, Nat.div_lt_iff_lt_mul hp, ← Nat.pow_add, ← width_le]; omega
  omega
theorem width_one (n : Nat) (h : n < 2) : widthN n = n := by
 match n, h with
 | 0, _ => rfl
 | 1, _ => decide
theorem short_le (n k : Nat) (h : 0 < k) : (shortB n).length ≤ k ↔ n < 128 ^ k := by
 obtain ⟨j, rfl⟩ : ∃ j, k = j + 1 := ⟨k - 1, by omega⟩
 constructor
 ·clear h
  induction j generalizing n with
  | zero =>
    intro h
    by_cases h1 : n < 128
    ·simpa using h1
    ·rw [shortB_big n h1] at h
     have := List.length_pos_iff.2 (shortB_ne2 (n / 128))
     simp only [List.length_cons] at h; omega
  | succ j ih =>
    intro h
    by_cases h1 : n < 128
    ·exact Nat.lt_of_lt_of_le h1 (by have := Nat.pow_le_pow_right (show 0 < 128 by omega) (show 1 ≤ j + 1 + 1 by omega); simpa using this)
    ·rw [shortB_big n h1] at h
     have := ih (n / 128) (by simpa using h)
     rw [Nat.pow_succ]; omega
 ·exact shortB_len j n
theorem short_size (n : Nat) : (shortB n).length = max 1 ((widthN n + 6) / 7) := by
 have h1 := List.length_pos_iff.2 (shortB_ne2 n)
 have hk : ∀ k, 0 < k → ((shortB n).length ≤ k ↔ (widthN n + 6) / 7 ≤ k) := fun k hk => by
  rw [short_le n k hk, show 128 ^ k = 2 ^ (7 * k) by rw [Nat.pow_mul], ← width_le]; omega
 have h2 := (hk (shortB n).length h1).1 (Nat.le_refl _)
 have h3 := (hk (max 1 ((widthN n + 6) / 7)) (by omega)).2 (by omega)
 omega
theorem Width_any (n : Nat) (w : World) (hn : n < 18446744073709551616) : Calls Tryz.prog 169 #[.int .u64 n] w fun e w' => e = .returned (.int .i64 (widthN n : Nat)) ∧ w = w' := by
 obtain ⟨R, hR⟩ : ∃ R, R = widthN n := ⟨_, rfl⟩
 rw [← hR]
 have HR := Lib.hid hR
 clear hR
 go_enter Tryz.func169, Tryz.ntmps169
 go_wp2
 go_loop [0, 3, 4] (fun x o s => ∃ m q st : Nat, x = .int .u64 m ∧ o = .int .i64 q ∧ s = .int .i64 st ∧ R = q + widthN m ∧ q ≤ 64 ∧ ((st = 32 ∧ m < 18446744073709551616) ∨ (st = 16 ∧ m < 4294967296) ∨ (st = 8 ∧ m < 65536) ∨ (st = 4 ∧ m < 256) ∨ (st = 2 ∧ m < 16) ∨ (st = 1 ∧ m < 4) ∨ (st = 0 ∧ m < 2)) ∧ q + 2 * st ≤ 64) (fun _ _ s => (intOf s).toNat)
 case atStart => exact ⟨n, 0, 32, rfl, rfl, rfl, by rw [HR.out]; omega, by omega, Or.inl ⟨rfl, hn⟩, by omega⟩
 case round =>
  clear hn HR
  obtain ⟨m, q, st, rfl, rfl, rfl, hpre, hq, hst, hqs⟩ := hrel
  have HP := Lib.hid hpre
  clear hpre
  rcases hst with ⟨rfl, hm⟩ | ⟨rfl, hm⟩ | ⟨rfl, hm⟩ | ⟨rfl, hm⟩ | ⟨rfl, hm⟩ | ⟨rfl, hm⟩ | ⟨rfl, hm⟩
  ·by_cases hb : 4294967296 ≤ m
   ·have hw := width_shift m 32 hb
    have hne : (((m : Int) / 4294967296) != 0) = true := by rw [bne_iff_ne]; omega
    have hne2 : (((m : Int) / 4294967296) == 0) = false := by rw [beq_eq_false_iff_ne]; omega
    have HW : Hid (R = (q + 32) + widthN (m / 4294967296)) := by rw [Hid, HP.out, hw, show 2 ^ 32 = 4294967296 from rfl]; omega
    clear hw HP
    go_wp2
    go_round
    case rel => exact ⟨m / 4294967296, q + 32, 16, by go_num, by go_num, rfl, HW.out, by omega, Or.inr (Or.inl ⟨rfl, by omega⟩), by omega⟩
    case measure => simp [intOf]
   ·have hne : (((m : Int) / 4294967296) != 0) = false := by rw [bne_eq_false_iff_eq]; omega
    have hne2 : (((m : Int) / 4294967296) == 0) = true := by rw [beq_iff_eq]; omega
    go_wp2
    go_round
    case rel => exact ⟨m, q, 16, rfl, rfl, rfl, HP.out, by omega, Or.inr (Or.inl ⟨rfl, by omega⟩), by omega⟩
    case measure => simp [intOf]
  ·by_cases hb : 65536 ≤ m
   ·have hw := width_shift m 16 hb
    have hne : (((m : Int) / 65536) != 0) = true := by rw [bne_iff_ne]; omega
    have hne2 : (((m : Int) / 65536) == 0) = false := by rw [beq_eq_false_iff_ne]; omega
    have HW : Hid (R = (q + 16) + widthN (m / 65536)) := by rw [Hid, HP.out, hw, show 2 ^ 16 = 65536 from rfl]; omega
    clear hw HP
    go_wp2
    go_round
    case rel => exact ⟨m / 65536, q + 16, 8, by go_num, by go_num, rfl, HW.out, by omega, Or.inr (Or.inr (Or.inl ⟨rfl, by omega⟩)), by omega⟩
    case measure => simp [intOf]
   ·have hne : (((m : Int) / 65536) != 0) = false := by rw [bne_eq_false_iff_eq]; omega
    have hne2 : (((m : Int) / 65536) == 0) = true := by rw [beq_iff_eq]; omega
    go_wp2
    go_round
    case rel => exact ⟨m, q, 8, rfl, rfl, rfl, HP.out, by omega, Or.inr (Or.inr (Or.inl ⟨rfl, by omega⟩)), by omega⟩
    case measure => simp [intOf]
  ·by_cases hb : 256 ≤ m
   ·have hw := width_shift m 8 hb
    have hne : (((m : Int) / 256) != 0) = true := by rw [bne_iff_ne]; omega
    have hne2 : (((m : Int) / 256) == 0) = false := by rw [beq_eq_false_iff_ne]; omega
    have HW : Hid (R = (q + 8) + widthN (m / 256)) := by rw [Hid, HP.out, hw, show 2 ^ 8 = 256 from rfl]; omega
    clear hw HP
    go_wp2
    go_round
    case rel => exact ⟨m / 256, q + 8, 4, by go_num, by go_num, rfl, HW.out, by omega, Or.inr (Or.inr (Or.inr (Or.inl ⟨rfl, by omega⟩))), by omega⟩
    case measure => simp [intOf]
   ·have hne : (((m : Int) / 256) != 0) = false := by rw [bne_eq_false_iff_eq]; omega
    have hne2 : (((m : Int) / 256) == 0) = true := by rw [beq_iff_eq]; omega
    go_wp2
    go_round
    case rel => exact ⟨m, q, 4, rfl, rfl, rfl, HP.out, by omega, Or.inr (Or.inr (Or.inr (Or.inl ⟨rfl, by omega⟩))), by omega⟩
    case measure => simp [intOf]
  ·by_cases hb : 16 ≤ m
   ·have hw := width_shift m 4 hb
    have hne : (((m : Int) / 16) != 0) = true := by rw [bne_iff_ne]; omega
    have hne2 : (((m : Int) / 16) == 0) = false := by rw [beq_eq_false_iff_ne]; omega
    have HW : Hid (R = (q + 4) + widthN (m / 16)) := by rw [Hid, HP.out, hw, show 2 ^ 4 = 16 from rfl]; omega
    clear hw HP
    go_wp2
    go_round
    case rel => exact ⟨m / 16, q + 4, 2, by go_num, by go_num, rfl, HW.out, by omega, Or.inr (Or.inr (Or.inr (Or.inr (Or.inl ⟨rfl, by omega⟩)))), by omega⟩
    case measure => simp [intOf]
   ·have hne : (((m : Int) / 16) != 0) = false := by rw [bne_eq_false_iff_eq]; omega
    have hne2 : (((m : Int) / 16) == 0) = true := by rw [beq_iff_eq]; omega
    go_wp2
    go_round
    case rel => exact ⟨m, q, 2, rfl, rfl, rfl, HP.out, by omega, Or.inr (Or.inr (Or.inr (Or.inr (Or.inl ⟨rfl, by omega⟩)))), by omega⟩
    case measure => simp [intOf]
  ·by_cases hb : 4 ≤ m
   ·have hw := width_shift m 2 hb
    have hne : (((m : Int) / 4) != 0) = true := by rw [bne_iff_ne]; omega
    have hne2 : (((m : Int) / 4) == 0) = false := by rw [beq_eq_false_iff_ne]; omega
    have HW : Hid (R = (q + 2) + widthN (m / 4)) := by rw [Hid, HP.out, hw, show 2 ^ 2 = 4 from rfl]; omega
    clear hw HP
    go_wp2
    go_round
    case rel => exact ⟨m / 4, q + 2, 1, by go_num, by go_num, rfl, HW.out, by omega, Or.inr (Or.inr (Or.inr (Or.inr (Or.inr (Or.inl ⟨rfl, by omega⟩))))), by omega⟩
    case measure => simp [intOf]
   ·have hne : (((m : Int) / 4) != 0) = false := by rw [bne_eq_false_iff_eq]; omega
    have hne2 : (((m : Int) / 4) == 0) = true := by rw [beq_iff_eq]; omega
    go_wp2
    go_round
    case rel => exact ⟨m, q, 1, rfl, rfl, rfl, HP.out, by omega, Or.inr (Or.inr (Or.inr (Or.inr (Or.inr (Or.inl ⟨rfl, by omega⟩))))), by omega⟩
    case measure => simp [intOf]
  ·by_cases hb : 2 ≤ m
   ·have hw := width_shift m 1 hb
    have hne : (((m : Int) / 2) != 0) = true := by rw [bne_iff_ne]; omega
    have hne2 : (((m : Int) / 2) == 0) = false := by rw [beq_eq_false_iff_ne]; omega
    have HW : Hid (R = (q + 1) + widthN (m / 2)) := by rw [Hid, HP.out, hw, show 2 ^ 1 = 2 from rfl]; omega
    clear hw HP
    go_wp2
    go_round
    case rel => exact ⟨m / 2, q + 1, 0, by go_num, by go_num, rfl, HW.out, by omega, Or.inr (Or.inr (Or.inr (Or.inr (Or.inr (Or.inr (⟨rfl, by omega⟩)))))), by omega⟩
    case measure => simp [intOf]
   ·have hne : (((m : Int) / 2) != 0) = false := by rw [bne_eq_false_iff_eq]; omega
    have hne2 : (((m : Int) / 2) == 0) = true := by rw [beq_iff_eq]; omega
    go_wp2
    go_round
    case rel => exact ⟨m, q, 0, rfl, rfl, rfl, HP.out, by omega, Or.inr (Or.inr (Or.inr (Or.inr (Or.inr (Or.inr (⟨rfl, by omega⟩)))))), by omega⟩
    case measure => simp [intOf]
  ·have hw := width_one m hm
   have HW : Hid (R = q + m) := by rw [Hid, HP.out, hw]
   clear hw HP
   go_wp2
   go_ret
   exact ⟨ret_int (by rw [HW.out]; omega), rfl⟩
theorem VSize_any (n : Nat) (w : World) (hn : n < 18446744073709551616) : Calls Tryz.prog 138 #[.int .u64 n] w fun e w' => e = .returned (.int .i64 ((shortB n).length : Nat)) ∧ w = w' := by
 have HW := Lib.hid (fun (W : World) => Width_any n W hn)
 have h64 : widthN n ≤ 64 := (width_le n 64).2 hn
 have hs := short_size n
 generalize widthN n = k at *
 generalize (shortB n).length = L at *
 go_enter Tryz.func138, Tryz.ntmps138
 go_wp2_with (go_at_call 169; (with_reducible refine (HW.out _).mono ?_); rintro x w1 ⟨rfl, rfl⟩)
 all_goals
  go_ret
  exact ⟨ret_int (by omega), rfl⟩
/-- how many bytes a frame has, of a body of n bytes -/
def sizeN (n : Nat) : Nat := (shortB n).length + n + 4
theorem FSize_any (n : Nat) (w : World) (hn : n ≤ 1048576) : Calls Tryz.prog 96 #[.int .i64 n] w fun e w' => e = .returned (.int .i64 (sizeN n : Nat)) ∧ w = w' := by
 have HV := Lib.hid (fun (W : World) => VSize_any n W (by omega))
 have hl := shortB_len10 n (by omega)
 have HE : Hid (sizeN n = (shortB n).length + n + 4) := rfl
 generalize (shortB n).length = L at *
 go_enter Tryz.func96, Tryz.ntmps96
 go_wp2_with (go_at_call 138; (with_reducible refine (HV.out _).mono ?_); rintro x w1 ⟨rfl, rfl⟩)
 go_ret
 exact ⟨ret_int (by rw [HE.out]; omega), rfl⟩
end Go.Proofs.YtohcmljigcdmbaaGreat
/- The frames at the beginning of bytes. Conditions: at most 2^30 bytes. -/
namespace Go.Proofs.YtohcmljigcdmbaaGreat
open Go.RowKit
theorem own_apart {w : World} {b1 b2 : Nat} {e1 e2 : TypeId} {s1 s2 : Nat} {v1 v2 : Value} {n1 n2 : Nat} {x1 x2 : List Value} (h1 : w.ownsRow b1 e1 s1 v1 n1 x1) (h2 : w.ownsRow b2 e2 s2 v2 n2 x2) (he : e1 ≠ e2) :
 v1.ownBlock = none ∨ v1.ownBlock ≠ v2.ownBlock := by
 rcases h1.2 with ⟨rfl, -⟩ | ⟨g1, c1, cur1, rfl, -, hg1, -⟩
 ·exact Or.inl rfl
 ·refine Or.inr (fun h => ?_)
  rcases h2.2 with ⟨rfl, -⟩ | ⟨g2, c2, cur2, rfl, -, hg2, -⟩
  ·simp [Value.ownBlock] at h
  ·have hgg : g1 = g2 := by simpa [Value.ownBlock] using h
   subst hgg
   rw [hg1] at hg2
   injection hg2 with hg2
   injection hg2 with _ h4
   exact he h4
/-- the frames at the beginning of bytes: their bodies, and how many bytes they have -/
def frScan (b : Bytes) : List Bytes × Nat :=
 if h : (frGet b).2.2 = 0 then ((frGet b).1 :: (frScan (b.drop (frGet b).2.1)).1, (frGet b).2.1 + (frScan (b.drop (frGet b).2.1)).2) else ([], 0)
termination_by b.length
decreasing_by
 all_goals
  have := frGet_fit b
  simp only [List.length_drop]
  omega
theorem frScan_ok {b m : Bytes} {n : Nat} (h : frGet b = (m, n, 0)) : frScan b = (m :: (frScan (b.drop n)).1, n + (frScan (b.drop n)).2) := by
 rw [frScan, h]; simp
theorem frScan_no {b m : Bytes} {n : Nat} {e : Int} (h : frGet b = (m, n, e)) (he : e ≠ 0) : frScan b = ([], 0) := by
 rw [frScan, h]; simp [he]
def slVals (ls : List (Option Addr × Nat × Bytes)) : List Value := ls.map slOf
/-- these slices of bytes, each in memory of its own -/
def OwnAll (w : World) (base : Nat) (ls : List (Option Addr × Nat × Bytes)) : Prop := ∀ x ∈ ls, w.ownsRow base 5 1 (slOf x) x.2.2.length (byteVals x.2.2)
def RetScan (r : List Bytes × Nat) (w : World) (e : Ending) (w' : World) : Prop :=
 ∃ v ls, e = .returned (.tuple #[v, .int .i64 r.2]) ∧ w'.ownsRow w.heap.size 82 1 v ls.length (slVals ls) ∧ OwnAll w' w.heap.size ls ∧ ls.map (·.2.2) = r.1 ∧ Below w.heap.size w w'
theorem Tryz.infoSl : (Tryz.prog.info? 82).map (fun i => (i.zero, i.size, i.bytes)) = some (some (.slice none 0 0), 1, 24) := by kernel_rfl
theorem BytesIn.tail {w : World} {a : Option Addr} {l : Bytes} (h : BytesIn w a l) (i : Nat) : BytesIn w (a.map (fun x => x.add i)) (l.drop i) := by
 have := h.part i l.length
 rwa [List.take_of_length_le (by simp)] at this
theorem FrameScan_any (a : Option Addr) (cap : Nat) (l : Bytes) (w : World) (hl : l.length ≤ 1073741824) (hcap : l.length ≤ cap) (h : BytesIn w a l) :
 Calls Tryz.prog 94 #[.slice a l.length cap] w (RetScan (frScan l) w) := by
 obtain ⟨i0, hi, hz0, hz1, hz2⟩ := info_parts Tryz.infoSl
 go_enter Tryz.func94, Tryz.ntmps94
 go_wp2
 go_step3
 go_wp2
 go_step3
 go_wp2
 go_loopw [4, 5] (fun out s wr => Below w.heap.size w wr ∧ ∃ (k : Nat) (ls : List (Option Addr × Nat × Bytes)), s = .int .i64 k ∧ k ≤ l.length ∧ ls.length ≤ k ∧ wr.ownsRow w.heap.size 82 1 out ls.length (slVals ls) ∧ OwnAll wr w.heap.size ls ∧
  frScan l = (ls.map (·.2.2) ++ (frScan (l.drop k)).1, k + (frScan (l.drop k)).2)) (fun _ s _ => l.length - (intOf s).toNat)
 case atStart => exact ⟨Below.refl _ _, 0, [], rfl, Nat.zero_le _, Nat.zero_le _, World.ownsRow_nil _ _ _ _, fun x hx => by simp at hx, by simp⟩
 case round =>
  obtain ⟨hbt, k, ls, rfl, hk, hlk, hown, hall, hpre⟩ := hrel
  have hz9 := hbt.size
  have hz := hbt.size
  have hin := (h.kept hbt).tail k
  have hlen : (l.drop k).length = l.length - k := List.length_drop ..
  have hcd : (l.drop k).length ≤ cap - k := by omega
  have hg := fun (x : Option Addr) (c : Nat) (hc : (l.drop k).length ≤ c) (hx : BytesIn wr x (l.drop k)) => FrameGet_any x c (l.drop k) wr (by omega) hc hx
  have hf := frGet_fit (l.drop k)
  have hok : ∀ {m : Bytes} {n : Nat}, frGet (l.drop k) = (m, n, 0) → frScan (l.drop k) = (m :: (frScan (l.drop (k + n))).1, n + (frScan (l.drop (k + n))).2) := fun h => by have := frScan_ok h; rwa [List.drop_drop] at this
  have hno := @frScan_no (l.drop k)
  rw [hlen] at hg hf
  obtain ⟨b, n, e, hx⟩ : ∃ b n e, frGet (l.drop k) = (b, n, e) := ⟨_, _, _, rfl⟩
  rw [hx] at hg hf
  unfold RetFr at hg
  simp only at hf hg
  have hok := fun he => hok (hx.trans (congrArg (fun e => (b, n, e)) he))
  have hno := hno hx
  have HG := Lib.hid (hg _ (cap - k) (by omega) hin)
  have hin2 : BytesIn wr (if cap = k then a else a.map (fun x => x.add k)) (l.drop k) := by
   split
   ·exact Or.inl (List.drop_eq_nil_of_le (by omega))
   ·exact hin
  have HG2 := Lib.hid (hg _ (cap - k) (by omega) hin2)
  clear hin2
  have HP := Lib.hid hpre
  clear hg hx hpre
  rcases hf with ⟨rfl, h5, hn, hb1, -⟩ | ⟨he, -, -, rfl, rfl⟩
  ·have HE : Hid (frScan l = ((ls.map (·.2.2) ++ [b]) ++ (frScan (l.drop (k + n))).1, k + n + (frScan (l.drop (k + n))).2)) := by
        rw [Hid, HP.out, hok rfl]; simp [Nat.add_assoc]
   clear HP hok hno
   go_wp2_with (first
        | (go_at_call 135; (with_reducible refine HG.out.mono ?_); rintro x w1 ⟨v, rfl, hownb, hb⟩; replace hall : OwnAll w1 w.heap.size ls := fun x hx => ownsRow_below (hall x hx) hb; replace hown := ownsRow_below hown hb; replace hbt := hbt.trans (hb.mono hz); replace hz := Nat.le_trans hz hb.size; obtain ⟨ab, capb, rfl, -⟩ := own_bytes hownb)
        | (at_builtin; go_loud (refine wpList_append_own _ rfl _ _ 150 rfl w.heap.size 82 i0 (.slice none 0 0) 1 24 Tryz.underlying150 hi hz0 hz1 hz2 rfl (by decide) _ _ _ rfl (hown.alloc _) ⟨w1.heap.size, 0, none⟩ 1 1 [slOf (ab, capb, b)] rfl rfl (cell_one_new _ _ _) (by simp [Value.oneCell', slOf]) (by unfold maxLen; omega) (by omega) (by simp; omega) ?_)))
   all_goals
        intro v' w2 hown3 hgrow _
        have hb3 := (hbt.alloc hz _).grown hgrow (by simp; omega) (fun k hk => (hown.lt k hk).1)
        have hall3 : OwnAll w2 w.heap.size (ls ++ [(ab, capb, b)]) := by
         intro x hx
         rcases List.mem_append.1 hx with hx | hx
         ·exact ((hall x hx).alloc _).kept hgrow (own_apart (hall x hx) hown (by decide))
         ·simp only [List.mem_singleton] at hx
          subst hx
          exact own_low (World.ownsRow.kept (hownb.alloc _) hgrow (own_apart hownb hown (by decide))) hz9
        clear hown hall hb hownb hgrow hbt
        go_wp2
        go_roundw
        case rel => exact ⟨hb3, k + n, ls ++ [(ab, capb, b)], by go_num, by omega, by simp; omega, by simpa [slVals] using hown3, hall3, by rw [HE.out]; simp⟩
        case measure => simp [intOf] <;> omega
  ·have hne : (e == 0) = false := by rw [beq_eq_false_iff_ne]; omega
   have hne2 : (e != 0) = true := by rw [bne_iff_ne]; omega
   have HE : Hid (frScan l = (ls.map (·.2.2), k)) := by rw [Hid, HP.out, hno he]; simp
   clear HP hok hno he
   go_wp2_with (first
        | (go_at_call 135; (with_reducible refine HG2.out.mono ?_); rintro x w1 ⟨v, rfl, hownb, hb⟩; replace hall : OwnAll w1 w.heap.size ls := fun x hx => ownsRow_below (hall x hx) hb; replace hown := ownsRow_below hown hb; replace hbt := hbt.trans (hb.mono hz)))
   all_goals
        try rw [Exit.noGoto_ret]
        go_ret2
        rw [HE.out]
        exact ⟨_, ls, rfl, hown, hall, rfl, hbt⟩
end Go.Proofs.YtohcmljigcdmbaaGreat
