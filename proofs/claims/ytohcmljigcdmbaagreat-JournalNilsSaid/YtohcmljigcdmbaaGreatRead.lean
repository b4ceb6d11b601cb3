/- The reader of package pack: numbers. Conditions: at most 2^30 bytes. -/
import Derived.Test.YtohcmljigcdmbaaGreatMkB
import Derived.Test.YtohcmljigcdmbaaGreatClone
import Derived.Lib.Zigzag
import Derived.Laws.IdiomStrings
import Derived.Laws.BytesArg
import Derived.Great.BuildSlice
import Derived.Deep.RegionLaw
import Derived.Laws.ResultCell
set_option linter.unusedSimpArgs false
set_option linter.unusedVariables false
set_option linter.unnecessarySimpa false
set_option maxHeartbeats 16000000
set_option maxRecDepth 100000
namespace Go.Proofs.YtohcmljigcdmbaaGreat
open Go.RowKit
/-- bytes that were there ahead of block R -/
def BytesUnder (w : World) (R : Nat) (a : Option Addr) (l : Bytes) : Prop := l = [] ∨ ∃ A off, a = some ⟨A, off, none⟩ ∧ A < R ∧ BytesAt w A off l
theorem BytesUnder.ofIn {w : World} {R : Nat} {a : Option Addr} {l : Bytes} (h : BytesIn w a l) (hR : w.heap.size ≤ R) : BytesUnder w R a l := by
 rcases h with h | ⟨A, off, ha, hb⟩
 ·exact Or.inl h
 ·by_cases h0 : l = []
  ·exact Or.inl h0
  ·exact Or.inr ⟨A, off, ha, Nat.lt_of_lt_of_le (hb.block (List.length_pos_iff.2 h0)) hR, hb⟩
theorem BytesUnder.toIn {w : World} {R : Nat} {a : Option Addr} {l : Bytes} (h : BytesUnder w R a l) : BytesIn w a l := by
 rcases h with h | ⟨A, off, ha, _, hb⟩
 ·exact Or.inl h
 ·exact Or.inr ⟨A, off, ha, hb⟩
theorem BytesUnder.keep {w w' : World} {R : Nat} {a : Option Addr} {l : Bytes} (h : BytesUnder w R a l) (hk : ∀ k, k < R → w'.heap[k]? = w.heap[k]?) : BytesUnder w' R a l := by
 rcases h with h | ⟨A, off, ha, hA, hb⟩
 ·exact Or.inl h
 ·exact Or.inr ⟨A, off, ha, hA, fun j hj => (World.cell?_of_block (hk A hA)).trans (hb j hj)⟩
theorem BytesUnder.dropMap {w : World} {R : Nat} {a : Option Addr} {l : Bytes} (h : BytesUnder w R a l) (k : Nat) : BytesUnder w R (a.map (fun x => x.add k)) (l.drop k) := by
 rcases h with h | ⟨A, off, rfl, hA, hb⟩
 ·exact Or.inl (by rw [h]; simp)
 ·refine Or.inr ⟨A, off + k, by simp [Addr.add_mid], hA, fun j hj => ?_⟩
  have h1 : k + j < l.length := by simp at hj; omega
  have := hb (k + j) h1
  rw [← Nat.add_assoc] at this
  rw [this, List.getElem_drop]
/-- block R holds a reader -/
def RdAt (w : World) (R : Nat) (r : Rd) : Prop :=
 ∃ a cap, w.heap[R]? = some (.cells #[.slice a r.b.length cap, .int .i64 r.e] 226 (0, 0)) ∧ BytesUnder w R a r.b ∧ r.b.length ≤ cap
theorem RdAt.lt {w : World} {R : Nat} {r : Rd} (h : RdAt w R r) : R < w.heap.size := by
 obtain ⟨_, _, h, _⟩ := h
 exact lt_of_block h
theorem RdAt.keep {w w' : World} {R : Nat} {r : Rd} (h : RdAt w R r) (hk : ∀ k, k ≤ R → w'.heap[k]? = w.heap[k]?) : RdAt w' R r := by
 obtain ⟨a, cap, h1, h2, h3⟩ := h
 exact ⟨a, cap, by rw [hk R (Nat.le_refl _)]; exact h1, h2.keep (fun k h => hk k (Nat.le_of_lt h)), h3⟩
theorem RdAt.below {w w' : World} {R : Nat} {r : Rd} (h : RdAt w R r) (hb : Below w.heap.size w w') : RdAt w' R r :=
 h.keep (fun k hk => hb.block k (Nat.lt_of_le_of_lt hk h.lt))
theorem BytesUnder.set {w : World} {R o : Nat} {a : Option Addr} {l : Bytes} (h : BytesUnder w R a l) (v : Value) : BytesUnder (w.setCell ⟨R, o, none⟩ v) R a l :=
 h.keep (fun k hk => heap_setCell_other _ _ _ _ (fun e => by simp only at e; omega))
theorem RdAt.setE {w : World} {R : Nat} {r : Rd} (h : RdAt w R r) (e : Int) : RdAt (w.setCell ⟨R, 1, none⟩ (.int .i64 e)) R ⟨r.b, e⟩ := by
 obtain ⟨a, cap, h1, h2, h3⟩ := h
 exact ⟨a, cap, two_set1 h1 _, h2.set _, h3⟩
theorem RdAt.setB {w : World} {R : Nat} {r : Rd} (h : RdAt w R r) {a : Option Addr} {cap : Nat} {b : Bytes} (hb : BytesUnder w R a b) (hc : b.length ≤ cap) : RdAt (w.setCell ⟨R, 0, none⟩ (.slice a b.length cap)) R ⟨b, r.e⟩ := by
 obtain ⟨a', cap', h1, h2, h3⟩ := h
 exact ⟨a, cap, two_set0 h1 _, hb.set _, hc⟩
theorem BytesUnder.fr {w w' : World} {R : Nat} {a : Option Addr} {l : Bytes} (h : BytesUnder w R a l) (hf : Fr (isR R) w w') (hR : R < w.heap.size) : BytesUnder w' R a l :=
 h.keep (fun k hk => hf.block k (Nat.lt_trans hk hR) (by simp only [isR]; omega))
theorem RdAt.setDrop {w : World} {R : Nat} {r : Rd} (h : RdAt w R r) (he : Hid (r.e = 0)) {a : Option Addr} {cap : Nat} (k : Nat) (hb : BytesUnder w R a (r.b.drop k)) (hc : r.b.length - k ≤ cap) : RdAt (w.setCell ⟨R, 0, none⟩ (.slice a (r.b.length - k) cap)) R ⟨r.b.drop k, 0⟩ := by
 have := h.setB hb (by simpa using hc)
 rw [List.length_drop, he.out] at this
 exact this
/-- behind a reader's method -/
def RetRd (R : Nat) (r : Rd) (v : Value) (w : World) (x : Ending) (w' : World) : Prop := x = .returned v ∧ RdAt w' R r ∧ Fr (isR R) w w'
theorem may_r (R : Nat) (r : Rd) (w : World) (h : RdAt w R r) : Calls Tryz.prog 160 #[.pointer (some ⟨R, 0, none⟩)] w fun x w' => x = .returned (.bool (decide (r.e = 0))) ∧ w = w' := by
 obtain ⟨a, cap, hB, hb, hc⟩ := h
 obtain ⟨q0, q1, f0, f1⟩ := two_cell hB
 by_cases he : r.e = 0
 ·have hq : (r.e == 0) = true := beq_iff_eq.2 he
  have HE : Hid (decide (r.e = 0) = true) := decide_eq_true he
  clear he
  go_enter Tryz.func160, Tryz.ntmps160
  go_wp2
  go_ret
  exact ⟨ret_bool HE.out.symm, rfl⟩
 ·have hq : (r.e == 0) = false := beq_eq_false_iff_ne.2 he
  have HE : Hid (decide (r.e = 0) = false) := decide_eq_false he
  clear he
  go_enter Tryz.func160, Tryz.ntmps160
  go_wp2
  go_ret
  exact ⟨ret_bool HE.out.symm, rfl⟩
theorem Num_r (R : Nat) (r : Rd) (most : Nat) (w : World) (hl : r.b.length ≤ 1073741824) (hm : most < 18446744073709551616) (h : RdAt w R r) :
 Calls Tryz.prog 130 #[.pointer (some ⟨R, 0, none⟩), .int .u64 most] w (RetRd R (rNum most r).1 (.int .u64 (rNum most r).2) w) := by
 have h' := h
 obtain ⟨a, cap, hB, hb, hc⟩ := h
 obtain ⟨q0, q1, f0, f1⟩ := two_cell hB
 have hmay := may_r R r w h'
 by_cases he : r.e = 0
 ·rw [decide_eq_true he] at hmay
  have HM := Lib.hid hmay
  clear hmay
  have hd := Get_any a cap r.b w hl hb.toIn
  have hfit := getS_fit r.b
  have HV : Hid (rNum most r = if (getS r.b).2.2 = 0 then (if most < (getS r.b).1 then (⟨r.b, 3⟩, 0) else (⟨r.b.drop (getS r.b).2.1, 0⟩, (getS r.b).1)) else (⟨r.b, (getS r.b).2.2⟩, 0)) := by unfold Hid rNum; rw [if_pos he]
  obtain ⟨n, k, e, hg⟩ : ∃ n k e, getS r.b = (n, k, e) := ⟨_, _, _, rfl⟩
  rw [hg] at hd hfit HV
  simp only at hd hfit HV
  clear hg
  rw [he] at q1
  have HG := Lib.hid hd
  clear hd
  rcases hfit with ⟨rfl, hn, hk0, hkl⟩ | ⟨he2, rfl, rfl⟩
  ·by_cases hmn : most < n
   ·have HE : Hid (rNum most r = (⟨r.b, 3⟩, 0)) := by rw [Hid, HV.out, if_pos rfl, if_pos hmn]
    have HR := Lib.hid (h'.setE 3)
    clear he HV h'
    go_enter Tryz.func130, Tryz.ntmps130
    go_wp2_with (first | (go_at_call 160; (with_reducible refine HM.out.mono ?_); rintro x w1 ⟨rfl, rfl⟩) | (go_at_call 161; (with_reducible refine HG.out.mono ?_); rintro x w1 ⟨rfl, rfl⟩))
    go_ret
    rw [HE.out]
    exact ⟨rfl, HR.out, fr_set _⟩
   ·have HE : Hid (rNum most r = (⟨r.b.drop k, 0⟩, n)) := by rw [Hid, HV.out, if_pos rfl, if_neg hmn]
    have HE0 := Lib.hid he
    clear he HV
    go_enter Tryz.func130, Tryz.ntmps130
    go_wp2_with (first | (go_at_call 160; (with_reducible refine HM.out.mono ?_); rintro x w1 ⟨rfl, rfl⟩) | (go_at_call 161; (with_reducible refine HG.out.mono ?_); rintro x w1 ⟨rfl, rfl⟩))
    all_goals
     go_ret
     rw [HE.out]
     exact ⟨rfl, by first | exact h'.setDrop HE0 k (hb.dropMap k) (by omega) | exact h'.setDrop HE0 k (Or.inl (List.drop_eq_nil_of_le (by omega))) (by omega), fr_set _⟩
  ·have hne : (e == 0) = false := by rw [beq_eq_false_iff_ne]; omega
   have hne2 : (e != 0) = true := by rw [bne_iff_ne]; omega
   have HE : Hid (rNum most r = (⟨r.b, e⟩, 0)) := by rw [Hid, HV.out, if_neg (by omega)]
   have HR := Lib.hid (h'.setE e)
   clear he HV h' he2
   go_enter Tryz.func130, Tryz.ntmps130
   go_wp2_with (first | (go_at_call 160; (with_reducible refine HM.out.mono ?_); rintro x w1 ⟨rfl, rfl⟩) | (go_at_call 161; (with_reducible refine HG.out.mono ?_); rintro x w1 ⟨rfl, rfl⟩))
   go_ret
   rw [HE.out]
   exact ⟨rfl, HR.out, fr_set _⟩
 ·rw [decide_eq_false he] at hmay
  have HM := Lib.hid hmay
  clear hmay
  have HE : Hid (rNum most r = (r, 0)) := by unfold Hid rNum; rw [if_neg he]
  clear he
  go_enter Tryz.func130, Tryz.ntmps130
  go_wp2_with (go_at_call 160; (with_reducible refine HM.out.mono ?_); rintro x w1 ⟨rfl, rfl⟩)
  go_ret
  rw [HE.out]
  exact ⟨rfl, h', Fr.refl _ _⟩
theorem not_right (x : Nat) (hx : x < 9223372036854775808) : bits BinOp.xor IntKind.i64 (x : Int) (-1) = -(x : Int) - 1 := by
 have h : bits BinOp.xor IntKind.i64 (x : Int) (-1) = bits BinOp.xor IntKind.i64 (-1) (x : Int) := by
  show IntKind.i64.wrap ((BitVec.ofInt 64 (x : Int) ^^^ BitVec.ofInt 64 (-1)).toNat : Int) = IntKind.i64.wrap ((BitVec.ofInt 64 (-1) ^^^ BitVec.ofInt 64 (x : Int)).toNat : Int)
  rw [BitVec.xor_comm]
 rw [h, Lib.i64_not x hx]
theorem xor_zero (x : Nat) (hx : x < 9223372036854775808) : bits BinOp.xor IntKind.i64 (x : Int) 0 = (x : Int) := by
 show IntKind.i64.wrap ((BitVec.ofInt 64 (x : Int) ^^^ BitVec.ofInt 64 0).toNat : Int) = _
 have h2 : (BitVec.ofInt 64 (x : Int)).toNat = x := by
  rw [BitVec.ofInt_natCast, BitVec.toNat_ofNat]; exact Nat.mod_eq_of_lt (by omega)
 have h1 : (BitVec.ofInt 64 0) = 0#64 := by decide
 rw [h1, BitVec.xor_zero, h2, IntKind.wrap_i64]
 omega
theorem unzig_fit (n : Nat) (hn : n < 18446744073709551616) : -9223372036854775808 ≤ unzig n ∧ unzig n ≤ 9223372036854775807 := by
 unfold unzig
 split <;> omega
theorem Unfold_any (n : Nat) (w : World) (hn : n < 18446744073709551616) : Calls Tryz.prog 219 #[.int .u64 n] w fun x w' => x = .returned (.int .i64 (unzig n)) ∧ w = w' := by
 have h1 := Lib.u64_and1 (n : Int) (by omega) (by omega)
 obtain ⟨m, hm⟩ : ∃ m : Nat, m = n / 2 := ⟨_, rfl⟩
 have hmn : (n : Int) / 2 = (m : Int) := by omega
 have hmb : m < 9223372036854775808 := by omega
 have hw := IntWalk.i64_in (m : Int) (by omega)
 by_cases hp : n % 2 = 0
 ·have h2 : (n : Int) % 2 = 0 := by omega
  have h3 := xor_zero m hmb
  have HE : Hid (unzig n = (m : Int)) := by unfold Hid unzig; rw [if_pos hp, hm]
  rw [h2] at h1
  clear hp hm h2
  go_enter Tryz.func219, Tryz.ntmps219
  go_wp2
  go_ret
  exact ⟨ret_int (by rw [HE.out]), rfl⟩
 ·have h2 : (n : Int) % 2 = 1 := by omega
  have h3 := not_right m hmb
  have HE : Hid (unzig n = -(m : Int) - 1) := by unfold Hid unzig; rw [if_neg hp, hm]
  rw [h2] at h1
  clear hp hm h2
  go_enter Tryz.func219, Tryz.ntmps219
  go_wp2
  go_ret
  exact ⟨ret_int (by rw [HE.out]), rfl⟩
theorem GetInt_any (a : Option Addr) (cap : Nat) (l : Bytes) (w : World) (hl : l.length ≤ 1073741824) (h : BytesIn w a l) :
 Calls Tryz.prog 209 #[.slice a l.length cap] w fun x w' => x = .returned (.tuple #[.int .i64 (unzig (getS l).1), .int .i64 (getS l).2.1, .int .i64 (getS l).2.2]) ∧ w = w' := by
 have hg := Get_any a cap l w hl h
 have hfit := getS_fit l
 have hlt : (getS l).1 < 18446744073709551616 := by rcases hfit with h | h <;> omega
 generalize getS l = g at hg hlt ⊢
 obtain ⟨n, k, e⟩ := g
 simp only at hg hlt ⊢
 have HG := Lib.hid hg
 have HU := Lib.hid (fun (W : World) => Unfold_any n W hlt)
 clear hg hfit
 go_enter Tryz.func209, Tryz.ntmps209
 go_wp2_with (first | (go_at_call 161; (with_reducible refine HG.out.mono ?_); rintro x w1 ⟨rfl, rfl⟩) | (go_at_call 219; (with_reducible refine (HU.out _).mono ?_); rintro x w1 ⟨rfl, rfl⟩))
 go_ret3
 exact ⟨rfl, rfl⟩
theorem Err_r (R : Nat) (r : Rd) (w : World) (h : RdAt w R r) : Calls Tryz.prog 162 #[.pointer (some ⟨R, 0, none⟩)] w fun x w' => x = .returned (.int .i64 r.e) ∧ w = w' := by
 obtain ⟨a, cap, hB, hb, hc⟩ := h
 obtain ⟨q0, q1, f0, f1⟩ := two_cell hB
 go_enter Tryz.func162, Tryz.ntmps162
 go_wp2
 go_ret
 exact ⟨rfl, rfl⟩
theorem End_r (R : Nat) (r : Rd) (w : World) (h : RdAt w R r) (hl : r.b.length ≤ 1073741824) : Calls Tryz.prog 133 #[.pointer (some ⟨R, 0, none⟩)] w fun x w' => x = .returned (.int .i64 (rEnd r)) ∧ w = w' := by
 have HE := Lib.hid (fun (W : World) (h : RdAt W R r) => Err_r R r W h)
 have h' := h
 obtain ⟨a, cap, hB, hb, hc⟩ := h
 obtain ⟨q0, q1, f0, f1⟩ := two_cell hB
 by_cases he : r.e = 0
 ·have hq : (r.e != 0) = false := by rw [bne_eq_false_iff_eq]; exact he
  have HV : Hid (rEnd r = if 0 < r.b.length then 1 else 0) := by unfold Hid rEnd; rw [if_pos he]
  clear he
  by_cases h0 : 0 < r.b.length
  ·have HW : Hid (rEnd r = 1) := by rw [Hid, HV.out, if_pos h0]
   go_enter Tryz.func133, Tryz.ntmps133
   go_wp2_with (go_at_call 162; (with_reducible refine (HE.out _ h').mono ?_); rintro x w1 ⟨rfl, rfl⟩)
   go_ret
   exact ⟨ret_int HW.out.symm, rfl⟩
  ·have HW : Hid (rEnd r = 0) := by rw [Hid, HV.out, if_neg h0]
   have hd : decide (0 < r.b.length) = false := decide_eq_false h0
   go_enter Tryz.func133, Tryz.ntmps133
   go_wp2_with (go_at_call 162; (with_reducible refine (HE.out _ h').mono ?_); rintro x w1 ⟨rfl, rfl⟩)
   go_ret
   exact ⟨ret_int HW.out.symm, rfl⟩
 ·have hq : (r.e != 0) = true := by rw [bne_iff_ne]; exact he
  have HW : Hid (rEnd r = r.e) := by unfold Hid rEnd; rw [if_neg he]
  clear he
  go_enter Tryz.func133, Tryz.ntmps133
  go_wp2_with (go_at_call 162; (with_reducible refine (HE.out _ h').mono ?_); rintro x w1 ⟨rfl, rfl⟩)
  go_ret
  exact ⟨ret_int HW.out.symm, rfl⟩
theorem Fail_r (R : Nat) (r : Rd) (e : Int) (w : World) (h : RdAt w R r) : Calls Tryz.prog 136 #[.pointer (some ⟨R, 0, none⟩), .int .i64 e] w (RetRd R (rFail r e) (.tuple #[]) w) := by
 have h' := h
 obtain ⟨a, cap, hB, hb, hc⟩ := h
 obtain ⟨q0, q1, f0, f1⟩ := two_cell hB
 by_cases he : r.e = 0
 ·have hq : (r.e == 0) = true := beq_iff_eq.2 he
  have HV : Hid (rFail r e = ⟨r.b, e⟩) := by unfold Hid rFail; rw [if_pos he]
  have HR := Lib.hid (h'.setE e)
  clear he
  go_enter Tryz.func136, Tryz.ntmps136
  go_wp2
  go_end0
  rw [HV.out]
  exact ⟨rfl, HR.out, fr_set _⟩
 ·have hq : (r.e == 0) = false := beq_eq_false_iff_ne.2 he
  have HV : Hid (rFail r e = r) := by unfold Hid rFail; rw [if_neg he]
  clear he
  go_enter Tryz.func136, Tryz.ntmps136
  go_wp2
  go_end0
  rw [HV.out]
  exact ⟨rfl, h', Fr.refl _ _⟩
/-- a reader, made -/
theorem packRead_any (a : Option Addr) (cap : Nat) (l : Bytes) (w : World) (h : BytesIn w a l) (hc : l.length ≤ cap) :
 Calls Tryz.prog 129 #[.slice a l.length cap] w fun x w' => x = .returned (.pointer (some ⟨w.heap.size, 0, none⟩)) ∧ RdAt w' w.heap.size ⟨l, 0⟩ ∧ Below w.heap.size w w' := by
 go_enter Tryz.func129, Tryz.ntmps129
 go_wp2
 go_ret
 refine ⟨rfl, ⟨a, cap, heap_alloc_last w _, (BytesUnder.ofIn h (Nat.le_refl _)).keep (fun k hk => Below.heap_alloc w _ k hk), hc⟩, by go_grown⟩
theorem Int_r (R : Nat) (r : Rd) (most : Int) (w : World) (hl : r.b.length ≤ 1073741824) (hm0 : 0 < most) (hm : most ≤ 4398046511104) (h : RdAt w R r) :
 Calls Tryz.prog 187 #[.pointer (some ⟨R, 0, none⟩), .int .i64 most] w (RetRd R (rInt most r).1 (.int .i64 (rInt most r).2) w) := by
 have h' := h
 obtain ⟨a, cap, hB, hb, hc⟩ := h
 obtain ⟨q0, q1, f0, f1⟩ := two_cell hB
 have hmay := may_r R r w h'
 by_cases he : r.e = 0
 ·rw [decide_eq_true he] at hmay
  have HM := Lib.hid hmay
  clear hmay
  have hd := GetInt_any a cap r.b w hl hb.toIn
  have hfit := getS_fit r.b
  have HV : Hid (rInt most r = if (getS r.b).2.2 = 0 then (if max most 0 < unzig (getS r.b).1 ∨ unzig (getS r.b).1 < - max most 0 then (⟨r.b, 3⟩, 0) else (⟨r.b.drop (getS r.b).2.1, 0⟩, unzig (getS r.b).1)) else (⟨r.b, (getS r.b).2.2⟩, 0)) := by unfold Hid rInt; rw [if_pos he]
  have hmx : max most 0 = most := by omega
  rw [hmx] at HV
  obtain ⟨n, k, e, hg⟩ : ∃ n k e, getS r.b = (n, k, e) := ⟨_, _, _, rfl⟩
  rw [hg] at hd hfit HV
  simp only at hd hfit HV
  have HX := Lib.hid hmx
  clear hg hmx
  have hu : n < 18446744073709551616 → -9223372036854775808 ≤ unzig n ∧ unzig n ≤ 9223372036854775807 := unzig_fit n
  have hu0 : n < 18446744073709551616 := by rcases hfit with h | h <;> omega
  obtain ⟨hu1, hu2⟩ := hu hu0
  clear hu
  generalize unzig n = u at hd HV hu1 hu2
  rw [he] at q1
  have HG := Lib.hid hd
  clear hd
  rcases hfit with ⟨rfl, hn, hk0, hkl⟩ | ⟨he2, rfl, rfl⟩
  ·by_cases hmn : most < u
   ·have HE : Hid (rInt most r = (⟨r.b, 3⟩, 0)) := by rw [Hid, HV.out, if_pos rfl, if_pos (Or.inl hmn)]
    have HR := Lib.hid (h'.setE 3)
    clear he HV h'
    go_enter Tryz.func187, Tryz.ntmps187
    go_wp2_with (first | (go_at_call 160; (with_reducible refine HM.out.mono ?_); rintro x w1 ⟨rfl, rfl⟩) | (go_at_call 209; (with_reducible refine HG.out.mono ?_); rintro x w1 ⟨rfl, rfl⟩))
    go_ret
    rw [HE.out]
    exact ⟨rfl, HR.out, fr_set _⟩
   ·have hd1 : decide (most < u) = false := decide_eq_false hmn
    by_cases hmn2 : u < -most
    ·have HE : Hid (rInt most r = (⟨r.b, 3⟩, 0)) := by rw [Hid, HV.out, if_pos rfl, if_pos (Or.inr hmn2)]
     have HR := Lib.hid (h'.setE 3)
     clear he HV h'
     go_enter Tryz.func187, Tryz.ntmps187
     go_wp2_with (first | (go_at_call 160; (with_reducible refine HM.out.mono ?_); rintro x w1 ⟨rfl, rfl⟩) | (go_at_call 209; (with_reducible refine HG.out.mono ?_); rintro x w1 ⟨rfl, rfl⟩))
     go_ret
     rw [HE.out]
     exact ⟨rfl, HR.out, fr_set _⟩
    ·have hd2 : decide (u < -most) = false := decide_eq_false hmn2
     have HE : Hid (rInt most r = (⟨r.b.drop k, 0⟩, u)) := by rw [Hid, HV.out, if_pos rfl, if_neg (by omega)]
     have HE0 := Lib.hid he
     clear he HV
     go_enter Tryz.func187, Tryz.ntmps187
     go_wp2_with (first | (go_at_call 160; (with_reducible refine HM.out.mono ?_); rintro x w1 ⟨rfl, rfl⟩) | (go_at_call 209; (with_reducible refine HG.out.mono ?_); rintro x w1 ⟨rfl, rfl⟩))
     all_goals
      go_ret
      rw [HE.out]
      exact ⟨rfl, by first | exact h'.setDrop HE0 k (hb.dropMap k) (by omega) | exact h'.setDrop HE0 k (Or.inl (List.drop_eq_nil_of_le (by omega))) (by omega), fr_set _⟩
  ·have hne : (e == 0) = false := by rw [beq_eq_false_iff_ne]; omega
   have hne2 : (e != 0) = true := by rw [bne_iff_ne]; omega
   have HE : Hid (rInt most r = (⟨r.b, e⟩, 0)) := by rw [Hid, HV.out, if_neg (by omega)]
   have HR := Lib.hid (h'.setE e)
   clear he HV h' he2
   go_enter Tryz.func187, Tryz.ntmps187
   go_wp2_with (first | (go_at_call 160; (with_reducible refine HM.out.mono ?_); rintro x w1 ⟨rfl, rfl⟩) | (go_at_call 209; (with_reducible refine HG.out.mono ?_); rintro x w1 ⟨rfl, rfl⟩))
   go_ret
   rw [HE.out]
   exact ⟨rfl, HR.out, fr_set _⟩
 ·rw [decide_eq_false he] at hmay
  have HM := Lib.hid hmay
  clear hmay
  have HE : Hid (rInt most r = (r, 0)) := by unfold Hid rInt; rw [if_neg he]
  clear he
  go_enter Tryz.func187, Tryz.ntmps187
  go_wp2_with (go_at_call 160; (with_reducible refine HM.out.mono ?_); rintro x w1 ⟨rfl, rfl⟩)
  go_ret
  rw [HE.out]
  exact ⟨rfl, h', Fr.refl _ _⟩
theorem conv_bytes {w : World} {a : Option Addr} {l : Bytes} (h : BytesIn w a l) (n cap : Nat) (hn : n ≤ l.length) : (convert 82 9 (.slice a n cap)).run Tryz.prog w = .ok (.string (mkS (l.take n))) w := by
 have hlen : (l.take n).length = n := by simp; omega
 cases a with
 | none =>
   have hl : l = [] := by
    rcases h with h | ⟨_, _, h, _⟩
    ·exact h
    ·cases h
   subst hl
   rw [List.take_nil]
   exact run_convert_bytes_nil w 82 5 Tryz.underlying82 Tryz.underlying5 n cap 9 Tryz.underlying9
 | some ad =>
   have := run_convert_bytes_back (P := Tryz.prog) w 82 9 5 ad cap (l.take n) Tryz.underlying82 Tryz.underlying5 Tryz.underlying9 (fun j hj => by
    rcases h with h | ⟨A, off, h, hb⟩
    ·subst h; simp at hj
    ·cases h
     rw [Addr.add_mid, hb j (by simp at hj; omega)]
     simp)
   rw [hlen] at this
   exact this
theorem Text_r (R : Nat) (r : Rd) (most : Nat) (w : World) (hl : r.b.length ≤ 1073741824) (hm : most ≤ 1073741824) (h : RdAt w R r) :
 Calls Tryz.prog 132 #[.pointer (some ⟨R, 0, none⟩), .int .i64 most] w (RetRd R (rText most r).1 (.string (mkS (rText most r).2)) w) := by
 have h' := h
 obtain ⟨a, cap, hB, hb, hc⟩ := h
 obtain ⟨q0, q1, f0, f1⟩ := two_cell hB
 have hmay := may_r R r w h'
 by_cases he : r.e = 0
 ·rw [decide_eq_true he] at hmay
  have HM := Lib.hid hmay
  clear hmay
  have hnum := Num_r R r most w hl (by omega) h'
  have hfit := rNum_fit most r
  have HV : Hid (rText most r = if (rNum most r).1.e = 0 then (if (rNum most r).1.b.length < (rNum most r).2 then (⟨r.b, 2⟩, []) else (⟨(rNum most r).1.b.drop (rNum most r).2, 0⟩, (rNum most r).1.b.take (rNum most r).2)) else ((rNum most r).1, [])) := by unfold Hid rText; rw [if_pos he]
  obtain ⟨b1, e1, n, hg⟩ : ∃ b1 e1 n, rNum most r = (⟨b1, e1⟩, n) := ⟨_, _, _, rfl⟩
  rw [hg] at hnum hfit HV
  simp only at hnum hfit HV
  obtain ⟨hfb, hfn⟩ := hfit
  have hmx : max (most : Int) 0 = (most : Int) := by omega
  have HN := Lib.hid hnum
  have HE0 := Lib.hid he
  clear hnum hg he
  by_cases he1 : e1 = 0
  ·subst he1
   by_cases hbn : b1.length < n
   ·have HE : Hid (rText most r = (⟨r.b, 2⟩, [])) := by rw [Hid, HV.out, if_pos rfl, if_pos hbn]
    clear HV
    go_enter Tryz.func132, Tryz.ntmps132
    go_wp2_with (first
     | (go_at_call 160; (with_reducible refine HM.out.mono ?_); rintro x w1 ⟨rfl, rfl⟩)
     | (go_at_call 130; (with_reducible refine HN.out.mono ?_); rintro x w1 ⟨rfl, hR1, hF1⟩; have hR1' := hR1; obtain ⟨a1, cap1, hB1, hb1, hc1⟩ := hR1; obtain ⟨p0, p1, g0, g1⟩ := two_cell hB1))
    go_ret
    rw [HE.out]
    have hbw := hb.fr hF1 h'.lt
    exact ⟨rfl, (hR1'.setB hbw hc).setE 2, (hF1.again (fr_set _)).again (fr_set _)⟩
   ·have hd : decide (b1.length < n) = false := decide_eq_false hbn
    have HE : Hid (rText most r = (⟨b1.drop n, 0⟩, b1.take n)) := by rw [Hid, HV.out, if_pos rfl, if_neg hbn]
    clear HV
    go_enter Tryz.func132, Tryz.ntmps132
    go_wp2_with (first
     | (go_at_call 160; (with_reducible refine HM.out.mono ?_); rintro x w1 ⟨rfl, rfl⟩)
     | (go_at_call 130; (with_reducible refine HN.out.mono ?_); rintro x w1 ⟨rfl, hR1, hF1⟩; have hR1' := hR1; obtain ⟨a1, cap1, hB1, hb1, hc1⟩ := hR1; simp only at hB1 hb1 hc1; obtain ⟨p0, p1, g0, g1⟩ := two_cell hB1; have hcv := fun (c : Nat) => conv_bytes hb1.toIn n c (by omega)))
    all_goals
     go_ret
     rw [HE.out]
     exact ⟨rfl, by first | exact hR1'.setDrop (show Hid ((⟨b1, 0⟩ : Rd).e = 0) from rfl) n (hb1.dropMap n) (by simp only; omega) | exact hR1'.setDrop (show Hid ((⟨b1, 0⟩ : Rd).e = 0) from rfl) n (Or.inl (List.drop_eq_nil_of_le (by simp only; omega))) (by simp only; omega), hF1.again (fr_set _)⟩
  ·have hne : (e1 != 0) = true := by rw [bne_iff_ne]; exact he1
   have HE : Hid (rText most r = (⟨b1, e1⟩, [])) := by rw [Hid, HV.out, if_neg he1]
   clear HV he1
   go_enter Tryz.func132, Tryz.ntmps132
   go_wp2_with (first
      | (go_at_call 160; (with_reducible refine HM.out.mono ?_); rintro x w1 ⟨rfl, rfl⟩)
      | (go_at_call 130; (with_reducible refine HN.out.mono ?_); rintro x w1 ⟨rfl, hR1, hF1⟩; have hR1' := hR1; obtain ⟨a1, cap1, hB1, hb1, hc1⟩ := hR1; obtain ⟨p0, p1, g0, g1⟩ := two_cell hB1))
   go_ret
   rw [HE.out]
   exact ⟨rfl, hR1', hF1⟩
 ·rw [decide_eq_false he] at hmay
  have HM := Lib.hid hmay
  clear hmay
  have HE : Hid (rText most r = (r, [])) := by unfold Hid rText; rw [if_neg he]
  clear he
  go_enter Tryz.func132, Tryz.ntmps132
  go_wp2_with (go_at_call 160; (with_reducible refine HM.out.mono ?_); rintro x w1 ⟨rfl, rfl⟩)
  go_ret
  rw [HE.out]
  exact ⟨rfl, h', Fr.refl _ _⟩
theorem headD_zero {l : Bytes} (h : 0 < l.length) : l.headD 0 = l[0] := by
 cases l with
 | nil => simp at h
 | cons x t => simp
/-- flags in memory of the call's own, or none -/
def FlagsIn (w w' : World) (v : Value) (fl : List Bool) : Prop := (fl = [] ∧ v = .slice none 0 0) ∨ ∃ B, v = .slice (some ⟨B, 0, none⟩) fl.length fl.length ∧ BoolsAt w' B fl ∧ w.heap.size ≤ B ∧ B < w'.heap.size
def RetFl (R : Nat) (r : Rd) (fl : List Bool) (w : World) (x : Ending) (w' : World) : Prop := ∃ v, x = .returned v ∧ FlagsIn w w' v fl ∧ RdAt w' R r ∧ Fr (isR R) w w'
theorem Tryz.infoBool : (Tryz.prog.info? 4).map (fun i => (i.zero, i.size, i.bytes)) = some (some (.bool false), 1, 1) := by kernel_rfl
theorem make5 (W : World) : (Instr.makeSlice 214 (.int .i64 5) (.int .i64 5)).run Tryz.prog W = .ok (.slice (some ⟨W.heap.size, 0, none⟩) 5 5) (W.alloc (.cells #[.bool false, .bool false, .bool false, .bool false, .bool false] 4)) := by
 obtain ⟨i0, hi, hz0, hz1, hz2⟩ := info_parts Tryz.infoBool
 have := run_make (P := Tryz.prog) W 214 4 i0 (.bool false) Tryz.underlying214 hi hz0 .i64 .i64 5 5 (by omega) (by omega) (by rw [hz2]; omega) (by omega)
 rw [this, hz1]
 have h5 : madeCells (Value.bool false).cells ((5 : Int).toNat * 1) = #[.bool false, .bool false, .bool false, .bool false, .bool false] := by kernel_rfl
 rw [h5]
 rfl
theorem bit1_fin : ∀ x : Fin 256, (bits BinOp.and IntKind.u8 ((x.val : Nat) : Int) 1 == 1) = decide (x.val % 2 = 1) := by decide +kernel
theorem bit1 (x : Nat) (h : x < 256) : (bits BinOp.and IntKind.u8 (x : Int) 1 == 1) = decide (x % 2 = 1) := bit1_fin ⟨x, h⟩
/-- the first k flags, the others not yet -/
def upd (c k : Nat) : Array Value := (((bits5 c).take k).map Value.bool ++ List.replicate (5 - k) (Value.bool false)).toArray
theorem Flags_r (R : Nat) (r : Rd) (w : World) (hl : r.b.length ≤ 1073741824) (h : RdAt w R r) :
 Calls Tryz.prog 167 #[.pointer (some ⟨R, 0, none⟩), .int .i64 5] w (RetFl R (rFlags r).1 (rFlags r).2 w) := by
 have h' := h
 obtain ⟨a, cap, hB, hb, hc⟩ := h
 obtain ⟨q0, q1, f0, f1⟩ := two_cell hB
 have hmay := may_r R r w h'
 by_cases he : r.e = 0
 ·rw [decide_eq_true he] at hmay
  have HM := Lib.hid hmay
  clear hmay
  rw [he] at q1
  have HV : Hid (rFlags r = if r.b = [] then (⟨r.b, 2⟩, []) else if (r.b.headD 0).toNat < 32 then (⟨r.b.drop 1, 0⟩, bits5 (r.b.headD 0).toNat) else (⟨r.b, 1⟩, [])) := by unfold Hid rFlags; rw [if_pos he]
  have HE0 := Lib.hid he
  clear he
  by_cases hn : r.b = []
  ·have hq : ((r.b.length : Int) == 0) = true := by rw [hn]; rfl
   have HE : Hid (rFlags r = (⟨r.b, 2⟩, [])) := by rw [Hid, HV.out, if_pos hn]
   have HR := Lib.hid (h'.setE 2)
   clear hn HV
   go_enter Tryz.func167, Tryz.ntmps167
   go_wp2_with (go_at_call 160; (with_reducible refine HM.out.mono ?_); rintro x w1 ⟨rfl, rfl⟩)
   go_ret
   rw [HE.out]
   exact ⟨_, rfl, Or.inl ⟨rfl, rfl⟩, HR.out, fr_set _⟩
  ·have hpos : 0 < r.b.length := List.length_pos_iff.2 hn
   have hq : ((r.b.length : Int) == 0) = false := by rw [beq_eq_false_iff_ne]; omega
   rcases hb with hb | ⟨A, off, rfl, hAR, hba⟩
   ·exact absurd hb hn
   have hA : A ≠ R := by omega
   have c0 := hba 0 hpos
   have hh : r.b.headD 0 = r.b[0] := headD_zero hpos
   rw [hh] at HV
   obtain ⟨c, hcc⟩ : ∃ c, c = r.b[0] := ⟨_, rfl⟩
   rw [← hcc] at HV c0
   rw [Nat.add_zero] at c0
   have hcl := c.toNat_lt
   clear hcc hh
   by_cases h32 : c.toNat < 32
   ·have HE : Hid (rFlags r = (⟨r.b.drop 1, 0⟩, bits5 c.toNat)) := by rw [Hid, HV.out, if_neg hn, if_pos h32]
    have hq32 : ((c.toNat : Int) / 32 != 0) = false := by rw [bne_eq_false_iff_eq]; omega
    have hmk := make5
    clear hn HV
    go_enter Tryz.func167, Tryz.ntmps167
    go_wp2_with (go_at_call 160; (with_reducible refine HM.out.mono ?_); rintro x w1 ⟨rfl, rfl⟩)
    go_loopw [53] (fun i wr => ∃ k : Nat, k ≤ 5 ∧ i = .int .i64 k ∧ Below w.heap.size w wr ∧ w.heap.size < wr.heap.size ∧ wr.heap[w.heap.size]? = some (.cells (upd c.toNat k) 4 (0, 0))) (fun i _ => 5 - (intOf i).toNat)
    case atStart => exact ⟨0, by omega, rfl, (Below.refl _ _).alloc (Nat.le_refl _) _, by simp, heap_alloc_last w _⟩
    case round =>
     obtain ⟨k, hk, rfl, hbw, hsz, hU⟩ := hrel
     have p0 := kept hbw q0
     have p1 := kept hbw q1
     have d0 := kept hbw c0
     by_cases hlt : k < 5
     ·have hk5 : k = 0 ∨ k = 1 ∨ k = 2 ∨ k = 3 ∨ k = 4 := by omega
      clear hlt hk
      rcases hk5 with rfl | rfl | rfl | rfl | rfl
      ·have hc1 : wr.cell? ⟨w.heap.size, 0, none⟩ = some (.bool false) := by simp [World.cell?, hU, upd, bits5]
       have hf1 : wr.frozen? ⟨w.heap.size, 0, none⟩ = false := by simp [World.frozen?, hU]
       have hbit : (bits BinOp.and IntKind.u8 (((c.toNat : Nat) : Int)) 1 == 1) = decide (c.toNat % 2 = 1) := bit1 c.toNat (by omega)
       have HU : Hid ((wr.setCell ⟨w.heap.size, 0, none⟩ (.bool (decide (c.toNat % 2 = 1)))).heap[w.heap.size]? = some (.cells (upd c.toNat 1) 4 (0, 0))) := by simp [Hid, World.setCell, Array.getElem?_modify, hU, upd, bits5]
       go_wp2
       go_roundw
       case rel => exact ⟨1, by omega, rfl, hbw.setCell (by simp) _, by simpa using hsz, HU.out⟩
       case measure => simp [intOf]
      ·have hc1 : wr.cell? ⟨w.heap.size, 1, none⟩ = some (.bool false) := by simp [World.cell?, hU, upd, bits5]
       have hf1 : wr.frozen? ⟨w.heap.size, 1, none⟩ = false := by simp [World.frozen?, hU]
       have hbit : (bits BinOp.and IntKind.u8 (((c.toNat : Nat) : Int) / 2) 1 == 1) = decide (c.toNat / 2 % 2 = 1) := by have h := bit1 (c.toNat / 2) (by omega); rw [show ((c.toNat / 2 : Nat) : Int) = (c.toNat : Int) / 2 by omega] at h; exact h
       have HU : Hid ((wr.setCell ⟨w.heap.size, 1, none⟩ (.bool (decide (c.toNat / 2 % 2 = 1)))).heap[w.heap.size]? = some (.cells (upd c.toNat 2) 4 (0, 0))) := by simp [Hid, World.setCell, Array.getElem?_modify, hU, upd, bits5]
       go_wp2
       go_roundw
       case rel => exact ⟨2, by omega, rfl, hbw.setCell (by simp) _, by simpa using hsz, HU.out⟩
       case measure => simp [intOf]
      ·have hc1 : wr.cell? ⟨w.heap.size, 2, none⟩ = some (.bool false) := by simp [World.cell?, hU, upd, bits5]
       have hf1 : wr.frozen? ⟨w.heap.size, 2, none⟩ = false := by simp [World.frozen?, hU]
       have hbit : (bits BinOp.and IntKind.u8 (((c.toNat : Nat) : Int) / 4) 1 == 1) = decide (c.toNat / 4 % 2 = 1) := by have h := bit1 (c.toNat / 4) (by omega); rw [show ((c.toNat / 4 : Nat) : Int) = (c.toNat : Int) / 4 by omega] at h; exact h
       have HU : Hid ((wr.setCell ⟨w.heap.size, 2, none⟩ (.bool (decide (c.toNat / 4 % 2 = 1)))).heap[w.heap.size]? = some (.cells (upd c.toNat 3) 4 (0, 0))) := by simp [Hid, World.setCell, Array.getElem?_modify, hU, upd, bits5]
       go_wp2
       go_roundw
       case rel => exact ⟨3, by omega, rfl, hbw.setCell (by simp) _, by simpa using hsz, HU.out⟩
       case measure => simp [intOf]
      ·have hc1 : wr.cell? ⟨w.heap.size, 3, none⟩ = some (.bool false) := by simp [World.cell?, hU, upd, bits5]
       have hf1 : wr.frozen? ⟨w.heap.size, 3, none⟩ = false := by simp [World.frozen?, hU]
       have hbit : (bits BinOp.and IntKind.u8 (((c.toNat : Nat) : Int) / 8) 1 == 1) = decide (c.toNat / 8 % 2 = 1) := by have h := bit1 (c.toNat / 8) (by omega); rw [show ((c.toNat / 8 : Nat) : Int) = (c.toNat : Int) / 8 by omega] at h; exact h
       have HU : Hid ((wr.setCell ⟨w.heap.size, 3, none⟩ (.bool (decide (c.toNat / 8 % 2 = 1)))).heap[w.heap.size]? = some (.cells (upd c.toNat 4) 4 (0, 0))) := by simp [Hid, World.setCell, Array.getElem?_modify, hU, upd, bits5]
       go_wp2
       go_roundw
       case rel => exact ⟨4, by omega, rfl, hbw.setCell (by simp) _, by simpa using hsz, HU.out⟩
       case measure => simp [intOf]
      ·have hc1 : wr.cell? ⟨w.heap.size, 4, none⟩ = some (.bool false) := by simp [World.cell?, hU, upd, bits5]
       have hf1 : wr.frozen? ⟨w.heap.size, 4, none⟩ = false := by simp [World.frozen?, hU]
       have hbit : (bits BinOp.and IntKind.u8 (((c.toNat : Nat) : Int) / 16) 1 == 1) = decide (c.toNat / 16 % 2 = 1) := by have h := bit1 (c.toNat / 16) (by omega); rw [show ((c.toNat / 16 : Nat) : Int) = (c.toNat : Int) / 16 by omega] at h; exact h
       have HU : Hid ((wr.setCell ⟨w.heap.size, 4, none⟩ (.bool (decide (c.toNat / 16 % 2 = 1)))).heap[w.heap.size]? = some (.cells (upd c.toNat 5) 4 (0, 0))) := by simp [Hid, World.setCell, Array.getElem?_modify, hU, upd, bits5]
       go_wp2
       go_roundw
       case rel => exact ⟨5, by omega, rfl, hbw.setCell (by simp) _, by simpa using hsz, HU.out⟩
       case measure => simp [intOf]
     ·have hk5 : k = 5 := by omega
      subst hk5
      have hRl := h'.lt
      have g0 : wr.frozen? ⟨R, 0, none⟩ = false := (hbw.frozen (p := ⟨R, 0, none⟩) hRl).trans f0
      have hRw := h'.below hbw
      have hbb : BytesUnder wr R (some ⟨A, off, none⟩) r.b := BytesUnder.keep (Or.inr ⟨A, off, rfl, hAR, hba⟩) (fun k hk => hbw.block k (Nat.lt_trans hk hRl))
      have hBo : BoolsAt wr w.heap.size (bits5 c.toNat) := by
       intro j hj
       have hj5 : j < 5 := hj
       simp only [World.cell?, hU]
       have e : upd c.toNat 5 = ((bits5 c.toNat).map Value.bool).toArray := by simp [upd, bits5]
       rw [e]
       simp [hj]
      go_wp2
      all_goals
       go_ret
       rw [HE.out]
       refine ⟨_, rfl, Or.inr ⟨w.heap.size, rfl, ?_, Nat.le_refl _, by simpa using hsz⟩, ?_, (Fr.of_below hbw).again (fr_set _)⟩
       ·intro j hj
        rw [World.cell?_setCell_other _ _ _ _ (fun e => by simp only [Addr.mk.injEq] at e; omega)]
        exact hBo j hj
       ·first | exact hRw.setDrop HE0 1 (hbb.dropMap 1) (by omega) | exact hRw.setDrop HE0 1 (Or.inl (List.drop_eq_nil_of_le (by omega))) (by omega)
   ·have HE : Hid (rFlags r = (⟨r.b, 1⟩, [])) := by rw [Hid, HV.out, if_neg hn, if_neg h32]
    have HR := Lib.hid (h'.setE 1)
    have hq32 : ((c.toNat : Int) / 32 != 0) = true := by rw [bne_iff_ne]; omega
    clear hn HV
    go_enter Tryz.func167, Tryz.ntmps167
    go_wp2_with (go_at_call 160; (with_reducible refine HM.out.mono ?_); rintro x w1 ⟨rfl, rfl⟩)
    go_ret
    rw [HE.out]
    exact ⟨_, rfl, Or.inl ⟨rfl, rfl⟩, HR.out, fr_set _⟩
 ·rw [decide_eq_false he] at hmay
  have HM := Lib.hid hmay
  clear hmay
  have HE : Hid (rFlags r = (r, [])) := by unfold Hid rFlags; rw [if_neg he]
  clear he
  go_enter Tryz.func167, Tryz.ntmps167
  go_wp2_with (go_at_call 160; (with_reducible refine HM.out.mono ?_); rintro x w1 ⟨rfl, rfl⟩)
  go_ret
  rw [HE.out]
  exact ⟨_, rfl, Or.inl ⟨rfl, rfl⟩, h', Fr.refl _ _⟩
theorem Fr.alloc {S : Nat → Prop} {w w' : World} (h : Fr S w w') (o : Obj) : Fr S w (w'.alloc o) :=
 ⟨h.os, h.tape, h.output, by have := h.size; simp; omega, fun k hk hs => by
  have hk' : k < w'.heap.size := Nat.lt_of_lt_of_le hk h.size
  rw [← h.block k hk hs]
  exact Below.heap_alloc w' o k hk'⟩
theorem Fr.setRow {S : Nat → Prop} {w w' : World} (h : Fr S w w') {g : Nat} (hg : w.heap.size ≤ g ∨ S g) (cs : Array Value) : Fr S w (w'.setRow g cs) :=
 ⟨h.os, h.tape, h.output, by have := h.size; simp only [World.setRow, Array.size_modify]; exact this, fun k hk hs => by
  rw [heap_setRow_other _ _ _ _ (fun e => by subst e; rcases hg with hg | hg; omega; exact hs hg)]
  exact h.block k hk hs⟩
theorem Fr.setCell {S : Nat → Prop} {w w' : World} (h : Fr S w w') {p : Addr} (hg : w.heap.size ≤ p.block ∨ S p.block) (v : Value) : Fr S w (w'.setCell p v) :=
 ⟨h.os, h.tape, h.output, by have := h.size; simp only [World.setCell, Array.size_modify]; exact this, fun k hk hs => by
  rw [heap_setCell_other _ _ _ _ (fun e => by subst e; rcases hg with hg | hg; omega; exact hs hg)]
  exact h.block k hk hs⟩
/-- blocks behind the reader's may be written -/
theorem RdAt.setRow {w : World} {R : Nat} {r : Rd} (h : RdAt w R r) {g : Nat} {cs : Array Value} (hR : R < g) : RdAt (w.setRow g cs) R r := h.keep (fun k hk => heap_setRow_other _ _ _ _ (by omega))
theorem RdAt.setCell {w : World} {R : Nat} {r : Rd} (h : RdAt w R r) {g o : Nat} (v : Value) (hR : R < g) : RdAt (w.setCell ⟨g, o, none⟩ v) R r := h.keep (fun k hk => heap_setCell_other _ _ _ _ (by simp only; omega))
theorem rDot_eq (r : Rd) {x y z : Rd} {a b c : Nat} (h1 : rNum 63 r = (x, a)) (h2 : rNum 1048576 x = (y, b)) (h3 : rNum 4294967296 y = (z, c)) :
 rDot r = if z.e = 0 then (if dotOk ⟨⟨a, b⟩, c⟩ = true then (z, ⟨⟨a, b⟩, c⟩) else (rFail z 4, dot0)) else (z, dot0) := by
 unfold rDot; simp only [h1, h2, h3]
theorem rStamp_eq (r : Rd) {x y z : Rd} {a b c : Nat} (h1 : rNum 4398046511104 r = (x, a)) (h2 : rNum 65535 x = (y, b)) (h3 : rNum 63 y = (z, c)) :
 rStamp r = if z.e = 0 then (z, ⟨a, b, c⟩) else (z, stamp0) := by
 unfold rStamp; simp only [h1, h2, h3]
theorem rDot_fit (r : Rd) : (rDot r).1.b.length ≤ r.b.length := by
 have h1 := rNum_fit 63 r
 have h2 := rNum_fit 1048576 (rNum 63 r).1
 have h3 := rNum_fit 4294967296 (rNum 1048576 (rNum 63 r).1).1
 unfold rDot rFail
 simp only
 repeat' split
 all_goals simp only
 all_goals omega
theorem rStamp_fit (r : Rd) : (rStamp r).1.b.length ≤ r.b.length := by
 have h1 := rNum_fit 4398046511104 r
 have h2 := rNum_fit 65535 (rNum 4398046511104 r).1
 have h3 := rNum_fit 63 (rNum 65535 (rNum 4398046511104 r).1).1
 unfold rStamp
 simp only
 split <;> simp only <;> omega
abbrev dotValR (d : Dot) : Value := .agg #[.int .i64 d.a.dev, .int .i64 d.a.inc, .int .i64 d.seq]
abbrev stampVal (s : Stamp) : Value := .agg #[.int .i64 s.wall, .int .i64 s.count, .int .i64 s.dev]
theorem dotGet_r (R : Nat) (r : Rd) (w : World) (hl : r.b.length ≤ 1073741824) (h : RdAt w R r) :
 Calls Tryz.prog 164 #[.pointer (some ⟨R, 0, none⟩)] w (RetRd R (rDot r).1 (dotValR (rDot r).2) w) := by
 obtain ⟨x, a, h1⟩ : ∃ x a, rNum 63 r = (x, a) := ⟨_, _, rfl⟩
 obtain ⟨y, b, h2⟩ : ∃ y b, rNum 1048576 x = (y, b) := ⟨_, _, rfl⟩
 obtain ⟨z, c, h3⟩ : ∃ z c, rNum 4294967296 y = (z, c) := ⟨_, _, rfl⟩
 have HV := Lib.hid (rDot_eq r h1 h2 h3)
 have f1 := rNum_fit 63 r
 have f2 := rNum_fit 1048576 x
 have f3 := rNum_fit 4294967296 y
 rw [h1] at f1
 rw [h2] at f2
 rw [h3] at f3
 simp only at f1 f2 f3
 have hyl : y.b.length ≤ 1073741824 := by omega
 have hN1 : ∀ W, RdAt W R r → Calls Tryz.prog 130 #[.pointer (some ⟨R, 0, none⟩), .int .u64 63] W (RetRd R x (.int .u64 a) W) := fun W hW => by have := Num_r R r 63 W hl (by omega) hW; rw [h1] at this; exact this
 have hN2 : ∀ W, RdAt W R x → Calls Tryz.prog 130 #[.pointer (some ⟨R, 0, none⟩), .int .u64 1048576] W (RetRd R y (.int .u64 b) W) := fun W hW => by have := Num_r R x 1048576 W (by omega) (by omega) hW; rw [h2] at this; exact this
 have hN3 : ∀ W, RdAt W R y → Calls Tryz.prog 130 #[.pointer (some ⟨R, 0, none⟩), .int .u64 4294967296] W (RetRd R z (.int .u64 c) W) := fun W hW => by have := Num_r R y 4294967296 W hyl (by omega) hW; rw [h3] at this; exact this
 have N1 := Lib.hid hN1
 have N2 := Lib.hid hN2
 have N3 := Lib.hid hN3
 have HEr := Lib.hid (fun (W : World) (r : Rd) (h : RdAt W R r) => Err_r R r W h)
 have HFl := Lib.hid (fun (W : World) (h : RdAt W R z) => Fail_r R z 4 W h)
 have HD0 := fun (W : World) => dotRight_any ⟨⟨a, b⟩, c⟩ W
 have hRl := h.lt
 clear hN1 hN2 hN3 h1 h2 h3
 go_enter Tryz.func164, Tryz.ntmps164
 go_upto_region 1 with fail
 refine wp_name (fun W hW => ?_)
 have hF : Fr (isR R) w W := by rw [hW.out]; exact (Fr.refl _ _).alloc _
 have hR : RdAt W R r := by rw [hW.out]; exact h.below ((Below.refl _ _).alloc (Nat.le_refl _) _)
 have hZ : W.heap[w.heap.size]? = some (.cells #[.int .i64 0, .int .i64 0, .int .i64 0] 25 (0, 0)) := by rw [hW.out]; exact heap_alloc_last w _
 have hz : w.heap.size < W.heap.size := by rw [hW.out]; simp
 clear hW h
 go_upto_region 5 with (first
  | (go_at_call 130; (with_reducible refine (N1.out _ hR).mono ?_); rintro v w1 ⟨rfl, hR, hF1⟩; replace hZ := (hF1.block _ hz (by simp only [isR]; omega)).trans hZ; replace hz := Nat.lt_of_lt_of_le hz hF1.size; replace hF := hF.again hF1; clear hF1)
  | (go_at_call 130; (with_reducible refine (N2.out _ hR).mono ?_); rintro v w1 ⟨rfl, hR, hF1⟩; replace hZ := (hF1.block _ hz (by simp only [isR]; omega)).trans hZ; replace hz := Nat.lt_of_lt_of_le hz hF1.size; replace hF := hF.again hF1; clear hF1)
  | (go_at_call 130; (with_reducible refine (N3.out _ hR).mono ?_); rintro v w1 ⟨rfl, hR, hF1⟩; replace hZ := (hF1.block _ hz (by simp only [isR]; omega)).trans hZ; replace hz := Nat.lt_of_lt_of_le hz hF1.size; replace hF := hF.again hF1; clear hF1)
  | (refine wpList_store_new 25 _ _ _ #[.int .i64 a, .int .i64 b, .int .i64 c] rfl rfl (by kernel_rfl) rfl (by kernel_rfl) ?_))
 refine wp_name (fun W2 hW2 => ?_)
 have hb2 : Below w1.heap.size w1 W2 := by rw [hW2.out]; exact (Below.refl _ _).alloc (Nat.le_refl _) _
 have hD : W2.rangeAt w1.heap.size 0 [.int .i64 a, .int .i64 b, .int .i64 c] := by
  rw [hW2.out]; intro j v hv; rw [Nat.zero_add, World.cell?_alloc_new]; simpa using hv
 have hz2 : w1.heap.size < W2.heap.size := by rw [hW2.out]; simp
 replace hZ := (hb2.block _ hz).trans hZ
 replace hR := hR.below hb2
 replace hF := hF.again (Fr.of_below hb2)
 replace hz := Nat.lt_of_lt_of_le hz hb2.size
 clear hW2 hb2 N1 N2 N3
 by_cases hze : z.e = 0
 ·have hq1 : (z.e == 0) = true := beq_iff_eq.2 hze
  have hq2 : (z.e != 0) = false := by rw [bne_eq_false_iff_eq]; exact hze
  by_cases hok : dotOk ⟨⟨a, b⟩, c⟩ = true
  ·have HE : Hid (rDot r = (z, ⟨⟨a, b⟩, c⟩)) := by rw [Hid, HV.out, if_pos hze, if_pos hok]
   rw [hok] at HD0
   have HD := Lib.hid HD0
   clear HD0 hok hze HV
   go_wp2_with (first
        | (go_at_call 162; (with_reducible refine (HEr.out _ _ hR).mono ?_); rintro v w3 ⟨rfl, rfl⟩)
        | ((with_reducible refine wpList_load_at 25 _ w1.heap.size 0 [.int .i64 a, .int .i64 b, .int .i64 c] _ Tryz.underlying25 rfl (by kernel_rfl) hD ?_ rfl ?_); exact rfl)
        | (go_at_call 70; (with_reducible refine (HD.out _).mono ?_); rintro v w4 ⟨rfl, hb⟩; replace hZ := (hb.block _ hz).trans hZ; replace hR := hR.below hb; replace hF := hF.again (Fr.of_below hb); replace hz := Nat.lt_of_lt_of_le hz hb.size; replace hD := rangeAt_kept hD hb)
        | (refine wpList_store_row rfl 25 _ _ rfl w.heap.size #[.int .i64 a, .int .i64 b, .int .i64 c] rfl rfl 25 #[.int .i64 0, .int .i64 0, .int .i64 0] hZ (by kernel_rfl) rfl (by kernel_rfl) ?_))
   refine ret_cell 2 25 25 w.heap.size #[.int .i64 a, .int .i64 b, .int .i64 c] _ rfl rfl (setRow_heap _ _ _ _ _ _ hZ) Tryz.underlying25 rfl (by kernel_rfl) rfl ?_
   rw [HE.out]
   exact ⟨rfl, hR.setRow (by omega), hF.setRow (Or.inl (Nat.le_refl _)) _⟩
  ·have hok0 : dotOk ⟨⟨a, b⟩, c⟩ = false := by simpa using hok
   have HE : Hid (rDot r = (⟨z.b, 4⟩, dot0)) := by rw [Hid, HV.out, if_pos hze, if_neg hok]; unfold rFail; rw [if_pos hze]
   have HFF : Hid (rFail z 4 = ⟨z.b, 4⟩) := by unfold Hid rFail; rw [if_pos hze]
   rw [hok0] at HD0
   have HD := Lib.hid HD0
   clear HD0 hok hok0 hze HV
   go_wp2_with (first
        | (go_at_call 162; (with_reducible refine (HEr.out _ _ hR).mono ?_); rintro v w3 ⟨rfl, rfl⟩)
        | ((with_reducible refine wpList_load_at 25 _ w1.heap.size 0 [.int .i64 a, .int .i64 b, .int .i64 c] _ Tryz.underlying25 rfl (by kernel_rfl) hD ?_ rfl ?_); exact rfl)
        | (go_at_call 70; (with_reducible refine (HD.out _).mono ?_); rintro v w4 ⟨rfl, hb⟩; replace hZ := (hb.block _ hz).trans hZ; replace hR := hR.below hb; replace hF := hF.again (Fr.of_below hb); replace hz := Nat.lt_of_lt_of_le hz hb.size)
        | (go_at_call 136; (with_reducible refine (HFl.out _ hR).mono ?_); rintro v w5 ⟨rfl, hR, hF1⟩; rw [HFF.out] at hR; replace hZ := (hF1.block _ hz (by simp only [isR]; omega)).trans hZ; replace hz := Nat.lt_of_lt_of_le hz hF1.size; replace hF := hF.again hF1)
        | (refine wpList_store_row rfl 25 _ _ rfl w.heap.size #[.int .i64 0, .int .i64 0, .int .i64 0] rfl rfl 25 #[.int .i64 0, .int .i64 0, .int .i64 0] hZ (by kernel_rfl) rfl (by kernel_rfl) ?_))
   refine ret_cell 2 25 25 w.heap.size #[.int .i64 0, .int .i64 0, .int .i64 0] _ rfl rfl (setRow_heap _ _ _ _ _ _ hZ) Tryz.underlying25 rfl (by kernel_rfl) rfl ?_
   rw [HE.out]
   exact ⟨rfl, hR.setRow (by omega), hF.setRow (Or.inl (Nat.le_refl _)) _⟩
 ·have hq1 : (z.e == 0) = false := beq_eq_false_iff_ne.2 hze
  have hq2 : (z.e != 0) = true := by rw [bne_iff_ne]; exact hze
  have HE : Hid (rDot r = (z, dot0)) := by rw [Hid, HV.out, if_neg hze]
  clear HD0 hze HV
  go_wp2_with (first
   | (go_at_call 162; (with_reducible refine (HEr.out _ _ hR).mono ?_); rintro v w3 ⟨rfl, rfl⟩)
   | (refine wpList_store_row rfl 25 _ _ rfl w.heap.size #[.int .i64 0, .int .i64 0, .int .i64 0] rfl rfl 25 #[.int .i64 0, .int .i64 0, .int .i64 0] hZ (by kernel_rfl) rfl (by kernel_rfl) ?_))
  refine ret_cell 2 25 25 w.heap.size #[.int .i64 0, .int .i64 0, .int .i64 0] _ rfl rfl (setRow_heap _ _ _ _ _ _ hZ) Tryz.underlying25 rfl (by kernel_rfl) rfl ?_
  rw [HE.out]
  exact ⟨rfl, hR.setRow (by omega), hF.setRow (Or.inl (Nat.le_refl _)) _⟩
theorem clockGet_r (R : Nat) (r : Rd) (w : World) (hl : r.b.length ≤ 1073741824) (h : RdAt w R r) :
 Calls Tryz.prog 131 #[.pointer (some ⟨R, 0, none⟩)] w (RetRd R (rStamp r).1 (stampVal (rStamp r).2) w) := by
 obtain ⟨x, a, h1⟩ : ∃ x a, rNum 4398046511104 r = (x, a) := ⟨_, _, rfl⟩
 obtain ⟨y, b, h2⟩ : ∃ y b, rNum 65535 x = (y, b) := ⟨_, _, rfl⟩
 obtain ⟨z, c, h3⟩ : ∃ z c, rNum 63 y = (z, c) := ⟨_, _, rfl⟩
 have HV := Lib.hid (rStamp_eq r h1 h2 h3)
 have f1 := rNum_fit 4398046511104 r
 have f2 := rNum_fit 65535 x
 have f3 := rNum_fit 63 y
 rw [h1] at f1
 rw [h2] at f2
 rw [h3] at f3
 simp only at f1 f2 f3
 have hyl : y.b.length ≤ 1073741824 := by omega
 have hN1 : ∀ W, RdAt W R r → Calls Tryz.prog 130 #[.pointer (some ⟨R, 0, none⟩), .int .u64 4398046511104] W (RetRd R x (.int .u64 a) W) := fun W hW => by have := Num_r R r 4398046511104 W hl (by omega) hW; rw [h1] at this; exact this
 have hN2 : ∀ W, RdAt W R x → Calls Tryz.prog 130 #[.pointer (some ⟨R, 0, none⟩), .int .u64 65535] W (RetRd R y (.int .u64 b) W) := fun W hW => by have := Num_r R x 65535 W (by omega) (by omega) hW; rw [h2] at this; exact this
 have hN3 : ∀ W, RdAt W R y → Calls Tryz.prog 130 #[.pointer (some ⟨R, 0, none⟩), .int .u64 63] W (RetRd R z (.int .u64 c) W) := fun W hW => by have := Num_r R y 63 W hyl (by omega) hW; rw [h3] at this; exact this
 have N1 := Lib.hid hN1
 have N2 := Lib.hid hN2
 have N3 := Lib.hid hN3
 have HEr := Lib.hid (fun (W : World) (r : Rd) (h : RdAt W R r) => Err_r R r W h)
 have hRl := h.lt
 clear hN1 hN2 hN3 h1 h2 h3
 go_enter Tryz.func131, Tryz.ntmps131
 go_upto_region 1 with fail
 refine wp_name (fun W hW => ?_)
 have hF : Fr (isR R) w W := by rw [hW.out]; exact (Fr.refl _ _).alloc _
 have hR : RdAt W R r := by rw [hW.out]; exact h.below ((Below.refl _ _).alloc (Nat.le_refl _) _)
 have hZ : W.heap[w.heap.size]? = some (.cells #[.int .i64 0, .int .i64 0, .int .i64 0] 27 (0, 0)) := by rw [hW.out]; exact heap_alloc_last w _
 have hz : w.heap.size < W.heap.size := by rw [hW.out]; simp
 clear hW h
 go_upto_region 4 with (first
  | (go_at_call 130; (with_reducible refine (N1.out _ hR).mono ?_); rintro v w1 ⟨rfl, hR, hF1⟩; replace hZ := (hF1.block _ hz (by simp only [isR]; omega)).trans hZ; replace hz := Nat.lt_of_lt_of_le hz hF1.size; replace hF := hF.again hF1; clear hF1)
  | (go_at_call 130; (with_reducible refine (N2.out _ hR).mono ?_); rintro v w1 ⟨rfl, hR, hF1⟩; replace hZ := (hF1.block _ hz (by simp only [isR]; omega)).trans hZ; replace hz := Nat.lt_of_lt_of_le hz hF1.size; replace hF := hF.again hF1; clear hF1)
  | (go_at_call 130; (with_reducible refine (N3.out _ hR).mono ?_); rintro v w1 ⟨rfl, hR, hF1⟩; replace hZ := (hF1.block _ hz (by simp only [isR]; omega)).trans hZ; replace hz := Nat.lt_of_lt_of_le hz hF1.size; replace hF := hF.again hF1; clear hF1))
 clear N1 N2 N3
 by_cases hze : z.e = 0
 ·have hq2 : (z.e != 0) = false := by rw [bne_eq_false_iff_eq]; exact hze
  have HE : Hid (rStamp r = (z, ⟨a, b, c⟩)) := by rw [Hid, HV.out, if_pos hze]
  clear hze HV
  go_wp2_with (first
   | (go_at_call 162; (with_reducible refine (HEr.out _ _ hR).mono ?_); rintro v w3 ⟨rfl, rfl⟩)
   | (refine wpList_store_row rfl 27 _ _ rfl w.heap.size #[.int .i64 a, .int .i64 b, .int .i64 c] rfl rfl 27 #[.int .i64 0, .int .i64 0, .int .i64 0] hZ (by kernel_rfl) rfl (by kernel_rfl) ?_))
  refine ret_cell 2 27 27 w.heap.size #[.int .i64 a, .int .i64 b, .int .i64 c] _ rfl rfl (setRow_heap _ _ _ _ _ _ hZ) Tryz.underlying27 rfl (by kernel_rfl) rfl ?_
  rw [HE.out]
  exact ⟨rfl, hR.setRow (by omega), hF.setRow (Or.inl (Nat.le_refl _)) _⟩
 ·have hq2 : (z.e != 0) = true := by rw [bne_iff_ne]; exact hze
  have HE : Hid (rStamp r = (z, stamp0)) := by rw [Hid, HV.out, if_neg hze]
  clear hze HV
  go_wp2_with (first
   | (go_at_call 162; (with_reducible refine (HEr.out _ _ hR).mono ?_); rintro v w3 ⟨rfl, rfl⟩)
   | (refine wpList_store_row rfl 27 _ _ rfl w.heap.size #[.int .i64 0, .int .i64 0, .int .i64 0] rfl rfl 27 #[.int .i64 0, .int .i64 0, .int .i64 0] hZ (by kernel_rfl) rfl (by kernel_rfl) ?_))
  refine ret_cell 2 27 27 w.heap.size #[.int .i64 0, .int .i64 0, .int .i64 0] _ rfl rfl (setRow_heap _ _ _ _ _ _ hZ) Tryz.underlying27 rfl (by kernel_rfl) rfl ?_
  rw [HE.out]
  exact ⟨rfl, hR.setRow (by omega), hF.setRow (Or.inl (Nat.le_refl _)) _⟩
/-- block E holds an event -/
def EvBlk (w : World) (E : Nat) (e : Ev) (a : Option Addr) (cap : Nat) : Prop := w.heap[E]? = some (.cells (evCells e a cap).toArray 34 (0, 0))
theorem EvBlk.cell {w : World} {E : Nat} {e : Ev} {a : Option Addr} {cap : Nat} (h : EvBlk w E e a cap) : w.rangeAt E 0 (evCells e a cap) := fun j v hv => by
 rw [Nat.zero_add]
 simp only [World.cell?, show w.heap[E]? = _ from h]
 simpa using hv
theorem EvBlk.free {w : World} {E : Nat} {e : Ev} {a : Option Addr} {cap : Nat} (h : EvBlk w E e a cap) (o : Nat) : w.frozen? ⟨E, o, none⟩ = false := by
 simp [World.frozen?, show w.heap[E]? = _ from h]
theorem EvBlk.lt {w : World} {E : Nat} {e : Ev} {a : Option Addr} {cap : Nat} (h : EvBlk w E e a cap) : E < w.heap.size := lt_of_block h
theorem EvBlk.fr {w w' : World} {E R : Nat} {e : Ev} {a : Option Addr} {cap : Nat} (h : EvBlk w E e a cap) (hf : Fr (isR R) w w') (hER : E ≠ R) : EvBlk w' E e a cap := (hf.block E h.lt hER).trans h
theorem EvBlk.below {w w' : World} {E : Nat} {e : Ev} {a : Option Addr} {cap : Nat} (h : EvBlk w E e a cap) (hb : Below w.heap.size w w') : EvBlk w' E e a cap := (hb.block E h.lt).trans h
abbrev isRE (R E : Nat) : Nat → Prop := fun k => k = R ∨ k = E
theorem EvBlk.set7 {w : World} {E : Nat} {e : Ev} {a : Option Addr} {cap : Nat} (h : EvBlk w E e a cap) (x : ByteArray) : EvBlk (w.setCell ⟨E, 7, none⟩ (.string x)) E { e with key := { e.key with name := x } } a cap := by
 simp [EvBlk, World.setCell, Array.getElem?_modify, show w.heap[E]? = _ from h, evCells]
theorem EvBlk.set8 {w : World} {E : Nat} {e : Ev} {a : Option Addr} {cap : Nat} (h : EvBlk w E e a cap) (x : ByteArray) : EvBlk (w.setCell ⟨E, 8, none⟩ (.string x)) E { e with key := { e.key with domain := x } } a cap := by
 simp [EvBlk, World.setCell, Array.getElem?_modify, show w.heap[E]? = _ from h, evCells]
theorem EvBlk.set9 {w : World} {E : Nat} {e : Ev} {a : Option Addr} {cap : Nat} (h : EvBlk w E e a cap) (x : ByteArray) : EvBlk (w.setCell ⟨E, 9, none⟩ (.string x)) E { e with key := { e.key with path := x } } a cap := by
 simp [EvBlk, World.setCell, Array.getElem?_modify, show w.heap[E]? = _ from h, evCells]
theorem EvBlk.set10 {w : World} {E : Nat} {e : Ev} {a : Option Addr} {cap : Nat} (h : EvBlk w E e a cap) (x : ByteArray) : EvBlk (w.setCell ⟨E, 10, none⟩ (.string x)) E { e with ck := { e.ck with value := x } } a cap := by
 simp [EvBlk, World.setCell, Array.getElem?_modify, show w.heap[E]? = _ from h, evCells]
theorem EvBlk.set15 {w : World} {E : Nat} {e : Ev} {a : Option Addr} {cap : Nat} (h : EvBlk w E e a cap) (x : Int) : EvBlk (w.setCell ⟨E, 15, none⟩ (.int .i64 x)) E { e with ck := { e.ck with expiry := x } } a cap := by
 simp [EvBlk, World.setCell, Array.getElem?_modify, show w.heap[E]? = _ from h, evCells]
theorem EvBlk.set16 {w : World} {E : Nat} {e : Ev} {a : Option Addr} {cap : Nat} (h : EvBlk w E e a cap) (x : Int) : EvBlk (w.setCell ⟨E, 16, none⟩ (.int .i64 x)) E { e with ck := { e.ck with creation := x } } a cap := by
 simp [EvBlk, World.setCell, Array.getElem?_modify, show w.heap[E]? = _ from h, evCells]
theorem EvBlk.set17 {w : World} {E : Nat} {e : Ev} {a : Option Addr} {cap : Nat} (h : EvBlk w E e a cap) (x : Int) : EvBlk (w.setCell ⟨E, 17, none⟩ (.int .i64 x)) E { e with ck := { e.ck with access := x } } a cap := by
 simp [EvBlk, World.setCell, Array.getElem?_modify, show w.heap[E]? = _ from h, evCells]
theorem EvBlk.set6 {w : World} {E : Nat} {e : Ev} {a : Option Addr} {cap : Nat} (h : EvBlk w E e a cap) (x : Int) : EvBlk (w.setCell ⟨E, 6, none⟩ (.int .i64 x)) E { e with kind := x } a cap := by
 simp [EvBlk, World.setCell, Array.getElem?_modify, show w.heap[E]? = _ from h, evCells]
theorem EvBlk.set11 {w : World} {E : Nat} {e : Ev} {a : Option Addr} {cap : Nat} (h : EvBlk w E e a cap) (x : Bool) : EvBlk (w.setCell ⟨E, 11, none⟩ (.bool x)) E { e with ck := { e.ck with hostOnly := x } } a cap := by
 simp [EvBlk, World.setCell, Array.getElem?_modify, show w.heap[E]? = _ from h, evCells]
theorem EvBlk.set12 {w : World} {E : Nat} {e : Ev} {a : Option Addr} {cap : Nat} (h : EvBlk w E e a cap) (x : Bool) : EvBlk (w.setCell ⟨E, 12, none⟩ (.bool x)) E { e with ck := { e.ck with secure := x } } a cap := by
 simp [EvBlk, World.setCell, Array.getElem?_modify, show w.heap[E]? = _ from h, evCells]
theorem EvBlk.set13 {w : World} {E : Nat} {e : Ev} {a : Option Addr} {cap : Nat} (h : EvBlk w E e a cap) (x : Bool) : EvBlk (w.setCell ⟨E, 13, none⟩ (.bool x)) E { e with ck := { e.ck with httpOnly := x } } a cap := by
 simp [EvBlk, World.setCell, Array.getElem?_modify, show w.heap[E]? = _ from h, evCells]
theorem EvBlk.set14 {w : World} {E : Nat} {e : Ev} {a : Option Addr} {cap : Nat} (h : EvBlk w E e a cap) (x : Bool) : EvBlk (w.setCell ⟨E, 14, none⟩ (.bool x)) E { e with ck := { e.ck with persistent := x } } a cap := by
 simp [EvBlk, World.setCell, Array.getElem?_modify, show w.heap[E]? = _ from h, evCells]
def RetItem (R E : Nat) (r : Rd) (e : Ev) (a : Option Addr) (cap : Nat) (w : World) (x : Ending) (w' : World) : Prop := x = .returned (.tuple #[]) ∧ RdAt w' R r ∧ EvBlk w' E e a cap ∧ Fr (isRE R E) w w'
theorem isR_RE {R E : Nat} {w w' : World} (h : Fr (isR R) w w') : Fr (isRE R E) w w' := h.mono fun _ _ g => Or.inl g
theorem item_r (R E : Nat) (r : Rd) (e : Ev) (a : Option Addr) (cap : Nat) (w : World) (hl : r.b.length ≤ 1073741824) (h : RdAt w R r) (hE : EvBlk w E e a cap) (hER : R < E) :
 Calls Tryz.prog 168 #[.pointer (some ⟨R, 0, none⟩), .pointer (some ⟨E, 0, none⟩)] w (RetItem R E (rItem r) (withItem e r) a cap w) := by
 have HV1 : Hid (rItem r = (rNum 1099511627776 (rNum 1099511627776 (rInt 1099511627776 (rText 1024 (rText 256 (rText 256 (rText 256 r).1).1).1).1).1).1).1) := rfl
 have HV2 : Hid (withItem e r = { e with key := ⟨mkS (rText 256 r).2, mkS (rText 256 (rText 256 r).1).2, mkS (rText 256 (rText 256 (rText 256 r).1).1).2⟩, ck := { e.ck with value := mkS (rText 1024 (rText 256 (rText 256 (rText 256 r).1).1).1).2, expiry := (rInt 1099511627776 (rText 1024 (rText 256 (rText 256 (rText 256 r).1).1).1).1).2, creation := (rNum 1099511627776 (rInt 1099511627776 (rText 1024 (rText 256 (rText 256 (rText 256 r).1).1).1).1).1).2, access := (rNum 1099511627776 (rNum 1099511627776 (rInt 1099511627776 (rText 1024 (rText 256 (rText 256 (rText 256 r).1).1).1).1).1).1).2 } }) := rfl
 obtain ⟨r1, v1, g1⟩ : ∃ r1 v1, rText 256 r = (r1, v1) := ⟨_, _, rfl⟩
 have f1 := rText_fit 256 r
 rw [g1] at f1 HV1 HV2
 simp only at f1 HV1 HV2
 obtain ⟨r2, v2, g2⟩ : ∃ r2 v2, rText 256 r1 = (r2, v2) := ⟨_, _, rfl⟩
 have f2 := rText_fit 256 r1
 rw [g2] at f2 HV1 HV2
 simp only at f2 HV1 HV2
 obtain ⟨r3, v3, g3⟩ : ∃ r3 v3, rText 256 r2 = (r3, v3) := ⟨_, _, rfl⟩
 have f3 := rText_fit 256 r2
 rw [g3] at f3 HV1 HV2
 simp only at f3 HV1 HV2
 obtain ⟨r4, v4, g4⟩ : ∃ r4 v4, rText 1024 r3 = (r4, v4) := ⟨_, _, rfl⟩
 have f4 := rText_fit 1024 r3
 rw [g4] at f4 HV1 HV2
 simp only at f4 HV1 HV2
 obtain ⟨r5, v5, g5⟩ : ∃ r5 v5, rInt 1099511627776 r4 = (r5, v5) := ⟨_, _, rfl⟩
 have f5 := rInt_fit 1099511627776 r4 (by omega)
 rw [g5] at f5 HV1 HV2
 simp only at f5 HV1 HV2
 obtain ⟨r6, v6, g6⟩ : ∃ r6 v6, rNum 1099511627776 r5 = (r6, v6) := ⟨_, _, rfl⟩
 have f6 := rNum_fit 1099511627776 r5
 rw [g6] at f6 HV1 HV2
 simp only at f6 HV1 HV2
 obtain ⟨r7, v7, g7⟩ : ∃ r7 v7, rNum 1099511627776 r6 = (r7, v7) := ⟨_, _, rfl⟩
 have f7 := rNum_fit 1099511627776 r6
 rw [g7] at f7 HV1 HV2
 simp only at f7 HV1 HV2
 have c1 : ∀ W, RdAt W R r → Calls Tryz.prog 132 #[.pointer (some ⟨R, 0, none⟩), .int .i64 256] W (RetRd R r1 (.string (mkS v1)) W) := fun W hW => by have := Text_r R r 256 W (by omega) (by omega) hW; rw [g1] at this; exact this
 have C1 := Lib.hid c1
 have c2 : ∀ W, RdAt W R r1 → Calls Tryz.prog 132 #[.pointer (some ⟨R, 0, none⟩), .int .i64 256] W (RetRd R r2 (.string (mkS v2)) W) := fun W hW => by have := Text_r R r1 256 W (by omega) (by omega) hW; rw [g2] at this; exact this
 have C2 := Lib.hid c2
 have c3 : ∀ W, RdAt W R r2 → Calls Tryz.prog 132 #[.pointer (some ⟨R, 0, none⟩), .int .i64 256] W (RetRd R r3 (.string (mkS v3)) W) := fun W hW => by have := Text_r R r2 256 W (by omega) (by omega) hW; rw [g3] at this; exact this
 have C3 := Lib.hid c3
 have c4 : ∀ W, RdAt W R r3 → Calls Tryz.prog 132 #[.pointer (some ⟨R, 0, none⟩), .int .i64 1024] W (RetRd R r4 (.string (mkS v4)) W) := fun W hW => by have := Text_r R r3 1024 W (by omega) (by omega) hW; rw [g4] at this; exact this
 have C4 := Lib.hid c4
 have c5 : ∀ W, RdAt W R r4 → Calls Tryz.prog 187 #[.pointer (some ⟨R, 0, none⟩), .int .i64 1099511627776] W (RetRd R r5 (.int .i64 v5) W) := fun W hW => by have := Int_r R r4 1099511627776 W (by omega) (by omega) (by omega) hW; rw [g5] at this; exact this
 have C5 := Lib.hid c5
 have c6 : ∀ W, RdAt W R r5 → Calls Tryz.prog 130 #[.pointer (some ⟨R, 0, none⟩), .int .u64 1099511627776] W (RetRd R r6 (.int .u64 v6) W) := fun W hW => by have := Num_r R r5 1099511627776 W (by omega) (by omega) hW; rw [g6] at this; exact this
 have C6 := Lib.hid c6
 have c7 : ∀ W, RdAt W R r6 → Calls Tryz.prog 130 #[.pointer (some ⟨R, 0, none⟩), .int .u64 1099511627776] W (RetRd R r7 (.int .u64 v7) W) := fun W hW => by have := Num_r R r6 1099511627776 W (by omega) (by omega) hW; rw [g7] at this; exact this
 have C7 := Lib.hid c7
 clear c1 g1 c2 g2 c3 g3 c4 g4 c5 g5 c6 g6 c7 g7
 go_enter Tryz.func168, Tryz.ntmps168
 go_wp2
 go_quiet (fail)
 have hF : Fr (isRE R E) w (w.drewN nq) := Fr.of_below (below_drewN (Below.refl _ _) nq)
 have hR : RdAt (w.drewN nq) R r := h.below (below_drewN (Below.refl _ _) nq)
 replace hE : EvBlk (w.drewN nq) E e a cap := hE
 clear h
 generalize w.drewN nq = W at hF hR hE ⊢
 go_upto_region 2 with (go_at_call 132; (with_reducible refine (C1.out _ hR).mono ?_); rintro x w1 ⟨rfl, hR, hF1⟩; replace hE := hE.fr hF1 (by omega); replace hF := hF.again (isR_RE hF1); clear hF1; have q := hE.cell 7 _ rfl; rw [Nat.zero_add] at q; have z := hE.free 7)
 refine wp_name (fun W1 hW1 => ?_)
 replace hF : Fr (isRE R E) w W1 := by rw [hW1.out]; exact hF.setCell (Or.inr (Or.inr rfl)) _
 replace hR := hR.setCell (o := 7) (.string (mkS v1)) hER
 replace hE := hE.set7 (mkS v1)
 rw [← hW1.out] at hR hE
 clear hW1 q z
 go_upto_region 3 with (go_at_call 132; (with_reducible refine (C2.out _ hR).mono ?_); rintro x w2 ⟨rfl, hR, hF1⟩; replace hE := hE.fr hF1 (by omega); replace hF := hF.again (isR_RE hF1); clear hF1; have q := hE.cell 8 _ rfl; rw [Nat.zero_add] at q; have z := hE.free 8)
 refine wp_name (fun W2 hW2 => ?_)
 replace hF : Fr (isRE R E) w W2 := by rw [hW2.out]; exact hF.setCell (Or.inr (Or.inr rfl)) _
 replace hR := hR.setCell (o := 8) (.string (mkS v2)) hER
 replace hE := hE.set8 (mkS v2)
 rw [← hW2.out] at hR hE
 clear hW2 q z
 go_upto_region 4 with (go_at_call 132; (with_reducible refine (C3.out _ hR).mono ?_); rintro x w3 ⟨rfl, hR, hF1⟩; replace hE := hE.fr hF1 (by omega); replace hF := hF.again (isR_RE hF1); clear hF1; have q := hE.cell 9 _ rfl; rw [Nat.zero_add] at q; have z := hE.free 9)
 refine wp_name (fun W3 hW3 => ?_)
 replace hF : Fr (isRE R E) w W3 := by rw [hW3.out]; exact hF.setCell (Or.inr (Or.inr rfl)) _
 replace hR := hR.setCell (o := 9) (.string (mkS v3)) hER
 replace hE := hE.set9 (mkS v3)
 rw [← hW3.out] at hR hE
 clear hW3 q z
 go_upto_region 5 with (go_at_call 132; (with_reducible refine (C4.out _ hR).mono ?_); rintro x w4 ⟨rfl, hR, hF1⟩; replace hE := hE.fr hF1 (by omega); replace hF := hF.again (isR_RE hF1); clear hF1; have q := hE.cell 10 _ rfl; rw [Nat.zero_add] at q; have z := hE.free 10)
 refine wp_name (fun W4 hW4 => ?_)
 replace hF : Fr (isRE R E) w W4 := by rw [hW4.out]; exact hF.setCell (Or.inr (Or.inr rfl)) _
 replace hR := hR.setCell (o := 10) (.string (mkS v4)) hER
 replace hE := hE.set10 (mkS v4)
 rw [← hW4.out] at hR hE
 clear hW4 q z
 go_upto_region 6 with (go_at_call 187; (with_reducible refine (C5.out _ hR).mono ?_); rintro x w5 ⟨rfl, hR, hF1⟩; replace hE := hE.fr hF1 (by omega); replace hF := hF.again (isR_RE hF1); clear hF1; have q := hE.cell 15 _ rfl; rw [Nat.zero_add] at q; have z := hE.free 15)
 refine wp_name (fun W5 hW5 => ?_)
 replace hF : Fr (isRE R E) w W5 := by rw [hW5.out]; exact hF.setCell (Or.inr (Or.inr rfl)) _
 replace hR := hR.setCell (o := 15) (.int .i64 v5) hER
 replace hE := hE.set15 v5
 rw [← hW5.out] at hR hE
 clear hW5 q z
 go_upto_region 7 with (go_at_call 130; (with_reducible refine (C6.out _ hR).mono ?_); rintro x w6 ⟨rfl, hR, hF1⟩; replace hE := hE.fr hF1 (by omega); replace hF := hF.again (isR_RE hF1); clear hF1; have q := hE.cell 16 _ rfl; rw [Nat.zero_add] at q; have z := hE.free 16)
 refine wp_name (fun W6 hW6 => ?_)
 replace hF : Fr (isRE R E) w W6 := by rw [hW6.out]; exact hF.setCell (Or.inr (Or.inr rfl)) _
 replace hR := hR.setCell (o := 16) (.int .i64 (v6 : Int)) hER
 replace hE := hE.set16 (v6 : Int)
 rw [← hW6.out] at hR hE
 clear hW6 q z
 go_wp2_with (go_at_call 130; (with_reducible refine (C7.out _ hR).mono ?_); rintro x w7 ⟨rfl, hR, hF1⟩; replace hE := hE.fr hF1 (by omega); replace hF := hF.again (isR_RE hF1); clear hF1; have q := hE.cell 17 _ rfl; rw [Nat.zero_add] at q; have z := hE.free 17)
 go_end0
 refine ⟨rfl, ?_, ?_, hF.setCell (Or.inr (Or.inr rfl)) _⟩
 ·rw [HV1.out]; exact hR.setCell (o := 17) (.int .i64 (v7 : Int)) hER
 ·rw [HV2.out]; exact hE.set17 (v7 : Int)
theorem EvBlk.setDot {w : World} {E : Nat} {e : Ev} {a : Option Addr} {cap : Nat} (h : EvBlk w E e a cap) (d : Dot) : EvBlk (w.setCells E 0 [.int .i64 d.a.dev, .int .i64 d.a.inc, .int .i64 d.seq]) E { e with dot := d } a cap := by
 simp [EvBlk, World.setCells, World.setCell, Array.getElem?_modify, show w.heap[E]? = _ from h, evCells]
theorem EvBlk.setStamp {w : World} {E : Nat} {e : Ev} {a : Option Addr} {cap : Nat} (h : EvBlk w E e a cap) (d : Stamp) : EvBlk (w.setCells E 3 [.int .i64 d.wall, .int .i64 d.count, .int .i64 d.dev]) E { e with stamp := d } a cap := by
 simp [EvBlk, World.setCells, World.setCell, Array.getElem?_modify, show w.heap[E]? = _ from h, evCells]
theorem heap_setCells_other (E : Nat) : ∀ (vs : List Value) (o : Nat) (w : World) (k : Nat), E ≠ k → (w.setCells E o vs).heap[k]? = w.heap[k]?
 | [], _, _, _, _ => rfl
 | v :: vs, o, w, k, h => by
   rw [World.setCells, heap_setCells_other E vs _ _ k h, heap_setCell_other _ _ _ _ h]
theorem Fr.setCells {S : Nat → Prop} {w w' : World} (h : Fr S w w') {g : Nat} (hg : w.heap.size ≤ g ∨ S g) : ∀ (vs : List Value) (o : Nat), Fr S w (w'.setCells g o vs)
 | vs, o => by
   induction vs generalizing w' o with
   | nil => exact h
   | cons v vs ih => rw [World.setCells]; exact ih (h.setCell hg v) _
theorem RdAt.setCells {w : World} {R : Nat} {r : Rd} (h : RdAt w R r) {g : Nat} (o : Nat) (vs : List Value) (hR : R < g) : RdAt (w.setCells g o vs) R r := h.keep (fun k hk => heap_setCells_other _ _ _ _ _ (by omega))
theorem RdAt.grown {w w' : World} {R : Nat} {r : Rd} (h : RdAt w R r) {o : Option Nat} (hg : w.grownBy w' o) (ho : ∀ g, o = some g → R < g) : RdAt w' R r :=
 h.keep (fun k hk => hg.block k (Nat.lt_of_le_of_lt hk h.lt) (fun e => by have := ho k e.symm; omega))
theorem EvBlk.there {w : World} {E : Nat} {e : Ev} {a : Option Addr} {cap : Nat} (h : EvBlk w E e a cap) (o n : Nat) (hn : o + n ≤ 19) : w.there E o n := fun j hj => by
 refine ⟨?_, h.free _⟩
 have hc := h.cell
 have hlt : o + j < (evCells e a cap).length := by simp [evCells]; omega
 have := hc (o + j) _ (List.getElem?_eq_getElem hlt)
 rw [Nat.zero_add] at this
 rw [this]; rfl
theorem step_append_own {P : Program} {ops : Array Oper} {o : Oper} {a : Act} {w : World} {K : Act → World → Prop} {Q : Exit → Act → World → Prop} {E : Prop} (hgd : o.guard = none) (s x : Operand) (t : TypeId)
 (ho : o.op = .call { callee := .builtin .append, args := #[s, x], argTypes := #[t, t] })
 (base : Nat) (e : TypeId) (i : TypeInfo) (z : Value) (size bytes : Nat) (ht : P.underlying t = some (.slice e)) (hi : P.info? e = some i) (hz : i.zero = some z)
 (hsize : i.size = size) (hby : i.bytes = bytes) (hzs : z.cells.size = size) (hsz : 0 < size)
 (v : Value) (n : Nat) (xs : List Value) (hs : a.eval s = v) (hown : w.ownsRow base e size v n xs)
 (ad : Addr) (m c : Nat) (news : List Value) (hx : a.eval x = .slice (some ad) m c) (hl : news.length = m * size) (hnews : ∀ j u, news[j]? = some u → w.cell? (ad.add j) = some u) (h1 : ∀ u ∈ news, u.oneCell' = true)
 (h63 : n + m ≤ maxLen) (hbytes : (n + m) * bytes ≤ 140737488355328) (hbase : base ≤ w.heap.size)
 (h : ∀ v' w', w'.ownsRow base e size v' (n + m) (xs ++ news) → w.grownBy w' v.ownBlock → K (a.put o.dst v') w') : if Region.wanted o (yielded ops a.tmps) = true then Oper.wp P o a w K Q else E := by
 have hw : Region.wanted o (yielded ops a.tmps) = true := by simp [Region.wanted, hgd]
 rw [if_pos hw]
 exact wp_append_own w s x t ho base e i z size bytes ht hi hz hsize hby hzs hsz v n xs hs hown ad m c news hx hl hnews h1 h63 hbytes hbase fun v' w' h2 h3 _ => h v' w' h2 h3
theorem EvBlk.setOver {w : World} {E : Nat} {e : Ev} {a a' : Option Addr} {cap cap' : Nat} (h : EvBlk w E e a cap) (l : List Dot) : EvBlk (w.setCell ⟨E, 18, none⟩ (.slice a' l.length cap')) E { e with over := l } a' cap' := by
 simp [EvBlk, World.setCell, Array.getElem?_modify, show w.heap[E]? = _ from h, evCells]
/-- what holds through the loop over the dots: W the world ahead of it -/
def EvInv (W wr : World) (R E : Nat) (e : Ev) (rr : Rd) (l : List Dot) : Prop :=
 ∃ ad cap, EvBlk wr E { e with over := l } ad cap ∧ wr.ownsRow W.heap.size 25 3 (.slice ad l.length cap) l.length (dotVals l) ∧ RdAt wr R rr ∧ Fr (isRE R E) W wr
theorem dotVals_snocR (l : List Dot) (d : Dot) : dotVals l ++ [.int .i64 d.a.dev, .int .i64 d.a.inc, .int .i64 d.seq] = dotVals (l ++ [d]) := by simp [dotVals]
theorem own_fr {w w' : World} {R base : Nat} {e : TypeId} {size : Nat} {v : Value} {n : Nat} {xs : List Value} (h : w.ownsRow base e size v n xs) (hf : Fr (isR R) w w') (hR : R < base) : w'.ownsRow base e size v n xs := by
 refine ⟨h.1, ?_⟩
 rcases h.2 with hn | ⟨g, cap, cur, hv, hbs, hg, rest⟩
 ·exact .inl hn
 ·exact .inr ⟨g, cap, cur, hv, hbs, by rw [hf.block g (lt_of_block hg) (by simp only [isR]; omega)]; exact hg, rest⟩
theorem new3 (w : World) (d : Dot) (t : TypeId) : ∀ j u, [Value.int .i64 d.a.dev, .int .i64 d.a.inc, .int .i64 d.seq][j]? = some u → (w.alloc (Obj.cells #[.int .i64 d.a.dev, .int .i64 d.a.inc, .int .i64 d.seq] t)).cell? ((⟨w.heap.size, 0, none⟩ : Addr).add j) = some u := by
 intro j u hj
 rw [Addr.add_mid, Nat.zero_add, World.cell?_alloc_new]
 simpa using hj
theorem EvBlk.grown {w w' : World} {E : Nat} {e : Ev} {a : Option Addr} {cap : Nat} {o : Option Nat} (h : EvBlk w E e a cap) (hg : w.grownBy w' o) (hne : some E ≠ o) : EvBlk w' E e a cap := (hg.block E h.lt hne).trans h
theorem fr_new {R E : Nat} {a b c : World} (h : Fr (isR R) a b) (k : Fr (isRE R E) b c) (hE : a.heap.size ≤ E) : Fr (isR R) a c :=
 ⟨k.os.trans h.os, k.tape.trans h.tape, k.output.trans h.output, Nat.le_trans h.size k.size, fun i hi hs => (k.block i (Nat.lt_of_lt_of_le hi h.size) (fun g => by rcases g with g | g; exact hs g; omega)).trans (h.block i hi hs)⟩
theorem DotsIn.setRow {w : World} {a : Option Addr} {l : List Dot} (h : DotsIn w a l) {g : Nat} (cs : Array Value) (hg : ∀ A off, a = some ⟨A, off, none⟩ → g < A) : DotsIn (w.setRow g cs) a l := by
 rcases h with h | ⟨A, off, ha, hd⟩
 ·exact Or.inl h
 ·have hA := hg A off ha
  have hk : ∀ o, (w.setRow g cs).cell? ⟨A, o, none⟩ = w.cell? ⟨A, o, none⟩ := fun o => World.cell?_of_block (heap_setRow_other _ _ _ _ (by simp only; omega))
  exact Or.inr ⟨A, off, ha, ⟨fun i hi => (hk _).trans (hd.dev i hi), fun i hi => (hk _).trans (hd.inc i hi), fun i hi => (hk _).trans (hd.seq i hi)⟩⟩
theorem rEv_ok {r x : Rd} {e : Ev} (h : evGo r = (x, e)) (h0 : x.e = 0) (h1 : evOk e = true) : rEv r = (x, e) := by unfold rEv evFin; rw [h]; simp [h0, h1]
theorem rEv_bad {r x : Rd} {e : Ev} (h : evGo r = (x, e)) (h0 : x.e = 0) (h1 : evOk e = false) : rEv r = (⟨x.b, 1⟩, ev0) := by unfold rEv evFin; rw [h]; simp [h0, h1]
theorem rEv_err {r x : Rd} {e : Ev} (h : evGo r = (x, e)) (h0 : ¬ x.e = 0) : rEv r = (x, ev0) := by unfold rEv evFin; rw [h]; simp [h0]
theorem own_at {w : World} {base : Nat} {a : Option Addr} {cap n : Nat} {xs : List Value} (h : w.ownsRow base 25 3 (.slice a n cap) n xs) : ∀ A off, a = some ⟨A, off, none⟩ → base ≤ A := by
 intro A off ha
 rcases h.2 with ⟨h0, _⟩ | ⟨g, cap2, cur, he, hB, _⟩
 ·rw [ha] at h0; cases h0
 ·rw [ha] at he; cases he; exact hB
abbrev evInit : Ev := ⟨dot0, stamp0, 2, key0, ck0, []⟩
theorem ret_cell_tmpR {P : Program} {fn : Func} {R : Ending → World → Prop} {a : Act} {w : World} (p u : Tmp) (ty t : TypeId) (g : Nat) (c : Array Value) (d : TypeDesc) (v : Value) (hr : fn.results = #[.cell p ty, .tmp u])
 (hp : a.tmps.getD p undef = .pointer (some ⟨g, 0, none⟩)) (hv : a.tmps.getD u undef = v) (hg : w.heap[g]? = some (.cells c t (0, 0))) (hu : P.underlying ty = some d) (hd : d.isRow = true) (hi : (P.info? ty).map (·.size) = some c.size)
 (hde : a.defers = []) (hR : R (.returned (.tuple #[.agg c, v])) w) : bodyPost P fn R .ret a w := by
 have h1 : w.rangeAt g 0 c.toList := fun j v hv => by
  rw [Nat.zero_add]
  simp only [World.cell?, hg]
  simpa using hv
 have h2 := run_loadVar_mid (P := P) w g 0 ty c.toList d h1 hu hd (by simpa using hi)
 refine bodyPost_ret ?_ hde hR
 rw [results_cell_tmp hr, hp, hv]
 simp [asAddr, h2, Result.andThen]
theorem rDots_fit : ∀ (n : Nat) (r : Rd), (rDots n r).1.b.length ≤ r.b.length
 | 0, r => Nat.le_refl _
 | n + 1, r => by
   unfold rDots
   split
   ·exact Nat.le_trans (rDots_fit n _) (rDot_fit r)
   ·exact Nat.le_refl _
theorem rItem_fit (r : Rd) : (rItem r).b.length ≤ r.b.length := by
 have h1 := rText_fit 256 r
 have h2 := rText_fit 256 (rText 256 r).1
 have h3 := rText_fit 256 (rText 256 (rText 256 r).1).1
 have h4 := rText_fit 1024 (rText 256 (rText 256 (rText 256 r).1).1).1
 have h5 := rInt_fit 1099511627776 (rText 1024 (rText 256 (rText 256 (rText 256 r).1).1).1).1 (by omega)
 have h6 := rNum_fit 1099511627776 (rInt 1099511627776 (rText 1024 (rText 256 (rText 256 (rText 256 r).1).1).1).1).1
 have h7 := rNum_fit 1099511627776 (rNum 1099511627776 (rInt 1099511627776 (rText 1024 (rText 256 (rText 256 (rText 256 r).1).1).1).1).1).1
 unfold rItem
 omega
theorem evGo_fit (r : Rd) : (evGo r).1.b.length ≤ r.b.length := by
 have h1 := rDot_fit r
 have h2 := rStamp_fit (rDot r).1
 have h3 := rFlags_fit (rStamp (rDot r).1).1
 have h4 := (rNum_fit 64 (rFlags (rStamp (rDot r).1).1).1).1
 have h5 := rDots_fit (rNum 64 (rFlags (rStamp (rDot r).1).1).1).2 (rNum 64 (rFlags (rStamp (rDot r).1).1).1).1
 have h6 := rItem_fit (rDots (rNum 64 (rFlags (rStamp (rDot r).1).1).1).2 (rNum 64 (rFlags (rStamp (rDot r).1).1).1).1).1
 unfold evGo
 simp only
 split
 ·simp only; omega
 ·split
  ·simp only; omega
  ·simp only; omega
theorem rEv_fit (r : Rd) : (rEv r).1.b.length ≤ r.b.length := by
 have h := evGo_fit r
 unfold rEv evFin
 split
 ·split
  ·exact h
  ·exact h
 ·exact h
theorem Fr.grown {R : Nat} {W w w2 : World} {g : Option Nat} (h : Fr (isR R) W w) (hg : w.grownBy w2 g) (hgb : ∀ k, g = some k → W.heap.size ≤ k) : Fr (isR R) W w2 :=
 ⟨hg.os.trans h.os, hg.tape.trans h.tape, hg.output.trans h.output, Nat.le_trans h.size hg.size, fun k hk hs => (hg.block k (Nat.lt_of_lt_of_le hk h.size) (fun e => by have := hgb k e.symm; omega)).trans (h.block k hk hs)⟩
end Go.Proofs.YtohcmljigcdmbaaGreat
