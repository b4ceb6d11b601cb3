/- The writer's signed whole numbers. Conditions: at most 2^29 bytes. -/
import Derived.Test.YtdlhbmhdcdfocaaText
import Derived.Lib.Zigzag
import Derived.IntWalk
set_option linter.unusedSimpArgs false
set_option linter.unusedVariables false
set_option linter.unnecessarySimpa false
namespace Go.Proofs.Ytdlhbmhdcdfocaa
open Go.RowKit

def zigB (n : Int) : Bytes := shortB (Lib.zigzag n)

theorem fold_pos (x : Int) (h0 : 0 ≤ x) (h1 : x ≤ 4398046511104) : bits BinOp.xor IntKind.u64 (IntKind.u64.wrap (IntKind.u64.wrap x * 2)) (IntKind.u64.wrap (x / 9223372036854775808)) = ((Lib.zigzag x : Nat) : Int) := by
  have e1 : IntKind.u64.wrap (IntKind.u64.wrap x * 2) = (((2 * x).toNat : Nat) : Int) := by
    rw [IntKind.wrap_u64, IntKind.wrap_u64]; omega
  have e2 : IntKind.u64.wrap (x / 9223372036854775808) = ((0 : Nat) : Int) := by
    rw [IntKind.wrap_u64]; omega
  rw [e1, e2, bits_xor_u64_nat _ _ (by omega) (by decide), Nat.xor_zero]
  unfold Lib.zigzag
  rw [if_pos h0]
theorem fold_neg (x : Int) (h0 : -4398046511104 ≤ x) (h1 : x < 0) : bits BinOp.xor IntKind.u64 (IntKind.u64.wrap (IntKind.u64.wrap x * 2)) (IntKind.u64.wrap (x / 9223372036854775808)) = ((Lib.zigzag x : Nat) : Int) := by
  have e1 : IntKind.u64.wrap (IntKind.u64.wrap x * 2) = (((2 * x + 18446744073709551616).toNat : Nat) : Int) := by
    rw [IntKind.wrap_u64, IntKind.wrap_u64]; omega
  have e2 : IntKind.u64.wrap (x / 9223372036854775808) = ((2 ^ 64 - 1 : Nat) : Int) := by
    rw [IntKind.wrap_u64]; omega
  rw [e1, e2, bits_xor_u64_nat _ _ (by omega) (by decide), Nat.xor_comm, Lib.xor_ones64 _ (by omega)]
  unfold Lib.zigzag
  rw [if_neg (by omega)]; omega
theorem fold_eq (x : Int) (h0 : -4398046511104 ≤ x) (h1 : x ≤ 4398046511104) : bits BinOp.xor IntKind.u64 (IntKind.u64.wrap (IntKind.u64.wrap x * 2)) (IntKind.u64.wrap (x / 9223372036854775808)) = ((Lib.zigzag x : Nat) : Int) := by
  by_cases h : 0 ≤ x
  · exact fold_pos x h h1
  · exact fold_neg x h0 (by omega)

set_option maxRecDepth 100000 in
set_option maxHeartbeats 1000000 in
theorem Fold_any (n : Int) (w : World) (h0 : -4398046511104 ≤ n) (h1 : n ≤ 4398046511104) : Calls Try.prog 73 #[.int .i64 n] w (fun e w' => e = .returned (.int .u64 ((Lib.zigzag n : Nat) : Int)) ∧ w = w') := by
  have HE := Lib.hid (fold_eq n h0 h1)
  generalize Lib.zigzag n = z at HE ⊢
  go_enter Try.func73, Try.ntmps73
  go_wp2
  go_ret
  exact ⟨by rw [HE.out]; rfl, rfl⟩

theorem zig_lt (n : Int) (h0 : -4398046511104 ≤ n) (h1 : n ≤ 4398046511104) : Lib.zigzag n < 17592186044416 := by
  unfold Lib.zigzag; split <;> omega
set_option maxRecDepth 100000 in
set_option maxHeartbeats 1000000 in
theorem PutInt_any (a : Option Addr) (cap : Nat) (l : Bytes) (n : Int) (w : World) (hl : l.length ≤ 536870912) (h0 : -4398046511104 ≤ n) (h1 : n ≤ 4398046511104) (h : BytesIn w a l) :
    Calls Try.prog 58 #[.slice a l.length cap, .int .i64 n] w (RetBytes (l ++ zigB n) w) := by
  have hF := Lib.hid (Fold_any n w h0 h1)
  have hz := zig_lt n h0 h1
  have hP := Lib.hid (Put_any a cap l (Lib.zigzag n) w hl (by omega) h)
  have HE : Hid (zigB n = shortB (Lib.zigzag n)) := rfl
  generalize zigB n = zb at HE ⊢
  generalize Lib.zigzag n = z at hF hz hP HE
  clear h
  go_enter Try.func58, Try.ntmps58
  go_wp2_with (first
    | (go_at_call 73; (with_reducible refine hF.out.mono ?_); rintro e w1 ⟨rfl, rfl⟩)
    | (go_at_call 57; (with_reducible refine hP.out.mono ?_); rintro e w1 ⟨v', rfl, hown1, hb⟩))
  go_ret
  exact ⟨_, rfl, by rw [HE.out]; exact hown1, hb⟩

set_option maxRecDepth 100000 in
set_option maxHeartbeats 1000000 in
theorem Int_any (S : Nat → Prop) (B : Nat) (l : Bytes) (n : Int) (w : World) (hl : l.length ≤ 536870912) (h0 : -4398046511104 ≤ n) (h1 : n ≤ 4398046511104) (h : Wr w S B l) :
    Calls Try.prog 44 #[.pointer (some ⟨B, 0, none⟩), .int .i64 n] w (RetWr S B (l ++ zigB n) w) := by
  obtain ⟨hS, v, base, h0', hown, hg⟩ := h
  obtain ⟨a, cap, rfl, hin⟩ := own_bytes hown
  have hc := cell_of_one h0'
  have hP := Lib.hid (PutInt_any a cap l n w hl h0 h1 hin)
  have H0 := Lib.hid h0'
  clear h0' hown hg hin
  go_enter Try.func44, Try.ntmps44
  go_wp2_with (go_at_call 58; refine hP.out.mono ?_; rintro e w1 ⟨v', rfl, hown1, hb⟩; obtain ⟨a1, cap1, rfl, hin1⟩ := own_bytes hown1; have hcB := kept hb hc; have hfB := (hb.frozen (p := ⟨B, 0, none⟩) (lt_of_block H0.out)).trans (free_of_one H0.out))
  go_ret
  have := wr_store hS H0.out hb hown1
  rw [List.length_append] at this
  exact ⟨rfl, this.1, this.2⟩
end Go.Proofs.Ytdlhbmhdcdfocaa
