/- varint.Put: short bytes. Conditions: at most 2^30 bytes. -/
import Derived.Test.YtdlhbmhdcdfocaaPack
set_option linter.unusedSimpArgs false
set_option linter.unusedVariables false
set_option linter.unnecessarySimpa false
namespace Go.Proofs.Ytdlhbmhdcdfocaa
open Go.RowKit

/-- a number's short bytes -/
def shortB (n : Nat) : Bytes := if n < 128 then [UInt8.ofNat n] else UInt8.ofNat (n % 128 + 128) :: shortB (n / 128)
theorem shortB_small (n : Nat) (h : n < 128) : shortB n = [UInt8.ofNat n] := by rw [shortB, if_pos h]
theorem shortB_big (n : Nat) (h : ¬ n < 128) : shortB n = UInt8.ofNat (n % 128 + 128) :: shortB (n / 128) := by rw [shortB, if_neg h]
theorem shortB_len : ∀ (k n : Nat), n < 128 ^ (k + 1) → (shortB n).length ≤ k + 1
  | 0, n, h => by rw [shortB_small n (by simpa using h)]; simp
  | k + 1, n, h => by
    by_cases h1 : n < 128
    · rw [shortB_small n h1]; simp
    · rw [shortB_big n h1]
      have := shortB_len k (n / 128) (by rw [Nat.pow_succ] at h; omega)
      simp; omega
theorem shortB_len10 (n : Nat) (h : n < 18446744073709551616) : (shortB n).length ≤ 10 := shortB_len 9 n (by omega)

theorem or128_fin : ∀ x : Fin 256, bits BinOp.or IntKind.u8 ((x.val : Nat) : Int) 128 = ((x.val % 128 + 128 : Nat) : Int) := by decide +kernel
theorem or128 (m : Nat) : bits BinOp.or IntKind.u8 ((m : Int) % 256) 128 = ((m % 128 + 128 : Nat) : Int) := by
  have h := or128_fin ⟨m % 256, by omega⟩
  simp only at h
  rw [show ((m % 256 : Nat) : Int) = (m : Int) % 256 by omega] at h
  rw [h]; congr 1; omega

set_option maxRecDepth 100000 in
set_option maxHeartbeats 1000000 in
theorem Put_any (a : Option Addr) (cap : Nat) (l : Bytes) (n : Nat) (w : World) (hl : l.length ≤ 536870912) (hn : n < 18446744073709551616) (h : BytesIn w a l) :
    Calls Try.prog 57 #[.slice a l.length cap, .int .u64 n] w (RetBytes (l ++ shortB n) w) := by
  obtain ⟨i0, hi, hz0, hz1, hz2⟩ := info_parts Try.infoByte
  have HC := Lib.hid (fun (W : World) (h : BytesIn W a l) => CloneBytes_any a cap l W (by omega) h)
  go_enter Try.func57, Try.ntmps57
  go_wp2_with (go_at_call 45; refine (HC.out _ h).mono ?_; rintro e w1 ⟨v, rfl, hown, hbel⟩)
  go_loopw [1, 5] (fun x out wr => ∃ (m : Nat) (d : Bytes), x = .int .u64 m ∧ m ≤ n ∧ d.length + (shortB m).length = l.length + (shortB n).length ∧ l ++ shortB n = d ++ shortB m ∧ wr.ownsRow w.heap.size 5 1 out d.length (byteVals d) ∧ Below w.heap.size w wr) (fun x _ _ => (intOf x).toNat)
  case atStart => exact ⟨n, l, rfl, Nat.le_refl _, rfl, rfl, hown, hbel⟩
  case round =>
    obtain ⟨m, d, rfl, hm, hlen, hpre, hown2, hbel2⟩ := hrel
    have HP := Lib.hid hpre
    clear hpre
    have hzw := hbel2.size
    by_cases h1 : m < 128
    · have hS := Lib.hid (shortB_small m h1)
      have hl1 : d.length ≤ l.length + 10 := by have := shortB_len10 n hn; omega
      have hx : Hid (Value.int .u8 (m : Int) = .int .u8 (UInt8.ofNat m).toNat) := by unfold Hid; congr 1; rw [UInt8.toNat_ofNat']; omega
      clear hlen
      go_wp2_with (at_builtin; go_loud (refine wpList_append_own _ rfl _ _ 42 rfl w.heap.size 5 i0 (.int .u8 0) 1 1 Try.underlying42 hi hz0 hz1 hz2 rfl (by decide) _ _ _ rfl (hown2.alloc _) ⟨wr.heap.size, 0, none⟩ 1 1 [.int .u8 (m : Int)] rfl rfl (cell_one_new _ _ _) (by simp [Value.oneCell']) (by unfold maxLen; omega) (by omega) (by simp; omega) ?_))
      intro v' w2 hown3 hgrow _
      have hb3 := (hbel2.alloc hzw (Obj.cells #[.int .u8 (m : Int)] 5)).grown hgrow (by simp; omega) (fun k hk => (hown2.lt k hk).1)
      go_wp2
      go_ret
      exact ⟨_, rfl, by rw [hx.out] at hown3; rw [HP.out, hS.out]; simpa [byteVals_append, byteVals] using hown3, hb3⟩
    · have hS := Lib.hid (shortB_big m h1)
      have hl0 : (shortB m).length = (shortB (m / 128)).length + 1 := by rw [hS.out]; simp
      have hl1 : d.length ≤ l.length + 10 := by have := shortB_len10 n hn; omega
      have hl2 : (d ++ [UInt8.ofNat (m % 128 + 128)]).length + (shortB (m / 128)).length = l.length + (shortB n).length := by simp; omega
      have HL2 := Lib.hid hl2
      have hbo := or128 m
      have hx : Hid (Value.int .u8 ((m : Int) % 128 + 128) = .int .u8 (UInt8.ofNat (m % 128 + 128)).toNat) := by unfold Hid; congr 1; rw [UInt8.toNat_ofNat']; omega
      clear hlen hl0 hl2
      go_wp2_with (at_builtin; go_loud (refine wpList_append_own _ rfl _ _ 42 rfl w.heap.size 5 i0 (.int .u8 0) 1 1 Try.underlying42 hi hz0 hz1 hz2 rfl (by decide) _ _ _ rfl (hown2.alloc _) ⟨wr.heap.size, 0, none⟩ 1 1 [_] rfl rfl (cell_one_new _ _ _) (by simp [Value.oneCell']) (by unfold maxLen; omega) (by omega) (by simp; omega) ?_))
      intro v' w2 hown3 hgrow _
      have hb3 := (hbel2.alloc hzw _).grown hgrow (by simp; omega) (fun k hk => (hown2.lt k hk).1)
      go_wp2
      go_roundw
      case rel => exact ⟨m / 128, d ++ [UInt8.ofNat (m % 128 + 128)], by go_num, by omega, HL2.out, by rw [HP.out, hS.out]; simp, by rw [hx.out] at hown3; simpa [byteVals_append, byteVals] using hown3, hb3⟩
      case measure => simp [intOf] <;> omega
end Go.Proofs.Ytdlhbmhdcdfocaa
