/- The reference's Text: a number's digits. Conditions: numbers from 0 to 2^62. -/
import Derived.Test.YtdlhbmhdcdfocaaRefC
set_option linter.unusedSimpArgs false
set_option linter.unusedVariables false
set_option linter.unnecessarySimpa false
namespace Go.Proofs.Ytdlhbmhdcdfocaa
open Go.RowKit

theorem textN_small (n : Nat) (h : n < 10) : textN n = [UInt8.ofNat (48 + n)] := by rw [textN, if_pos h]
theorem textN_big (n : Nat) (h : ¬ n < 10) : textN n = textN (n / 10) ++ [UInt8.ofNat (48 + n % 10)] := by rw [textN, if_neg h]

theorem textN_len (n : Nat) : (textN n).length ≤ n + 1 := by
  induction n using Nat.strongRecOn with
  | _ n ih =>
    by_cases h : n < 10
    · rw [textN_small n h]; simp
    · rw [textN_big n h]
      have := ih (n / 10) (by omega)
      simp only [List.length_append, List.length_cons, List.length_nil]
      omega
theorem conv_one (w : World) (x : Int) (c : UInt8) (h : x = c.toNat) :
    (convert 42 9 (.slice (some ⟨w.heap.size, 0, none⟩) 1 1)).run Try.prog (w.alloc (Obj.cells #[.int .u8 x] 5)) = .ok (.string ⟨#[c]⟩) (w.alloc (Obj.cells #[.int .u8 x] 5)) :=
  run_convert_bytes_back (P := Try.prog) _ 42 9 5 ⟨w.heap.size, 0, none⟩ 1 [c] Try.underlying42 Try.underlying5 Try.underlying9 (fun j hj => by
    have : j = 0 := by simp at hj; omega
    subst this
    simp only [Addr.add, h]
    exact cell_one_new _ _ _ 0 _ rfl)

set_option maxRecDepth 100000 in
set_option maxHeartbeats 1000000 in
theorem rText_any (n : Nat) (w : World) (hn : n ≤ 4611686018427387904) :
    Calls Try.prog 80 #[.int .i64 n] w fun e w' => e = .returned (.string (mkS (textN n))) ∧ Below w.heap.size w w' := by
  go_enter Try.func80, Try.ntmps80
  go_wp2
  go_loopw [0, 3] (fun v out wr => ∃ (m : Nat) (t : ByteArray), m ≤ n ∧ v = .int .i64 m ∧ out = .string t ∧ textN n = textN m ++ bl t ∧ Below w.heap.size w wr) (fun v _ _ => (intOf v).toNat)
  case atStart => exact ⟨n, ByteArray.empty, Nat.le_refl _, rfl, rfl, by simp [bl], Below.refl _ _⟩
  case round =>
    obtain ⟨m, t, hm, rfl, rfl, hpre, hbel⟩ := hrel
    have HP := Lib.hid hpre
    have htl : t.size ≤ 4611686018427387905 := by
      have h1 := congrArg List.length hpre
      have h2 := textN_len n
      rw [List.length_append, bl_length] at h1
      omega
    clear hpre
    by_cases h9 : m < 10
    · have HT := Lib.hid (textN_small m h9)
      have hcv := conv_one wr (48 + (m : Int)) (UInt8.ofNat (48 + m)) (by rw [UInt8.toNat_ofNat']; omega)
      go_wp2
      clear hcv
      go_ret
      exact ⟨ret_val (congrArg Value.string (mkS_of (by rw [HP.out, HT.out]; simp [bl]))), hbel.alloc hbel.size _⟩
    · have HT := Lib.hid (textN_big m h9)
      have hcv := conv_one wr (48 + (m : Int) % 10) (UInt8.ofNat (48 + m % 10)) (by rw [UInt8.toNat_ofNat']; omega)
      go_wp2
      clear hcv
      go_roundw
      case rel => exact ⟨m / 10, _, by omega, by go_num, rfl, by rw [HP.out, HT.out]; simp [bl], hbel.alloc hbel.size _⟩
      case measure => simp [intOf] <;> omega
end Go.Proofs.Ytdlhbmhdcdfocaa
