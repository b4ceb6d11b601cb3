/- The reference of package ascii (biscottiref06) computes the plain functions of Defs. Conditions: texts of at most 2^30 bytes. -/
import Derived.Test.YtcijajjngmmbeaaAscii
set_option linter.unusedSimpArgs false
set_option linter.unusedVariables false
set_option linter.unnecessarySimpa false
namespace Go.Proofs.Ytcijajjngmmbeaa
open Go.RowKit

end Go.Proofs.Ytcijajjngmmbeaa

/- The reference of package ascii (biscottiref06), second part: Trim, Split, Number, Text. Conditions: texts of at most 2^30 bytes. -/
namespace Go.Proofs.Ytcijajjngmmbeaa
open Go.RowKit

theorem trimL_drop_step (s : ByteArray) (k : Nat) (h : k < s.size) (hb : isBlank s[k] = true) : trimL ((bl s).drop k) = trimL ((bl s).drop (k + 1)) := by
  unfold trimL; rw [drop_cons s k h, List.dropWhile_cons, if_pos hb]
theorem trimL_drop_stop (s : ByteArray) (k : Nat) (h : k < s.size) (hb : isBlank s[k] = false) : trimL ((bl s).drop k) = (bl s).drop k := by
  unfold trimL; rw [drop_cons s k h, List.dropWhile_cons, hb]; simp
theorem take_drop_snoc (s : ByteArray) (f k : Nat) (h : k < s.size) (hf : f ≤ k) : ((bl s).take (k + 1)).drop f = ((bl s).take k).drop f ++ [s[k]] := by
  rw [List.take_succ_eq_append_getElem (by simpa [bl_length] using h), List.drop_append_of_le_length (by simp [bl_length]; omega)]
  rfl

/-- a beginning put ahead of the first part -/
def headOn (p : Bytes) : List Bytes → List Bytes
  | [] => [p]
  | h :: t => (p ++ h) :: t
theorem headOn_nil (c : UInt8) (l : Bytes) : headOn [] (splitB c l) = splitB c l := by
  cases h : splitB c l with
  | nil => exact absurd h (splitB_ne c l)
  | cons a b => simp [headOn]
theorem headOn_snoc (c x : UInt8) (p r : Bytes) (h : ¬ (x.toNat : Int) = c.toNat) : headOn p (splitB c (x :: r)) = headOn (p ++ [x]) (splitB c r) := by
  have h' : ¬ x.toNat = c.toNat := fun e => h (by rw [e])
  rw [splitB, if_neg h']
  cases hs : splitB c r with
  | nil => exact absurd hs (splitB_ne c r)
  | cons a b => simp [headOn]
theorem headOn_cut (c x : UInt8) (p r : Bytes) (h : (x.toNat : Int) = c.toNat) : headOn p (splitB c (x :: r)) = p :: splitB c r := by
  have h' : x.toNat = c.toNat := by omega
  rw [splitB, if_pos h']; simp [headOn]

end Go.Proofs.Ytcijajjngmmbeaa

/- The reference of package ascii (biscottiref06), third part: Number, Text. Conditions: texts of at most 2^30 bytes; numbers from 0 to 2^62. -/
namespace Go.Proofs.Ytcijajjngmmbeaa
open Go.RowKit


end Go.Proofs.Ytcijajjngmmbeaa

/- The reference's Text: a number's digits. Conditions: numbers from 0 to 2^62. -/
namespace Go.Proofs.Ytcijajjngmmbeaa
open Go.RowKit

theorem textN_small (n : Nat) (h : n < 10) : textN n = [UInt8.ofNat (48 + n)] := by rw [textN, if_pos h]
theorem textN_big (n : Nat) (h : ¬ n < 10) : textN n = textN (n / 10) ++ [UInt8.ofNat (48 + n % 10)] := by rw [textN, if_neg h]

theorem textN_len (n : Nat) : (textN n).length ≤ n + 1 := by
  induction n using Nat.strongRecOn with
  | _ n ih =>
    by_cases h : n < 10
    · rw [textN_small n h]; simp
    · rw [textN_big n h]
      have := ih (n / 10) (by omega)
      simp only [List.length_append, List.length_cons, List.length_nil]
      omega
theorem conv_one (w : World) (x : Int) (c : UInt8) (h : x = c.toNat) :
    (convert 82 9 (.slice (some ⟨w.heap.size, 0, none⟩) 1 1)).run Try.prog (w.alloc (Obj.cells #[.int .u8 x] 5)) = .ok (.string ⟨#[c]⟩) (w.alloc (Obj.cells #[.int .u8 x] 5)) :=
  run_convert_bytes_back (P := Try.prog) _ 82 9 5 ⟨w.heap.size, 0, none⟩ 1 [c] Try.underlying82 Try.underlying5 Try.underlying9 (fun j hj => by
    have : j = 0 := by simp at hj; omega
    subst this
    simp only [Addr.add, h]
    exact cell_one_new _ _ _ 0 _ rfl)

end Go.Proofs.Ytcijajjngmmbeaa
