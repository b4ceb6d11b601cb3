/- Bytes that grow: slices.Clone, varint.Put. Conditions: at most 2^30 bytes. -/
import Derived.Test.YtohmadchgacafaaChecked
import Derived.Test.YtohmadchgacafaaKit
import Derived.Maps.AppendAt
import Derived.Lib.SliceRun
import Derived.Deep.MidRow
set_option linter.unusedSimpArgs false
set_option linter.unusedVariables false
set_option linter.unnecessarySimpa false
namespace Go.Proofs.Ytohmadchgacafaa
open Go.RowKit

def byteVals (l : Bytes) : List Value := l.map fun x => .int .u8 x.toNat
/-- a slice of bytes reads as l -/
def BytesIn (w : World) (a : Option Addr) (l : Bytes) : Prop := l = [] ∨ ∃ A off, a = some ⟨A, off, none⟩ ∧ BytesAt w A off l
theorem BytesIn.kept {w w' : World} {a : Option Addr} {l : Bytes} (h : BytesIn w a l) (hb : Below w.heap.size w w') : BytesIn w' a l := by
  rcases h with h | ⟨A, off, h1, h2⟩
  · exact Or.inl h
  · exact Or.inr ⟨A, off, h1, h2.below hb⟩
theorem byteVals_length (l : Bytes) : (byteVals l).length = l.length := by simp [byteVals]
theorem byteVals_append (l m : Bytes) : byteVals (l ++ m) = byteVals l ++ byteVals m := by simp [byteVals]
theorem byteVals_one (l : Bytes) : ∀ u ∈ byteVals l, u.oneCell' = true := by
  intro u hu
  simp only [byteVals, List.mem_map] at hu
  obtain ⟨x, _, rfl⟩ := hu
  rfl
theorem BytesAt.news {w : World} {A off : Nat} {l : Bytes} (h : BytesAt w A off l) : ∀ j u, (byteVals l)[j]? = some u → w.cell? ((⟨A, off, none⟩ : Addr).add j) = some u := by
  intro j u hj
  obtain ⟨hj', rfl⟩ := List.getElem?_eq_some_iff.1 hj
  rw [byteVals_length] at hj'
  rw [Addr.add_mid]
  rw [h j hj']
  simp [byteVals]
/-- what hands back bytes in memory of its own -/
def RetBytes (l : Bytes) (w : World) (e : Ending) (w' : World) : Prop :=
  ∃ v, e = .returned v ∧ w'.ownsRow w.heap.size 5 1 v l.length (byteVals l) ∧ Below w.heap.size w w'
theorem Try.infoByte : (Try.prog.info? 5).map (fun i => (i.zero, i.size, i.bytes)) = some (some (.int .u8 0), 1, 1) := by kernel_rfl

end Go.Proofs.Ytohmadchgacafaa

/- varint.Put: short bytes. Conditions: at most 2^30 bytes. -/
namespace Go.Proofs.Ytohmadchgacafaa
open Go.RowKit

/-- a number's short bytes -/
def shortB (n : Nat) : Bytes := if n < 128 then [UInt8.ofNat n] else UInt8.ofNat (n % 128 + 128) :: shortB (n / 128)
theorem shortB_small (n : Nat) (h : n < 128) : shortB n = [UInt8.ofNat n] := by rw [shortB, if_pos h]
theorem shortB_big (n : Nat) (h : ¬ n < 128) : shortB n = UInt8.ofNat (n % 128 + 128) :: shortB (n / 128) := by rw [shortB, if_neg h]
theorem shortB_len : ∀ (k n : Nat), n < 128 ^ (k + 1) → (shortB n).length ≤ k + 1
  | 0, n, h => by rw [shortB_small n (by simpa using h)]; simp
  | k + 1, n, h => by
    by_cases h1 : n < 128
    · rw [shortB_small n h1]; simp
    · rw [shortB_big n h1]
      have := shortB_len k (n / 128) (by rw [Nat.pow_succ] at h; omega)
      simp; omega
theorem shortB_len10 (n : Nat) (h : n < 18446744073709551616) : (shortB n).length ≤ 10 := shortB_len 9 n (by omega)

theorem or128_fin : ∀ x : Fin 256, bits BinOp.or IntKind.u8 ((x.val : Nat) : Int) 128 = ((x.val % 128 + 128 : Nat) : Int) := by decide +kernel
theorem or128 (m : Nat) : bits BinOp.or IntKind.u8 ((m : Int) % 256) 128 = ((m % 128 + 128 : Nat) : Int) := by
  have h := or128_fin ⟨m % 256, by omega⟩
  simp only at h
  rw [show ((m % 256 : Nat) : Int) = (m : Int) % 256 by omega] at h
  rw [h]; congr 1; omega

end Go.Proofs.Ytohmadchgacafaa
