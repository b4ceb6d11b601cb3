/- The reference of package ascii (biscottiref06) computes the plain functions of Defs. Conditions: texts of at most 2^30 bytes. -/
import Derived.Test.YtohmadchgacafaaAscii
set_option linter.unusedSimpArgs false
set_option linter.unusedVariables false
set_option linter.unnecessarySimpa false
namespace Go.Proofs.Ytohmadchgacafaa
open Go.RowKit
end Go.Proofs.Ytohmadchgacafaa
/- The reference of package ascii (biscottiref06), second part: Trim, Split, Number, Text. Conditions: texts of at most 2^30 bytes. -/
namespace Go.Proofs.Ytohmadchgacafaa
open Go.RowKit
theorem take_drop_snoc (s : ByteArray) (f k : Nat) (h : k < s.size) (hf : f ≤ k) : ((bl s).take (k + 1)).drop f = ((bl s).take k).drop f ++ [s[k]] := by
 rw [List.take_succ_eq_append_getElem (by simpa [bl_length] using h), List.drop_append_of_le_length (by simp [bl_length]; omega)]
 rfl
/-- a beginning put ahead of the first part -/
def headOn (p : Bytes) : List Bytes → List Bytes
 | [] => [p]
 | h :: t => (p ++ h) :: t
theorem headOn_nil (c : UInt8) (l : Bytes) : headOn [] (splitB c l) = splitB c l := by
 cases h : splitB c l with
 | nil => exact absurd h (splitB_ne c l)
 | cons a b => simp [headOn]
theorem headOn_snoc (c x : UInt8) (p r : Bytes) (h : ¬ (x.toNat : Int) = c.toNat) : headOn p (splitB c (x :: r)) = headOn (p ++ [x]) (splitB c r) := by
 have h' : ¬ x.toNat = c.toNat := fun e => h (by rw [e])
 rw [splitB, if_neg h']
 cases hs : splitB c r with
 | nil => exact absurd hs (splitB_ne c r)
 | cons a b => simp [headOn]
theorem headOn_cut (c x : UInt8) (p r : Bytes) (h : (x.toNat : Int) = c.toNat) : headOn p (splitB c (x :: r)) = p :: splitB c r := by
 have h' : x.toNat = c.toNat := by omega
 rw [splitB, if_pos h']; simp [headOn]
set_option maxRecDepth 100000 in
set_option maxHeartbeats 1000000 in
theorem rSplit_any (s : ByteArray) (c : UInt8) (w : World) (hs : s.size ≤ 1073741824) :
 Calls Try.prog 50 #[.string s, .int .u8 c.toNat] w (RetStrs 9 (splitB c (bl s)) w) := by
 obtain ⟨i0, hi, hz0, hz1, hz2⟩ := info_parts Try.infoStr
 go_enter Try.func50, Try.ntmps50
 go_wp2
 go_loopw [5, 6, 7] (fun out vf vk wr => ∃ (k f : Nat) (done : List Bytes), f ≤ k ∧ k ≤ s.size ∧ vf = .int .i64 f ∧ vk = .int .i64 k ∧ done.length ≤ k ∧ splitB c (bl s) = done ++ headOn (((bl s).take k).drop f) (splitB c ((bl s).drop k)) ∧ wr.ownsRow w.heap.size 9 1 out done.length (strVals done) ∧ Below w.heap.size w wr) (fun _ _ v _ => s.size - (intOf v).toNat)
 case atStart => exact ⟨0, 0, [], Nat.le_refl _, Nat.zero_le _, rfl, rfl, Nat.le_refl _, by simp [headOn_nil], World.ownsRow_made _ _ _ (Nat.le_refl _) (by decide) rfl, (Below.refl _ _).alloc (Nat.le_refl _) _⟩
 case round =>
  obtain ⟨k, f, done, hfk, hk, rfl, rfl, hlen, hpre, hown, hbel⟩ := hrel
  have HP := Lib.hid hpre
  clear hpre
  have hzw := hbel.size
  by_cases hlt : k < s.size
  ·have HD := Lib.hid (drop_cons s k hlt)
   have HS := Lib.hid (take_drop_snoc s f k hlt hfk)
   by_cases h1 : (s[k].toNat : Int) = c.toNat
   ·have h2 : ((s[k].toNat : Int) == (c.toNat : Int)) = true := by simp [h1]
    have HY : Hid (splitB c (bl s) = (done ++ [((bl s).take k).drop f]) ++ headOn [] (splitB c ((bl s).drop (k + 1)))) := by
     rw [Hid, HP.out, HD.out, headOn_cut _ _ _ _ h1, headOn_nil]; simp
    have HX := Lib.hid (mkS_of (bl_extract s f k))
    clear h1
    go_wp2_with (at_builtin; go_loud (refine wpList_append_own _ rfl _ _ 60 rfl w.heap.size 9 i0 (.string ByteArray.empty) 1 16 Try.underlying60 hi hz0 hz1 hz2 rfl (by decide) _ _ _ rfl (hown.alloc _) ⟨wr.heap.size, 0, none⟩ 1 1 [.string (s.extract f k)] rfl rfl ?c1 ?c2 ?c3 ?c4 ?c5 ?_))
    case c1 => exact cell_one_new _ _ _
    case c2 => simp [Value.oneCell']
    case c3 => unfold maxLen; omega
    case c4 => omega
    case c5 => simp; omega
    intro v' w2 hown2 hgrow _
    have hbel2 := (hbel.alloc hzw (Obj.cells #[.string (s.extract f k)] 9)).grown hgrow (by simp; omega) (fun j hj => (hown.lt j hj).1)
    go_wp2
    go_roundw
    case rel => exact ⟨k + 1, k + 1, done ++ [((bl s).take k).drop f], Nat.le_refl _, by omega, by go_num, by go_num, by simp; omega, by rw [HY.out]; congr 2; simp, by rw [HX.out] at hown2; simpa [strVals] using hown2, hbel2⟩
    case measure => simp [intOf] <;> omega
   ·have h2 : ((s[k].toNat : Int) == (c.toNat : Int)) = false := by simp; omega
    have HY : Hid (splitB c (bl s) = done ++ headOn (((bl s).take (k + 1)).drop f) (splitB c ((bl s).drop (k + 1)))) := by
     rw [Hid, HP.out, HD.out, headOn_snoc _ _ _ _ h1, HS.out]
    clear h1
    go_wp2
    go_roundw
    case rel => exact ⟨k + 1, f, done, by omega, by omega, rfl, by go_num, by omega, HY.out, hown, hbel⟩
    case measure => simp [intOf] <;> omega
  ·have hks : k = s.size := by omega
   subst hks
   have HX := Lib.hid (mkS_of (bl_extract s f s.size))
   have HY : Hid (splitB c (bl s) = done ++ [((bl s).take s.size).drop f]) := by
        rw [Hid, HP.out, drop_all s s.size (by omega)]; simp [splitB, headOn]
   go_wp2_with (at_builtin; go_loud (refine wpList_append_own _ rfl _ _ 60 rfl w.heap.size 9 i0 (.string ByteArray.empty) 1 16 Try.underlying60 hi hz0 hz1 hz2 rfl (by decide) _ _ _ rfl (hown.alloc _) ⟨wr.heap.size, 0, none⟩ 1 1 [.string (s.extract f s.size)] rfl rfl ?d1 ?d2 ?d3 ?d4 ?d5 ?_))
   case d1 => exact cell_one_new _ _ _
   case d2 => simp [Value.oneCell']
   case d3 => unfold maxLen; omega
   case d4 => omega
   case d5 => simp; omega
   intro v' w2 hown2 hgrow _
   have hbel2 := (hbel.alloc hzw (Obj.cells #[.string (s.extract f s.size)] 9)).grown hgrow (by simp; omega) (fun j hj => (hown.lt j hj).1)
   go_wp2
   go_ret
   exact ⟨_, rfl, by rw [HY.out]; rw [HX.out] at hown2; simpa [strVals] using hown2, hbel2⟩
end Go.Proofs.Ytohmadchgacafaa
/- The reference of package ascii (biscottiref06), third part: Number, Text. Conditions: texts of at most 2^30 bytes; numbers from 0 to 2^62. -/
namespace Go.Proofs.Ytohmadchgacafaa
open Go.RowKit
end Go.Proofs.Ytohmadchgacafaa
/- The reference's Text: a number's digits. Conditions: numbers from 0 to 2^62. -/
namespace Go.Proofs.Ytohmadchgacafaa
open Go.RowKit
end Go.Proofs.Ytohmadchgacafaa
