/- The references on lists of items: Same, Without, Domain, Find, Near. Conditions: as in the text. -/
import Derived.Test.YtohmadchgacafaaIxO
set_option linter.unusedSimpArgs false
set_option linter.unusedVariables false
set_option linter.unnecessarySimpa false
namespace Go.Proofs.Ytohmadchgacafaa
open Go.RowKit
theorem it_iff (a b : It) : a = b ↔ a.key = b.key ∧ a.ck = b.ck := by cases a; cases b; simp
/-! ### does a name end with a domain -/
theorem split_app (b : Bytes) : ∀ pre : Bytes, splitB 46 (pre ++ 46 :: b) = splitB 46 pre ++ splitB 46 b
 | [] => by
   show splitB 46 (46 :: b) = splitB 46 [] ++ splitB 46 b
   rw [splitB]
   simp [splitB]
 | x :: pre => by
   have ih := split_app b pre
   have hne := splitB_ne 46 pre
   rw [List.cons_append, splitB, splitB, ih]
   split
   ·rfl
   ·cases hs : splitB 46 pre with
    | nil => exact absurd hs hne
    | cons h t => rfl
/-! ### Same -/
set_option maxRecDepth 100000 in
set_option maxHeartbeats 2000000 in
theorem rSameI_any (a b : Option Addr) (ca cb : Nat) (l m : List It) (w : World) (hl : l.length ≤ 1073741824) (hm : m.length ≤ 1073741824) (ha : ItsIn w a l) (hb : ItsIn w b m) :
 Calls Try.prog 10 #[.slice a l.length ca, .slice b m.length cb] w fun e w' => e = .returned (.bool (decide (l = m))) ∧ Below w.heap.size w w' := by
 by_cases hlen : l.length = m.length
 ·have hb1 : ((l.length : Nat) != (m.length : Nat)) = false := by rw [bne_eq_false_iff_eq]; exact hlen
  have hb2 : ((l.length : Int) != (m.length : Int)) = false := by rw [bne_eq_false_iff_eq]; omega
  have hg := noGuardItem
  have HL := Lib.hid hlen
  clear hlen
  go_enter Try.func10, Try.ntmps10
  go_wp2
  go_loopw [5] (fun i wr => ∃ k : Nat, k ≤ l.length ∧ i = .int .i64 k ∧ l.take k = m.take k ∧ Below w.heap.size w wr) (fun i _ => l.length - (intOf i).toNat)
  case atStart => exact ⟨0, Nat.zero_le _, rfl, rfl, by go_grown⟩
  case round =>
   obtain ⟨k, hk, rfl, hpre, hbw⟩ := hrel
   have HP := Lib.hid hpre
   clear hpre
   by_cases hlt : k < l.length
   ·have hlm : k < m.length := by have := HL.out; omega
    obtain ⟨A, off, rfl, hra⟩ := ItsIn.at (ha.kept hbw) hlt
    obtain ⟨A2, off2, rfl, hrb⟩ := ItsIn.at (hb.kept hbw) hlm
    have hlti : decide (k < l.length) = true := decide_eq_true hlt
    by_cases he : l[k] = m[k]
    ·have HS := Lib.hid (take_next hlt hlm HP.out he)
     have hEq := fun (W : World) => eqItem W 9997 l[k].key m[k].key l[k].ck m[k].ck
     rw [decide_eq_true ((it_iff _ _).1 he).1, decide_eq_true ((it_iff _ _).1 he).2] at hEq
     have HLT := Lib.hid hlt
     generalize l[k] = x at *
     generalize m[k] = y at *
     clear he
     go_upto_region 6 with fail
     refine wp_region_after (by kernel_rfl) (by kernel_rfl) (fun WA hWA => ?_)
     have hbA : Below wr.heap.size wr WA := by rw [hWA.out]; go_grown
     have p0 := rangeAt_kept hra hbA
     have p1 := rangeAt_kept hrb hbA
     clear hWA hra hrb
     go_big_quiet_step (fail)
     go_big_quiet_step (fail)
     go_big_quiet_step (fail)
     ((with_reducible refine wpQuiet_load_to 38 _ A (off + k * 11) (itCells x) (itVal x) rfl _ Try.underlying38 rfl (by kernel_rfl) p0 ?_ rfl ?_); exact rfl; go_simp)
     go_big_quiet_step (fail)
     go_big_quiet_step (fail)
     go_big_quiet_step (fail)
     ((with_reducible refine wpQuiet_load_to 38 _ A2 (off2 + k * 11) (itCells y) (itVal y) rfl _ Try.underlying38 rfl (by kernel_rfl) p1 ?_ rfl ?_); exact rfl; go_simp)
     go_big_quiet_step (fail)
     refine wpQuiet_nil ?_
     first
      | rintro _ ⟨i, rfl⟩
      | intro i
     have hiA := i.h
     generalize i.w = wq at hiA ⊢
     have hbq : Below wr.heap.size wr wq := below2 hbA hiA
     clear hbA hiA p0 p1
     go_wp2
     go_roundw
     case rel => exact ⟨k + 1, HLT.out, by go_num, HS.out, hbw.trans (hbq.mono hbw.size)⟩
     case measure => have := HLT.out; simp [intOf]; omega
    ·have HE : Hid (decide (l = m) = false) := decide_eq_false (take_ne hlt hlm he)
     have hEq := fun (W : World) => eqItem W 9997 l[k].key m[k].key l[k].ck m[k].ck
     have hff : (decide (l[k].key = m[k].key) && decide (l[k].ck = m[k].ck)) = false := by
      rw [Bool.eq_false_iff]
      intro h
      simp only [Bool.and_eq_true, decide_eq_true_eq] at h
      exact he ((it_iff _ _).2 h)
     rw [hff] at hEq
     generalize l[k] = x at *
     generalize m[k] = y at *
     clear he hff
     go_upto_region 6 with fail
     refine wp_region_after (by kernel_rfl) (by kernel_rfl) (fun WA hWA => ?_)
     have hbA : Below wr.heap.size wr WA := by rw [hWA.out]; go_grown
     have p0 := rangeAt_kept hra hbA
     have p1 := rangeAt_kept hrb hbA
     clear hWA hra hrb
     go_big_quiet_step (fail)
     go_big_quiet_step (fail)
     go_big_quiet_step (fail)
     ((with_reducible refine wpQuiet_load_to 38 _ A (off + k * 11) (itCells x) (itVal x) rfl _ Try.underlying38 rfl (by kernel_rfl) p0 ?_ rfl ?_); exact rfl; go_simp)
     go_big_quiet_step (fail)
     go_big_quiet_step (fail)
     go_big_quiet_step (fail)
     ((with_reducible refine wpQuiet_load_to 38 _ A2 (off2 + k * 11) (itCells y) (itVal y) rfl _ Try.underlying38 rfl (by kernel_rfl) p1 ?_ rfl ?_); exact rfl; go_simp)
     go_big_quiet_step (fail)
     refine wpQuiet_nil ?_
     first
      | rintro _ ⟨i, rfl⟩
      | intro i
     have hiA := i.h
     generalize i.w = wq at hiA ⊢
     have hbq : Below wr.heap.size wr wq := below2 hbA hiA
     clear hbA hiA p0 p1
     go_wp2
     all_goals
      go_ret
      exact ⟨ret_bool HE.out.symm, hbw.trans (hbq.mono hbw.size)⟩
   ·have hlm : ¬ k < m.length := by have := HL.out; omega
    have hlti : decide (k < l.length) = false := decide_eq_false hlt
    have HE : Hid (decide (l = m) = true) := decide_eq_true (take_all hlt hlm HP.out)
    go_wp2
    all_goals
     go_ret
     exact ⟨ret_bool HE.out.symm, hbw⟩
 ·have HE : Hid (decide (l = m) = false) := decide_eq_false (len_ne hlen)
  have hb1 : ((l.length : Nat) != (m.length : Nat)) = true := by rw [bne_iff_ne]; exact hlen
  have hb2 : ((l.length : Int) != (m.length : Int)) = true := by rw [bne_iff_ne]; omega
  clear hlen
  go_enter Try.func10, Try.ntmps10
  go_wp2
  all_goals
   go_ret
   exact ⟨ret_bool HE.out.symm, by go_grown⟩
/-! ### filters -/
end Go.Proofs.Ytohmadchgacafaa
