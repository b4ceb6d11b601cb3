/- The functions of package ascii and of its reference compute the plain functions of Defs. Conditions: texts shorter than the greatest length. -/
import Derived.Test.YtkklcpmbgfgcmaaGreatChecked
import Derived.Test.YtkklcpmbgfgcmaaGreatKit
set_option linter.unusedSimpArgs false
set_option linter.unusedVariables false
set_option linter.unnecessarySimpa false
namespace Go.Proofs.YtkklcpmbgfgcmaaGreat
open Go.RowKit
set_option maxHeartbeats 400000 in
theorem find_any (s : ByteArray) (c : UInt8) (w : World) (hs : s.size ≤ maxLen) :
 Calls Tryz.prog 63 #[.string s, .int .u8 c.toNat] w fun e w' => e = .returned (.int .i64 (findI (bl s) c)) ∧ w = w' := by
 unfold maxLen at hs
 go_enter Tryz.func63, Tryz.ntmps63
 go_wp2
 go_step3
 go_wp2
 go_step3
 go_wp2
 go_loop [5, 6, 9] (fun t _ i => ∃ k : Nat, k ≤ s.size ∧ t = .int .i64 (-1) ∧ i = .int .i64 k ∧ findI (bl s) c = findFrom k ((bl s).drop k) c) (fun _ _ i => s.size - (intOf i).toNat)
 case atStart => exact ⟨0, Nat.zero_le _, rfl, rfl, by simp [findFrom_zero]⟩
 case round =>
  obtain ⟨k, hk, rfl, rfl, hpre⟩ := hrel
  have HP := Lib.hid hpre
  clear hpre
  by_cases hlt : k < s.size
  ·have HD := Lib.hid (drop_cons s k hlt)
   by_cases h1 : (s[k].toNat : Int) = c.toNat
   ·have h2 : ((s[k].toNat : Int) == (c.toNat : Int)) = true := by simp [h1]
    have H1 := Lib.hid h1
    clear h1
    go_wp2
    try rw [Exit.noGoto_ret]
    go_ret
    exact ⟨ret_int (by rw [HP.out, HD.out, findFrom_cons_eq H1.out]), rfl⟩
   ·have h2 : ((s[k].toNat : Int) == (c.toNat : Int)) = false := by simp; omega
    have H1 := Lib.hid h1
    clear h1
    go_wp2
    go_round
    case rel => exact ⟨k + 1, by omega, rfl, by go_num, by rw [HP.out, HD.out, findFrom_cons_ne H1.out]⟩
    case measure => simp [intOf]; omega
  ·have HD := Lib.hid (drop_all s k hlt)
   go_wp2
   try rw [Exit.noGoto_ret]
   go_ret
   exact ⟨ret_int (by rw [HP.out, HD.out, findFrom_nil]), rfl⟩
end Go.Proofs.YtkklcpmbgfgcmaaGreat
/- ascii.Cut, Split, Lower, Number compute the plain functions of Defs. Conditions: texts of at most 2^30 bytes. -/
namespace Go.Proofs.YtkklcpmbgfgcmaaGreat
open Go.RowKit
def cutB (c : UInt8) (l : Bytes) : Bytes × Bytes × Bool := match findB c l with | none => (l, [], false) | some k => (l.take k, l.drop (k + 1), true)
theorem below_drewN' {B : Nat} {w : World} (n : Nat) : Below B w (w.drewN n) := ⟨rfl, rfl, rfl, Nat.le_refl _, fun _ _ => rfl⟩
set_option maxHeartbeats 400000 in
theorem Cut_any (s : ByteArray) (c : UInt8) (w : World) (hs : s.size ≤ 1073741824) :
 Calls Tryz.prog 47 #[.string s, .int .u8 c.toNat] w fun e w' => e = .returned (.tuple #[.string (mkS (cutB c (bl s)).1), .string (mkS (cutB c (bl s)).2.1), .bool (cutB c (bl s)).2.2]) ∧ Below w.heap.size w w' := by
 by_cases hn : 0 ≤ findI (bl s) c
 ·obtain ⟨k, hk, hki, hkl⟩ := findI_nonneg hn
  rw [bl_length] at hkl
  have hx : IntKind.i64.wrap ((k : Int) + 1) = (k : Int) + 1 := IntWalk.i64_in _ (by omega)
  have hy : ((k : Int) + 1).toNat = k + 1 := by omega
  have hz : (0 : Int) ≤ (k : Int) + 1 := by omega
  have hk0 : (0 : Int) ≤ (k : Int) := by omega
  have hq : (k : Int) ≤ (s.size : Int) := by omega
  have hq1 : (k : Int) + 1 ≤ (s.size : Int) := by omega
  have HK := Lib.hid hk
  have HKI := Lib.hid hki
  clear hk hki hn
  go_enter Tryz.func47, Tryz.ntmps47
  go_wp2_with (go_at_call 63; refine (find_any s c _ (by unfold maxLen; omega)).mono ?_; rintro e w1 ⟨rfl, rfl⟩; rw [HKI.out])
  go_quiet (fail)
  clear hx hy
  go_wp2
  go_ret3
  exact ⟨by rw [show cutB c (bl s) = ((bl s).take k, (bl s).drop (k + 1), true) by unfold cutB; rw [HK.out]]; simp only [mkS_take, mkS_drop]; rfl, below_drewN' _⟩
 ·have HN := Lib.hid (findI_neg (by omega : findI (bl s) c < 0))
  have hneg : findI (bl s) c < 0 := by omega
  go_enter Tryz.func47, Tryz.ntmps47
  go_wp2_with (go_at_call 63; refine (find_any s c _ (by unfold maxLen; omega)).mono ?_; rintro e w1 ⟨rfl, rfl⟩)
  go_ret3
  exact ⟨by rw [show cutB c (bl s) = (bl s, [], false) by unfold cutB; rw [HN.out], mkS_bl]; rfl, Below.refl _ _⟩
/-- the strings of some texts -/
def strVals (l : List Bytes) : List Value := l.map fun x => .string (mkS x)
/-- what Split hands back -/
def RetStrs (E : TypeId) (l : List Bytes) (w : World) (e : Ending) (w' : World) : Prop :=
 ∃ v, e = .returned v ∧ w'.ownsRow w.heap.size E 1 v l.length (strVals l) ∧ Below w.heap.size w w'
theorem Tryz.infoStr : (Tryz.prog.info? 9).map (fun i => (i.zero, i.size, i.bytes)) = some (some (.string ByteArray.empty), 1, 16) := by kernel_rfl
theorem cutB_split (c : UInt8) (l : Bytes) (h : (cutB c l).2.2 = true) : splitB c l = (cutB c l).1 :: splitB c (cutB c l).2.1 := by
 unfold cutB at *
 cases hf : findB c l with
 | none => simp [hf] at h
 | some k => simp [splitB_some hf]
theorem cutB_last (c : UInt8) (l : Bytes) (h : (cutB c l).2.2 = false) : splitB c l = [(cutB c l).1] := by
 unfold cutB at *
 cases hf : findB c l with
 | none => simp [splitB_none hf]
 | some k => simp [hf] at h
theorem cutB_lt (c : UInt8) (l : Bytes) (h : (cutB c l).2.2 = true) : (cutB c l).2.1.length < l.length := by
 unfold cutB at *
 cases hf : findB c l with
 | none => simp [hf] at h
 | some k => have := findB_lt hf; simp; omega
set_option maxRecDepth 100000 in
set_option maxHeartbeats 1000000 in
theorem Split_any (s : ByteArray) (c : UInt8) (w : World) (hs : s.size ≤ 1073741824) :
 Calls Tryz.prog 29 #[.string s, .int .u8 c.toNat] w (RetStrs 9 (splitB c (bl s)) w) := by
 obtain ⟨i0, hi, hz0, hz1, hz2⟩ := info_parts Tryz.infoStr
 go_enter Tryz.func29, Tryz.ntmps29
 go_wp2
 go_loopw [0, 5] (fun v out wr => ∃ (t : ByteArray) (done : List Bytes), v = .string t ∧ done.length + t.size ≤ s.size ∧ splitB c (bl s) = done ++ splitB c (bl t) ∧ wr.ownsRow w.heap.size 9 1 out done.length (strVals done) ∧ Below w.heap.size w wr) (fun v _ _ => strLen v)
 case atStart => exact ⟨s, [], rfl, by simp, rfl, World.ownsRow_nil _ _ _ _, Below.refl _ _⟩
 case round =>
  obtain ⟨t, done, rfl, hlen, hpre, hown, hbel⟩ := hrel
  have HP := Lib.hid hpre
  clear hpre
  have hcall := fun (W : World) => Cut_any t c W (by omega)
  have hS := cutB_split c (bl t)
  have hT := cutB_last c (bl t)
  have hL := cutB_lt c (bl t)
  generalize cutB c (bl t) = x at hcall hS hT hL
  obtain ⟨p, q, b⟩ := x
  simp only at hcall hS hT hL
  have HC := Lib.hid hcall
  clear hcall
  rw [bl_length] at hL
  cases b with
  | true =>
    have HS := Lib.hid (hS rfl)
    have hL' := hL rfl
    clear hS hT hL
    go_wp2_with (first
        | (go_at_call 47; refine (HC.out _).mono ?_; rintro e w1 ⟨rfl, hb⟩; have hown1 := ownsRow_below hown hb; have hbel1 := hbel.trans (hb.mono hbel.size); have hzw := hbel1.size)
        | (at_builtin; go_loud (refine wpList_append_own _ rfl _ _ 51 rfl w.heap.size 9 i0 (.string ByteArray.empty) 1 16 Tryz.underlying51 hi hz0 hz1 hz2 rfl (by decide) _ _ _ rfl (hown1.alloc _) ⟨w1.heap.size, 0, none⟩ 1 1 [.string (mkS p)] rfl rfl ?c1 ?c2 ?c3 ?c4 ?c5 ?_)))
    case c1 => exact cell_one_new _ _ _
    case c2 => simp [Value.oneCell']
    case c3 => unfold maxLen; omega
    case c4 => omega
    case c5 => simp; omega
    intro v' w2 hown2 hgrow _
    have hbel2 := (hbel1.alloc hzw (Obj.cells #[.string (mkS p)] 9)).grown hgrow (by simp; omega) (fun k hk => (hown1.lt k hk).1)
    go_wp2
    go_roundw
    case rel => exact ⟨mkS q, done ++ [p], rfl, by simp [mkS_size]; omega, by rw [HP.out, HS.out]; simp [bl_mkS], by simpa [strVals] using hown2, hbel2⟩
    case measure => simp [strLen, mkS_size]; omega
  | false =>
    have HS := Lib.hid (hT rfl)
    clear hS hT hL
    go_wp2_with (first
        | (go_at_call 47; refine (HC.out _).mono ?_; rintro e w1 ⟨rfl, hb⟩; have hown1 := ownsRow_below hown hb; have hbel1 := hbel.trans (hb.mono hbel.size); have hzw := hbel1.size)
        | (at_builtin; go_loud (refine wpList_append_own _ rfl _ _ 51 rfl w.heap.size 9 i0 (.string ByteArray.empty) 1 16 Tryz.underlying51 hi hz0 hz1 hz2 rfl (by decide) _ _ _ rfl (hown1.alloc _) ⟨w1.heap.size, 0, none⟩ 1 1 [.string (mkS p)] rfl rfl ?d1 ?d2 ?d3 ?d4 ?d5 ?_)))
    case d1 => exact cell_one_new _ _ _
    case d2 => simp [Value.oneCell']
    case d3 => unfold maxLen; omega
    case d4 => omega
    case d5 => simp; omega
    intro v' w2 hown2 hgrow _
    have hbel2 := (hbel1.alloc hzw (Obj.cells #[.string (mkS p)] 9)).grown hgrow (by simp; omega) (fun k hk => (hown1.lt k hk).1)
    go_wp2
    go_ret
    exact ⟨_, rfl, by rw [HP.out, HS.out]; simpa [strVals] using hown2, hbel2⟩
end Go.Proofs.YtkklcpmbgfgcmaaGreat
/- ascii.Lower, Number. -/
namespace Go.Proofs.YtkklcpmbgfgcmaaGreat
open Go.RowKit
end Go.Proofs.YtkklcpmbgfgcmaaGreat
/- ascii.Number. -/
namespace Go.Proofs.YtkklcpmbgfgcmaaGreat
open Go.RowKit
end Go.Proofs.YtkklcpmbgfgcmaaGreat
