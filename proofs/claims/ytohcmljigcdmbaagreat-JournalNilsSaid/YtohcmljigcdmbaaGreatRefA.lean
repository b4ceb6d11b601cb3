/- The functions of package ascii and of its reference compute the plain functions of Defs. Conditions: texts shorter than the greatest length. -/
import Derived.Test.YtohcmljigcdmbaaGreatChecked
import Derived.Test.YtohcmljigcdmbaaGreatKit
set_option linter.unusedSimpArgs false
set_option linter.unusedVariables false
set_option linter.unnecessarySimpa false
set_option maxHeartbeats 16000000
set_option maxRecDepth 100000
namespace Go.Proofs.YtohcmljigcdmbaaGreat
open Go.RowKit
theorem digit_any (c : UInt8) (w : World) : Calls Tryz.prog 215 #[.int .u8 c.toNat] w fun e w' => e = .returned (.bool (isDigit c)) ∧ w = w' := by
 go_enter Tryz.func215, Tryz.ntmps215
 go_wp2
 all_goals
  go_ret
  exact ⟨ret_bool (by unfold isDigit; rw [Bool.eq_iff_iff]; simp <;> omega), rfl⟩
theorem blank_any (c : UInt8) (w : World) : Calls Tryz.prog 179 #[.int .u8 c.toNat] w fun e w' => e = .returned (.bool (isBlank c)) ∧ w = w' := by
 go_enter Tryz.func179, Tryz.ntmps179
 go_wp2
 all_goals
  go_ret
  exact ⟨ret_bool (by unfold isBlank; rw [Bool.eq_iff_iff]; simp <;> omega), rfl⟩
theorem lowerB_le (c : UInt8) : ((lowerB c).toNat : Int) = if 65 ≤ (c.toNat : Int) ∧ (c.toNat : Int) ≤ 90 then c.toNat + 32 else c.toNat := by
 unfold lowerB
 have := c.toNat_lt
 split
 ·rw [if_pos (by omega), UInt8.toNat_add]; simp; omega
 ·rw [if_neg (by omega)]
theorem lower_any (c : UInt8) (w : World) : Calls Tryz.prog 174 #[.int .u8 c.toNat] w fun e w' => e = .returned (.int .u8 (lowerB c).toNat) ∧ w = w' := by
 have hc := c.toNat_lt
 go_enter Tryz.func174, Tryz.ntmps174
 go_wp2
 all_goals
  go_ret
  exact ⟨ret_int (by rw [lowerB_le]; split <;> omega), rfl⟩
theorem Digits_any (s : ByteArray) (w : World) (hs : s.size ≤ maxLen) :
 Calls Tryz.prog 200 #[.string s] w fun e w' => e = .returned (.int .i64 (digits (bl s))) ∧ w = w' := by
 unfold maxLen at hs
 go_enter Tryz.func200, Tryz.ntmps200
 go_wp2
 go_loop [3] (fun n => ∃ k : Nat, k ≤ s.size ∧ n = .int .i64 k ∧ digits (bl s) = k + digits ((bl s).drop k)) (fun n => s.size - (intOf n).toNat)
 case atStart => exact ⟨0, Nat.zero_le _, rfl, by simp⟩
 case round =>
  obtain ⟨k, hk, rfl, hpre⟩ := hrel
  have HP := Lib.hid hpre
  clear hpre
  by_cases hlt : k < s.size
  ·have HD := Lib.hid (drop_cons s k hlt)
   by_cases h1 : isDigit s[k] = true
   ·go_wp2_with (go_at_call 215; refine (digit_any _ _).mono ?_; rintro e w1 ⟨rfl, rfl⟩)
    go_round
    case rel => exact ⟨k + 1, by omega, by go_num, by rw [HP.out, HD.out]; simp [digits, h1]; omega⟩
    case measure => simp [intOf]; omega
   ·go_wp2_with (go_at_call 215; refine (digit_any _ _).mono ?_; rintro e w1 ⟨rfl, rfl⟩)
    go_ret
    exact ⟨ret_int (by rw [HP.out, HD.out]; simp [digits, h1]), rfl⟩
  ·have HD := Lib.hid (drop_all s k hlt)
   go_wp2
   go_ret
   exact ⟨ret_int (by rw [HP.out, HD.out]; simp [digits]), rfl⟩
theorem find_any (s : ByteArray) (c : UInt8) (w : World) (hs : s.size ≤ maxLen) :
 Calls Tryz.prog 180 #[.string s, .int .u8 c.toNat] w fun e w' => e = .returned (.int .i64 (findI (bl s) c)) ∧ w = w' := by
 unfold maxLen at hs
 go_enter Tryz.func180, Tryz.ntmps180
 go_wp2
 go_step3
 go_wp2
 go_step3
 go_wp2
 go_loop [5, 6, 9] (fun t _ i => ∃ k : Nat, k ≤ s.size ∧ t = .int .i64 (-1) ∧ i = .int .i64 k ∧ findI (bl s) c = findFrom k ((bl s).drop k) c) (fun _ _ i => s.size - (intOf i).toNat)
 case atStart => exact ⟨0, Nat.zero_le _, rfl, rfl, by simp [findFrom_zero]⟩
 case round =>
  obtain ⟨k, hk, rfl, rfl, hpre⟩ := hrel
  have HP := Lib.hid hpre
  clear hpre
  by_cases hlt : k < s.size
  ·have HD := Lib.hid (drop_cons s k hlt)
   by_cases h1 : (s[k].toNat : Int) = c.toNat
   ·have h2 : ((s[k].toNat : Int) == (c.toNat : Int)) = true := by simp [h1]
    have H1 := Lib.hid h1
    clear h1
    go_wp2
    try rw [Exit.noGoto_ret]
    go_ret
    exact ⟨ret_int (by rw [HP.out, HD.out, findFrom_cons_eq H1.out]), rfl⟩
   ·have h2 : ((s[k].toNat : Int) == (c.toNat : Int)) = false := by simp; omega
    have H1 := Lib.hid h1
    clear h1
    go_wp2
    go_round
    case rel => exact ⟨k + 1, by omega, rfl, by go_num, by rw [HP.out, HD.out, findFrom_cons_ne H1.out]⟩
    case measure => simp [intOf]; omega
  ·have HD := Lib.hid (drop_all s k hlt)
   go_wp2
   try rw [Exit.noGoto_ret]
   go_ret
   exact ⟨ret_int (by rw [HP.out, HD.out, findFrom_nil]), rfl⟩
theorem Control_any (s : ByteArray) (w : World) (hs : s.size ≤ maxLen) :
 Calls Tryz.prog 147 #[.string s] w fun e w' => e = .returned (.bool (control (bl s))) ∧ w = w' := by
 unfold maxLen at hs
 go_enter Tryz.func147, Tryz.ntmps147
 go_wp2
 go_loop [3, 6] (fun _ i => ∃ k : Nat, k ≤ s.size ∧ i = .int .i64 k ∧ control (bl s) = control ((bl s).drop k)) (fun _ i => s.size - (intOf i).toNat)
 case atStart => exact ⟨0, Nat.zero_le _, rfl, by simp⟩
 case round =>
  obtain ⟨k, hk, rfl, hpre⟩ := hrel
  have HP := Lib.hid hpre
  clear hpre
  by_cases hlt : k < s.size
  ·have HD := Lib.hid (drop_cons s k hlt)
   have HY : Hid (isCtl s[k] = true → control (bl s) = true) := fun h => by rw [HP.out, HD.out]; simp [control, h]
   have HN : Hid (isCtl s[k] = false → control (bl s) = control ((bl s).drop (k + 1))) := fun h => by rw [HP.out, HD.out]; simp [control, h]
   go_wp2
   all_goals first
        | (go_ret; exact ⟨ret_bool (HY.out (by unfold isCtl; simp; (first | omega | (simp only [beq_iff_eq, beq_eq_false_iff_ne, ne_eq, bne_iff_ne, bne_eq_false_iff_eq, decide_eq_true_eq, decide_eq_false_iff_not, Bool.not_eq_eq_eq_not, Bool.not_true, Bool.not_false] at *; omega)))).symm, rfl⟩)
        | (go_round
           case rel => exact ⟨k + 1, by omega, by go_num, HN.out (by unfold isCtl; rw [Bool.eq_iff_iff]; simp; (first | omega | (simp only [beq_iff_eq, beq_eq_false_iff_ne, ne_eq, bne_iff_ne, bne_eq_false_iff_eq, decide_eq_true_eq, decide_eq_false_iff_not, Bool.not_eq_eq_eq_not, Bool.not_true, Bool.not_false] at *; omega)))⟩
           case measure => simp [intOf]; omega)
  ·have HD := Lib.hid (drop_all s k hlt)
   go_wp2
   go_ret
   exact ⟨ret_bool (by rw [HP.out, HD.out]; simp [control]), rfl⟩
theorem trimL_step (s : ByteArray) (h : 0 < s.size) (hb : isBlank s[0] = true) : trimL (bl (s.extract 1 s.size)) = trimL (bl s) := by
 have e : bl s = s[0] :: (bl s).drop 1 := by have := drop_cons s 0 h; simpa using this
 rw [bl_extract]
 unfold trimL
 rw [e, List.dropWhile_cons, if_pos hb, ← e]
 simp [bl_length, List.take_of_length_le]
theorem trimL_stop (s : ByteArray) (h : 0 < s.size) (hb : isBlank s[0] = false) : trimL (bl s) = bl s := by
 have e : bl s = s[0] :: (bl s).drop 1 := by have := drop_cons s 0 h; simpa using this
 unfold trimL
 rw [e, List.dropWhile_cons, hb]
 simp
theorem trimR_snoc (l : Bytes) (c : UInt8) : trimR (l ++ [c]) = if isBlank c then trimR l else l ++ [c] := by
 unfold trimR
 simp only [List.reverse_append, List.reverse_cons, List.reverse_nil, List.nil_append, List.singleton_append, List.dropWhile_cons]
 split <;> simp
theorem bl_snoc (s : ByteArray) (h : 0 < s.size) : bl s = (bl s).take (s.size - 1) ++ [s[s.size - 1]] := by
 have := List.take_succ_eq_append_getElem (l := bl s) (i := s.size - 1) (by simp [bl_length]; omega)
 rw [show s.size - 1 + 1 = s.size by omega, List.take_of_length_le (by simp [bl_length])] at this
 exact this
theorem trimR_step (s : ByteArray) (h : 0 < s.size) (hb : isBlank s[s.size - 1] = true) : trimR (bl (s.extract 0 (s.size - 1))) = trimR (bl s) := by
 have e := bl_snoc s h
 rw [bl_extract, e, trimR_snoc, if_pos hb, ← e]
 simp
theorem trimR_stop (s : ByteArray) (h : 0 < s.size) (hb : isBlank s[s.size - 1] = false) : trimR (bl s) = bl s := by
 have e := bl_snoc s h
 rw [e, trimR_snoc, hb, ← e]; simp
theorem Trim_any (s : ByteArray) (w : World) (hs : s.size ≤ maxLen) :
 Calls Tryz.prog 148 #[.string s] w fun e w' => e = .returned (.string (mkS (trim (bl s)))) ∧ w = w' := by
 unfold maxLen at hs
 go_enter Tryz.func148, Tryz.ntmps148
 go_upto_block 0 with fail
 go_cut [0] (fun v wx => ∃ t : ByteArray, t.size ≤ s.size ∧ v = .string t ∧ bl t = trimL (bl s) ∧ wx = w)
 case first =>
  go_wp2
  go_loop [0] (fun v => ∃ t : ByteArray, t.size ≤ s.size ∧ v = .string t ∧ trimL (bl t) = trimL (bl s)) (fun v => strLen v)
  case atStart => exact ⟨s, Nat.le_refl _, rfl, rfl⟩
  case round =>
   obtain ⟨t, ht, rfl, hpre⟩ := hrel
   have HP := Lib.hid hpre
   clear hpre
   by_cases h0 : 0 < t.size
   ·have he := str_ne h0
    have he' := str_ne' h0
    by_cases h1 : isBlank t[0] = true
    ·have HS := Lib.hid (trimL_step t h0 h1)
     go_wp2_with (go_at_call 179; refine (blank_any _ _).mono ?_; rintro e w1 ⟨rfl, rfl⟩)
     go_round
     case rel => exact ⟨_, by simp; omega, rfl, by rw [HS.out, HP.out]⟩
     case measure => simp [strLen]; omega
    ·have HS := Lib.hid (trimL_stop t h0 (by simpa using h1))
     go_wp2_with (go_at_call 179; refine (blank_any _ _).mono ?_; rintro e w1 ⟨rfl, rfl⟩)
     go_meet
     exact ⟨t, ht, rfl, by rw [← HP.out, HS.out], rfl⟩
   ·have he := str_nil h0
    have he' := str_nil' h0
    have HN := Lib.hid (bl_nil h0)
    go_wp2
    go_meet
    exact ⟨t, ht, rfl, by rw [← HP.out, HN.out]; rfl, rfl⟩
 case rest =>
  obtain ⟨t0, ht0, rfl, h0, rfl⟩ := hcut
  have H0 := Lib.hid h0
  clear h0
  go_wp2
  go_loop [0] (fun v => ∃ t : ByteArray, t.size ≤ s.size ∧ v = .string t ∧ trimR (bl t) = trimR (bl t0)) (fun v => strLen v)
  case atStart => exact ⟨t0, ht0, rfl, rfl⟩
  case round =>
   obtain ⟨t, ht, rfl, hpre⟩ := hrel
   have HP := Lib.hid hpre
   clear hpre
   by_cases h0 : 0 < t.size
   ·have he := str_ne h0
    have he' := str_ne' h0
    by_cases h1 : isBlank t[t.size - 1] = true
    ·have HS := Lib.hid (trimR_step t h0 h1)
     go_wp2_with (go_at_call 179; refine (blank_any _ _).mono ?_; rintro e w1 ⟨rfl, rfl⟩)
     go_round
     case rel => exact ⟨_, by simp; omega, rfl, by rw [HS.out, HP.out]⟩
     case measure => simp [strLen]; omega
    ·have HS := Lib.hid (trimR_stop t h0 (by simpa using h1))
     go_wp2_with (go_at_call 179; refine (blank_any _ _).mono ?_; rintro e w1 ⟨rfl, rfl⟩)
     go_ret
     exact ⟨ret_val (congrArg Value.string (mkS_of (by rw [trim, ← H0.out, ← HP.out, HS.out]))), rfl⟩
   ·have he := str_nil h0
    have he' := str_nil' h0
    have HN := Lib.hid (bl_nil h0)
    go_wp2
    go_ret
    exact ⟨ret_val (congrArg Value.string (mkS_of (by rw [trim, ← H0.out, ← HP.out, HN.out]; rfl))), rfl⟩
def cutB (c : UInt8) (l : Bytes) : Bytes × Bytes × Bool := match findB c l with | none => (l, [], false) | some k => (l.take k, l.drop (k + 1), true)
theorem below_drewN' {B : Nat} {w : World} (n : Nat) : Below B w (w.drewN n) := ⟨rfl, rfl, rfl, Nat.le_refl _, fun _ _ => rfl⟩
theorem Cut_any (s : ByteArray) (c : UInt8) (w : World) (hs : s.size ≤ 1073741824) :
 Calls Tryz.prog 149 #[.string s, .int .u8 c.toNat] w fun e w' => e = .returned (.tuple #[.string (mkS (cutB c (bl s)).1), .string (mkS (cutB c (bl s)).2.1), .bool (cutB c (bl s)).2.2]) ∧ Below w.heap.size w w' := by
 by_cases hn : 0 ≤ findI (bl s) c
 ·obtain ⟨k, hk, hki, hkl⟩ := findI_nonneg hn
  rw [bl_length] at hkl
  have hx : IntKind.i64.wrap ((k : Int) + 1) = (k : Int) + 1 := IntWalk.i64_in _ (by omega)
  have hy : ((k : Int) + 1).toNat = k + 1 := by omega
  have hz : (0 : Int) ≤ (k : Int) + 1 := by omega
  have hk0 : (0 : Int) ≤ (k : Int) := by omega
  have hq : (k : Int) ≤ (s.size : Int) := by omega
  have hq1 : (k : Int) + 1 ≤ (s.size : Int) := by omega
  have HK := Lib.hid hk
  have HKI := Lib.hid hki
  clear hk hki hn
  go_enter Tryz.func149, Tryz.ntmps149
  go_wp2_with (go_at_call 180; refine (find_any s c _ (by unfold maxLen; omega)).mono ?_; rintro e w1 ⟨rfl, rfl⟩; rw [HKI.out])
  go_quiet (fail)
  clear hx hy
  go_wp2
  go_ret3
  exact ⟨by rw [show cutB c (bl s) = ((bl s).take k, (bl s).drop (k + 1), true) by unfold cutB; rw [HK.out]]; simp only [mkS_take, mkS_drop]; rfl, below_drewN' _⟩
 ·have HN := Lib.hid (findI_neg (by omega : findI (bl s) c < 0))
  have hneg : findI (bl s) c < 0 := by omega
  go_enter Tryz.func149, Tryz.ntmps149
  go_wp2_with (go_at_call 180; refine (find_any s c _ (by unfold maxLen; omega)).mono ?_; rintro e w1 ⟨rfl, rfl⟩)
  go_ret3
  exact ⟨by rw [show cutB c (bl s) = (bl s, [], false) by unfold cutB; rw [HN.out], mkS_bl]; rfl, Below.refl _ _⟩
/-- the strings of some texts -/
def strVals (l : List Bytes) : List Value := l.map fun x => .string (mkS x)
/-- what Split hands back -/
def RetStrs (E : TypeId) (l : List Bytes) (w : World) (e : Ending) (w' : World) : Prop :=
 ∃ v, e = .returned v ∧ w'.ownsRow w.heap.size E 1 v l.length (strVals l) ∧ Below w.heap.size w w'
theorem Tryz.infoStr : (Tryz.prog.info? 9).map (fun i => (i.zero, i.size, i.bytes)) = some (some (.string ByteArray.empty), 1, 16) := by kernel_rfl
theorem cutB_split (c : UInt8) (l : Bytes) (h : (cutB c l).2.2 = true) : splitB c l = (cutB c l).1 :: splitB c (cutB c l).2.1 := by
 unfold cutB at *
 cases hf : findB c l with
 | none => simp [hf] at h
 | some k => simp [splitB_some hf]
theorem cutB_last (c : UInt8) (l : Bytes) (h : (cutB c l).2.2 = false) : splitB c l = [(cutB c l).1] := by
 unfold cutB at *
 cases hf : findB c l with
 | none => simp [splitB_none hf]
 | some k => simp [hf] at h
theorem cutB_lt (c : UInt8) (l : Bytes) (h : (cutB c l).2.2 = true) : (cutB c l).2.1.length < l.length := by
 unfold cutB at *
 cases hf : findB c l with
 | none => simp [hf] at h
 | some k => have := findB_lt hf; simp; omega
theorem Split_any (s : ByteArray) (c : UInt8) (w : World) (hs : s.size ≤ 1073741824) :
 Calls Tryz.prog 175 #[.string s, .int .u8 c.toNat] w (RetStrs 9 (splitB c (bl s)) w) := by
 obtain ⟨i0, hi, hz0, hz1, hz2⟩ := info_parts Tryz.infoStr
 go_enter Tryz.func175, Tryz.ntmps175
 go_wp2
 go_loopw [0, 5] (fun v out wr => ∃ (t : ByteArray) (done : List Bytes), v = .string t ∧ done.length + t.size ≤ s.size ∧ splitB c (bl s) = done ++ splitB c (bl t) ∧ wr.ownsRow w.heap.size 9 1 out done.length (strVals done) ∧ Below w.heap.size w wr) (fun v _ _ => strLen v)
 case atStart => exact ⟨s, [], rfl, by simp, rfl, World.ownsRow_nil _ _ _ _, Below.refl _ _⟩
 case round =>
  obtain ⟨t, done, rfl, hlen, hpre, hown, hbel⟩ := hrel
  have HP := Lib.hid hpre
  clear hpre
  have hcall := fun (W : World) => Cut_any t c W (by omega)
  have hS := cutB_split c (bl t)
  have hT := cutB_last c (bl t)
  have hL := cutB_lt c (bl t)
  generalize cutB c (bl t) = x at hcall hS hT hL
  obtain ⟨p, q, b⟩ := x
  simp only at hcall hS hT hL
  have HC := Lib.hid hcall
  clear hcall
  rw [bl_length] at hL
  cases b with
  | true =>
    have HS := Lib.hid (hS rfl)
    have hL' := hL rfl
    clear hS hT hL
    go_wp2_with (first
        | (go_at_call 149; refine (HC.out _).mono ?_; rintro e w1 ⟨rfl, hb⟩; have hown1 := ownsRow_below hown hb; have hbel1 := hbel.trans (hb.mono hbel.size); have hzw := hbel1.size)
        | (at_builtin; go_loud (refine wpList_append_own _ rfl _ _ 242 rfl w.heap.size 9 i0 (.string ByteArray.empty) 1 16 Tryz.underlying242 hi hz0 hz1 hz2 rfl (by decide) _ _ _ rfl (hown1.alloc _) ⟨w1.heap.size, 0, none⟩ 1 1 [.string (mkS p)] rfl rfl ?c1 ?c2 ?c3 ?c4 ?c5 ?_)))
    case c1 => exact cell_one_new _ _ _
    case c2 => simp [Value.oneCell']
    case c3 => unfold maxLen; omega
    case c4 => omega
    case c5 => simp; omega
    intro v' w2 hown2 hgrow _
    have hbel2 := (hbel1.alloc hzw (Obj.cells #[.string (mkS p)] 9)).grown hgrow (by simp; omega) (fun k hk => (hown1.lt k hk).1)
    go_wp2
    go_roundw
    case rel => exact ⟨mkS q, done ++ [p], rfl, by simp [mkS_size]; omega, by rw [HP.out, HS.out]; simp [bl_mkS], by simpa [strVals] using hown2, hbel2⟩
    case measure => simp [strLen, mkS_size]; omega
  | false =>
    have HS := Lib.hid (hT rfl)
    clear hS hT hL
    go_wp2_with (first
        | (go_at_call 149; refine (HC.out _).mono ?_; rintro e w1 ⟨rfl, hb⟩; have hown1 := ownsRow_below hown hb; have hbel1 := hbel.trans (hb.mono hbel.size); have hzw := hbel1.size)
        | (at_builtin; go_loud (refine wpList_append_own _ rfl _ _ 242 rfl w.heap.size 9 i0 (.string ByteArray.empty) 1 16 Tryz.underlying242 hi hz0 hz1 hz2 rfl (by decide) _ _ _ rfl (hown1.alloc _) ⟨w1.heap.size, 0, none⟩ 1 1 [.string (mkS p)] rfl rfl ?d1 ?d2 ?d3 ?d4 ?d5 ?_)))
    case d1 => exact cell_one_new _ _ _
    case d2 => simp [Value.oneCell']
    case d3 => unfold maxLen; omega
    case d4 => omega
    case d5 => simp; omega
    intro v' w2 hown2 hgrow _
    have hbel2 := (hbel1.alloc hzw (Obj.cells #[.string (mkS p)] 9)).grown hgrow (by simp; omega) (fun k hk => (hown1.lt k hk).1)
    go_wp2
    go_ret
    exact ⟨_, rfl, by rw [HP.out, HS.out]; simpa [strVals] using hown2, hbel2⟩
theorem lower_set (l : Bytes) (k : Nat) (h : k < l.length) : (lowerL (l.take k) ++ l.drop k).set k (lowerB l[k]) = lowerL (l.take (k + 1)) ++ l.drop (k + 1) := by
 rw [List.set_append_right _ _ (by simp [lowerL]; omega)]
 have e : k - (lowerL (l.take k)).length = 0 := by simp [lowerL]; omega
 rw [e, List.drop_eq_getElem_cons h, List.set_cons_zero, List.take_succ_eq_append_getElem h]
 simp only [lowerL, List.map_append, List.map_cons, List.map_nil, List.append_assoc, List.singleton_append]
theorem lower_get (l : Bytes) (k : Nat) (h : k < l.length) : (lowerL (l.take k) ++ l.drop k)[k]? = some l[k] := by
 rw [List.getElem?_append_right (by simp [lowerL]; omega)]
 simp [lowerL, Nat.min_eq_left (Nat.le_of_lt h)]
theorem Lower_any (s : ByteArray) (w : World) (hs : s.size ≤ 1073741824) :
 Calls Tryz.prog 144 #[.string s] w fun e w' => e = .returned (.string (mkS (lowerL (bl s)))) ∧ Below w.heap.size w w' := by
 obtain ⟨cap, w1, hconv, hb1, hz1, hcap, hby, hfr⟩ := conv_str (P := Tryz.prog) 9 82 5 Tryz.underlying9 Tryz.underlying82 Tryz.underlying5 w s
 go_enter Tryz.func144, Tryz.ntmps144
 go_wp2
 clear hconv
 go_loopw [4, 9] (fun _ i wr => ∃ k : Nat, k ≤ s.size ∧ i = .int .i64 k ∧ BytesAt wr w.heap.size 0 (lowerL ((bl s).take k) ++ (bl s).drop k) ∧ FreeAt wr w.heap.size 0 s.size ∧ Below w.heap.size w wr) (fun _ i _ => s.size - (intOf i).toNat)
 case atStart => exact ⟨0, Nat.zero_le _, rfl, by simpa [lowerL] using hby, hfr, hb1⟩
 case round =>
  obtain ⟨k, hk, rfl, hba, hfa, hbel⟩ := hrel
  by_cases hlt : k < s.size
  ·have hlt' : k < (bl s).length := hlt
   have hll : (lowerL ((bl s).take k) ++ (bl s).drop k).length = s.size := by simp [lowerL, bl_length]; omega
   have hgk := lower_get (bl s) k hlt'
   have hck : wr.cell? ⟨w.heap.size, k, none⟩ = some (.int .u8 (bl s)[k].toNat) := by
        have := hba k (by omega)
        rw [Nat.zero_add] at this
        rw [this]
        have h2 := (List.getElem?_eq_some_iff.1 hgk).2
        rw [h2]
   have hfk : wr.frozen? ⟨w.heap.size, k, none⟩ = false := by have := hfa k hlt; rwa [Nat.zero_add] at this
   have hset := hba.set (k := k) (by omega) (lowerB (bl s)[k])
   rw [lower_set _ _ hlt', Nat.zero_add] at hset
   have hfs := hfa.set ⟨w.heap.size, k, none⟩ (.int .u8 (lowerB (bl s)[k]).toNat)
   have hbs := hbel.setCell (p := ⟨w.heap.size, k, none⟩) (Nat.le_refl _) (.int .u8 (lowerB (bl s)[k]).toNat)
   clear hgk hll
   generalize (bl s)[k] = x at *
   clear hlt'
   have HS := Lib.hid hset
   have HF := Lib.hid hfs
   have HB := Lib.hid hbs
   clear hset hfs hbs hba hfa hbel
   go_wp2_with (go_at_call 174; refine (lower_any _ _).mono ?_; rintro e w2 ⟨rfl, rfl⟩)
   go_roundw
   case rel => exact ⟨k + 1, by omega, by go_num, HS.out, HF.out, HB.out⟩
   case measure => simp [intOf]; omega
  ·have hke : k = s.size := by omega
   subst hke
   rw [List.take_of_length_le (by simp [bl_length]), List.drop_eq_nil_of_le (by simp [bl_length]), List.append_nil] at hba
   have hback := run_convert_bytes_back (P := Tryz.prog) wr 82 9 5 ⟨w.heap.size, 0, none⟩ cap (lowerL (bl s)) Tryz.underlying82 Tryz.underlying5 Tryz.underlying9 (fun j hj => by
        have h2 := hba j hj
        rw [Nat.zero_add] at h2
        unfold Addr.add
        split
        ·rename_i h0; subst h0; exact h2
        ·simpa using h2)
   have hlen : (lowerL (bl s)).length = s.size := by simp [lowerL, bl_length]
   rw [hlen] at hback
   have HB := Lib.hid hbel
   clear hlen hba hfa hbel
   go_wp2
   go_ret
   exact ⟨rfl, HB.out⟩
theorem numStep_bd {n : Int} {c : UInt8} (h0 : 0 ≤ n) (hc : isDigit c = true) : 0 ≤ numStep n c ∧ numStep n c ≤ 1099511627776 := by
 unfold isDigit at hc; simp at hc; unfold numStep; omega
theorem foldl_bd : ∀ (l : Bytes) (n : Int), 0 ≤ n → n ≤ 1099511627776 → l.all isDigit = true → 0 ≤ l.foldl numStep n ∧ l.foldl numStep n ≤ 1099511627776
 | [], n, h0, h1, _ => ⟨h0, h1⟩
 | c :: r, n, h0, _, hl => by
   simp only [List.all_cons, Bool.and_eq_true] at hl
   have := numStep_bd h0 hl.1
   exact foldl_bd r _ this.1 this.2 hl.2
theorem numL_bd (l : Bytes) (h : l.all isDigit = true) : 0 ≤ numL l ∧ numL l ≤ 1099511627776 := foldl_bd l 0 (by omega) (by omega) h
theorem isDigit_at {t : ByteArray} (h : (bl t).all isDigit = true) {k : Nat} (hk : k < t.size) : isDigit t[k] = true :=
 List.all_eq_true.1 h _ (by show t.data[k] ∈ t.data.toList; simp)
theorem number_dash (c : UInt8) (r : Bytes) (h : c.toNat = 45) : number (c :: r) = if 0 < r.length ∧ r.all isDigit = true then (- numL r, true) else (0, false) := by
 unfold number
 simp only [h, if_true]
 cases r with
 | nil => simp
 | cons a b =>
   by_cases ha : (a :: b).all isDigit = true
   ·rw [if_neg (by simp only [ha]; simp), if_pos ⟨by simp, ha⟩]
   ·rw [if_pos (Or.inr ha), if_neg (fun x => ha x.2)]
theorem number_else (c : UInt8) (r : Bytes) (h : ¬ c.toNat = 45) : number (c :: r) = if (c :: r).all isDigit = true then (numL (c :: r), true) else (0, false) := by
 unfold number
 simp only [h, if_false]
 by_cases ha : (c :: r).all isDigit = true
 ·rw [if_neg (fun x => x ha), if_pos ha]
 ·rw [if_pos ha, if_neg ha]
theorem number_neg (s t : ByteArray) (h0 : 0 < s.size) (h : s[0].toNat = 45) (ht : t = s.extract 1 s.size) : number (bl s) = if 0 < t.size ∧ (bl t).all isDigit = true then (- numL (bl t), true) else (0, false) := by
 have e : bl s = s[0] :: (bl s).drop 1 := by have := drop_cons s 0 h0; simpa using this
 have e2 : bl t = (bl s).drop 1 := by rw [ht, bl_extract, List.take_of_length_le (by simp [bl_length])]
 rw [← bl_length t, e2, e, number_dash _ _ h]
 rfl
theorem number_pos (s : ByteArray) (h : ¬ (0 < s.size ∧ ∀ h : 0 < s.size, s[0].toNat = 45)) : number (bl s) = if 0 < s.size ∧ (bl s).all isDigit = true then (numL (bl s), true) else (0, false) := by
 by_cases h0 : 0 < s.size
 ·have e : bl s = s[0] :: (bl s).drop 1 := by have := drop_cons s 0 h0; simpa using this
  have h45 : ¬ s[0].toNat = 45 := fun hh => h ⟨h0, fun _ => hh⟩
  rw [e, number_else _ _ h45, ← e]
  by_cases ha : (bl s).all isDigit = true
  ·rw [if_pos ha, if_pos ⟨h0, ha⟩]
  ·rw [if_neg ha, if_neg (fun x => ha x.2)]
 ·rw [if_neg (fun x => h0 x.1), bl_nil h0]; rfl
theorem Number_any (s : ByteArray) (w : World) (hs : s.size ≤ 1073741824) :
 Calls Tryz.prog 199 #[.string s] w fun e w' => e = .returned (.tuple #[.int .i64 (number (bl s)).1, .bool (number (bl s)).2]) ∧ w = w' := by
 by_cases hneg : 0 < s.size ∧ ∀ h : 0 < s.size, s[0].toNat = 45
 ·obtain ⟨h0, h45⟩ := hneg
  have h45' := h45 h0
  have hq : ((s[0].toNat : Int) == 45) = true := by simp; omega
  have hse := str_ne h0
  have hse' := str_ne' h0
  obtain ⟨t, ht⟩ : ∃ t, t = s.extract 1 s.size := ⟨_, rfl⟩
  have HV := Lib.hid (number_neg s t h0 h45' ht)
  have hts : t.size ≤ s.size := by rw [ht]; simp
  have hx : s.extract 1 s.size = t := ht.symm
  clear h45 h45' ht
  by_cases h0t : 0 < t.size
  ·have he := str_ne h0t
   have he' := str_ne' h0t
   skip
   have hdl := digits_le (bl t)
   rw [bl_length] at hdl
   by_cases hall : (bl t).all isDigit = true
   ·have hnl : ¬ digits (bl t) < t.size := fun h => (digits_lt_iff (bl t)).1 (by rw [bl_length]; exact h) hall
    have hge : (t.size : Int) ≤ (digits (bl t) : Int) := by omega
    have HA := Lib.hid hall
    have hnb := numL_bd (bl t) hall
    clear hall hnl
    go_enter Tryz.func199, Tryz.ntmps199
    go_wp2_with (go_at_call 200; refine (Digits_any _ _ (by unfold maxLen; omega)).mono ?_; rintro e w1 ⟨rfl, rfl⟩)
    go_loop [6, 7, 29] (fun v _ i => ∃ (k : Nat) (n : Int), k ≤ t.size ∧ i = .int .i64 k ∧ v = .int .i64 n ∧ 0 ≤ n ∧ n ≤ 1099511627776 ∧ numL (bl t) = ((bl t).drop k).foldl numStep n) (fun _ _ i => t.size - (intOf i).toNat)
    case atStart => exact ⟨0, 0, Nat.zero_le _, rfl, rfl, by omega, by omega, rfl⟩
    case round =>
     obtain ⟨k, n, hk, rfl, rfl, hn0, hn1, hpre⟩ := hrel
     have HP := Lib.hid hpre
     clear hpre
     by_cases hlt : k < t.size
     ·have HD := Lib.hid (drop_cons t k hlt)
      have hdg := isDigit_at HA.out hlt
      have hbd := numStep_bd hn0 hdg
      have hdg2 : 48 ≤ t[k].toNat ∧ t[k].toNat ≤ 57 := by simpa [isDigit] using hdg
      obtain ⟨hg1, hg2⟩ := hdg2
      have HN : Hid (numStep n t[k] = min (n * 10 + ((t[k].toNat : Int) - 48)) 1099511627776) := rfl
      clear hdg
      go_wp2
      go_round
      case rel => exact ⟨k + 1, numStep n t[k], by omega, by go_num, by rw [HN.out]; exact congrArg _ (by split <;> omega), hbd.1, hbd.2, by rw [HP.out, HD.out]; rfl⟩
      case measure => simp [intOf]; omega
     ·have HD := Lib.hid (drop_all t k hlt)
      have HE : Hid (numL (bl t) = n) := by rw [Hid, HP.out, HD.out]; rfl
      go_wp2
      go_ret2
      exact ⟨ret_val (by rw [HV.out, if_pos ⟨h0t, HA.out⟩, HE.out]; rfl), rfl⟩
   ·have hnl : digits (bl t) < t.size := by have := (digits_lt_iff (bl t)).2 hall; rwa [bl_length] at this
    have HA := Lib.hid hall
    clear hall
    go_enter Tryz.func199, Tryz.ntmps199
    go_wp2_with (go_at_call 200; refine (Digits_any _ _ (by unfold maxLen; omega)).mono ?_; rintro e w1 ⟨rfl, rfl⟩)
    go_ret2
    exact ⟨ret_val (by rw [HV.out, if_neg (fun h => HA.out h.2)]; rfl), rfl⟩
  ·have he := str_nil h0t
   have he' := str_nil' h0t
   go_enter Tryz.func199, Tryz.ntmps199
   go_wp2
   go_ret2
   exact ⟨ret_val (by rw [HV.out, if_neg (fun h => h0t h.1)]; rfl), rfl⟩
 ·have HV := Lib.hid (number_pos s hneg)
  have hqq : Hid (∀ h : 0 < s.size, ((s[0].toNat : Int) == 45) = false) := fun h => by
   have : ¬ s[0].toNat = 45 := fun hh => hneg ⟨h, fun _ => hh⟩
   simp; omega
  clear hneg
  have hts : s.size ≤ s.size := Nat.le_refl _
  obtain ⟨t, rfl⟩ : ∃ t, t = s := ⟨_, rfl⟩
  by_cases h0t : 0 < t.size
  ·have he := str_ne h0t
   have he' := str_ne' h0t
   have hq := hqq.out h0t
   have hdl := digits_le (bl t)
   rw [bl_length] at hdl
   by_cases hall : (bl t).all isDigit = true
   ·have hnl : ¬ digits (bl t) < t.size := fun h => (digits_lt_iff (bl t)).1 (by rw [bl_length]; exact h) hall
    have hge : (t.size : Int) ≤ (digits (bl t) : Int) := by omega
    have HA := Lib.hid hall
    have hnb := numL_bd (bl t) hall
    clear hall hnl
    go_enter Tryz.func199, Tryz.ntmps199
    go_wp2_with (go_at_call 200; refine (Digits_any _ _ (by unfold maxLen; omega)).mono ?_; rintro e w1 ⟨rfl, rfl⟩)
    go_loop [6, 7, 29] (fun v _ i => ∃ (k : Nat) (n : Int), k ≤ t.size ∧ i = .int .i64 k ∧ v = .int .i64 n ∧ 0 ≤ n ∧ n ≤ 1099511627776 ∧ numL (bl t) = ((bl t).drop k).foldl numStep n) (fun _ _ i => t.size - (intOf i).toNat)
    case atStart => exact ⟨0, 0, Nat.zero_le _, rfl, rfl, by omega, by omega, rfl⟩
    case round =>
     obtain ⟨k, n, hk, rfl, rfl, hn0, hn1, hpre⟩ := hrel
     have HP := Lib.hid hpre
     clear hpre
     by_cases hlt : k < t.size
     ·have HD := Lib.hid (drop_cons t k hlt)
      have hdg := isDigit_at HA.out hlt
      have hbd := numStep_bd hn0 hdg
      have hdg2 : 48 ≤ t[k].toNat ∧ t[k].toNat ≤ 57 := by simpa [isDigit] using hdg
      obtain ⟨hg1, hg2⟩ := hdg2
      have HN : Hid (numStep n t[k] = min (n * 10 + ((t[k].toNat : Int) - 48)) 1099511627776) := rfl
      clear hdg
      go_wp2
      go_round
      case rel => exact ⟨k + 1, numStep n t[k], by omega, by go_num, by rw [HN.out]; exact congrArg _ (by split <;> omega), hbd.1, hbd.2, by rw [HP.out, HD.out]; rfl⟩
      case measure => simp [intOf]; omega
     ·have HD := Lib.hid (drop_all t k hlt)
      have HE : Hid (numL (bl t) = n) := by rw [Hid, HP.out, HD.out]; rfl
      go_wp2
      go_ret2
      exact ⟨ret_val (by rw [HV.out, if_pos ⟨h0t, HA.out⟩, HE.out]; rfl), rfl⟩
   ·have hnl : digits (bl t) < t.size := by have := (digits_lt_iff (bl t)).2 hall; rwa [bl_length] at this
    have HA := Lib.hid hall
    clear hall
    go_enter Tryz.func199, Tryz.ntmps199
    go_wp2_with (go_at_call 200; refine (Digits_any _ _ (by unfold maxLen; omega)).mono ?_; rintro e w1 ⟨rfl, rfl⟩)
    go_ret2
    exact ⟨ret_val (by rw [HV.out, if_neg (fun h => HA.out h.2)]; rfl), rfl⟩
  ·have he := str_nil h0t
   have he' := str_nil' h0t
   go_enter Tryz.func199, Tryz.ntmps199
   go_wp2
   go_ret2
   exact ⟨ret_val (by rw [HV.out, if_neg (fun h => h0t h.1)]; rfl), rfl⟩
end Go.Proofs.YtohcmljigcdmbaaGreat
