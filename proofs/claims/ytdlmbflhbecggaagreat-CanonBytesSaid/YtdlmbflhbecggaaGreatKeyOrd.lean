/- Strings in order: strings.Compare; keys in order: match.Less. Conditions: none. -/
import Derived.Test.YtdlmbflhbecggaaGreatDot
import Derived.Test.YtdlmbflhbecggaaGreatCookie
import Derived.Lib.Bytealg
import Derived.Sort.Walk0
set_option linter.unusedSimpArgs false
set_option linter.unusedVariables false
set_option linter.unnecessarySimpa false
set_option maxHeartbeats 16000000
set_option maxRecDepth 100000
namespace Go.Proofs.YtdlmbflhbecggaaGreat
open Go.RowKit
def Ac (a b : ByteArray) : Int := Lib.compareBytes a.data.toList b.data.toList
theorem AZ (a b : ByteArray) (w : World) :
 Calls Tryz.prog 201 #[.string a, .string b] w fun e w' => e = .returned (.int .i64 (Ac a b)) ∧ w = w' := by
 go_enter Tryz.func201, Tryz.ntmps201
 go_wp2
 rw [run_callFunc_extern Tryz.func224 (by kernel_rfl) (by kernel_rfl) (by kernel_rfl) (e := Extern.BytealgCompare.compare) (by kernel_rfl), Lib.run_compareString]
 simp only [Result.andThen]
 rw [Oper.upon_value]
 go_wp2
 go_ret
 exact ⟨rfl, rfl⟩
theorem yh (a b : ByteArray) (w : World) :
 Calls Tryz.prog 176 #[.string a, .string b] w fun e w' => e = .returned (.int .i64 (Ac a b)) ∧ w = w' := by
 go_enter Tryz.func176, Tryz.ntmps176
 go_wp2_with (go_at_call 201; refine (AZ _ _ _).mono ?_; rintro e w1 ⟨rfl, rfl⟩)
 go_ret
 exact ⟨rfl, rfl⟩
theorem NL (a b c : Int) (A : Nat) (w : World) (h0 : w.cell? ⟨A, 0, none⟩ = some (.int .i64 a)) (h1 : w.cell? ⟨A, 1, none⟩ = some (.int .i64 b)) (h2 : w.cell? ⟨A, 2, none⟩ = some (.int .i64 c)) :
 Calls Tryz.prog 149 #[.slice (some ⟨A, 0, none⟩) 3 3] w fun e w' => e = .returned (.int .i64 (orI a (orI b c))) ∧ w = w' := by
 go_enter Tryz.func149, Tryz.ntmps149
 go_wp2
 go_rounds 4
 all_goals
  go_ret
  exact ⟨dR (by unfold orI; simp_all), rfl⟩
def Ig (a b : Key) : Int := orI (Ac a.name b.name) (orI (Ac a.domain b.domain) (Ac a.path b.path))
def fV (a b : Key) : Bool := decide (Ig a b < 0)
theorem IY : ∀ a b : List UInt8, (Lib.compareBytes a b < 0) ↔ a < b
 | [], [] => by simp [Lib.compareBytes]
 | [], y :: b => by simp [Lib.compareBytes]
 | x :: a, [] => by simp [Lib.compareBytes]
 | x :: a, y :: b => by
   unfold Lib.compareBytes
   rw [List.cons_lt_cons_iff]
   by_cases h : x < y
   ·rw [if_pos h]
    simp [h]
   ·rw [if_neg h]
    by_cases h2 : y < x
    ·rw [if_pos h2]
     have hne : x ≠ y := fun e => by rw [e] at h2; exact UInt8.lt_irrefl y h2
     simp [h, hne]
    ·rw [if_neg h2]
     have he : x = y := UInt8.le_antisymm (UInt8.not_lt.1 h2) (UInt8.not_lt.1 h)
     rw [IY a b]
     simp [he]
theorem IZ : ∀ a b : List UInt8, Lib.compareBytes a b = 0 ↔ a = b
 | [], [] => by simp [Lib.compareBytes]
 | [], y :: b => by simp [Lib.compareBytes]
 | x :: a, [] => by simp [Lib.compareBytes]
 | x :: a, y :: b => by
   unfold Lib.compareBytes
   by_cases h : x < y
   ·rw [if_pos h]
    have hne : x ≠ y := fun e => by rw [e] at h; exact UInt8.lt_irrefl y h
    simp [hne]
   ·rw [if_neg h]
    by_cases h2 : y < x
    ·rw [if_pos h2]
     have hne : x ≠ y := fun e => by rw [e] at h2; exact UInt8.lt_irrefl y h2
     simp [hne]
    ·rw [if_neg h2]
     have he : x = y := UInt8.le_antisymm (UInt8.not_lt.1 h2) (UInt8.not_lt.1 h)
     rw [IZ a b]
     simp [he]
theorem DL (a b : ByteArray) : Ac a b < 0 ↔ bl a < bl b := IY _ _
theorem xR (a b : ByteArray) : Ac a b = 0 ↔ a = b := by
 unfold Ac
 rw [IZ]
 exact ⟨fun h => mY h, fun h => by rw [h]⟩
theorem uh (a b : Key) : fV a b = if a.name = b.name then (if a.domain = b.domain then decide (bl a.path < bl b.path) else decide (bl a.domain < bl b.domain)) else decide (bl a.name < bl b.name) := by
 unfold fV Ig orI
 by_cases h1 : a.name = b.name
 ·rw [if_pos h1, if_pos ((xR _ _).2 h1)]
  by_cases h2 : a.domain = b.domain
  ·rw [if_pos h2, if_pos ((xR _ _).2 h2)]
   exact decide_eq_decide.2 (DL _ _)
  ·rw [if_neg h2, if_neg (fun e => h2 ((xR _ _).1 e))]
   exact decide_eq_decide.2 (DL _ _)
 ·rw [if_neg h1, if_neg (fun e => h1 ((xR _ _).1 e))]
  exact decide_eq_decide.2 (DL _ _)
theorem CB (a b : ByteArray) : Op.bytesLess a.toList b.toList = decide (bl a < bl b) := by
 rw [bytesLess_eq, ByteArray.toList_eq, ByteArray.toList_eq]
theorem ug (a : Key) : fV a a = false := by
 rw [uh, if_pos rfl, if_pos rfl]
 exact decide_eq_false (List.lt_irrefl _)
theorem z126 {p : Prop} (h : p := by
 rw [decide_eq_true_eq] at h k
 have h3 := tr h k
 rw [if_neg (fun e => by rw [e] at h3; exact List.lt_irrefl _ h3)]
 exact decide_eq_true h3) : p := h
theorem nH {a b c : Key} (h : fV a b = true) (k : fV b c = true) : fV a c = true := by
 rw [uh] at h k ⊢
 have tr : ∀ {x y z : List UInt8}, x < y → y < z → x < z := fun h1 h2 => List.lt_trans h1 h2
 by_cases h1 : a.name = b.name
 ·rw [if_pos h1] at h
  by_cases k1 : b.name = c.name
  ·rw [if_pos k1] at k
   rw [if_pos (h1.trans k1)]
   by_cases h2 : a.domain = b.domain
   ·rw [if_pos h2] at h
    by_cases k2 : b.domain = c.domain
    ·rw [if_pos k2] at k
     rw [if_pos (h2.trans k2)]
     rw [decide_eq_true_eq] at h k ⊢
     exact tr h k
    ·rw [if_neg k2] at k
     rw [if_neg (by rw [h2]; exact k2), h2]
     exact k
   ·rw [if_neg h2] at h
    by_cases k2 : b.domain = c.domain
    ·rw [if_neg (by rw [← k2]; exact h2), ← k2]
     exact h
    ·rw [if_neg k2] at k
     exact z126
  ·rw [if_neg k1] at k
   rw [if_neg (by rw [h1]; exact k1), h1]
   exact k
 ·rw [if_neg h1] at h
  by_cases k1 : b.name = c.name
  ·rw [if_neg (by rw [← k1]; exact h1), ← k1]
   exact h
  ·rw [if_neg k1] at k
   exact z126
theorem Af {x y : ByteArray} (h : x ≠ y) (k : ¬ bl x < bl y) : bl y < bl x :=
 Classical.byContradiction fun h2 => h (mY (List.le_antisymm (List.not_lt.1 h2) (List.not_lt.1 k)))
theorem qi {a b : Key} (h : a ≠ b) (k : fV a b = false) : fV b a = true := by
 rw [uh] at k ⊢
 by_cases h1 : a.name = b.name
 ·rw [if_pos h1] at k
  rw [if_pos h1.symm]
  by_cases h2 : a.domain = b.domain
  ·rw [if_pos h2, decide_eq_false_iff_not] at k
   rw [if_pos h2.symm]
   exact decide_eq_true (Af (fun e => h (by cases a; cases b; simp_all)) k)
  ·rw [if_neg h2, decide_eq_false_iff_not] at k
   rw [if_neg (fun e => h2 e.symm)]
   exact decide_eq_true (Af h2 k)
 ·rw [if_neg h1, decide_eq_false_iff_not] at k
  rw [if_neg (fun e => h1 e.symm)]
  exact decide_eq_true (Af h1 k)
theorem z86 {p : Prop} (h : p := by
 go_enter Tryz.func99, Tryz.ntmps99
 go_wp2
 go_ret
 exact ⟨aB (Eq.trans (decide_eq_decide.2 Iff.rfl) HL.out.symm), by go_grown⟩) : p := h
theorem CX (a b : Key) (w : World) :
 Calls Tryz.prog 99 #[.agg #[.string a.name, .string a.domain, .string a.path], .agg #[.string b.name, .string b.domain, .string b.path]] w fun e w' => e = .returned (.bool (fV a b)) ∧ Below w.heap.size w w' := by
 have hL := uh a b
 have hl1 := CB a.name b.name
 have hl2 := CB a.domain b.domain
 have hl3 := CB a.path b.path
 by_cases h1 : a.name = b.name
 ·rw [if_pos h1] at hL
  have hn1 : (a.name.toList == b.name.toList) = true := by rw [lV]; exact decide_eq_true (by rw [h1])
  by_cases h2 : a.domain = b.domain
  ·rw [if_pos h2] at hL
   have hn2 : (a.domain.toList == b.domain.toList) = true := by rw [lV]; exact decide_eq_true (by rw [h2])
   have HL := Lib.hid hL
   clear hL h1 h2
   exact z86
  ·rw [if_neg h2] at hL
   have hn2 : (a.domain.toList == b.domain.toList) = false := by rw [lV]; exact decide_eq_false fun e => h2 (mY e)
   have HL := Lib.hid hL
   clear hL h1 h2
   exact z86
 ·rw [if_neg h1] at hL
  have hn1 : (a.name.toList == b.name.toList) = false := by rw [lV]; exact decide_eq_false fun e => h1 (mY e)
  have HL := Lib.hid hL
  clear hL h1
  exact z86
end Go.Proofs.YtdlmbflhbecggaaGreat
