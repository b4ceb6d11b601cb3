/- Strings in order: strings.Compare; keys in order: match.Less. Conditions: none. -/
import Derived.Test.YtkklcpmbgfgcmaaGreatDot
import Derived.Test.YtkklcpmbgfgcmaaGreatHost
import Derived.Lib.Bytealg
import Derived.Test.YtkklcpmbgfgcmaaGreatEq
import Derived.Sort.Walk0
set_option linter.unusedSimpArgs false
set_option linter.unusedVariables false
set_option linter.unnecessarySimpa false
namespace Go.Proofs.YtkklcpmbgfgcmaaGreat
open Go.RowKit
def cmpS (a b : ByteArray) : Int := Lib.compareBytes a.data.toList b.data.toList
set_option maxHeartbeats 1000000 in
set_option maxRecDepth 100000 in
theorem cmpString_any (a b : ByteArray) (w : World) :
 Calls Tryz.prog 85 #[.string a, .string b] w fun e w' => e = .returned (.int .i64 (cmpS a b)) ∧ w = w' := by
 go_enter Tryz.func85, Tryz.ntmps85
 go_wp2
 rw [run_callFunc_extern Tryz.func105 (by kernel_rfl) (by kernel_rfl) (by kernel_rfl) (e := Extern.BytealgCompare.compare) (by kernel_rfl), Lib.run_compareString]
 simp only [Result.andThen]
 rw [Oper.upon_value]
 go_wp2
 go_ret
 exact ⟨rfl, rfl⟩
set_option maxHeartbeats 1000000 in
theorem strCompare_any (a b : ByteArray) (w : World) :
 Calls Tryz.prog 64 #[.string a, .string b] w fun e w' => e = .returned (.int .i64 (cmpS a b)) ∧ w = w' := by
 go_enter Tryz.func64, Tryz.ntmps64
 go_wp2_with (go_at_call 85; refine (cmpString_any _ _ _).mono ?_; rintro e w1 ⟨rfl, rfl⟩)
 go_ret
 exact ⟨rfl, rfl⟩
set_option maxHeartbeats 400000 in
theorem or3_any (a b c : Int) (A : Nat) (w : World) (h0 : w.cell? ⟨A, 0, none⟩ = some (.int .i64 a)) (h1 : w.cell? ⟨A, 1, none⟩ = some (.int .i64 b)) (h2 : w.cell? ⟨A, 2, none⟩ = some (.int .i64 c)) :
 Calls Tryz.prog 58 #[.slice (some ⟨A, 0, none⟩) 3 3] w fun e w' => e = .returned (.int .i64 (orI a (orI b c))) ∧ w = w' := by
 go_enter Tryz.func58, Tryz.ntmps58
 go_wp2
 go_rounds 4
 all_goals
  go_ret
  exact ⟨ret_int (by unfold orI; simp_all), rfl⟩
def cmpKey (a b : Key) : Int := orI (cmpS a.name b.name) (orI (cmpS a.domain b.domain) (cmpS a.path b.path))
def keyLt (a b : Key) : Bool := decide (cmpKey a b < 0)
set_option maxHeartbeats 1000000 in
theorem keys_any (a b : Key) (w : World) :
 Calls Tryz.prog 48 #[.agg #[.string a.name, .string a.domain, .string a.path], .agg #[.string b.name, .string b.domain, .string b.path]] w fun e w' => e = .returned (.int .i64 (cmpKey a b)) ∧ Below w.heap.size w w' := by
 go_enter Tryz.func48, Tryz.ntmps48
 go_wp2
 go_region_held3 (fun w' => w'.cell? ⟨w.heap.size, 0, none⟩ = some (.string a.name) ∧ w'.cell? ⟨w.heap.size, 1, none⟩ = some (.string a.domain) ∧ w'.cell? ⟨w.heap.size, 2, none⟩ = some (.string a.path) ∧ w'.cell? ⟨w.heap.size+1, 0, none⟩ = some (.string b.name) ∧ w'.cell? ⟨w.heap.size+1, 1, none⟩ = some (.string b.domain) ∧ w'.cell? ⟨w.heap.size+1, 2, none⟩ = some (.string b.path)) (go_keep)
  (first
   | (go_at_call 64; refine (strCompare_any _ _ _).mono ?_; rintro e w1 ⟨rfl, rfl⟩)
   | (go_at_call 58; go_call or3_any (cmpS a.name b.name) (cmpS a.domain b.domain) (cmpS a.path b.path) as e w1 ⟨rfl, rfl⟩))
 go_wp2
 go_ret
 exact ⟨rfl, by go_grown⟩
set_option maxHeartbeats 1000000 in
theorem keyLess_any (a b : Key) (w : World) :
 Calls Tryz.prog 33 #[.agg #[.string a.name, .string a.domain, .string a.path], .agg #[.string b.name, .string b.domain, .string b.path]] w fun e w' => e = .returned (.bool (keyLt a b)) ∧ Below w.heap.size w w' := by
 go_enter Tryz.func33, Tryz.ntmps33
 go_wp2_with (go_at_call 48; refine (keys_any a b _).mono ?_; rintro e w1 ⟨rfl, hb⟩)
 go_ret
 exact ⟨rfl, below2 (by go_grown) hb⟩
end Go.Proofs.YtkklcpmbgfgcmaaGreat
/- Keys in order, plainly; the reference's Less. Conditions: none. -/
namespace Go.Proofs.YtkklcpmbgfgcmaaGreat
open Go.RowKit
theorem cmpB_lt : ∀ a b : List UInt8, (Lib.compareBytes a b < 0) ↔ a < b
 | [], [] => by simp [Lib.compareBytes]
 | [], y :: b => by simp [Lib.compareBytes]
 | x :: a, [] => by simp [Lib.compareBytes]
 | x :: a, y :: b => by
   unfold Lib.compareBytes
   rw [List.cons_lt_cons_iff]
   by_cases h : x < y
   ·rw [if_pos h]
    simp [h]
   ·rw [if_neg h]
    by_cases h2 : y < x
    ·rw [if_pos h2]
     have hne : x ≠ y := fun e => by rw [e] at h2; exact UInt8.lt_irrefl y h2
     simp [h, hne]
    ·rw [if_neg h2]
     have he : x = y := UInt8.le_antisymm (UInt8.not_lt.1 h2) (UInt8.not_lt.1 h)
     rw [cmpB_lt a b]
     simp [he]
theorem cmpB_eq : ∀ a b : List UInt8, Lib.compareBytes a b = 0 ↔ a = b
 | [], [] => by simp [Lib.compareBytes]
 | [], y :: b => by simp [Lib.compareBytes]
 | x :: a, [] => by simp [Lib.compareBytes]
 | x :: a, y :: b => by
   unfold Lib.compareBytes
   by_cases h : x < y
   ·rw [if_pos h]
    have hne : x ≠ y := fun e => by rw [e] at h; exact UInt8.lt_irrefl y h
    simp [hne]
   ·rw [if_neg h]
    by_cases h2 : y < x
    ·rw [if_pos h2]
     have hne : x ≠ y := fun e => by rw [e] at h2; exact UInt8.lt_irrefl y h2
     simp [hne]
    ·rw [if_neg h2]
     have he : x = y := UInt8.le_antisymm (UInt8.not_lt.1 h2) (UInt8.not_lt.1 h)
     rw [cmpB_eq a b]
     simp [he]
theorem cmpS_lt (a b : ByteArray) : cmpS a b < 0 ↔ bl a < bl b := cmpB_lt _ _
theorem cmpS_eq (a b : ByteArray) : cmpS a b = 0 ↔ a = b := by
 unfold cmpS
 rw [cmpB_eq]
 exact ⟨fun h => bl_inj h, fun h => by rw [h]⟩
theorem keyLt_eq (a b : Key) : keyLt a b = if a.name = b.name then (if a.domain = b.domain then decide (bl a.path < bl b.path) else decide (bl a.domain < bl b.domain)) else decide (bl a.name < bl b.name) := by
 unfold keyLt cmpKey orI
 by_cases h1 : a.name = b.name
 ·rw [if_pos h1, if_pos ((cmpS_eq _ _).2 h1)]
  by_cases h2 : a.domain = b.domain
  ·rw [if_pos h2, if_pos ((cmpS_eq _ _).2 h2)]
   exact decide_eq_decide.2 (cmpS_lt _ _)
  ·rw [if_neg h2, if_neg (fun e => h2 ((cmpS_eq _ _).1 e))]
   exact decide_eq_decide.2 (cmpS_lt _ _)
 ·rw [if_neg h1, if_neg (fun e => h1 ((cmpS_eq _ _).1 e))]
  exact decide_eq_decide.2 (cmpS_lt _ _)
theorem keyLt_irrefl (a : Key) : keyLt a a = false := by
 rw [keyLt_eq, if_pos rfl, if_pos rfl]
 exact decide_eq_false (List.lt_irrefl _)
theorem keyLt_trans {a b c : Key} (h : keyLt a b = true) (k : keyLt b c = true) : keyLt a c = true := by
 rw [keyLt_eq] at h k ⊢
 have tr : ∀ {x y z : List UInt8}, x < y → y < z → x < z := fun h1 h2 => List.lt_trans h1 h2
 by_cases h1 : a.name = b.name
 ·rw [if_pos h1] at h
  by_cases k1 : b.name = c.name
  ·rw [if_pos k1] at k
   rw [if_pos (h1.trans k1)]
   by_cases h2 : a.domain = b.domain
   ·rw [if_pos h2] at h
    by_cases k2 : b.domain = c.domain
    ·rw [if_pos k2] at k
     rw [if_pos (h2.trans k2)]
     rw [decide_eq_true_eq] at h k ⊢
     exact tr h k
    ·rw [if_neg k2] at k
     rw [if_neg (by rw [h2]; exact k2), h2]
     exact k
   ·rw [if_neg h2] at h
    by_cases k2 : b.domain = c.domain
    ·rw [if_neg (by rw [← k2]; exact h2), ← k2]
     exact h
    ·rw [if_neg k2] at k
     rw [decide_eq_true_eq] at h k
     have h3 := tr h k
     rw [if_neg (fun e => by rw [e] at h3; exact List.lt_irrefl _ h3)]
     exact decide_eq_true h3
  ·rw [if_neg k1] at k
   rw [if_neg (by rw [h1]; exact k1), h1]
   exact k
 ·rw [if_neg h1] at h
  by_cases k1 : b.name = c.name
  ·rw [if_neg (by rw [← k1]; exact h1), ← k1]
   exact h
  ·rw [if_neg k1] at k
   rw [decide_eq_true_eq] at h k
   have h3 := tr h k
   rw [if_neg (fun e => by rw [e] at h3; exact List.lt_irrefl _ h3)]
   exact decide_eq_true h3
theorem bl_total {x y : ByteArray} (h : x ≠ y) (k : ¬ bl x < bl y) : bl y < bl x :=
 Classical.byContradiction fun h2 => h (bl_inj (List.le_antisymm (List.not_lt.1 h2) (List.not_lt.1 k)))
theorem keyLt_total {a b : Key} (h : a ≠ b) (k : keyLt a b = false) : keyLt b a = true := by
 rw [keyLt_eq] at k ⊢
 by_cases h1 : a.name = b.name
 ·rw [if_pos h1] at k
  rw [if_pos h1.symm]
  by_cases h2 : a.domain = b.domain
  ·rw [if_pos h2, decide_eq_false_iff_not] at k
   rw [if_pos h2.symm]
   exact decide_eq_true (bl_total (fun e => h (by cases a; cases b; simp_all)) k)
  ·rw [if_neg h2, decide_eq_false_iff_not] at k
   rw [if_neg (fun e => h2 e.symm)]
   exact decide_eq_true (bl_total h2 k)
 ·rw [if_neg h1, decide_eq_false_iff_not] at k
  rw [if_neg (fun e => h1 e.symm)]
  exact decide_eq_true (bl_total h1 k)
end Go.Proofs.YtkklcpmbgfgcmaaGreat
