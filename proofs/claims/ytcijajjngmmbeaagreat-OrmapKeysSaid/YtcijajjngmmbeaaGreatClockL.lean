/- Stamps in order: clock.Less, and the reference's. Conditions: none. -/
import Derived.Test.YtcijajjngmmbeaaGreatDot
import Derived.Test.YtcijajjngmmbeaaGreatHost
set_option linter.unusedSimpArgs false
set_option linter.unusedVariables false
set_option linter.unnecessarySimpa false
namespace Go.Proofs.YtcijajjngmmbeaaGreat
open Go.RowKit

def cmpStamp (a b : Stamp) : Int := orI (orI (cmpI a.wall b.wall) (cmpI a.count b.count)) (cmpI a.dev b.dev)
def stampLt (a b : Stamp) : Bool := decide (cmpStamp a b < 0)
theorem stampLt_eq (a b : Stamp) : stampLt a b = if a.wall = b.wall then (if a.count = b.count then decide (a.dev < b.dev) else decide (a.count < b.count)) else decide (a.wall < b.wall) := by
  unfold stampLt cmpStamp orI cmpI
  repeat' split
  all_goals first | rfl | (simp; omega) | omega
set_option maxHeartbeats 1000000 in
theorem later_any (a b : Stamp) (w : World) :
    Calls Tryz.prog 104 #[.agg #[.int .i64 a.wall, .int .i64 a.count, .int .i64 a.dev], .agg #[.int .i64 b.wall, .int .i64 b.count, .int .i64 b.dev]] w fun e w' => e = .returned (.int .i64 (orI (cmpI a.wall b.wall) (cmpI a.count b.count))) ∧ Below w.heap.size w w' := by
  go_enter Tryz.func104, Tryz.ntmps104
  go_wp2
  go_region_held3 (fun w' => w'.cell? ⟨w.heap.size, 0, none⟩ = some (.int .i64 a.wall) ∧ w'.cell? ⟨w.heap.size, 1, none⟩ = some (.int .i64 a.count) ∧ w'.cell? ⟨w.heap.size+1, 0, none⟩ = some (.int .i64 b.wall) ∧ w'.cell? ⟨w.heap.size+1, 1, none⟩ = some (.int .i64 b.count)) (go_keep)
    (first
      | (go_at_call 105; refine (compare_any _ _ _).mono ?_; rintro e w1 ⟨rfl, rfl⟩)
      | (go_at_call 103; go_call or_any (cmpI a.wall b.wall) (cmpI a.count b.count) as e w1 ⟨rfl, rfl⟩))
  go_wp2
  go_ret
  exact ⟨rfl, by go_grown⟩
set_option maxHeartbeats 1000000 in
theorem clockLess_any (a b : Stamp) (w : World) :
    Calls Tryz.prog 68 #[.agg #[.int .i64 a.wall, .int .i64 a.count, .int .i64 a.dev], .agg #[.int .i64 b.wall, .int .i64 b.count, .int .i64 b.dev]] w fun e w' => e = .returned (.bool (stampLt a b)) ∧ Below w.heap.size w w' := by
  go_enter Tryz.func68, Tryz.ntmps68
  go_wp2
  go_region_held3 (fun w' => w'.cell? ⟨w.heap.size, 0, none⟩ = some (.int .i64 a.wall) ∧ w'.cell? ⟨w.heap.size, 1, none⟩ = some (.int .i64 a.count) ∧ w'.cell? ⟨w.heap.size, 2, none⟩ = some (.int .i64 a.dev) ∧ w'.cell? ⟨w.heap.size+1, 0, none⟩ = some (.int .i64 b.wall) ∧ w'.cell? ⟨w.heap.size+1, 1, none⟩ = some (.int .i64 b.count) ∧ w'.cell? ⟨w.heap.size+1, 2, none⟩ = some (.int .i64 b.dev)) (first | (refine ⟨?_, ?_, ?_, ?_, ?_, ?_⟩ <;> ((with_reducible refine kept hb ?_); simp [*]; done)) | go_keep)
    (first
      | (go_at_call 105; refine (compare_any _ _ _).mono ?_; rintro e w1 ⟨rfl, rfl⟩)
      | (go_at_call 104; refine (later_any a b _).mono ?_; rintro e w1 ⟨rfl, hb⟩)
      | (go_at_call 103; go_call or_any (orI (cmpI a.wall b.wall) (cmpI a.count b.count)) (cmpI a.dev b.dev) as e w2 ⟨rfl, rfl⟩))
  go_wp2
  go_ret
  refine ⟨rfl, ?_⟩
  have h0 : Below w.heap.size w ((w.alloc (Obj.cells #[.int .i64 a.wall, .int .i64 a.count, .int .i64 a.dev] 37)).alloc (Obj.cells #[.int .i64 b.wall, .int .i64 b.count, .int .i64 b.dev] 37)).drew := by go_grown
  exact ((h0.trans (hb.mono h0.size)).alloc (by have := (below2 h0 hb).size; omega) _)
set_option maxHeartbeats 1000000 in
theorem rClockLess_any (a b : Stamp) (w : World) :
    Calls Tryz.prog 69 #[.agg #[.int .i64 a.wall, .int .i64 a.count, .int .i64 a.dev], .agg #[.int .i64 b.wall, .int .i64 b.count, .int .i64 b.dev]] w fun e w' => e = .returned (.bool (stampLt a b)) ∧ Below w.heap.size w w' := by
  have hL := stampLt_eq a b
  by_cases h1 : a.wall = b.wall
  · rw [if_pos h1] at hL
    have hn1 : (a.wall != b.wall) = false := by rw [bne_eq_false_iff_eq]; exact h1
    by_cases h2 : a.count = b.count
    · rw [if_pos h2] at hL
      have hn2 : (a.count != b.count) = false := by rw [bne_eq_false_iff_eq]; exact h2
      have HL := Lib.hid hL
      clear hL h1 h2
      go_enter Tryz.func69, Tryz.ntmps69
      go_wp2
      go_ret
      exact ⟨ret_bool HL.out.symm, by go_grown⟩
    · rw [if_neg h2] at hL
      have hn2 : (a.count != b.count) = true := by rw [bne_iff_ne]; exact h2
      have HL := Lib.hid hL
      clear hL h1 h2
      go_enter Tryz.func69, Tryz.ntmps69
      go_wp2
      go_ret
      exact ⟨ret_bool HL.out.symm, by go_grown⟩
  · rw [if_neg h1] at hL
    have hn1 : (a.wall != b.wall) = true := by rw [bne_iff_ne]; exact h1
    have HL := Lib.hid hL
    clear hL h1
    go_enter Tryz.func69, Tryz.ntmps69
    go_wp2
    go_ret
    exact ⟨ret_bool HL.out.symm, by go_grown⟩
end Go.Proofs.YtcijajjngmmbeaaGreat
