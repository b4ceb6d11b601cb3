/- Packages dot and clock, their tests and orders, and the references'. Conditions: none. -/
import Derived.Test.YtcijajjngmmbeaaChecked
import Derived.Test.YtcijajjngmmbeaaEq
set_option linter.unusedSimpArgs false
set_option linter.unusedVariables false
set_option linter.unnecessarySimpa false
namespace Go.Proofs.Ytcijajjngmmbeaa
open Go.RowKit

set_option maxHeartbeats 400000 in
theorem isNaN_any (a : Int) (w : World) :
    Calls Try.prog 59 #[.int .i64 a] w fun e w' => e = .returned (.bool false) ∧ w = w' := by
  go_enter Try.func59, Try.ntmps59
  go_wp2
  go_ret
  exact ⟨ret_bool (by simp), rfl⟩

set_option maxHeartbeats 400000 in
theorem compare_any (a b : Int) (w : World) :
    Calls Try.prog 48 #[.int .i64 a, .int .i64 b] w fun e w' => e = .returned (.int .i64 (cmpI a b)) ∧ w = w' := by
  go_enter Try.func48, Try.ntmps48
  go_wp2_with (go_at_call 59; refine (isNaN_any _ _).mono ?_; rintro e w1 ⟨rfl, rfl⟩)
  all_goals
    go_ret
    exact ⟨ret_int (by unfold cmpI; split <;> (try split) <;> omega), rfl⟩

set_option maxHeartbeats 400000 in
theorem or_any (a b : Int) (A : Nat) (w : World) (h0 : w.cell? ⟨A, 0, none⟩ = some (.int .i64 a)) (h1 : w.cell? ⟨A, 1, none⟩ = some (.int .i64 b)) :
    Calls Try.prog 46 #[.slice (some ⟨A, 0, none⟩) 2 2] w fun e w' => e = .returned (.int .i64 (orI a b)) ∧ w = w' := by
  go_enter Try.func46, Try.ntmps46
  go_wp2
  go_rounds 3
  all_goals
    go_ret
    exact ⟨ret_int (by unfold orI; simp_all), rfl⟩

set_option maxHeartbeats 400000 in
theorem actor_any (a : Actor) (w : World) :
    Calls Try.prog 28 #[.agg #[.int .i64 a.dev, .int .i64 a.inc]] w fun e w' => e = .returned (.bool (actorOk a)) ∧ Below w.heap.size w w' := by
  go_enter Try.func28, Try.ntmps28
  go_wp2
  all_goals
    go_ret
    exact ⟨ret_bool (by unfold actorOk; rw [Bool.eq_iff_iff]; simp <;> omega), by go_grown⟩

set_option maxHeartbeats 400000 in
theorem dotRight_any (d : Dot) (w : World) :
    Calls Try.prog 20 #[.agg #[.int .i64 d.a.dev, .int .i64 d.a.inc, .int .i64 d.seq]] w fun e w' => e = .returned (.bool (dotOk d)) ∧ Below w.heap.size w w' := by
  have HD : Hid (dotOk d = (actorOk d.a && (decide (1 ≤ d.seq) && decide (d.seq ≤ 4294967296)))) := rfl
  go_enter Try.func20, Try.ntmps20
  go_wp2_with (go_at_call 28; refine (actor_any _ _).mono ?_; rintro e w1 ⟨rfl, hb⟩; obtain ⟨hc, hf⟩ := bcell hb)
  all_goals
    go_ret
    exact ⟨ret_bool (by rw [HD.out]; simp [*] <;> omega), below2 ((Below.refl _ _).alloc (Nat.le_refl _) _) hb⟩

set_option maxHeartbeats 1000000 in
theorem cmpActor_any (a b : Actor) (w : World) :
    Calls Try.prog 47 #[.agg #[.int .i64 a.dev, .int .i64 a.inc], .agg #[.int .i64 b.dev, .int .i64 b.inc]] w fun e w' => e = .returned (.int .i64 (cmpActor a b)) ∧ Below w.heap.size w w' := by
  go_enter Try.func47, Try.ntmps47
  go_wp2
  go_region_held3 (fun w' => w'.cell? ⟨w.heap.size, 0, none⟩ = some (.int .i64 a.dev) ∧ w'.cell? ⟨w.heap.size, 1, none⟩ = some (.int .i64 a.inc) ∧ w'.cell? ⟨w.heap.size+1, 0, none⟩ = some (.int .i64 b.dev) ∧ w'.cell? ⟨w.heap.size+1, 1, none⟩ = some (.int .i64 b.inc)) (go_keep)
    (first
      | (go_at_call 48; refine (compare_any _ _ _).mono ?_; rintro e w1 ⟨rfl, rfl⟩)
      | (go_at_call 46; go_call or_any (cmpI a.dev b.dev) (cmpI a.inc b.inc) as e w1 ⟨rfl, rfl⟩))
  go_wp2
  go_ret
  exact ⟨rfl, by go_grown⟩

set_option maxHeartbeats 1000000 in
theorem order_any (a b : Dot) (w : World) :
    Calls Try.prog 36 #[.agg #[.int .i64 a.a.dev, .int .i64 a.a.inc, .int .i64 a.seq], .agg #[.int .i64 b.a.dev, .int .i64 b.a.inc, .int .i64 b.seq]] w fun e w' => e = .returned (.int .i64 (cmpDot a b)) ∧ Below w.heap.size w w' := by
  go_enter Try.func36, Try.ntmps36
  go_wp2
  go_region_held3 (fun w' => w'.cell? ⟨w.heap.size, 0, none⟩ = some (.int .i64 a.a.dev) ∧ w'.cell? ⟨w.heap.size, 1, none⟩ = some (.int .i64 a.a.inc) ∧ w'.cell? ⟨w.heap.size, 2, none⟩ = some (.int .i64 a.seq) ∧ w'.cell? ⟨w.heap.size+1, 0, none⟩ = some (.int .i64 b.a.dev) ∧ w'.cell? ⟨w.heap.size+1, 1, none⟩ = some (.int .i64 b.a.inc) ∧ w'.cell? ⟨w.heap.size+1, 2, none⟩ = some (.int .i64 b.seq)) (first | (refine ⟨?_, ?_, ?_, ?_, ?_, ?_⟩ <;> ((with_reducible refine kept hb ?_); simp [*]; done)) | go_keep)
    (first
      | (go_at_call 48; refine (compare_any _ _ _).mono ?_; rintro e w1 ⟨rfl, rfl⟩)
      | (go_at_call 47; refine (cmpActor_any a.a b.a _).mono ?_; rintro e w1 ⟨rfl, hb⟩)
      | (go_at_call 46; go_call or_any (cmpActor a.a b.a) (cmpI a.seq b.seq) as e w2 ⟨rfl, rfl⟩))
  go_wp2
  go_ret
  refine ⟨rfl, ?_⟩
  have h0 : Below w.heap.size w ((w.alloc (Obj.cells #[.int .i64 a.a.dev, .int .i64 a.a.inc, .int .i64 a.seq] 27)).alloc (Obj.cells #[.int .i64 b.a.dev, .int .i64 b.a.inc, .int .i64 b.seq] 27)).drew := by go_grown
  exact ((h0.trans (hb.mono h0.size)).alloc (by have := (below2 h0 hb).size; omega) _)

set_option maxHeartbeats 1000000 in
theorem less_any (a b : Dot) (w : World) :
    Calls Try.prog 30 #[.agg #[.int .i64 a.a.dev, .int .i64 a.a.inc, .int .i64 a.seq], .agg #[.int .i64 b.a.dev, .int .i64 b.a.inc, .int .i64 b.seq]] w fun e w' => e = .returned (.bool (dotLt a b)) ∧ Below w.heap.size w w' := by
  have HD := Lib.hid (cmpDot_lt a b)
  go_enter Try.func30, Try.ntmps30
  go_wp2_with (go_at_call 36; refine (order_any a b _).mono ?_; rintro e w1 ⟨rfl, hb⟩)
  go_ret
  exact ⟨ret_bool (by rw [← HD.out]), below2 (by go_grown) hb⟩

set_option maxHeartbeats 400000 in
theorem clockWithin_any (n m : Int) (w : World) :
    Calls Try.prog 29 #[.int .i64 n, .int .i64 m] w fun e w' => e = .returned (.bool (decide (0 ≤ n) && decide (n ≤ m))) ∧ w = w' := by
  go_enter Try.func29, Try.ntmps29
  go_wp2
  all_goals
    go_ret
    exact ⟨ret_bool (by rw [Bool.eq_iff_iff]; simp <;> omega), rfl⟩

set_option maxHeartbeats 1000000 in
theorem clockRight_any (s : Stamp) (w : World) :
    Calls Try.prog 21 #[.agg #[.int .i64 s.wall, .int .i64 s.count, .int .i64 s.dev]] w fun e w' => e = .returned (.bool (stampOk s)) ∧ Below w.heap.size w w' := by
  go_enter Try.func21, Try.ntmps21
  go_wp2_with (go_at_call 29; refine (clockWithin_any _ _ _).mono ?_; rintro e w1 ⟨rfl, rfl⟩)
  all_goals
    go_ret
    exact ⟨ret_bool (by unfold stampOk; rw [Bool.eq_iff_iff]; simp [*] <;> omega), by go_grown⟩

end Go.Proofs.Ytcijajjngmmbeaa
