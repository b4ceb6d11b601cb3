/- Packages dot and clock, their tests and orders, and the references'. Conditions: none. -/
import Derived.Test.YtcijajjngmmbeaaGreatChecked
import Derived.Test.YtcijajjngmmbeaaGreatEq
set_option linter.unusedSimpArgs false
set_option linter.unusedVariables false
set_option linter.unnecessarySimpa false
namespace Go.Proofs.YtcijajjngmmbeaaGreat
open Go.RowKit

set_option maxHeartbeats 400000 in
theorem isNaN_any (a : Int) (w : World) :
    Calls Tryz.prog 127 #[.int .i64 a] w fun e w' => e = .returned (.bool false) ∧ w = w' := by
  go_enter Tryz.func127, Tryz.ntmps127
  go_wp2
  go_ret
  exact ⟨ret_bool (by simp), rfl⟩

set_option maxHeartbeats 400000 in
theorem compare_any (a b : Int) (w : World) :
    Calls Tryz.prog 105 #[.int .i64 a, .int .i64 b] w fun e w' => e = .returned (.int .i64 (cmpI a b)) ∧ w = w' := by
  go_enter Tryz.func105, Tryz.ntmps105
  go_wp2_with (go_at_call 127; refine (isNaN_any _ _).mono ?_; rintro e w1 ⟨rfl, rfl⟩)
  all_goals
    go_ret
    exact ⟨ret_int (by unfold cmpI; split <;> (try split) <;> omega), rfl⟩

set_option maxHeartbeats 400000 in
theorem or_any (a b : Int) (A : Nat) (w : World) (h0 : w.cell? ⟨A, 0, none⟩ = some (.int .i64 a)) (h1 : w.cell? ⟨A, 1, none⟩ = some (.int .i64 b)) :
    Calls Tryz.prog 103 #[.slice (some ⟨A, 0, none⟩) 2 2] w fun e w' => e = .returned (.int .i64 (orI a b)) ∧ w = w' := by
  go_enter Tryz.func103, Tryz.ntmps103
  go_wp2
  go_rounds 3
  all_goals
    go_ret
    exact ⟨ret_int (by unfold orI; simp_all), rfl⟩

set_option maxHeartbeats 400000 in
theorem actor_any (a : Actor) (w : World) :
    Calls Tryz.prog 121 #[.agg #[.int .i64 a.dev, .int .i64 a.inc]] w fun e w' => e = .returned (.bool (actorOk a)) ∧ Below w.heap.size w w' := by
  go_enter Tryz.func121, Tryz.ntmps121
  go_wp2
  all_goals
    go_ret
    exact ⟨ret_bool (by unfold actorOk; rw [Bool.eq_iff_iff]; simp <;> omega), by go_grown⟩

set_option maxHeartbeats 400000 in
theorem dotRight_any (d : Dot) (w : World) :
    Calls Tryz.prog 96 #[.agg #[.int .i64 d.a.dev, .int .i64 d.a.inc, .int .i64 d.seq]] w fun e w' => e = .returned (.bool (dotOk d)) ∧ Below w.heap.size w w' := by
  have HD : Hid (dotOk d = (actorOk d.a && (decide (1 ≤ d.seq) && decide (d.seq ≤ 4294967296)))) := rfl
  go_enter Tryz.func96, Tryz.ntmps96
  go_wp2_with (go_at_call 121; refine (actor_any _ _).mono ?_; rintro e w1 ⟨rfl, hb⟩; obtain ⟨hc, hf⟩ := bcell hb)
  all_goals
    go_ret
    exact ⟨ret_bool (by rw [HD.out]; simp [*] <;> omega), below2 ((Below.refl _ _).alloc (Nat.le_refl _) _) hb⟩

set_option maxHeartbeats 400000 in
theorem rActor_any (a : Actor) (w : World) :
    Calls Tryz.prog 106 #[.agg #[.int .i64 a.dev, .int .i64 a.inc]] w fun e w' => e = .returned (.bool (actorOk a)) ∧ Below w.heap.size w w' := by
  go_enter Tryz.func106, Tryz.ntmps106
  go_wp2
  all_goals
    go_ret
    exact ⟨ret_bool (by unfold actorOk; rw [Bool.eq_iff_iff]; simp <;> omega), by go_grown⟩

set_option maxHeartbeats 400000 in
theorem rDotRight_any (d : Dot) (w : World) :
    Calls Tryz.prog 73 #[.agg #[.int .i64 d.a.dev, .int .i64 d.a.inc, .int .i64 d.seq]] w fun e w' => e = .returned (.bool (dotOk d)) ∧ Below w.heap.size w w' := by
  have HD : Hid (dotOk d = (actorOk d.a && (decide (1 ≤ d.seq) && decide (d.seq ≤ 4294967296)))) := rfl
  go_enter Tryz.func73, Tryz.ntmps73
  go_wp2_with (go_at_call 106; refine (rActor_any _ _).mono ?_; rintro e w1 ⟨rfl, hb⟩; obtain ⟨hc, hf⟩ := bcell hb)
  all_goals
    go_ret
    exact ⟨ret_bool (by rw [HD.out]; simp [*] <;> omega), below2 ((Below.refl _ _).alloc (Nat.le_refl _) _) hb⟩

set_option maxHeartbeats 1000000 in
theorem cmpActor_any (a b : Actor) (w : World) :
    Calls Tryz.prog 128 #[.agg #[.int .i64 a.dev, .int .i64 a.inc], .agg #[.int .i64 b.dev, .int .i64 b.inc]] w fun e w' => e = .returned (.int .i64 (cmpActor a b)) ∧ Below w.heap.size w w' := by
  go_enter Tryz.func128, Tryz.ntmps128
  go_wp2
  go_region_held3 (fun w' => w'.cell? ⟨w.heap.size, 0, none⟩ = some (.int .i64 a.dev) ∧ w'.cell? ⟨w.heap.size, 1, none⟩ = some (.int .i64 a.inc) ∧ w'.cell? ⟨w.heap.size+1, 0, none⟩ = some (.int .i64 b.dev) ∧ w'.cell? ⟨w.heap.size+1, 1, none⟩ = some (.int .i64 b.inc)) (go_keep)
    (first
      | (go_at_call 105; refine (compare_any _ _ _).mono ?_; rintro e w1 ⟨rfl, rfl⟩)
      | (go_at_call 103; go_call or_any (cmpI a.dev b.dev) (cmpI a.inc b.inc) as e w1 ⟨rfl, rfl⟩))
  go_wp2
  go_ret
  exact ⟨rfl, by go_grown⟩

set_option maxHeartbeats 1000000 in
theorem order_any (a b : Dot) (w : World) :
    Calls Tryz.prog 119 #[.agg #[.int .i64 a.a.dev, .int .i64 a.a.inc, .int .i64 a.seq], .agg #[.int .i64 b.a.dev, .int .i64 b.a.inc, .int .i64 b.seq]] w fun e w' => e = .returned (.int .i64 (cmpDot a b)) ∧ Below w.heap.size w w' := by
  go_enter Tryz.func119, Tryz.ntmps119
  go_wp2
  go_region_held3 (fun w' => w'.cell? ⟨w.heap.size, 0, none⟩ = some (.int .i64 a.a.dev) ∧ w'.cell? ⟨w.heap.size, 1, none⟩ = some (.int .i64 a.a.inc) ∧ w'.cell? ⟨w.heap.size, 2, none⟩ = some (.int .i64 a.seq) ∧ w'.cell? ⟨w.heap.size+1, 0, none⟩ = some (.int .i64 b.a.dev) ∧ w'.cell? ⟨w.heap.size+1, 1, none⟩ = some (.int .i64 b.a.inc) ∧ w'.cell? ⟨w.heap.size+1, 2, none⟩ = some (.int .i64 b.seq)) (first | (refine ⟨?_, ?_, ?_, ?_, ?_, ?_⟩ <;> ((with_reducible refine kept hb ?_); simp [*]; done)) | go_keep)
    (first
      | (go_at_call 105; refine (compare_any _ _ _).mono ?_; rintro e w1 ⟨rfl, rfl⟩)
      | (go_at_call 128; refine (cmpActor_any a.a b.a _).mono ?_; rintro e w1 ⟨rfl, hb⟩)
      | (go_at_call 103; go_call or_any (cmpActor a.a b.a) (cmpI a.seq b.seq) as e w2 ⟨rfl, rfl⟩))
  go_wp2
  go_ret
  refine ⟨rfl, ?_⟩
  have h0 : Below w.heap.size w ((w.alloc (Obj.cells #[.int .i64 a.a.dev, .int .i64 a.a.inc, .int .i64 a.seq] 28)).alloc (Obj.cells #[.int .i64 b.a.dev, .int .i64 b.a.inc, .int .i64 b.seq] 28)).drew := by go_grown
  exact ((h0.trans (hb.mono h0.size)).alloc (by have := (below2 h0 hb).size; omega) _)

set_option maxHeartbeats 1000000 in
theorem less_any (a b : Dot) (w : World) :
    Calls Tryz.prog 120 #[.agg #[.int .i64 a.a.dev, .int .i64 a.a.inc, .int .i64 a.seq], .agg #[.int .i64 b.a.dev, .int .i64 b.a.inc, .int .i64 b.seq]] w fun e w' => e = .returned (.bool (dotLt a b)) ∧ Below w.heap.size w w' := by
  have HD := Lib.hid (cmpDot_lt a b)
  go_enter Tryz.func120, Tryz.ntmps120
  go_wp2_with (go_at_call 119; refine (order_any a b _).mono ?_; rintro e w1 ⟨rfl, hb⟩)
  go_ret
  exact ⟨ret_bool (by rw [← HD.out]), below2 (by go_grown) hb⟩

set_option maxHeartbeats 400000 in
theorem rAhead_any (a b : Actor) (w : World) :
    Calls Tryz.prog 76 #[.agg #[.int .i64 a.dev, .int .i64 a.inc], .agg #[.int .i64 b.dev, .int .i64 b.inc]] w fun e w' => e = .returned (.bool (actorLt a b)) ∧ Below w.heap.size w w' := by
  go_enter Tryz.func76, Tryz.ntmps76
  go_wp2
  all_goals
    go_ret
    exact ⟨ret_bool (by unfold actorLt; rw [Bool.eq_iff_iff]; simp; (first | omega | (simp only [beq_iff_eq, beq_eq_false_iff_ne, ne_eq, bne_iff_ne, bne_eq_false_iff_eq, decide_eq_true_eq, decide_eq_false_iff_not, Bool.not_eq_eq_eq_not, Bool.not_true, Bool.not_false] at *; omega))), by go_grown⟩

set_option maxHeartbeats 1000000 in
theorem rLess_any (a b : Dot) (w : World) :
    Calls Tryz.prog 95 #[.agg #[.int .i64 a.a.dev, .int .i64 a.a.inc, .int .i64 a.seq], .agg #[.int .i64 b.a.dev, .int .i64 b.a.inc, .int .i64 b.seq]] w fun e w' => e = .returned (.bool (dotLt a b)) ∧ Below w.heap.size w w' := by
  have hE := fun (W : World) => eqActor W 9998 a.a b.a
  have hm := noGuardActor
  by_cases hab : a.a = b.a
  · have hY : Hid (dotLt a b = decide (a.seq < b.seq)) := by unfold Hid dotLt actorLt; rw [hab]; simp
    rw [decide_eq_true hab] at hE
    clear hab
    go_enter Tryz.func95, Tryz.ntmps95
    go_wp2
    go_ret
    exact ⟨ret_bool hY.out.symm, by go_grown⟩
  · have hY : Hid (dotLt a b = actorLt a.a b.a) := by
      unfold Hid dotLt
      rw [actor_iff] at hab
      have : (decide (a.a.dev = b.a.dev) && decide (a.a.inc = b.a.inc)) = false := by simpa using hab
      rw [this]; simp
    rw [decide_eq_false hab] at hE
    clear hab
    go_enter Tryz.func95, Tryz.ntmps95
    go_wp2_with (go_at_call 76; refine (rAhead_any a.a b.a _).mono ?_; rintro e w1 ⟨rfl, hb⟩)
    go_ret
    exact ⟨ret_bool hY.out.symm, below2 (by go_grown) hb⟩

set_option maxHeartbeats 400000 in
theorem clockWithin_any (n m : Int) (w : World) :
    Calls Tryz.prog 122 #[.int .i64 n, .int .i64 m] w fun e w' => e = .returned (.bool (decide (0 ≤ n) && decide (n ≤ m))) ∧ w = w' := by
  go_enter Tryz.func122, Tryz.ntmps122
  go_wp2
  all_goals
    go_ret
    exact ⟨ret_bool (by rw [Bool.eq_iff_iff]; simp <;> omega), rfl⟩

set_option maxHeartbeats 1000000 in
theorem clockRight_any (s : Stamp) (w : World) :
    Calls Tryz.prog 97 #[.agg #[.int .i64 s.wall, .int .i64 s.count, .int .i64 s.dev]] w fun e w' => e = .returned (.bool (stampOk s)) ∧ Below w.heap.size w w' := by
  go_enter Tryz.func97, Tryz.ntmps97
  go_wp2_with (go_at_call 122; refine (clockWithin_any _ _ _).mono ?_; rintro e w1 ⟨rfl, rfl⟩)
  all_goals
    go_ret
    exact ⟨ret_bool (by unfold stampOk; rw [Bool.eq_iff_iff]; simp [*] <;> omega), by go_grown⟩

set_option maxHeartbeats 1000000 in
theorem rClockRight_any (s : Stamp) (w : World) :
    Calls Tryz.prog 110 #[.agg #[.int .i64 s.wall, .int .i64 s.count, .int .i64 s.dev]] w fun e w' => e = .returned (.bool (stampOk s)) ∧ Below w.heap.size w w' := by
  go_enter Tryz.func110, Tryz.ntmps110
  go_wp2
  all_goals
    go_ret
    exact ⟨ret_bool (by unfold stampOk; rw [Bool.eq_iff_iff]; simp <;> omega), by go_grown⟩
end Go.Proofs.YtcijajjngmmbeaaGreat
