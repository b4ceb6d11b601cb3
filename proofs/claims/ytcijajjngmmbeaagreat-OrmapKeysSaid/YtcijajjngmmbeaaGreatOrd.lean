/- The orders of dots and actors as functions for a sort: what they leave behind. Conditions: none. -/
import Derived.Test.YtcijajjngmmbeaaGreatKeys
import Derived.Sort.Grow
import Derived.Deep.Draws
set_option linter.unusedSimpArgs false
set_option linter.unusedVariables false
set_option linter.unnecessarySimpa false
namespace Go.Proofs.YtcijajjngmmbeaaGreat
open Go.RowKit

/-- nothing that was there has turned; draws alone -/
structure Up (w w' : World) : Prop where
  below : Below w.heap.size w w'
  drawn : w.drawn ≤ w'.drawn
theorem Up.grown {w w' : World} (h : Up w w') : ∃ q os, w' = Go.Sort.grow (w.drewN q) os := by
  obtain ⟨⟨h1, h2, h3, h4, h5⟩, h6⟩ := h
  refine ⟨w'.drawn - w.drawn, w'.heap.extract w.heap.size w'.heap.size, ?_⟩
  obtain ⟨hp, tp, dr, os, out⟩ := w'
  obtain ⟨hp0, tp0, dr0, os0, out0⟩ := w
  simp only [Go.Sort.grow, World.drewN] at *
  subst h1 h2 h3
  simp only [World.mk.injEq, true_and, and_true]
  refine ⟨?_, by omega⟩
  apply Array.ext_getElem?
  intro k
  rw [Array.getElem?_append]
  split
  · rename_i hk; exact h5 k hk
  · rename_i hk
    rw [Array.getElem?_extract]
    split
    · congr 1; omega
    · rename_i hlt
      exact Array.getElem?_eq_none (by omega)
theorem Up.refl (w : World) : Up w w := ⟨Below.refl _ _, Nat.le_refl _⟩
theorem Up.trans {a b c : World} (h : Up a b) (k : Up b c) : Up a c := ⟨below2 h.below k.below, Nat.le_trans h.drawn k.drawn⟩

set_option maxHeartbeats 1000000 in
theorem cmpActor_up (a b : Actor) (w : World) :
    Calls Tryz.prog 128 #[.agg #[.int .i64 a.dev, .int .i64 a.inc], .agg #[.int .i64 b.dev, .int .i64 b.inc]] w fun e w' => e = .returned (.int .i64 (cmpActor a b)) ∧ Up w w' := by
  go_enter Tryz.func128, Tryz.ntmps128
  go_wp2
  go_region_held3 (fun w' => w'.cell? ⟨w.heap.size, 0, none⟩ = some (.int .i64 a.dev) ∧ w'.cell? ⟨w.heap.size, 1, none⟩ = some (.int .i64 a.inc) ∧ w'.cell? ⟨w.heap.size+1, 0, none⟩ = some (.int .i64 b.dev) ∧ w'.cell? ⟨w.heap.size+1, 1, none⟩ = some (.int .i64 b.inc)) (go_keep)
    (first
      | (go_at_call 105; refine (compare_any _ _ _).mono ?_; rintro e w1 ⟨rfl, rfl⟩)
      | (go_at_call 103; go_call or_any (cmpI a.dev b.dev) (cmpI a.inc b.inc) as e w1 ⟨rfl, rfl⟩))
  go_wp2
  go_ret
  exact ⟨rfl, by go_grown, Nat.le_succ _⟩
set_option maxHeartbeats 1000000 in
theorem order_up (a b : Dot) (w : World) :
    Calls Tryz.prog 119 #[.agg #[.int .i64 a.a.dev, .int .i64 a.a.inc, .int .i64 a.seq], .agg #[.int .i64 b.a.dev, .int .i64 b.a.inc, .int .i64 b.seq]] w fun e w' => e = .returned (.int .i64 (cmpDot a b)) ∧ Up w w' := by
  go_enter Tryz.func119, Tryz.ntmps119
  go_wp2
  go_region_held3 (fun w' => w'.cell? ⟨w.heap.size, 0, none⟩ = some (.int .i64 a.a.dev) ∧ w'.cell? ⟨w.heap.size, 1, none⟩ = some (.int .i64 a.a.inc) ∧ w'.cell? ⟨w.heap.size, 2, none⟩ = some (.int .i64 a.seq) ∧ w'.cell? ⟨w.heap.size+1, 0, none⟩ = some (.int .i64 b.a.dev) ∧ w'.cell? ⟨w.heap.size+1, 1, none⟩ = some (.int .i64 b.a.inc) ∧ w'.cell? ⟨w.heap.size+1, 2, none⟩ = some (.int .i64 b.seq)) (first | (refine ⟨?_, ?_, ?_, ?_, ?_, ?_⟩ <;> ((with_reducible refine kept hb ?_); simp [*]; done)) | go_keep)
    (first
      | (go_at_call 105; refine (compare_any _ _ _).mono ?_; rintro e w1 ⟨rfl, rfl⟩)
      | (go_at_call 128; refine (cmpActor_up a.a b.a _).mono ?_; rintro e w1 ⟨rfl, hb, hd⟩)
      | (go_at_call 103; go_call or_any (cmpActor a.a b.a) (cmpI a.seq b.seq) as e w2 ⟨rfl, rfl⟩))
  go_wp2
  go_ret
  have h0 : Below w.heap.size w ((w.alloc (Obj.cells #[.int .i64 a.a.dev, .int .i64 a.a.inc, .int .i64 a.seq] 28)).alloc (Obj.cells #[.int .i64 b.a.dev, .int .i64 b.a.inc, .int .i64 b.seq] 28)).drew := by go_grown
  refine ⟨rfl, (h0.trans (hb.mono h0.size)).alloc (by have := (below2 h0 hb).size; omega) _, ?_⟩
  have hd' : w.drawn + 1 ≤ w1.drawn := hd
  show w.drawn ≤ w1.drawn
  omega
set_option maxHeartbeats 1000000 in
theorem sortDot_up (a b : Dot) (w : World) : Calls Tryz.prog 118 #[dotVal a, dotVal b] w fun e w' => e = .returned (.int .i64 (cmpDot a b)) ∧ Up w w' := by
  have HO := Lib.hid (fun X => order_up a b X)
  go_enter Tryz.func118, Tryz.ntmps118
  go_wp2_with (go_at_call 119; (with_reducible refine (HO.out _).mono ?_); rintro e w1 ⟨rfl, hb⟩)
  go_ret
  exact ⟨rfl, below2 (by go_grown) hb.below, hb.drawn⟩
set_option maxHeartbeats 1000000 in
theorem sortActor_up (a b : Actor) (w : World) : Calls Tryz.prog 131 #[actVal a, actVal b] w fun e w' => e = .returned (.int .i64 (cmpActor a b)) ∧ Up w w' := by
  have HO := Lib.hid (fun X => cmpActor_up a b X)
  go_enter Tryz.func131, Tryz.ntmps131
  go_wp2_with (go_at_call 128; (with_reducible refine (HO.out _).mono ?_); rintro e w1 ⟨rfl, hb⟩)
  go_ret
  exact ⟨rfl, below2 (by go_grown) hb.below, hb.drawn⟩
end Go.Proofs.YtcijajjngmmbeaaGreat
