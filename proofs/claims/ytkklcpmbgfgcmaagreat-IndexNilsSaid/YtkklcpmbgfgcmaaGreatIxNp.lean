/- Pick at a nil index: nothing. Conditions: none. -/
import Derived.Test.YtkklcpmbgfgcmaaGreatIxNi
set_option linter.unusedSimpArgs false
set_option linter.unusedVariables false
set_option linter.unnecessarySimpa false
namespace Go.Proofs.YtkklcpmbgfgcmaaGreat
open Go.RowKit
set_option maxRecDepth 100000 in
theorem insNil_any (a : Option Addr) (c : Nat) (f : Value) (w : World) : Calls Tryz.prog 66 #[.slice a 0 c, .int .i64 0, .int .i64 0, f] w fun e w' => e = .returned (.tuple #[]) ∧ Below w.heap.size w w' := by
 go_enter Tryz.func66, Tryz.ntmps66
 go_wp2
 go_loopw [8] (fun i wr => i = .int .i64 1 ∧ Below w.heap.size w wr) (fun _ _ => (0 : Nat))
 case atStart => exact ⟨rfl, Below.refl _ _⟩
 case round =>
  obtain ⟨rfl, hb⟩ := hrel
  go_wp2
  all_goals
   go_end0
   exact ⟨rfl, hb⟩
set_option maxRecDepth 100000 in
theorem stabNil_any (a : Option Addr) (c : Nat) (f : Value) (w : World) : Calls Tryz.prog 57 #[.slice a 0 c, .int .i64 0, f] w fun e w' => e = .returned (.tuple #[]) ∧ Below w.heap.size w w' := by
 go_enter Tryz.func57, Tryz.ntmps57
 go_wp2
 go_loopw [7, 8] (fun i j wr => i = .int .i64 0 ∧ j = .int .i64 20 ∧ Below w.heap.size w wr) (fun _ _ _ => (0 : Nat))
 case atStart => exact ⟨rfl, rfl, Below.refl _ _⟩
 case round =>
  obtain ⟨rfl, rfl, hb⟩ := hrel
  go_wp2_with (go_at_call 66; (refine (insNil_any _ _ _ _).mono ?_); rintro e w1 ⟨rfl, hb1⟩)
  go_loopw [6] (fun s wr => s = .int .i64 20 ∧ Below w.heap.size w wr) (fun _ _ => (0 : Nat))
  case atStart => exact ⟨rfl, below2 hb hb1⟩
  case round =>
   obtain ⟨rfl, hb⟩ := hrel
   go_wp2
   all_goals
        go_end0
        exact ⟨rfl, hb⟩
set_option maxRecDepth 100000 in
theorem sortStNil_any (a : Option Addr) (c : Nat) (f : Value) (w : World) : Calls Tryz.prog 42 #[.slice a 0 c, f] w fun e w' => e = .returned (.tuple #[]) ∧ Below w.heap.size w w' := by
 go_enter Tryz.func42, Tryz.ntmps42
 go_wp2_with (go_at_call 57; (refine (stabNil_any _ _ _ _).mono ?_); rintro e w1 ⟨rfl, hb1⟩)
 all_goals
  go_end0
  exact ⟨rfl, hb1⟩
set_option maxRecDepth 100000 in
theorem cloneNil_any (w : World) : Calls Tryz.prog 19 #[.slice none 0 0] w fun e w' => e = .returned (.slice none 0 0) ∧ Below w.heap.size w w' := by
 have hnil := fun (W : World) => Lib.run_eql_slice_nil (P := Tryz.prog) W 31 27 none 0 0 0 0 Tryz.underlying31
 go_enter Tryz.func19, Tryz.ntmps19
 go_wp2
 all_goals
  go_ret
  exact ⟨rfl, by go_grown⟩
set_option maxRecDepth 100000 in
theorem matchNil_any (w : World) : Calls Tryz.prog 25 #[.slice none 0 0] w fun e w' => e = .returned (.slice none 0 0) ∧ Below w.heap.size w w' := by
 have HC := Lib.hid (cloneNil_any w)
 go_enter Tryz.func25, Tryz.ntmps25
 go_wp2_with (first
  | (go_at_call 19; (refine HC.out.mono ?_); rintro e w1 ⟨rfl, hb1⟩)
  | (go_at_call 42; (refine (sortStNil_any _ _ _ _).mono ?_); rintro e w2 ⟨rfl, hb2⟩))
 all_goals
  go_ret
  exact ⟨rfl, below2 hb1 hb2⟩
set_option maxRecDepth 100000 in
theorem pickNil_any (h p : ByteArray) (s t : Bool) (n : Int) (w : World) : Calls Tryz.prog 12 #[.pointer none, .agg #[.string h, .string p, .bool s, .bool t], .int .i64 n] w fun e w' => e = .returned (.slice none 0 0) ∧ Below w.heap.size w w' := by
 go_enter Tryz.func12, Tryz.ntmps12
 go_upto_region 1 with fail
 refine wp_name (fun W hW => ?_)
 have hb : Below w.heap.size w W := by rw [hW.out]; go_grown
 have h0 : W.cell? ⟨w.heap.size, 0, none⟩ = some (.string h) := by rw [hW.out]; go_simp
 clear hW
 go_wp2_with (go_at_call 11; (refine (nearNil_any _ _).mono ?_); rintro e w1 ⟨rfl, hb1⟩)
 go_loopw [7, 15] (fun o i wr => o = .slice none 0 0 ∧ i = .int .i64 0 ∧ Below w.heap.size w wr) (fun _ _ _ => (0 : Nat))
 case atStart => exact ⟨rfl, rfl, below2 hb hb1⟩
 case round =>
  obtain ⟨rfl, rfl, hb3⟩ := hrel
  go_wp2_with (go_at_call 25; (refine (matchNil_any _).mono ?_); rintro e w4 ⟨rfl, hb4⟩)
  all_goals
   go_ret
   exact ⟨rfl, below2 hb3 hb4⟩
end Go.Proofs.YtkklcpmbgfgcmaaGreat
