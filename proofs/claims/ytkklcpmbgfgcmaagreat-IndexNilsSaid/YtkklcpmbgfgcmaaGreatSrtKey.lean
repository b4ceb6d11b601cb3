/- A slice of keys under slices.SortFunc, by match.Less. Conditions: at most 2^30 of them. -/
import Derived.Test.YtkklcpmbgfgcmaaGreatSrtK
import Derived.Test.YtkklcpmbgfgcmaaGreatKeyOrd
set_option linter.unusedSimpArgs false
set_option linter.unusedVariables false
set_option linter.unnecessarySimpa false
namespace Go.Proofs.YtkklcpmbgfgcmaaGreat
open Go.RowKit Go.Shelf
set_option maxHeartbeats 1000000 in
theorem keys_up (a b : Key) (w : World) :
 Calls Tryz.prog 48 #[.agg #[.string a.name, .string a.domain, .string a.path], .agg #[.string b.name, .string b.domain, .string b.path]] w fun e w' => e = .returned (.int .i64 (cmpKey a b)) ∧ Up w w' := by
 go_enter Tryz.func48, Tryz.ntmps48
 go_wp2
 go_region_held3 (fun w' => w'.cell? ⟨w.heap.size, 0, none⟩ = some (.string a.name) ∧ w'.cell? ⟨w.heap.size, 1, none⟩ = some (.string a.domain) ∧ w'.cell? ⟨w.heap.size, 2, none⟩ = some (.string a.path) ∧ w'.cell? ⟨w.heap.size+1, 0, none⟩ = some (.string b.name) ∧ w'.cell? ⟨w.heap.size+1, 1, none⟩ = some (.string b.domain) ∧ w'.cell? ⟨w.heap.size+1, 2, none⟩ = some (.string b.path)) (go_keep)
  (first
   | (go_at_call 64; refine (strCompare_any _ _ _).mono ?_; rintro e w1 ⟨rfl, rfl⟩)
   | (go_at_call 58; go_call or3_any (cmpS a.name b.name) (cmpS a.domain b.domain) (cmpS a.path b.path) as e w1 ⟨rfl, rfl⟩))
 go_wp2
 go_ret
 exact ⟨rfl, by go_grown, Nat.le_succ _⟩
set_option maxHeartbeats 1000000 in
theorem keyLess_up (a b : Key) (w : World) :
 Calls Tryz.prog 33 #[.agg #[.string a.name, .string a.domain, .string a.path], .agg #[.string b.name, .string b.domain, .string b.path]] w fun e w' => e = .returned (.bool (keyLt a b)) ∧ Up w w' := by
 go_enter Tryz.func33, Tryz.ntmps33
 go_wp2_with (go_at_call 48; refine (keys_up a b _).mono ?_; rintro e w1 ⟨rfl, hb, hd⟩)
 go_ret
 exact ⟨rfl, below2 (by go_grown) hb, hd⟩
instance : Inhabited Key := ⟨⟨ByteArray.empty, ByteArray.empty, ByteArray.empty⟩⟩
end Go.Proofs.YtkklcpmbgfgcmaaGreat
