/- The map of events: sorted. Conditions: as in the text. -/
import Derived.Test.YtohcmljigcdmbaaGreatOrmF
import Derived.Test.YtohcmljigcdmbaaGreatClone
import Derived.Great.BuildSlice
set_option linter.unusedSimpArgs false
set_option linter.unusedVariables false
set_option linter.unnecessarySimpa false
set_option maxHeartbeats 16000000
set_option maxRecDepth 100000
namespace Go.Proofs.YtohcmljigcdmbaaGreat
open Go.RowKit
/-- the kept event of a dot -/
def evAt (K : List EvIt) (d : Dot) : Ev := ((K.find? fun x => decide (x.1.dot = d)).map (·.1)).getD ev0
def eventsOf (s : MS) : List Ev := (sortD (s.K.map fun x => x.1.dot)).map (evAt s.K)
theorem sortD_congr {l m : List Dot} (h : ∀ x, x ∈ l ↔ x ∈ m) : sortD l = sortD m := srtD_ext (sortD_srt l) (sortD_srt m) fun x => by rw [sortD_mem, sortD_mem, h]
theorem dotVals_snoc (l : List Dot) (d : Dot) : dotVals (l ++ [d]) = dotVals l ++ [.int .i64 d.a.dev, .int .i64 d.a.inc, .int .i64 d.seq] := by simp [dotVals]
theorem mContext_nil (w : World) : Calls Tryz.prog 27 #[.pointer none] w fun x w' => x = .returned (.slice none 0 0) ∧ Below w.heap.size w w' := by
 go_enter Tryz.func27, Tryz.ntmps27
 go_wp2
 all_goals
  go_ret
  exact ⟨rfl, by go_grown⟩
/-- behind an Apply that was done -/
structure Done (m : Nat) (b : MB) (s : MS) (e : Ev) (w w' : World) (s' : MS) : Prop where
 map : MpIn w' m b s'
 inv : MInv s'
 keeps : KeepsC w w'
 below : ∀ n, n ≤ w.heap.size → (∀ k, foot b s.A k → n ≤ k) → Below n w w' ∧ ∀ k, foot b s'.A k → n ≤ k
 applied : Applied s e s'
theorem RetAp.done {m : Nat} {b : MB} {s : MS} {e : Ev} {w w' : World} {x : Ending} (h : RetAp m b s e w x w') (hm : MpIn w m b s) (hi : MInv s) (hok : apOk s e = true) :
 ∃ s', x = .returned (.tuple #[.bool true, .int .i64 0]) ∧ Done m b s e w w' s' := by
 obtain ⟨s', rfl, h1, h2, h3, h4⟩ := h
 rw [if_pos hok] at h4
 have he : apErr s e = 0 := by
  obtain ⟨q1, q2, q3, q4⟩ := apOk_parts hok
  unfold apErr
  rw [if_pos q1, q2, if_neg (by simp), if_pos q3, if_pos q4]
 refine ⟨s', by rw [hok, he], h1, hi.applied hok h4, hm.keeps h2 (fun _ h => h), fun n hn hf => ⟨h2.below hn hf, fun k hk => ?_⟩, h4⟩
 rcases h3 k hk with h5 | h5
 ·exact hf k h5
 ·omega
end Go.Proofs.YtohcmljigcdmbaaGreat
