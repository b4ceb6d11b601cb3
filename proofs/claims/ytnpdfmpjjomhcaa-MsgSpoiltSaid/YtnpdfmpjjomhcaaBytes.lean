/- An event's bytes. Conditions: texts of at most 2^24 bytes. -/
import Derived.Test.YtnpdfmpjjomhcaaPut
set_option linter.unusedSimpArgs false
set_option linter.unusedVariables false
set_option linter.unnecessarySimpa false
namespace Go.Proofs.Ytnpdfmpjjomhcaa
open Go.RowKit

/-- behind event.Bytes of an event that may be -/
def RetEvB (l : Bytes) (w : World) (x : Ending) (w' : World) : Prop :=
  ∃ v, x = .returned (.tuple #[v, .int .i64 0]) ∧ w'.ownsRow w.heap.size 5 1 v l.length (byteVals l) ∧ Below w.heap.size w w'

theorem own_mono {w : World} {base b2 : Nat} {e : TypeId} {size : Nat} {v : Value} {n : Nat} {xs : List Value} (h : w.ownsRow base e size v n xs) (hb : b2 ≤ base) : w.ownsRow b2 e size v n xs := by
  rcases h.2 with hn | ⟨g, cap, cur, hv, hbs, rest⟩
  · exact ⟨h.1, .inl hn⟩
  · exact ⟨h.1, .inr ⟨g, cap, cur, hv, Nat.le_trans hb hbs, rest⟩⟩
theorem evB_len (e : Ev) (h64 : e.over.length ≤ 64) (ht : EvTiny e) (hf : EvFit e) : (evB e).length ≤ 100000000 := by
  have d1 := dotB_len e.dot
  have d2 := stampB_len e.stamp
  have d3 := shortB_len10 e.over.length (by omega)
  have d4 := dotsB_len e.over
  obtain ⟨s1, s2, s3, s4⟩ := ht
  have t1 := textB_len (bl e.key.name) (by rw [bl_length]; omega)
  have t2 := textB_len (bl e.key.domain) (by rw [bl_length]; omega)
  have t3 := textB_len (bl e.key.path) (by rw [bl_length]; omega)
  have t4 := textB_len (bl e.ck.value) (by rw [bl_length]; omega)
  simp only [bl_length] at t1 t2 t3 t4
  unfold evB evHead evTail
  split
  · rename_i h1
    obtain ⟨⟨f1, f2⟩, ⟨f3, f4⟩, f5, f6⟩ := hf.item h1
    have t5 := zigB_len e.ck.expiry (by omega) (by omega)
    have t6 := shortB_len10 e.ck.creation.toNat (by omega)
    have t7 := shortB_len10 e.ck.access.toNat (by omega)
    simp only [List.length_append, List.length_singleton]; omega
  · simp only [List.length_append, List.length_singleton, List.length_nil]; omega

/-- what event.Bytes answers -/
def evBytes (e : Ev) : Bytes := if evOk e = true then evB e else []
def evErr (e : Ev) : Int := if evOk e = true then 0 else 1
def RetEv (e : Ev) (w : World) (x : Ending) (w' : World) : Prop :=
  ∃ a cap, x = .returned (.tuple #[.slice a (evBytes e).length cap, .int .i64 (evErr e)]) ∧ BytesIn w' a (evBytes e) ∧ (evBytes e).length ≤ 100000000 ∧ Below w.heap.size w w'
end Go.Proofs.Ytnpdfmpjjomhcaa
