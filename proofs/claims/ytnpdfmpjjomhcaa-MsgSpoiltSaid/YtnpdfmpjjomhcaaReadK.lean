/- An event, read off bytes: event.Read. Conditions: at most 2^30 bytes. -/
import Derived.Test.YtnpdfmpjjomhcaaReadI
import Derived.Test.YtnpdfmpjjomhcaaReadJ
import Derived.Laws.ResultCell
set_option linter.unusedSimpArgs false
set_option linter.unusedVariables false
set_option linter.unnecessarySimpa false
namespace Go.Proofs.Ytnpdfmpjjomhcaa
open Go.RowKit

theorem ret_cell_tmp {P : Program} {fn : Func} {R : Ending → World → Prop} {a : Act} {w : World} (p u : Tmp) (ty t : TypeId) (g : Nat) (c : Array Value) (d : TypeDesc) (v : Value) (hr : fn.results = #[.cell p ty, .tmp u])
    (hp : a.tmps.getD p undef = .pointer (some ⟨g, 0, none⟩)) (hv : a.tmps.getD u undef = v) (hg : w.heap[g]? = some (.cells c t (0, 0))) (hu : P.underlying ty = some d) (hd : d.isRow = true) (hi : (P.info? ty).map (·.size) = some c.size)
    (hde : a.defers = []) (hR : R (.returned (.tuple #[.agg c, v])) w) : bodyPost P fn R .ret a w := by
  have h1 : w.rangeAt g 0 c.toList := fun j v hv => by
    rw [Nat.zero_add]
    simp only [World.cell?, hg]
    simpa using hv
  have h2 := run_loadVar_mid (P := P) w g 0 ty c.toList d h1 hu hd (by simpa using hi)
  refine bodyPost_ret ?_ hde hR
  rw [results_cell_tmp hr, hp, hv]
  simp [asAddr, h2, Result.andThen]
/-- what bytes are read as -/
def evRead (l : Bytes) : Ev × Int := if rEnd (rEv ⟨l, 0⟩).1 = 0 then ((rEv ⟨l, 0⟩).2, 0) else (ev0, rEnd (rEv ⟨l, 0⟩).1)
theorem evRead_evB {e : Ev} (h : evOk e = true) : evRead (evB e) = (e, 0) := by
  have := rEv_ev h []
  rw [List.append_nil] at this
  unfold evRead
  rw [this]
  rfl
def RetRead (l : Bytes) (w : World) (x : Ending) (w' : World) : Prop :=
  ∃ a cap, x = .returned (.tuple #[evVal (evRead l).1 a cap, .int .i64 (evRead l).2]) ∧ DotsIn w' a (evRead l).1.over ∧ Below w.heap.size w w'
theorem rDots_fit : ∀ (n : Nat) (r : Rd), (rDots n r).1.b.length ≤ r.b.length
  | 0, r => Nat.le_refl _
  | n + 1, r => by
    unfold rDots
    split
    · exact Nat.le_trans (rDots_fit n _) (rDot_fit r)
    · exact Nat.le_refl _
theorem rItem_fit (r : Rd) : (rItem r).b.length ≤ r.b.length := by
  have h1 := rText_fit 256 r
  have h2 := rText_fit 256 (rText 256 r).1
  have h3 := rText_fit 256 (rText 256 (rText 256 r).1).1
  have h4 := rText_fit 1024 (rText 256 (rText 256 (rText 256 r).1).1).1
  have h5 := rInt_fit 1099511627776 (rText 1024 (rText 256 (rText 256 (rText 256 r).1).1).1).1 (by omega)
  have h6 := rNum_fit 1099511627776 (rInt 1099511627776 (rText 1024 (rText 256 (rText 256 (rText 256 r).1).1).1).1).1
  have h7 := rNum_fit 1099511627776 (rNum 1099511627776 (rInt 1099511627776 (rText 1024 (rText 256 (rText 256 (rText 256 r).1).1).1).1).1).1
  unfold rItem
  omega
theorem evGo_fit (r : Rd) : (evGo r).1.b.length ≤ r.b.length := by
  have h1 := rDot_fit r
  have h2 := rStamp_fit (rDot r).1
  have h3 := rFlags_fit (rStamp (rDot r).1).1
  have h4 := (rNum_fit 64 (rFlags (rStamp (rDot r).1).1).1).1
  have h5 := rDots_fit (rNum 64 (rFlags (rStamp (rDot r).1).1).1).2 (rNum 64 (rFlags (rStamp (rDot r).1).1).1).1
  have h6 := rItem_fit (rDots (rNum 64 (rFlags (rStamp (rDot r).1).1).1).2 (rNum 64 (rFlags (rStamp (rDot r).1).1).1).1).1
  unfold evGo
  simp only
  split
  · simp only; omega
  · split
    · simp only; omega
    · simp only; omega
theorem rEv_fit (r : Rd) : (rEv r).1.b.length ≤ r.b.length := by
  have h := evGo_fit r
  unfold rEv evFin
  split
  · split
    · exact h
    · exact h
  · exact h

end Go.Proofs.Ytnpdfmpjjomhcaa
