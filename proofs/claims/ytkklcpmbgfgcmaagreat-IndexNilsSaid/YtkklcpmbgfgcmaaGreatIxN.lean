/- The index: how many nodes; all items; an index made. Conditions: as in the text. -/
import Derived.Test.YtkklcpmbgfgcmaaGreatIxM
set_option linter.unusedSimpArgs false
set_option linter.unusedVariables false
set_option linter.unnecessarySimpa false
namespace Go.Proofs.YtkklcpmbgfgcmaaGreat
open Go.RowKit
variable {lo : Nat}
/-! ### Nodes -/
set_option maxHeartbeats 400000 in
theorem nodesC_any (b O : Nat) (n : Int) (w : World) (h : w.heap[O]? = some (.cells #[.int .i64 n] 3 (0, 0))) :
 Calls Tryz.prog 28 #[ndVal b, .pointer (some ⟨O, 0, none⟩)] w fun e w' => e = .returned (.tuple #[]) ∧ w' = w.setCell ⟨O, 0, none⟩ (.int .i64 (IntKind.i64.wrap (n + 1))) := by
 have c0 : w.cell? ⟨O, 0, none⟩ = some (.int .i64 n) := by simp [World.cell?, h]
 have f0 : w.frozen? ⟨O, 0, none⟩ = false := by simp [World.frozen?, h]
 clear h
 go_enter Tryz.func28, Tryz.ntmps28
 go_wp2
 go_end0
 exact ⟨rfl, by rw [IntWalk.i64_left]⟩
theorem one_setI {w : World} {R : Nat} {x : Value} {t : TypeId} {f : Nat × Nat} (h : w.heap[R]? = some (.cells #[x] t f)) (v : Value) : (w.setCell ⟨R, 0, none⟩ v).heap[R]? = some (.cells #[v] t f) := by
 simp [World.setCell, Array.getElem?_modify, h]
theorem wrap_next (n : Nat) : IntKind.i64.wrap (IntKind.i64.wrap (n : Int) + 1) = IntKind.i64.wrap ((n + 1 : Nat) : Int) := by
 simp only [IntKind.wrap_i64]
 omega
theorem keepS_set {w : World} {O : Nat} {cs : Array Value} {t : TypeId} {f : Nat × Nat} (h : w.heap[O]? = some (.cells cs t f)) (ht : t ≠ 9) (v : Value) : KeepS w (w.setCell ⟨O, 0, none⟩ v) :=
 ⟨by simp, fun k ks g hk => heap_setCell_other _ _ _ _ (fun e => by
  have e' : O = k := e
  subst e'
  rw [h] at hk
  simp only [Option.some.injEq, Obj.cells.injEq] at hk
  exact ht hk.2.1)⟩
def RetNodes (T : Tree) (w : World) (e : Ending) (w' : World) : Prop :=
 ∃ us : List Path, e = .returned (.int .i64 (IntKind.i64.wrap (us.length : Int))) ∧ us.Nodup ∧ (∀ q, q ∈ us ↔ (q ≠ [] ∧ (T q).isSome = true)) ∧ Below w.heap.size w w'
set_option maxHeartbeats 1000000 in
theorem ixNodes_any {w : World} {x : Nat} {n : Int} {B : Nat} {T : Tree} (h : TrIn lo w x n B T) (hB : B ≤ 1073741824) (N : Nat) (hN : ∀ q, (T q).isSome = true → q.length ≤ N) :
 Calls Tryz.prog 15 #[ndVal x] w (RetNodes T w) := by
 have hmf : ∀ (fn : Fn) (first cap : Array Value) (w : World), (Instr.makeFunc fn first cap).run Tryz.prog w = .ok (.func fn first cap) w := fun _ _ _ _ => rfl
 obtain ⟨r, hr, hrb⟩ := h.top
 let Inv : List Path → World → Prop := fun vs X => Below w.heap.size w X ∧ X.heap[w.heap.size]? = some (.cells #[.int .i64 (IntKind.i64.wrap (vs.length : Int))] 3 (0, 0))
 have HW := Lib.hid (fun (X : World) (hX : Inv [] X) => walk_any (T := T) hB N hN 28 (enters_of Tryz.func28 (by kernel_rfl) rfl) w.heap.size Inv
  (fun vs X hI => h.kept hI.1) (fun vs X Y hI hY => ⟨hI.1.trans (hY.mono hI.1.size), (hY.block _ (Array.getElem?_eq_some_iff.1 hI.2).1).trans hI.2⟩)
  (fun vs q c X hq _ _ hI => (nodesC_any c.b w.heap.size _ X hI.2).mono fun e w' ⟨he, hw'⟩ => ⟨he, by
   rw [hw', wrap_next]
   refine ⟨hI.1.setCell (by simp) _, ?_⟩
   rw [List.length_append]
   exact one_setI hI.2 _, by rw [hw']; exact keepS_set hI.2 (by decide) _⟩) N [] r [] X (by simp) hr ⟨List.nodup_nil, fun q hq => (nomatch hq), fun q hq => (nomatch hq)⟩ hX)
 rw [hrb] at HW
 clear hr hrb h
 go_enter Tryz.func15, Tryz.ntmps15
 go_upto_region 4 with fail
 refine wp_name (fun W hW => ?_)
 have hI0 : Inv [] W := by
  rw [hW.out]
  refine ⟨by go_grown, ?_⟩
  first | exact heap_last0 _ _ | (exact one_setI (heap_last0 w _) _)
 have HW0 := Lib.hid (HW.out W hI0)
 clear hW hI0
 go_upto_region 5 with (go_at_call 26; refine HW0.out.mono ?_; rintro e w1 ⟨us, rfl, hI, _, hnd, hmem⟩)
 obtain ⟨hb1, hO⟩ := hI
 rw [List.nil_append] at hO
 have c0 : w1.cell? ⟨w.heap.size, 0, none⟩ = some (.int .i64 (IntKind.i64.wrap (us.length : Int))) := by simp [World.cell?, hO]
 have HF := Lib.hid (And.intro hnd hmem)
 clear hO hnd hmem HW HW0
 have HU : Hid (∃ z, z = IntKind.i64.wrap (us.length : Int)) := ⟨_, rfl⟩
 obtain ⟨z, hz⟩ := HU.out
 have HZ := Lib.hid hz
 rw [← hz] at c0
 clear hz HU
 go_wp2
 all_goals
  go_ret
  exact ⟨us, by rw [HZ.out]; rfl, HF.out.1, fun q => by
   rw [HF.out.2 q]
   constructor
   ·rintro ⟨_, h1, h2⟩; exact ⟨h1, h2⟩
   ·rintro ⟨h1, h2⟩; exact ⟨List.nil_prefix, h1, h2⟩, hb1⟩
/-! ### Items -/
theorem itsOf_tree {S : List It} {T : Tree} (h : TreeOf S T.its) {q : Path} (hq : (T q).isSome = true) : itsOf T q = itsAt S q := by
 obtain ⟨i, hi⟩ := Option.isSome_iff_exists.1 hq
 unfold itsOf
 rw [hi]
 exact (h.its q _ (its_some hi)).1
end Go.Proofs.YtkklcpmbgfgcmaaGreat
