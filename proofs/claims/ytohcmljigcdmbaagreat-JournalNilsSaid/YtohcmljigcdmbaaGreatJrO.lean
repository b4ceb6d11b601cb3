/- A frame that is read has just the bytes that it is packed to. Conditions: none. -/
import Derived.Test.YtohcmljigcdmbaaGreatWalB
import Derived.Test.YtohcmljigcdmbaaGreatForm
import Derived.Test.YtohcmljigcdmbaaGreatCanA
import Derived.Test.YtohcmljigcdmbaaGreatPut
import Derived.Test.YtohcmljigcdmbaaGreatCrc
import Derived.Test.YtohcmljigcdmbaaGreatRead
import Derived.Test.YtohcmljigcdmbaaGreatJrT
import Derived.Test.YtohcmljigcdmbaaGreatRecG
set_option linter.unusedSimpArgs false
set_option linter.unusedVariables false
set_option linter.unnecessarySimpa false
set_option maxHeartbeats 16000000
set_option maxRecDepth 100000
namespace Go.Proofs.YtohcmljigcdmbaaGreat
open Go.RowKit
end Go.Proofs.YtohcmljigcdmbaaGreat
/- A snapshot's bytes, plainly. Conditions: none. -/
namespace Go.Proofs.YtohcmljigcdmbaaGreat
open Go.RowKit
abbrev snV (d i : Int) (s : Stamp) (v : Value) : Value := .agg #[.int .i64 d, .int .i64 i, .int .i64 s.wall, .int .i64 s.count, .int .i64 s.dev, v]
abbrev snCs (d i : Int) (s : Stamp) (v : Value) : List Value := [.int .i64 d, .int .i64 i, .int .i64 s.wall, .int .i64 s.count, .int .i64 s.dev, v]
abbrev snA (d i : Int) (s : Stamp) (v : Value) : Array Value := #[.int .i64 d, .int .i64 i, .int .i64 s.wall, .int .i64 s.count, .int .i64 s.dev, v]
theorem BytesIn.hold {S : Nat → Prop} {w0 w : World} {B : Nat} {l m : Bytes} {a : Option Addr} (h : Hold S w0 B w l) (hb : BytesIn w0 a m) (hA : ∀ A off, a = some ⟨A, off, none⟩ → m ≠ [] → ¬ S A) : BytesIn w a m := by
 rcases hb with hb | ⟨A, off, rfl, hb⟩
 ·exact Or.inl hb
 ·exact Or.inr ⟨A, off, rfl, fun j hj => h.kept (hb j hj) (hA A off rfl (by intro e; subst e; simp at hj))⟩
abbrev ckptS9 : ByteArray := ⟨#[99, 107, 112, 116]⟩
theorem ckpt_walD (R : List Rec) (sb : Nat) : readE (walD R sb) ckptS9 = 10 := by
 unfold walD
 by_cases h : R = []
 ·subst h; rfl
 ·rw [if_neg h]; rfl
section
variable {F : Nat → Prop} {d : Nat} {S : DS} {b : Nat} {D : DataW Unit}
theorem ckRead_none (w : World) (h : DkIn w F d S b D) (hE : readE S ckptS9 = 10) : Calls Tryz.prog 52 #[.pointer (some ⟨d, 0, none⟩)] w fun x w' => x = .returned (.tuple #[.agg (snA 0 0 ⟨0, 0, 0⟩ (.pointer none)), .int .i64 10]) ∧ Below w.heap.size w w' := by
 have hR0 := fun (X : World) (h : DkIn X F d S b D) => Read_no (s := ckptS9) (by decide) h (by rw [hE]; decide)
 rw [hE] at hR0
 have HR := Lib.hid hR0
 clear hR0 hE
 go_enter Tryz.func52, Tryz.ntmps52
 go_upto_region 1 with fail
 refine wp_name (fun W hW => ?_)
 have hbt : Below w.heap.size w W := by rw [hW.out]; exact (Below.refl _ _).alloc (Nat.le_refl _) _
 have hZ : W.heap[w.heap.size]? = some (.cells (snA 0 0 ⟨0, 0, 0⟩ (.pointer none)) 58 (0, 0)) := by rw [hW.out]; exact heap_alloc_last w _
 have hDW := h.below hbt
 clear hW h
 go_wp2_with (first
  | (go_at_call 54; (with_reducible refine (HR.out _ hDW).mono ?_); rintro x w1 ⟨rfl, rfl⟩)
  | (refine wpList_store_row rfl 58 _ _ rfl w.heap.size (snA 0 0 ⟨0, 0, 0⟩ (.pointer none)) rfl rfl 58 (snA 0 0 ⟨0, 0, 0⟩ (.pointer none)) hZ (by kernel_rfl) rfl (by kernel_rfl) ?_)
  | (refine Great.wpList_buildTo rfl 58 _ rfl _ rfl (snA 0 0 ⟨0, 0, 0⟩ (.pointer none)) (by kernel_rfl) ?_))
 refine ret_cell_tmpR 2 3 58 58 w.heap.size (snA 0 0 ⟨0, 0, 0⟩ (.pointer none)) _ (.int .i64 10) rfl rfl rfl (setRow_heap _ _ _ _ _ _ hZ) Tryz.underlying58 rfl (by kernel_rfl) rfl ?_
 exact ⟨rfl, below_setRow hbt (Nat.le_refl _) _⟩
theorem lying_new (dv : Int) (w : World) (h : DkIn w F d S b D) (hE : readE S ckptS9 = 10) : Calls Tryz.prog 22 #[.pointer (some ⟨d, 0, none⟩), .int .i64 dv] w fun x w' => ∃ m mb, x = .returned (.tuple #[.agg (snA dv 0 ⟨0, 0, 0⟩ (.pointer (some ⟨m, 0, none⟩))), .int .i64 0]) ∧ MpIn w' m mb MS.empty ∧ (∀ k, foot mb [] k → w.heap.size ≤ k) ∧ Below w.heap.size w w' := by
 have HR := Lib.hid (fun (X : World) (h : DkIn X F d S b D) => ckRead_none X h hE)
 have HN := Lib.hid (fun X => mNew_any X)
 clear hE
 go_enter Tryz.func22, Tryz.ntmps22
 go_upto_region 1 with fail
 refine wp_name (fun W hW => ?_)
 have hbt : Below w.heap.size w W := by rw [hW.out]; exact (Below.refl _ _).alloc (Nat.le_refl _) _
 have hZ : W.heap[w.heap.size]? = some (.cells (snA 0 0 ⟨0, 0, 0⟩ (.pointer none)) 58 (0, 0)) := by rw [hW.out]; exact heap_alloc_last w _
 have hDW := h.below hbt
 clear hW h
 go_upto_region 3 with (first
  | (go_at_call 52; (with_reducible refine (HR.out _ hDW).mono ?_); rintro x w1 ⟨rfl, hb1⟩)
  | (refine wpList_store_new 58 _ _ _ (snA 0 0 ⟨0, 0, 0⟩ (.pointer none)) rfl rfl (by kernel_rfl) rfl (by kernel_rfl) ?_))
 refine wp_name (fun V hV => ?_)
 have hbV : Below w1.heap.size w1 V := by rw [hV.out]; go_grown
 have hbn := below2 hb1 hbV
 have hbt2 := below2 hbt hbn
 have hZV := (hbn.block _ (lt_of_block hZ)).trans hZ
 clear hV hb1 hbV hbn hbt hZ HR hDW
 go_wp2_with (first
  | (go_at_call 53; (with_reducible refine (HN.out _).mono ?_); rintro x w2 ⟨m, mb, rfl, hm, hb2, hlo, hfo⟩; have hZ2 := (hb2.block _ (lt_of_block hZV)).trans hZV)
  | (refine Great.wpList_buildTo rfl 58 _ rfl _ rfl (snA dv 0 ⟨0, 0, 0⟩ (.pointer (some ⟨m, 0, none⟩))) (by kernel_rfl) ?_)
  | (refine wpList_store_row rfl 58 _ _ rfl w.heap.size (snA dv 0 ⟨0, 0, 0⟩ (.pointer (some ⟨m, 0, none⟩))) rfl rfl 58 (snA 0 0 ⟨0, 0, 0⟩ (.pointer none)) hZ2 (by kernel_rfl) rfl (by kernel_rfl) ?_))
 refine ret_cell_tmpR 4 5 58 58 w.heap.size (snA dv 0 ⟨0, 0, 0⟩ (.pointer (some ⟨m, 0, none⟩))) _ (.int .i64 0) rfl rfl rfl (setRow_heap _ _ _ _ _ _ hZ2) Tryz.underlying58 rfl (by kernel_rfl) rfl ?_
 exact ⟨m, mb, rfl, hm.one (fr_rowJ _ _ _) hZ2 (by decide) (by decide), fun k hk => Nat.le_trans hbt2.size (hfo k hk), below_setRow (below2 hbt2 hb2) (Nat.le_refl _) _⟩
end
end Go.Proofs.YtohcmljigcdmbaaGreat
