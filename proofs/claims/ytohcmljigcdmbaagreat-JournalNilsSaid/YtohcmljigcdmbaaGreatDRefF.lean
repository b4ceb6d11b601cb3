/- The reference's disk: Find, get. Conditions: as in the text. -/
import Derived.Test.YtohcmljigcdmbaaGreatDRef
import Derived.Test.YtohcmljigcdmbaaGreatDiskM
import Derived.Test.YtohcmljigcdmbaaGreatLast
import Derived.Sort.Walk0
import Derived.Deep.WholeRow
import Derived.Test.YtohcmljigcdmbaaGreatDiskIter
set_option linter.unusedSimpArgs false
set_option linter.unusedVariables false
set_option linter.unnecessarySimpa false
set_option maxHeartbeats 16000000
set_option maxRecDepth 100000
namespace Go.Proofs.YtohcmljigcdmbaaGreat
open Go.RowKit
/-! ### get -/
theorem RFOk.zero (w : World) (s : ByteArray) : RFOk w ⟨⟨s, [], 0⟩, none, 0⟩ := ⟨Or.inl rfl, Nat.le_refl _⟩
theorem RFsIn.own {w : World} {base : Nat} {t : TypeId} {v : Value} {l : List RF} (h : w.ownsRow base t 3 v l.length (fcs l)) (hok : ∀ g ∈ l, RFOk w g) : ∃ a cap, v = .slice a l.length cap ∧ RFsIn w a l ∧ l.length ≤ cap := by
 obtain ⟨a, cap, h1, h2, h3⟩ := own_cellsIn h
 exact ⟨a, cap, h1, ⟨h2, hok⟩, h3⟩
/-! ### Set -/
/-- how many files are ahead of a new one -/
def ahead (l : List RF) (g : RF) : Nat := (l.takeWhile fun x => nameLt x.f.name g.f.name).length
/-- a block of three cells -/
def B3 (w : World) (R : Nat) (t : TypeId) (x y z : Value) : Prop := w.heap[R]? = some (.cells #[x, y, z] t (0, 0))
theorem B3.lt {w : World} {R : Nat} {t : TypeId} {x y z : Value} (h : B3 w R t x y z) : R < w.heap.size := (Array.getElem?_eq_some_iff.1 h).1
theorem B3.below {w w' : World} {R : Nat} {t : TypeId} {x y z : Value} (h : B3 w R t x y z) (hb : Below w.heap.size w w') : B3 w' R t x y z := (hb.block _ h.lt).trans h
theorem B3.cells {w : World} {R : Nat} {t : TypeId} {x y z : Value} (h : B3 w R t x y z) : w.cell? ⟨R, 0, none⟩ = some x ∧ w.cell? ⟨R, 1, none⟩ = some y ∧ w.cell? ⟨R, 2, none⟩ = some z ∧ w.frozen? ⟨R, 0, none⟩ = false ∧ w.frozen? ⟨R, 1, none⟩ = false ∧ w.frozen? ⟨R, 2, none⟩ = false := three_cell h
theorem B3.range {w : World} {R : Nat} {t : TypeId} {x y z : Value} (h : B3 w R t x y z) : w.rangeAt R 0 [x, y, z] := fun j v hv => by
 obtain ⟨p0, p1, p2, _⟩ := h.cells
 rw [Nat.zero_add]
 match j, hv with
 | 0, hv => simp only [List.getElem?_cons_zero, Option.some.injEq] at hv; subst hv; exact p0
 | 1, hv => simp only [List.getElem?_cons_succ, List.getElem?_cons_zero, Option.some.injEq] at hv; subst hv; exact p1
 | 2, hv => simp only [List.getElem?_cons_succ, List.getElem?_cons_zero, Option.some.injEq] at hv; subst hv; exact p2
 | j + 3, hv => simp at hv
theorem B3.other {w : World} {R : Nat} {t : TypeId} {x y z : Value} (h : B3 w R t x y z) {A : Addr} (v : Value) (hA : A.block ≠ R) : B3 (w.setCell A v) R t x y z := (heap_setCell_other _ _ _ _ hA).trans h
theorem B3.row {w : World} {R : Nat} {t : TypeId} {x y z : Value} (h : B3 w R t x y z) (x' y' z' : Value) : B3 (w.setRow R #[x', y', z']) R t x' y' z' := by
 simp [B3, World.setRow, Array.getElem?_modify, show w.heap[R]? = _ from h]
def NoByteV (v : Value) : Prop := match v with | .int .u8 _ => False | _ => True
theorem B3.noByte {w : World} {R : Nat} {t : TypeId} {x y z : Value} (h : B3 w R t x y z) (hx : NoByteV x ∧ NoByteV y ∧ NoByteV z) : NoByte w R := by
 intro o c e
 simp only [World.cell?, show w.heap[R]? = _ from h] at e
 match o, e with
 | 0, e => simp at e; subst e; exact hx.1
 | 1, e => simp at e; subst e; exact hx.2.1
 | 2, e => simp at e; subst e; exact hx.2.2
 | o + 3, e => simp at e
def NoStr (w : World) (k : Nat) : Prop := ∀ o s, w.cell? ⟨k, o, none⟩ ≠ some (.string s)
theorem RFsIn.fr {T : Nat → Prop} {w w' : World} {a : Option Addr} {l : List RF} (h : RFsIn w a l) (hf : Fr T w w') (hT : ∀ k, T k → NoByte w k ∧ NoStr w k) : RFsIn w' a l := by
 refine ⟨?_, fun g hg => ⟨(h.ok g hg).bytes.fr hf (fun k hk => (hT k hk).1), (h.ok g hg).cap⟩⟩
 rcases h.rows with h1 | ⟨A, off, h1, h2⟩
 ·exact Or.inl h1
 ·cases l with
  | nil => exact Or.inl rfl
  | cons g r =>
    refine Or.inr ⟨A, off, h1, fun j v hv => hf.kept (h2 j v hv) (fun hA => ?_)⟩
    have h0 := h2 0 (.string g.f.name) rfl
    exact (hT A hA).2 _ _ h0
abbrev Ks := List (ByteArray × Int)
/-- the last number of a name; 0 -/
def keepOf (ks : Ks) (s : ByteArray) : Int := ks.foldl (fun n p => if p.1 = s then p.2 else n) 0
theorem keepOf_snoc (ks : Ks) (k : Nat) (h : k < ks.length) (s : ByteArray) : keepOf (ks.take (k + 1)) s = if ks[k].1 = s then ks[k].2 else keepOf (ks.take k) s := by
 unfold keepOf
 rw [List.take_succ_eq_append_getElem h, List.foldl_append]
 rfl
def clampK (n : Int) (r : Nat) : Nat := if n < 0 then 0 else min n.toNat r
theorem clampK_le (n : Int) (r : Nat) : clampK n r ≤ r := by unfold clampK; split <;> omega
/-- a file behind a crash -/
def crashF (ks : Ks) (f : DF) : DF := ⟨f.name, f.b.take (f.safe + clampK (keepOf ks f.name) (f.b.length - f.safe)), f.safe + clampK (keepOf ks f.name) (f.b.length - f.safe)⟩
def DS.crash (S : DS) (ks : Ks) : DS := ⟨S.f.map (crashF ks), 0, false⟩
theorem own_fr30 {S : Nat → Prop} {w w' : World} {base : Nat} {e : TypeId} {size : Nat} {v : Value} {n : Nat} {xs : List Value} (h : w.ownsRow base e size v n xs) (hf : Fr S w w') (hS : ∀ k, v.ownBlock = some k → ¬ S k) : w'.ownsRow base e size v n xs := by
 refine ⟨h.1, ?_⟩
 have hlt := h.lt
 rcases h.2 with hn | ⟨g, cap, cur, hv, hbs, hg, rest⟩
 ·exact .inl hn
 ·have ho : v.ownBlock = some g := by rw [hv]; rfl
  exact .inr ⟨g, cap, cur, hv, hbs, by rw [hf.block g (hlt g ho).2 (hS g ho)]; exact hg, rest⟩
variable {F : Nat → Prop} {d : Nat} {S : DS} {b : Nat} {D : DataW Unit} {s : ByteArray} {w w' : World}
def DS.rename (S : DS) (s t : ByteArray) : DS × Int :=
 if nameOk t then (if nameOk s then (match getF S.f s with
    | none => (S, 10)
    | some f => if S.change.down then (S.change, 12) else ({ S.change with f := putF (delF S.f s) { f with name := t } }, 0)) else (S, 1)) else (S, 1)
end Go.Proofs.YtohcmljigcdmbaaGreat
/- The disk: Names: the names, sorted. Conditions: at most 8 files. -/
namespace Go.Proofs.YtohcmljigcdmbaaGreat
open Go.RowKit Go.Maps Go.Sort Go.Shelf
variable {F : Nat → Prop} {d : Nat} {S : DS} {b : Nat} {D : DataW Unit} {s : ByteArray} {w w' : World}
theorem New_any (w : World) : Calls Tryz.prog 9 #[] w fun e w' => e = .returned (.pointer (some ⟨w.heap.size + 1, 0, none⟩)) ∧
 DkIn w' (fun k => w.heap.size ≤ k) (w.heap.size + 1) ⟨[], 0, false⟩ w.heap.size (.map []) ∧ Below w.heap.size w w' := by
 have hmm := @run_makeMap Tryz.prog
 have HM := Lib.hid (World.ownsMap_made w Tryz.prog 9 fileR)
 go_enter Tryz.func9, Tryz.ntmps9
 go_wp2
 all_goals
  go_ret
  refine ⟨by simp, ⟨Nat.le_succ _, ?_, Nat.le_refl _, HM.out.alloc _, ?_⟩, ((Below.refl _ w).alloc (Nat.le_refl _) _).alloc (by simp) _⟩
  ·have e1 := (MapKept.heap_alloc (w.alloc (.map #[] 0)) (.cells #[.map (some w.heap.size), .int .i64 0, .bool false] 73)).1
   rw [show (w.alloc (.map #[] 0)).heap.size = w.heap.size + 1 by simp] at e1
   exact e1
  ·refine ⟨fun s _ => rfl, fun s f hg => ?_, fun s t fb ht _ => ?_, fun s => rfl, rfl⟩
   ·simp [getF] at hg
   ·cases ht
def DS.rarm (S : DS) (n : Int) : DS × Int := if armOk n then ({ S with arm := n.toNat }, 0) else (S, 4)
end Go.Proofs.YtohcmljigcdmbaaGreat
