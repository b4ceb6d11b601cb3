/- The reference's disk: Sync, Remove. Conditions: as in the text. -/
import Derived.Test.YtbkelbdeodbhcaaDRefC
import Derived.Deep.WholeRow
set_option linter.unusedSimpArgs false
set_option linter.unusedVariables false
set_option linter.unnecessarySimpa false
namespace Go.Proofs.Ytbkelbdeodbhcaa
open Go.RowKit

/-- what a change of the reference's disk hands back -/
def RetRD (S : DS) (c : Int) (w : World) (e : Ending) (w' : World) : Prop :=
  ∃ (a : Option Addr) (l : List RF) (cap : Nat), e = .returned (.tuple #[rdkVal a l.length cap S.arm S.down, .int .i64 c]) ∧ RFsIn w' a l ∧ l.length ≤ cap ∧ rfsOf l = S.f ∧ Below w.heap.size w w'
def RetG (f : DF) (c : Int) (w : World) (e : Ending) (w' : World) : Prop :=
  ∃ (ag : Option Addr) (cg : Nat), e = .returned (.tuple #[rfVal ⟨f, ag, cg⟩, .int .i64 c]) ∧ RFOk w' ⟨f, ag, cg⟩ ∧ Below w.heap.size w w'
theorem rGet_to {a : Option Addr} {cap : Nat} {l : List RF} {s : ByteArray} {f : DF} {c : Int} {w : World} (hE : getE (rfsOf l) s = (f, c)) (hl : l.length ≤ 1073741824) (hs : s.size ≤ maxLen) (h : RFsIn w a l) :
    Calls Try.prog 42 #[.slice a l.length cap, .string s] w (RetG f c w) := by
  have := rGet_any30 a cap l s w hl hs h
  unfold RetGet at this
  rw [hE] at this
  refine this.mono ?_
  rintro e w1 ⟨⟨f', ag, cg⟩, rfl, h1, h2, h3⟩
  simp only at h1
  subst h1
  exact ⟨ag, cg, rfl, h2, h3⟩
theorem getE_zero {l : List DF} {s : ByteArray} {f : DF} (h : getE l s = (f, 0)) : nameOk s = true ∧ getF l s = some f := by
  unfold getE at h
  by_cases hok : nameOk s = true
  · rw [if_pos hok] at h
    cases hg : getF l s with
    | none => rw [hg] at h; simp at h
    | some f' => rw [hg] at h; simp only [Prod.mk.injEq, and_true] at h; exact ⟨hok, by rw [h]⟩
  · rw [if_neg hok] at h; simp at h
/-- a block of three cells -/
def B3 (w : World) (R : Nat) (t : TypeId) (x y z : Value) : Prop := w.heap[R]? = some (.cells #[x, y, z] t (0, 0))
theorem B3.lt {w : World} {R : Nat} {t : TypeId} {x y z : Value} (h : B3 w R t x y z) : R < w.heap.size := (Array.getElem?_eq_some_iff.1 h).1
theorem B3.below {w w' : World} {R : Nat} {t : TypeId} {x y z : Value} (h : B3 w R t x y z) (hb : Below w.heap.size w w') : B3 w' R t x y z := (hb.block _ h.lt).trans h
theorem B3.cells {w : World} {R : Nat} {t : TypeId} {x y z : Value} (h : B3 w R t x y z) : w.cell? ⟨R, 0, none⟩ = some x ∧ w.cell? ⟨R, 1, none⟩ = some y ∧ w.cell? ⟨R, 2, none⟩ = some z ∧ w.frozen? ⟨R, 0, none⟩ = false ∧ w.frozen? ⟨R, 1, none⟩ = false ∧ w.frozen? ⟨R, 2, none⟩ = false := three_cell h
theorem B3.range {w : World} {R : Nat} {t : TypeId} {x y z : Value} (h : B3 w R t x y z) : w.rangeAt R 0 [x, y, z] := fun j v hv => by
  obtain ⟨p0, p1, p2, _⟩ := h.cells
  rw [Nat.zero_add]
  match j, hv with
  | 0, hv => simp only [List.getElem?_cons_zero, Option.some.injEq] at hv; subst hv; exact p0
  | 1, hv => simp only [List.getElem?_cons_succ, List.getElem?_cons_zero, Option.some.injEq] at hv; subst hv; exact p1
  | 2, hv => simp only [List.getElem?_cons_succ, List.getElem?_cons_zero, Option.some.injEq] at hv; subst hv; exact p2
  | j + 3, hv => simp at hv
theorem B3.set0 {w : World} {R : Nat} {t : TypeId} {x y z : Value} (h : B3 w R t x y z) (v : Value) : B3 (w.setCell ⟨R, 0, none⟩ v) R t v y z := by
  simp [B3, World.setCell, Array.getElem?_modify, show w.heap[R]? = _ from h]
theorem B3.set1 {w : World} {R : Nat} {t : TypeId} {x y z : Value} (h : B3 w R t x y z) (v : Value) : B3 (w.setCell ⟨R, 1, none⟩ v) R t x v z := three_set1 h v
theorem B3.set2 {w : World} {R : Nat} {t : TypeId} {x y z : Value} (h : B3 w R t x y z) (v : Value) : B3 (w.setCell ⟨R, 2, none⟩ v) R t x y v := three_set2 h v
theorem B3.other {w : World} {R : Nat} {t : TypeId} {x y z : Value} (h : B3 w R t x y z) {A : Addr} (v : Value) (hA : A.block ≠ R) : B3 (w.setCell A v) R t x y z := (heap_setCell_other _ _ _ _ hA).trans h
theorem fr_row (w : World) (R : Nat) (cs : Array Value) : Fr (isR R) w (w.setRow R cs) := ⟨rfl, rfl, rfl, by simp [World.setRow], fun k _ hk => heap_setRow_other _ _ _ _ (fun e => hk e.symm)⟩
theorem B3.row {w : World} {R : Nat} {t : TypeId} {x y z : Value} (h : B3 w R t x y z) (x' y' z' : Value) : B3 (w.setRow R #[x', y', z']) R t x' y' z' := by
  simp [B3, World.setRow, Array.getElem?_modify, show w.heap[R]? = _ from h]
def NoByteV (v : Value) : Prop := match v with | .int .u8 _ => False | _ => True
theorem B3.noByte {w : World} {R : Nat} {t : TypeId} {x y z : Value} (h : B3 w R t x y z) (hx : NoByteV x ∧ NoByteV y ∧ NoByteV z) : NoByte w R := by
  intro o c e
  simp only [World.cell?, show w.heap[R]? = _ from h] at e
  match o, e with
  | 0, e => simp at e; subst e; exact hx.1
  | 1, e => simp at e; subst e; exact hx.2.1
  | 2, e => simp at e; subst e; exact hx.2.2
  | o + 3, e => simp at e
def NoStr (w : World) (k : Nat) : Prop := ∀ o s, w.cell? ⟨k, o, none⟩ ≠ some (.string s)
def NoStrV (v : Value) : Prop := match v with | .string _ => False | _ => True
theorem B3.noStr {w : World} {R : Nat} {t : TypeId} {x y z : Value} (h : B3 w R t x y z) (hx : NoStrV x ∧ NoStrV y ∧ NoStrV z) : NoStr w R := by
  intro o c e
  simp only [World.cell?, show w.heap[R]? = _ from h] at e
  match o, e with
  | 0, e => simp at e; subst e; exact hx.1
  | 1, e => simp at e; subst e; exact hx.2.1
  | 2, e => simp at e; subst e; exact hx.2.2
  | o + 3, e => simp at e
theorem RFsIn.fr {T : Nat → Prop} {w w' : World} {a : Option Addr} {l : List RF} (h : RFsIn w a l) (hf : Fr T w w') (hT : ∀ k, T k → NoByte w k ∧ NoStr w k) : RFsIn w' a l := by
  refine ⟨?_, fun g hg => ⟨(h.ok g hg).bytes.fr hf (fun k hk => (hT k hk).1), (h.ok g hg).cap⟩⟩
  rcases h.rows with h1 | ⟨A, off, h1, h2⟩
  · exact Or.inl h1
  · cases l with
    | nil => exact Or.inl rfl
    | cons g r =>
      refine Or.inr ⟨A, off, h1, fun j v hv => hf.kept (h2 j v hv) (fun hA => ?_)⟩
      have h0 := h2 0 (.string g.f.name) rfl
      exact (hT A hA).2 _ _ h0
/-- what lies below is as it was, whatever is set above -/
theorem below_set {B : Nat} {w w' : World} (h : Below B w w') {A : Addr} (hA : B ≤ A.block) (v : Value) : Below B w (w'.setCell A v) := h.setCell hA v
theorem below_row {B : Nat} {W w : World} (h : Below B W w) {g : Nat} (hg : B ≤ g) (cs : Array Value) : Below B W (w.setRow g cs) :=
  h.trans ⟨rfl, rfl, rfl, by simp [World.setRow], fun k hk => by simp [World.setRow, Array.getElem?_modify]; omega⟩

def DS.rsync (S : DS) (s : ByteArray) : DS × Int :=
  if nameOk s then (match getF S.f s with
    | none => (S, 10)
    | some f => if S.change.down then (S.change, 12) else ({ S.change with f := putF S.f { f with safe := f.b.length } }, 0)) else (S, 1)

set_option maxRecDepth 100000 in
set_option maxHeartbeats 1000000 in
theorem rSync_any (a : Option Addr) (cap arm : Nat) (down : Bool) (l : List RF) (s : ByteArray) (w : World) (hl : l.length ≤ 16777216) (hlc : l.length ≤ cap) (ha : arm ≤ 1048576) (hs : s.size ≤ maxLen) (h : RFsIn w a l) :
    Calls Try.prog 28 #[rdkVal a l.length cap arm down, .string s] w (RetRD (DS.rsync ⟨rfsOf l, arm, down⟩ s).1 (DS.rsync ⟨rfsOf l, arm, down⟩ s).2 w) := by
  obtain ⟨f, c, hE⟩ : ∃ f c, getE (rfsOf l) s = (f, c) := ⟨_, _, rfl⟩
  have HG := Lib.hid (fun (X : World) (h : RFsIn X a l) => rGet_to (cap := cap) hE (by omega) hs h)
  by_cases hc : c = 0
  case neg =>
    have hq : (c == 0) = false := beq_eq_false_iff_ne.2 hc
    have hr : DS.rsync ⟨rfsOf l, arm, down⟩ s = (⟨rfsOf l, arm, down⟩, c) := by
      unfold getE at hE
      unfold DS.rsync
      by_cases hok : nameOk s = true
      · rw [if_pos hok] at hE ⊢
        cases hg : getF (rfsOf l) s with
        | none => rw [hg] at hE; simp only [Prod.mk.injEq] at hE ⊢; exact ⟨trivial, hE.2⟩
        | some f' => rw [hg] at hE; simp only [Prod.mk.injEq] at hE; exact absurd hE.2.symm hc
      · rw [if_neg hok] at hE ⊢
        simp only [Prod.mk.injEq] at hE ⊢
        exact ⟨trivial, hE.2⟩
    rw [hr]
    clear hE hc hr
    go_enter Try.func28, Try.ntmps28
    go_upto_region 1 with fail
    refine wp_name (fun W hW => ?_)
    have hb0 : Below w.heap.size w W := by rw [hW.out]; go_grown
    have hD : B3 W w.heap.size 29 (.slice a l.length cap) (.int .i64 arm) (.bool down) := by
      rw [hW.out]; exact (Below.refl (w.heap.size + 1) _).alloc (by simp) _ |>.block _ (by simp) |>.trans (heap_last0 w _)
    have hZ : B3 W (w.heap.size + 1) 29 (.slice none 0 0) (.int .i64 0) (.bool false) := by rw [hW.out]; exact heap_last1 w _ _
    have H0 := Lib.hid h
    replace h := h.kept hb0
    clear hW
    obtain ⟨d0, d1, d2, e0, e1, e2⟩ := hD.cells
    go_upto_region 2 with (go_at_call 42; (with_reducible refine (HG.out _ h).mono ?_); rintro e w1 ⟨ag, cg, rfl, hgo, hb1⟩)
    refine wp_name (fun W1 hW1 => ?_)
    have hX : B3 W1 w1.heap.size 46 (.string f.name) (.slice ag f.b.length cg) (.int .i64 f.safe) := by rw [hW1.out]; exact heap_last0 w1 _
    have hbw : Below W.heap.size W W1 := by rw [hW1.out]; exact hb1.alloc hb1.size _
    have hb2 : Below w1.heap.size w1 W1 := by rw [hW1.out]; exact (Below.refl _ _).alloc (Nat.le_refl _) _
    have hz1 : w.heap.size + 1 < w1.heap.size := Nat.lt_of_lt_of_le hZ.lt hb1.size
    replace hgo := hgo.kept hb2
    replace hb0 := below2 hb0 hbw
    replace hD := hD.below hbw
    replace hZ := hZ.below hbw
    replace h := h.kept hbw
    clear hW1 hb1 hb2 hbw d0 d1 d2 e0 e1 e2
    obtain ⟨d0, d1, d2, e0, e1, e2⟩ := hD.cells
    go_wp2_with (refine wpList_store_row rfl 29 _ _ rfl (w.heap.size + 1) #[.slice a l.length cap, .int .i64 arm, .bool down] rfl rfl 29 _ hZ (by kernel_rfl) rfl (by kernel_rfl) ?_)
    refine retCT 4 5 29 29 (w.heap.size + 1) _ _ _ rfl rfl rfl (hZ.row _ _ _) Try.underlying29 rfl (by kernel_rfl) rfl ?_
    exact ⟨a, l, cap, rfl, H0.out.kept (below_row hb0 (Nat.le_succ _) _), hlc, rfl, below_row hb0 (Nat.le_succ _) _⟩
  case pos =>
  subst hc
  obtain ⟨hok, hg⟩ := getE_zero hE
  by_cases hch : chg arm down = true
  case pos =>
    have HC := Lib.hid hch
    have hr : DS.rsync ⟨rfsOf l, arm, down⟩ s = (⟨rfsOf l, arm - 1, true⟩, 12) := by
      unfold DS.rsync; rw [if_pos hok, hg]; unfold DS.change; unfold chg at hch; simp only [hch]; rfl
    rw [hr]
    clear hE hr hg hch
    go_enter Try.func28, Try.ntmps28
    go_upto_region 1 with fail
    refine wp_name (fun W hW => ?_)
    have hb0 : Below w.heap.size w W := by rw [hW.out]; go_grown
    have hD : B3 W w.heap.size 29 (.slice a l.length cap) (.int .i64 arm) (.bool down) := by
      rw [hW.out]; exact (Below.refl (w.heap.size + 1) _).alloc (by simp) _ |>.block _ (by simp) |>.trans (heap_last0 w _)
    have hZ : B3 W (w.heap.size + 1) 29 (.slice none 0 0) (.int .i64 0) (.bool false) := by rw [hW.out]; exact heap_last1 w _ _
    have H0 := Lib.hid h
    replace h := h.kept hb0
    clear hW
    obtain ⟨d0, d1, d2, e0, e1, e2⟩ := hD.cells
    go_upto_region 4 with (go_at_call 42; (with_reducible refine (HG.out _ h).mono ?_); rintro e w1 ⟨ag, cg, rfl, hgo, hb1⟩)
    refine wp_name (fun W1 hW1 => ?_)
    have hX : B3 W1 w1.heap.size 46 (.string f.name) (.slice ag f.b.length cg) (.int .i64 f.safe) := by rw [hW1.out]; exact heap_last0 w1 _
    have hbw : Below W.heap.size W W1 := by rw [hW1.out]; exact hb1.alloc hb1.size _
    have hb2 : Below w1.heap.size w1 W1 := by rw [hW1.out]; exact (Below.refl _ _).alloc (Nat.le_refl _) _
    have hz1 : w.heap.size + 1 < w1.heap.size := Nat.lt_of_lt_of_le hZ.lt hb1.size
    replace hgo := hgo.kept hb2
    replace hb0 := below2 hb0 hbw
    replace hD := hD.below hbw
    replace hZ := hZ.below hbw
    replace h := h.kept hbw
    clear hW1 hb1 hb2 hbw d0 d1 d2 e0 e1 e2
    obtain ⟨d0, d1, d2, e0, e1, e2⟩ := hD.cells
    go_upto_region 5 with (go_at_call 43; (with_reducible refine (rChange_any _ _ _ _ _ _ ha).mono ?_); rw [HC.out]; rintro e w2 ⟨rfl, hb1⟩)
    refine wp_name (fun W2 hW2 => ?_)
    have hY : B3 W2 w2.heap.size 29 (.slice a l.length cap) (.int .i64 ((arm - 1 : Nat) : Int)) (.bool true) := by rw [hW2.out]; exact heap_last0 w2 _
    have hbw : Below W1.heap.size W1 W2 := by rw [hW2.out]; exact hb1.alloc hb1.size _
    have hz2 : w1.heap.size < w2.heap.size := Nat.lt_of_lt_of_le hX.lt hb1.size
    replace hgo := hgo.kept hbw
    replace hb0 := below2 hb0 hbw
    replace hD := hD.below hbw
    replace hZ := hZ.below hbw
    replace hX := hX.below hbw
    replace h := h.kept hbw
    clear hW2 hb1 hbw d0 d1 d2 e0 e1 e2 hD
    obtain ⟨d0, d1, d2, e0, e1, e2⟩ := hY.cells
    obtain ⟨x0, x1, x2, y0, y1, y2⟩ := hX.cells
    go_wp2_with (refine wpList_store_row rfl 29 _ _ rfl (w.heap.size + 1) #[.slice a l.length cap, .int .i64 ((arm - 1 : Nat) : Int), .bool true] rfl rfl 29 _ hZ (by kernel_rfl) rfl (by kernel_rfl) ?_)
    refine retCT 4 5 29 29 (w.heap.size + 1) _ _ _ rfl rfl rfl (hZ.row _ _ _) Try.underlying29 rfl (by kernel_rfl) rfl ?_
    exact ⟨a, l, cap, rfl, H0.out.kept (below_row hb0 (Nat.le_succ _) _), hlc, rfl, below_row hb0 (Nat.le_succ _) _⟩
  case neg =>
    have hch' := Bool.eq_false_iff.2 hch
    have HC := Lib.hid hch'
    have hr : DS.rsync ⟨rfsOf l, arm, down⟩ s = (⟨putF (rfsOf l) { f with safe := f.b.length }, arm - 1, false⟩, 0) := by
      unfold DS.rsync; rw [if_pos hok, hg]; unfold DS.change; unfold chg at hch'; simp only [hch']; rfl
    rw [hr]
    clear hE hr hg hch hch'
    go_enter Try.func28, Try.ntmps28
    go_upto_region 1 with fail
    refine wp_name (fun W hW => ?_)
    have hb0 : Below w.heap.size w W := by rw [hW.out]; go_grown
    have hD : B3 W w.heap.size 29 (.slice a l.length cap) (.int .i64 arm) (.bool down) := by
      rw [hW.out]; exact (Below.refl (w.heap.size + 1) _).alloc (by simp) _ |>.block _ (by simp) |>.trans (heap_last0 w _)
    have hZ : B3 W (w.heap.size + 1) 29 (.slice none 0 0) (.int .i64 0) (.bool false) := by rw [hW.out]; exact heap_last1 w _ _
    have H0 := Lib.hid h
    replace h := h.kept hb0
    clear hW
    obtain ⟨d0, d1, d2, e0, e1, e2⟩ := hD.cells
    go_upto_region 4 with (go_at_call 42; (with_reducible refine (HG.out _ h).mono ?_); rintro e w1 ⟨ag, cg, rfl, hgo, hb1⟩)
    refine wp_name (fun W1 hW1 => ?_)
    have hX : B3 W1 w1.heap.size 46 (.string f.name) (.slice ag f.b.length cg) (.int .i64 f.safe) := by rw [hW1.out]; exact heap_last0 w1 _
    have hbw : Below W.heap.size W W1 := by rw [hW1.out]; exact hb1.alloc hb1.size _
    have hb2 : Below w1.heap.size w1 W1 := by rw [hW1.out]; exact (Below.refl _ _).alloc (Nat.le_refl _) _
    have hz1 : w.heap.size + 1 < w1.heap.size := Nat.lt_of_lt_of_le hZ.lt hb1.size
    replace hgo := hgo.kept hb2
    replace hb0 := below2 hb0 hbw
    replace hD := hD.below hbw
    replace hZ := hZ.below hbw
    replace h := h.kept hbw
    clear hW1 hb1 hb2 hbw d0 d1 d2 e0 e1 e2
    obtain ⟨d0, d1, d2, e0, e1, e2⟩ := hD.cells
    go_upto_region 5 with (go_at_call 43; (with_reducible refine (rChange_any _ _ _ _ _ _ ha).mono ?_); rw [HC.out]; rintro e w2 ⟨rfl, hb1⟩)
    refine wp_name (fun W2 hW2 => ?_)
    have hY : B3 W2 w2.heap.size 29 (.slice a l.length cap) (.int .i64 ((arm - 1 : Nat) : Int)) (.bool false) := by rw [hW2.out]; exact heap_last0 w2 _
    have hbw : Below W1.heap.size W1 W2 := by rw [hW2.out]; exact hb1.alloc hb1.size _
    have hz2 : w1.heap.size < w2.heap.size := Nat.lt_of_lt_of_le hX.lt hb1.size
    replace hgo := hgo.kept hbw
    replace hb0 := below2 hb0 hbw
    replace hD := hD.below hbw
    replace hZ := hZ.below hbw
    replace hX := hX.below hbw
    replace h := h.kept hbw
    clear hW2 hb1 hbw d0 d1 d2 e0 e1 e2 hD
    obtain ⟨d0, d1, d2, e0, e1, e2⟩ := hY.cells
    obtain ⟨x0, x1, x2, y0, y1, y2⟩ := hX.cells
    go_upto_region 8 with fail
    refine wp_name (fun W3 hW3 => ?_)
    have hX3 : B3 W3 w1.heap.size 46 (.string f.name) (.slice ag f.b.length cg) (.int .i64 f.b.length) := by rw [hW3.out]; exact hX.set2 _
    have hY3 : B3 W3 w2.heap.size 29 (.slice a l.length cap) (.int .i64 ((arm - 1 : Nat) : Int)) (.bool false) := by rw [hW3.out]; exact hY.other _ (Nat.ne_of_lt hz2)
    have hZ3 : B3 W3 (w.heap.size + 1) 29 (.slice none 0 0) (.int .i64 0) (.bool false) := by rw [hW3.out]; exact hZ.other _ (Nat.ne_of_gt hz1)
    have hgo3 : RFOk W3 ⟨{ f with safe := f.b.length }, ag, cg⟩ := ⟨by rw [hW3.out]; exact hgo.bytes.fr (S := isR w1.heap.size) (fr_set _) (fun k hk => by subst hk; exact hX.noByte ⟨trivial, trivial, trivial⟩), hgo.cap⟩
    have hb3 : Below w.heap.size w W3 := by rw [hW3.out]; exact below_set hb0 (by simp only; omega) _
    have h3 := H0.out.kept hb3
    clear hW3 hX hY hZ hgo hb0 h d0 d1 d2 e0 e1 e2 x0 x1 x2 y0 y1 y2
    obtain ⟨d0, d1, d2, e0, e1, e2⟩ := hY3.cells
    obtain ⟨x0, x1, x2, y0, y1, y2⟩ := hX3.cells
    go_upto_region 9 with (go_at_call 44; (with_reducible refine (rSet_any a cap l ⟨{ f with safe := f.b.length }, ag, cg⟩ _ (by omega) hlc h3 hgo3).mono ?_); rintro e w4 ⟨a4, c4, rfl, hin4, hc4, hb4⟩; replace hY3 := hY3.below hb4; replace hZ3 := hZ3.below hb4; replace hb3 := below2 hb3 hb4; clear d0 d1 d2 e0 e1 e2 x0 x1 x2 y0 y1 y2; obtain ⟨d0, d1, d2, e0, e1, e2⟩ := hY3.cells)
    refine wp_name (fun W5 hW5 => ?_)
    have hY5 : B3 W5 w2.heap.size 29 (.slice a4 (putRF l ⟨{ f with safe := f.b.length }, ag, cg⟩).length c4) (.int .i64 ((arm - 1 : Nat) : Int)) (.bool false) := by rw [hW5.out]; exact hY3.set0 _
    have hZ5 : B3 W5 (w.heap.size + 1) 29 (.slice none 0 0) (.int .i64 0) (.bool false) := by rw [hW5.out]; exact hZ3.other _ (by simp only; omega)
    have hb5 : Below w.heap.size w W5 := by rw [hW5.out]; exact below_set hb3 (by simp only; omega) _
    have hin5 : RFsIn W5 a4 (putRF l ⟨{ f with safe := f.b.length }, ag, cg⟩) := by rw [hW5.out]; exact hin4.fr (T := isR w2.heap.size) (fr_set _) (fun k hk => by subst hk; exact ⟨hY3.noByte ⟨trivial, trivial, trivial⟩, hY3.noStr ⟨trivial, trivial, trivial⟩⟩)
    clear hW5 hY3 hZ3 hb3 hin4 d0 d1 d2 e0 e1 e2
    obtain ⟨d0, d1, d2, e0, e1, e2⟩ := hY5.cells
    go_wp2_with (refine wpList_store_row rfl 29 _ _ rfl (w.heap.size + 1) #[.slice a4 (putRF l ⟨{ f with safe := f.b.length }, ag, cg⟩).length c4, .int .i64 ((arm - 1 : Nat) : Int), .bool false] rfl rfl 29 _ hZ5 (by kernel_rfl) rfl (by kernel_rfl) ?_)
    refine retCT 4 5 29 29 (w.heap.size + 1) _ _ _ rfl rfl rfl (hZ5.row _ _ _) Try.underlying29 rfl (by kernel_rfl) rfl ?_
    refine ⟨a4, _, c4, rfl, ?_, hc4, rfsOf_putRF _ _, below_row hb5 (Nat.le_succ _) _⟩
    exact hin5.fr (T := isR (w.heap.size + 1)) (fr_row _ _ _) (fun k hk => by subst hk; exact ⟨hZ5.noByte ⟨trivial, trivial, trivial⟩, hZ5.noStr ⟨trivial, trivial, trivial⟩⟩)
set_option maxRecDepth 100000 in
set_option maxHeartbeats 1000000 in
theorem rRemove_any30 (a : Option Addr) (cap arm : Nat) (down : Bool) (l : List RF) (s : ByteArray) (w : World) (hl : l.length ≤ 16777216) (hlc : l.length ≤ cap) (ha : arm ≤ 1048576) (hs : s.size ≤ maxLen) (h : RFsIn w a l) :
    Calls Try.prog 31 #[rdkVal a l.length cap arm down, .string s] w (RetRD (DS.remove ⟨rfsOf l, arm, down⟩ s).1 (DS.remove ⟨rfsOf l, arm, down⟩ s).2 w) := by
  obtain ⟨f, c, hE⟩ : ∃ f c, getE (rfsOf l) s = (f, c) := ⟨_, _, rfl⟩
  have HG := Lib.hid (fun (X : World) (h : RFsIn X a l) => rGet_to (cap := cap) hE (by omega) hs h)
  by_cases hc : c = 0
  case neg =>
    have hq : (c == 0) = false := beq_eq_false_iff_ne.2 hc
    have hr : DS.remove ⟨rfsOf l, arm, down⟩ s = (⟨rfsOf l, arm, down⟩, c) := by
      unfold getE at hE
      unfold DS.remove
      by_cases hok : nameOk s = true
      · rw [if_pos hok] at hE ⊢
        cases hg : getF (rfsOf l) s with
        | none => rw [hg] at hE; simp only [Prod.mk.injEq] at hE ⊢; exact ⟨trivial, hE.2⟩
        | some f' => rw [hg] at hE; simp only [Prod.mk.injEq] at hE; exact absurd hE.2.symm hc
      · rw [if_neg hok] at hE ⊢
        simp only [Prod.mk.injEq] at hE ⊢
        exact ⟨trivial, hE.2⟩
    rw [hr]
    clear hE hc hr
    go_enter Try.func31, Try.ntmps31
    go_upto_region 1 with fail
    refine wp_name (fun W hW => ?_)
    have hb0 : Below w.heap.size w W := by rw [hW.out]; go_grown
    have hD : B3 W w.heap.size 29 (.slice a l.length cap) (.int .i64 arm) (.bool down) := by
      rw [hW.out]; exact (Below.refl (w.heap.size + 1) _).alloc (by simp) _ |>.block _ (by simp) |>.trans (heap_last0 w _)
    have hZ : B3 W (w.heap.size + 1) 29 (.slice none 0 0) (.int .i64 0) (.bool false) := by rw [hW.out]; exact heap_last1 w _ _
    have H0 := Lib.hid h
    replace h := h.kept hb0
    clear hW
    obtain ⟨d0, d1, d2, e0, e1, e2⟩ := hD.cells
    go_upto_region 2 with (go_at_call 42; (with_reducible refine (HG.out _ h).mono ?_); rintro e w1 ⟨ag, cg, rfl, hgo, hb1⟩)
    refine wp_name (fun W1 hW1 => ?_)
    have hX : B3 W1 w1.heap.size 46 (.string f.name) (.slice ag f.b.length cg) (.int .i64 f.safe) := by rw [hW1.out]; exact heap_last0 w1 _
    have hbw : Below W.heap.size W W1 := by rw [hW1.out]; exact hb1.alloc hb1.size _
    have hb2 : Below w1.heap.size w1 W1 := by rw [hW1.out]; exact (Below.refl _ _).alloc (Nat.le_refl _) _
    have hz1 : w.heap.size + 1 < w1.heap.size := Nat.lt_of_lt_of_le hZ.lt hb1.size
    replace hgo := hgo.kept hb2
    replace hb0 := below2 hb0 hbw
    replace hD := hD.below hbw
    replace hZ := hZ.below hbw
    replace h := h.kept hbw
    clear hW1 hb1 hb2 hbw d0 d1 d2 e0 e1 e2
    obtain ⟨d0, d1, d2, e0, e1, e2⟩ := hD.cells
    go_wp2_with (refine wpList_store_row rfl 29 _ _ rfl (w.heap.size + 1) #[.slice a l.length cap, .int .i64 arm, .bool down] rfl rfl 29 _ hZ (by kernel_rfl) rfl (by kernel_rfl) ?_)
    refine retCT 4 5 29 29 (w.heap.size + 1) _ _ _ rfl rfl rfl (hZ.row _ _ _) Try.underlying29 rfl (by kernel_rfl) rfl ?_
    exact ⟨a, l, cap, rfl, H0.out.kept (below_row hb0 (Nat.le_succ _) _), hlc, rfl, below_row hb0 (Nat.le_succ _) _⟩
  case pos =>
  subst hc
  obtain ⟨hok, hg⟩ := getE_zero hE
  by_cases hch : chg arm down = true
  case pos =>
    have HC := Lib.hid hch
    have hr : DS.remove ⟨rfsOf l, arm, down⟩ s = (⟨rfsOf l, arm - 1, true⟩, 12) := by
      unfold DS.remove; rw [if_pos hok, hg]; unfold DS.change; unfold chg at hch; simp only [hch]; rfl
    rw [hr]
    clear hE hr hg hch
    go_enter Try.func31, Try.ntmps31
    go_upto_region 1 with fail
    refine wp_name (fun W hW => ?_)
    have hb0 : Below w.heap.size w W := by rw [hW.out]; go_grown
    have hD : B3 W w.heap.size 29 (.slice a l.length cap) (.int .i64 arm) (.bool down) := by
      rw [hW.out]; exact (Below.refl (w.heap.size + 1) _).alloc (by simp) _ |>.block _ (by simp) |>.trans (heap_last0 w _)
    have hZ : B3 W (w.heap.size + 1) 29 (.slice none 0 0) (.int .i64 0) (.bool false) := by rw [hW.out]; exact heap_last1 w _ _
    have H0 := Lib.hid h
    replace h := h.kept hb0
    clear hW
    obtain ⟨d0, d1, d2, e0, e1, e2⟩ := hD.cells
    go_upto_region 4 with (go_at_call 42; (with_reducible refine (HG.out _ h).mono ?_); rintro e w1 ⟨ag, cg, rfl, hgo, hb1⟩)
    refine wp_name (fun W1 hW1 => ?_)
    have hX : B3 W1 w1.heap.size 46 (.string f.name) (.slice ag f.b.length cg) (.int .i64 f.safe) := by rw [hW1.out]; exact heap_last0 w1 _
    have hbw : Below W.heap.size W W1 := by rw [hW1.out]; exact hb1.alloc hb1.size _
    have hb2 : Below w1.heap.size w1 W1 := by rw [hW1.out]; exact (Below.refl _ _).alloc (Nat.le_refl _) _
    have hz1 : w.heap.size + 1 < w1.heap.size := Nat.lt_of_lt_of_le hZ.lt hb1.size
    replace hgo := hgo.kept hb2
    replace hb0 := below2 hb0 hbw
    replace hD := hD.below hbw
    replace hZ := hZ.below hbw
    replace h := h.kept hbw
    clear hW1 hb1 hb2 hbw d0 d1 d2 e0 e1 e2
    obtain ⟨d0, d1, d2, e0, e1, e2⟩ := hD.cells
    go_upto_region 5 with (go_at_call 43; (with_reducible refine (rChange_any _ _ _ _ _ _ ha).mono ?_); rw [HC.out]; rintro e w2 ⟨rfl, hb1⟩)
    refine wp_name (fun W2 hW2 => ?_)
    have hY : B3 W2 w2.heap.size 29 (.slice a l.length cap) (.int .i64 ((arm - 1 : Nat) : Int)) (.bool true) := by rw [hW2.out]; exact heap_last0 w2 _
    have hbw : Below W1.heap.size W1 W2 := by rw [hW2.out]; exact hb1.alloc hb1.size _
    have hz2 : w1.heap.size < w2.heap.size := Nat.lt_of_lt_of_le hX.lt hb1.size
    replace hgo := hgo.kept hbw
    replace hb0 := below2 hb0 hbw
    replace hD := hD.below hbw
    replace hZ := hZ.below hbw
    replace hX := hX.below hbw
    replace h := h.kept hbw
    clear hW2 hb1 hbw d0 d1 d2 e0 e1 e2 hD
    obtain ⟨d0, d1, d2, e0, e1, e2⟩ := hY.cells
    obtain ⟨x0, x1, x2, y0, y1, y2⟩ := hX.cells
    go_wp2_with (refine wpList_store_row rfl 29 _ _ rfl (w.heap.size + 1) #[.slice a l.length cap, .int .i64 ((arm - 1 : Nat) : Int), .bool true] rfl rfl 29 _ hZ (by kernel_rfl) rfl (by kernel_rfl) ?_)
    refine retCT 4 5 29 29 (w.heap.size + 1) _ _ _ rfl rfl rfl (hZ.row _ _ _) Try.underlying29 rfl (by kernel_rfl) rfl ?_
    exact ⟨a, l, cap, rfl, H0.out.kept (below_row hb0 (Nat.le_succ _) _), hlc, rfl, below_row hb0 (Nat.le_succ _) _⟩
  case neg =>
    have hch' := Bool.eq_false_iff.2 hch
    have HC := Lib.hid hch'
    have hr : DS.remove ⟨rfsOf l, arm, down⟩ s = (⟨delF (rfsOf l) s, arm - 1, false⟩, 0) := by
      unfold DS.remove; rw [if_pos hok, hg]; unfold DS.change; unfold chg at hch'; simp only [hch']; rfl
    rw [hr]
    clear hE hr hg hch hch'
    go_enter Try.func31, Try.ntmps31
    go_upto_region 1 with fail
    refine wp_name (fun W hW => ?_)
    have hb0 : Below w.heap.size w W := by rw [hW.out]; go_grown
    have hD : B3 W w.heap.size 29 (.slice a l.length cap) (.int .i64 arm) (.bool down) := by
      rw [hW.out]; exact (Below.refl (w.heap.size + 1) _).alloc (by simp) _ |>.block _ (by simp) |>.trans (heap_last0 w _)
    have hZ : B3 W (w.heap.size + 1) 29 (.slice none 0 0) (.int .i64 0) (.bool false) := by rw [hW.out]; exact heap_last1 w _ _
    have H0 := Lib.hid h
    replace h := h.kept hb0
    clear hW
    obtain ⟨d0, d1, d2, e0, e1, e2⟩ := hD.cells
    go_upto_region 4 with (go_at_call 42; (with_reducible refine (HG.out _ h).mono ?_); rintro e w1 ⟨ag, cg, rfl, hgo, hb1⟩)
    refine wp_name (fun W1 hW1 => ?_)
    have hX : B3 W1 w1.heap.size 46 (.string f.name) (.slice ag f.b.length cg) (.int .i64 f.safe) := by rw [hW1.out]; exact heap_last0 w1 _
    have hbw : Below W.heap.size W W1 := by rw [hW1.out]; exact hb1.alloc hb1.size _
    have hb2 : Below w1.heap.size w1 W1 := by rw [hW1.out]; exact (Below.refl _ _).alloc (Nat.le_refl _) _
    have hz1 : w.heap.size + 1 < w1.heap.size := Nat.lt_of_lt_of_le hZ.lt hb1.size
    replace hgo := hgo.kept hb2
    replace hb0 := below2 hb0 hbw
    replace hD := hD.below hbw
    replace hZ := hZ.below hbw
    replace h := h.kept hbw
    clear hW1 hb1 hb2 hbw d0 d1 d2 e0 e1 e2
    obtain ⟨d0, d1, d2, e0, e1, e2⟩ := hD.cells
    go_upto_region 5 with (go_at_call 43; (with_reducible refine (rChange_any _ _ _ _ _ _ ha).mono ?_); rw [HC.out]; rintro e w2 ⟨rfl, hb1⟩)
    refine wp_name (fun W2 hW2 => ?_)
    have hY : B3 W2 w2.heap.size 29 (.slice a l.length cap) (.int .i64 ((arm - 1 : Nat) : Int)) (.bool false) := by rw [hW2.out]; exact heap_last0 w2 _
    have hbw : Below W1.heap.size W1 W2 := by rw [hW2.out]; exact hb1.alloc hb1.size _
    have hz2 : w1.heap.size < w2.heap.size := Nat.lt_of_lt_of_le hX.lt hb1.size
    replace hgo := hgo.kept hbw
    replace hb0 := below2 hb0 hbw
    replace hD := hD.below hbw
    replace hZ := hZ.below hbw
    replace hX := hX.below hbw
    replace h := h.kept hbw
    clear hW2 hb1 hbw d0 d1 d2 e0 e1 e2 hD
    obtain ⟨d0, d1, d2, e0, e1, e2⟩ := hY.cells
    obtain ⟨x0, x1, x2, y0, y1, y2⟩ := hX.cells
    have HW := Lib.hid (fun (X : World) (h : RFsIn X a l) => rWithout_any a cap l s X (by omega) h)
    go_upto_region 8 with (go_at_call 45; (with_reducible refine (HW.out _ h).mono ?_); rintro e w4 ⟨a4, c4, rfl, hin4, hc4, hb4⟩; have hY3 := hY.below hb4; have hZ3 := hZ.below hb4; have hb3 := below2 hb0 hb4; clear d0 d1 d2 e0 e1 e2 x0 x1 x2 y0 y1 y2 h hY hZ hb0; obtain ⟨d0, d1, d2, e0, e1, e2⟩ := hY3.cells)
    refine wp_name (fun W5 hW5 => ?_)
    have hY5 : B3 W5 w2.heap.size 29 (.slice a4 (delRF l s).length c4) (.int .i64 ((arm - 1 : Nat) : Int)) (.bool false) := by rw [hW5.out]; exact hY3.set0 _
    have hZ5 : B3 W5 (w.heap.size + 1) 29 (.slice none 0 0) (.int .i64 0) (.bool false) := by rw [hW5.out]; exact hZ3.other _ (by simp only; omega)
    have hb5 : Below w.heap.size w W5 := by rw [hW5.out]; exact below_set hb3 (by simp only; omega) _
    have hin5 : RFsIn W5 a4 (delRF l s) := by rw [hW5.out]; exact hin4.fr (T := isR w2.heap.size) (fr_set _) (fun k hk => by subst hk; exact ⟨hY3.noByte ⟨trivial, trivial, trivial⟩, hY3.noStr ⟨trivial, trivial, trivial⟩⟩)
    clear hW5 hY3 hZ3 hb3 hin4 d0 d1 d2 e0 e1 e2
    obtain ⟨d0, d1, d2, e0, e1, e2⟩ := hY5.cells
    go_wp2_with (refine wpList_store_row rfl 29 _ _ rfl (w.heap.size + 1) #[.slice a4 (delRF l s).length c4, .int .i64 ((arm - 1 : Nat) : Int), .bool false] rfl rfl 29 _ hZ5 (by kernel_rfl) rfl (by kernel_rfl) ?_)
    refine retCT 4 5 29 29 (w.heap.size + 1) _ _ _ rfl rfl rfl (hZ5.row _ _ _) Try.underlying29 rfl (by kernel_rfl) rfl ?_
    refine ⟨a4, _, c4, rfl, ?_, hc4, rfsOf_delRF _ _, below_row hb5 (Nat.le_succ _) _⟩
    exact hin5.fr (T := isR (w.heap.size + 1)) (fr_row _ _ _) (fun k hk => by subst hk; exact ⟨hZ5.noByte ⟨trivial, trivial, trivial⟩, hZ5.noStr ⟨trivial, trivial, trivial⟩⟩)
end Go.Proofs.Ytbkelbdeodbhcaa
