/- Dots and stamps, read. Conditions: at most 2^30 bytes. -/
import Derived.Test.YtnpdfmpjjomhcaaReadE
import Derived.Great.BuildSlice
set_option linter.unusedSimpArgs false
set_option linter.unusedVariables false
set_option linter.unnecessarySimpa false
namespace Go.Proofs.Ytnpdfmpjjomhcaa
open Go.RowKit

theorem Fr.alloc {S : Nat → Prop} {w w' : World} (h : Fr S w w') (o : Obj) : Fr S w (w'.alloc o) :=
  ⟨h.os, h.tape, h.output, by have := h.size; simp; omega, fun k hk hs => by
    have hk' : k < w'.heap.size := Nat.lt_of_lt_of_le hk h.size
    rw [← h.block k hk hs]
    exact Below.heap_alloc w' o k hk'⟩
theorem Fr.setRow {S : Nat → Prop} {w w' : World} (h : Fr S w w') {g : Nat} (hg : w.heap.size ≤ g ∨ S g) (cs : Array Value) : Fr S w (w'.setRow g cs) :=
  ⟨h.os, h.tape, h.output, by have := h.size; simp only [World.setRow, Array.size_modify]; exact this, fun k hk hs => by
    rw [heap_setRow_other _ _ _ _ (fun e => by subst e; rcases hg with hg | hg; omega; exact hs hg)]
    exact h.block k hk hs⟩
theorem Fr.setCell {S : Nat → Prop} {w w' : World} (h : Fr S w w') {p : Addr} (hg : w.heap.size ≤ p.block ∨ S p.block) (v : Value) : Fr S w (w'.setCell p v) :=
  ⟨h.os, h.tape, h.output, by have := h.size; simp only [World.setCell, Array.size_modify]; exact this, fun k hk hs => by
    rw [heap_setCell_other _ _ _ _ (fun e => by subst e; rcases hg with hg | hg; omega; exact hs hg)]
    exact h.block k hk hs⟩
/-- blocks behind the reader's may be written -/
theorem RdAt.setRow {w : World} {R : Nat} {r : Rd} (h : RdAt w R r) {g : Nat} {cs : Array Value} (hR : R < g) : RdAt (w.setRow g cs) R r := h.keep (fun k hk => heap_setRow_other _ _ _ _ (by omega))
theorem RdAt.setCell {w : World} {R : Nat} {r : Rd} (h : RdAt w R r) {g o : Nat} (v : Value) (hR : R < g) : RdAt (w.setCell ⟨g, o, none⟩ v) R r := h.keep (fun k hk => heap_setCell_other _ _ _ _ (by simp only; omega))

theorem rDot_eq (r : Rd) {x y z : Rd} {a b c : Nat} (h1 : rNum 63 r = (x, a)) (h2 : rNum 1048576 x = (y, b)) (h3 : rNum 4294967296 y = (z, c)) :
    rDot r = if z.e = 0 then (if dotOk ⟨⟨a, b⟩, c⟩ = true then (z, ⟨⟨a, b⟩, c⟩) else (rFail z 4, dot0)) else (z, dot0) := by
  unfold rDot; simp only [h1, h2, h3]
theorem rStamp_eq (r : Rd) {x y z : Rd} {a b c : Nat} (h1 : rNum 4398046511104 r = (x, a)) (h2 : rNum 65535 x = (y, b)) (h3 : rNum 63 y = (z, c)) :
    rStamp r = if z.e = 0 then (z, ⟨a, b, c⟩) else (z, stamp0) := by
  unfold rStamp; simp only [h1, h2, h3]
theorem rDot_fit (r : Rd) : (rDot r).1.b.length ≤ r.b.length := by
  have h1 := rNum_fit 63 r
  have h2 := rNum_fit 1048576 (rNum 63 r).1
  have h3 := rNum_fit 4294967296 (rNum 1048576 (rNum 63 r).1).1
  unfold rDot rFail
  simp only
  repeat' split
  all_goals simp only
  all_goals omega
theorem rStamp_fit (r : Rd) : (rStamp r).1.b.length ≤ r.b.length := by
  have h1 := rNum_fit 4398046511104 r
  have h2 := rNum_fit 65535 (rNum 4398046511104 r).1
  have h3 := rNum_fit 63 (rNum 65535 (rNum 4398046511104 r).1).1
  unfold rStamp
  simp only
  split <;> simp only <;> omega
abbrev dotVal (d : Dot) : Value := .agg #[.int .i64 d.a.dev, .int .i64 d.a.inc, .int .i64 d.seq]
abbrev stampVal (s : Stamp) : Value := .agg #[.int .i64 s.wall, .int .i64 s.count, .int .i64 s.dev]
set_option maxRecDepth 100000 in
set_option maxHeartbeats 2000000 in
theorem dotGet_r (R : Nat) (r : Rd) (w : World) (hl : r.b.length ≤ 1073741824) (h : RdAt w R r) :
    Calls Try.prog 43 #[.pointer (some ⟨R, 0, none⟩)] w (RetRd R (rDot r).1 (dotVal (rDot r).2) w) := by
  obtain ⟨x, a, h1⟩ : ∃ x a, rNum 63 r = (x, a) := ⟨_, _, rfl⟩
  obtain ⟨y, b, h2⟩ : ∃ y b, rNum 1048576 x = (y, b) := ⟨_, _, rfl⟩
  obtain ⟨z, c, h3⟩ : ∃ z c, rNum 4294967296 y = (z, c) := ⟨_, _, rfl⟩
  have HV := Lib.hid (rDot_eq r h1 h2 h3)
  have f1 := rNum_fit 63 r
  have f2 := rNum_fit 1048576 x
  have f3 := rNum_fit 4294967296 y
  rw [h1] at f1
  rw [h2] at f2
  rw [h3] at f3
  simp only at f1 f2 f3
  have hyl : y.b.length ≤ 1073741824 := by omega
  have hN1 : ∀ W, RdAt W R r → Calls Try.prog 18 #[.pointer (some ⟨R, 0, none⟩), .int .u64 63] W (RetRd R x (.int .u64 a) W) := fun W hW => by have := Num_r R r 63 W hl (by omega) hW; rw [h1] at this; exact this
  have hN2 : ∀ W, RdAt W R x → Calls Try.prog 18 #[.pointer (some ⟨R, 0, none⟩), .int .u64 1048576] W (RetRd R y (.int .u64 b) W) := fun W hW => by have := Num_r R x 1048576 W (by omega) (by omega) hW; rw [h2] at this; exact this
  have hN3 : ∀ W, RdAt W R y → Calls Try.prog 18 #[.pointer (some ⟨R, 0, none⟩), .int .u64 4294967296] W (RetRd R z (.int .u64 c) W) := fun W hW => by have := Num_r R y 4294967296 W hyl (by omega) hW; rw [h3] at this; exact this
  have N1 := Lib.hid hN1
  have N2 := Lib.hid hN2
  have N3 := Lib.hid hN3
  have HEr := Lib.hid (fun (W : World) (r : Rd) (h : RdAt W R r) => Err_r R r W h)
  have HFl := Lib.hid (fun (W : World) (h : RdAt W R z) => Fail_r R z 4 W h)
  have HD0 := fun (W : World) => dotRight_any ⟨⟨a, b⟩, c⟩ W
  have hRl := h.lt
  clear hN1 hN2 hN3 h1 h2 h3
  go_enter Try.func43, Try.ntmps43
  go_upto_region 1 with fail
  refine wp_name (fun W hW => ?_)
  have hF : Fr (isR R) w W := by rw [hW.out]; exact (Fr.refl _ _).alloc _
  have hR : RdAt W R r := by rw [hW.out]; exact h.below ((Below.refl _ _).alloc (Nat.le_refl _) _)
  have hZ : W.heap[w.heap.size]? = some (.cells #[.int .i64 0, .int .i64 0, .int .i64 0] 46 (0, 0)) := by rw [hW.out]; exact heap_alloc_last w _
  have hz : w.heap.size < W.heap.size := by rw [hW.out]; simp
  clear hW h
  go_upto_region 5 with (first
    | (go_at_call 18; (with_reducible refine (N1.out _ hR).mono ?_); rintro v w1 ⟨rfl, hR, hF1⟩; replace hZ := (hF1.block _ hz (by simp only [isR]; omega)).trans hZ; replace hz := Nat.lt_of_lt_of_le hz hF1.size; replace hF := hF.again hF1; clear hF1)
    | (go_at_call 18; (with_reducible refine (N2.out _ hR).mono ?_); rintro v w1 ⟨rfl, hR, hF1⟩; replace hZ := (hF1.block _ hz (by simp only [isR]; omega)).trans hZ; replace hz := Nat.lt_of_lt_of_le hz hF1.size; replace hF := hF.again hF1; clear hF1)
    | (go_at_call 18; (with_reducible refine (N3.out _ hR).mono ?_); rintro v w1 ⟨rfl, hR, hF1⟩; replace hZ := (hF1.block _ hz (by simp only [isR]; omega)).trans hZ; replace hz := Nat.lt_of_lt_of_le hz hF1.size; replace hF := hF.again hF1; clear hF1)
    | (refine wpList_store_new 46 _ _ _ #[.int .i64 a, .int .i64 b, .int .i64 c] rfl rfl (by kernel_rfl) rfl (by kernel_rfl) ?_))
  refine wp_name (fun W2 hW2 => ?_)
  have hb2 : Below w1.heap.size w1 W2 := by rw [hW2.out]; exact (Below.refl _ _).alloc (Nat.le_refl _) _
  have hD : W2.rangeAt w1.heap.size 0 [.int .i64 a, .int .i64 b, .int .i64 c] := by
    rw [hW2.out]; intro j v hv; rw [Nat.zero_add, World.cell?_alloc_new]; simpa using hv
  have hz2 : w1.heap.size < W2.heap.size := by rw [hW2.out]; simp
  replace hZ := (hb2.block _ hz).trans hZ
  replace hR := hR.below hb2
  replace hF := hF.again (Fr.of_below hb2)
  replace hz := Nat.lt_of_lt_of_le hz hb2.size
  clear hW2 hb2 N1 N2 N3
  by_cases hze : z.e = 0
  · have hq1 : (z.e == 0) = true := beq_iff_eq.2 hze
    have hq2 : (z.e != 0) = false := by rw [bne_eq_false_iff_eq]; exact hze
    by_cases hok : dotOk ⟨⟨a, b⟩, c⟩ = true
    · have HE : Hid (rDot r = (z, ⟨⟨a, b⟩, c⟩)) := by rw [Hid, HV.out, if_pos hze, if_pos hok]
      rw [hok] at HD0
      have HD := Lib.hid HD0
      clear HD0 hok hze HV
      go_wp2_with (first
        | (go_at_call 20; (with_reducible refine (HEr.out _ _ hR).mono ?_); rintro v w3 ⟨rfl, rfl⟩)
        | ((with_reducible refine wpList_load_at 46 _ w1.heap.size 0 [.int .i64 a, .int .i64 b, .int .i64 c] _ Try.underlying46 rfl (by kernel_rfl) hD ?_ rfl ?_); exact rfl)
        | (go_at_call 52; (with_reducible refine (HD.out _).mono ?_); rintro v w4 ⟨rfl, hb⟩; replace hZ := (hb.block _ hz).trans hZ; replace hR := hR.below hb; replace hF := hF.again (Fr.of_below hb); replace hz := Nat.lt_of_lt_of_le hz hb.size; replace hD := rangeAt_kept hD hb)
        | (refine wpList_store_row rfl 46 _ _ rfl w.heap.size #[.int .i64 a, .int .i64 b, .int .i64 c] rfl rfl 46 #[.int .i64 0, .int .i64 0, .int .i64 0] hZ (by kernel_rfl) rfl (by kernel_rfl) ?_))
      refine ret_cell 2 46 46 w.heap.size #[.int .i64 a, .int .i64 b, .int .i64 c] _ rfl rfl (setRow_heap _ _ _ _ _ _ hZ) Try.underlying46 rfl (by kernel_rfl) rfl ?_
      rw [HE.out]
      exact ⟨rfl, hR.setRow (by omega), hF.setRow (Or.inl (Nat.le_refl _)) _⟩
    · have hok0 : dotOk ⟨⟨a, b⟩, c⟩ = false := by simpa using hok
      have HE : Hid (rDot r = (⟨z.b, 4⟩, dot0)) := by rw [Hid, HV.out, if_pos hze, if_neg hok]; unfold rFail; rw [if_pos hze]
      have HFF : Hid (rFail z 4 = ⟨z.b, 4⟩) := by unfold Hid rFail; rw [if_pos hze]
      rw [hok0] at HD0
      have HD := Lib.hid HD0
      clear HD0 hok hok0 hze HV
      go_wp2_with (first
        | (go_at_call 20; (with_reducible refine (HEr.out _ _ hR).mono ?_); rintro v w3 ⟨rfl, rfl⟩)
        | ((with_reducible refine wpList_load_at 46 _ w1.heap.size 0 [.int .i64 a, .int .i64 b, .int .i64 c] _ Try.underlying46 rfl (by kernel_rfl) hD ?_ rfl ?_); exact rfl)
        | (go_at_call 52; (with_reducible refine (HD.out _).mono ?_); rintro v w4 ⟨rfl, hb⟩; replace hZ := (hb.block _ hz).trans hZ; replace hR := hR.below hb; replace hF := hF.again (Fr.of_below hb); replace hz := Nat.lt_of_lt_of_le hz hb.size)
        | (go_at_call 44; (with_reducible refine (HFl.out _ hR).mono ?_); rintro v w5 ⟨rfl, hR, hF1⟩; rw [HFF.out] at hR; replace hZ := (hF1.block _ hz (by simp only [isR]; omega)).trans hZ; replace hz := Nat.lt_of_lt_of_le hz hF1.size; replace hF := hF.again hF1)
        | (refine wpList_store_row rfl 46 _ _ rfl w.heap.size #[.int .i64 0, .int .i64 0, .int .i64 0] rfl rfl 46 #[.int .i64 0, .int .i64 0, .int .i64 0] hZ (by kernel_rfl) rfl (by kernel_rfl) ?_))
      refine ret_cell 2 46 46 w.heap.size #[.int .i64 0, .int .i64 0, .int .i64 0] _ rfl rfl (setRow_heap _ _ _ _ _ _ hZ) Try.underlying46 rfl (by kernel_rfl) rfl ?_
      rw [HE.out]
      exact ⟨rfl, hR.setRow (by omega), hF.setRow (Or.inl (Nat.le_refl _)) _⟩
  · have hq1 : (z.e == 0) = false := beq_eq_false_iff_ne.2 hze
    have hq2 : (z.e != 0) = true := by rw [bne_iff_ne]; exact hze
    have HE : Hid (rDot r = (z, dot0)) := by rw [Hid, HV.out, if_neg hze]
    clear HD0 hze HV
    go_wp2_with (first
      | (go_at_call 20; (with_reducible refine (HEr.out _ _ hR).mono ?_); rintro v w3 ⟨rfl, rfl⟩)
      | (refine wpList_store_row rfl 46 _ _ rfl w.heap.size #[.int .i64 0, .int .i64 0, .int .i64 0] rfl rfl 46 #[.int .i64 0, .int .i64 0, .int .i64 0] hZ (by kernel_rfl) rfl (by kernel_rfl) ?_))
    refine ret_cell 2 46 46 w.heap.size #[.int .i64 0, .int .i64 0, .int .i64 0] _ rfl rfl (setRow_heap _ _ _ _ _ _ hZ) Try.underlying46 rfl (by kernel_rfl) rfl ?_
    rw [HE.out]
    exact ⟨rfl, hR.setRow (by omega), hF.setRow (Or.inl (Nat.le_refl _)) _⟩
end Go.Proofs.Ytnpdfmpjjomhcaa

/- Stamps, read. Conditions: at most 2^30 bytes. -/
namespace Go.Proofs.Ytnpdfmpjjomhcaa
open Go.RowKit

set_option maxRecDepth 100000 in
set_option maxHeartbeats 2000000 in
theorem clockGet_r (R : Nat) (r : Rd) (w : World) (hl : r.b.length ≤ 1073741824) (h : RdAt w R r) :
    Calls Try.prog 45 #[.pointer (some ⟨R, 0, none⟩)] w (RetRd R (rStamp r).1 (stampVal (rStamp r).2) w) := by
  obtain ⟨x, a, h1⟩ : ∃ x a, rNum 4398046511104 r = (x, a) := ⟨_, _, rfl⟩
  obtain ⟨y, b, h2⟩ : ∃ y b, rNum 65535 x = (y, b) := ⟨_, _, rfl⟩
  obtain ⟨z, c, h3⟩ : ∃ z c, rNum 63 y = (z, c) := ⟨_, _, rfl⟩
  have HV := Lib.hid (rStamp_eq r h1 h2 h3)
  have f1 := rNum_fit 4398046511104 r
  have f2 := rNum_fit 65535 x
  have f3 := rNum_fit 63 y
  rw [h1] at f1
  rw [h2] at f2
  rw [h3] at f3
  simp only at f1 f2 f3
  have hyl : y.b.length ≤ 1073741824 := by omega
  have hN1 : ∀ W, RdAt W R r → Calls Try.prog 18 #[.pointer (some ⟨R, 0, none⟩), .int .u64 4398046511104] W (RetRd R x (.int .u64 a) W) := fun W hW => by have := Num_r R r 4398046511104 W hl (by omega) hW; rw [h1] at this; exact this
  have hN2 : ∀ W, RdAt W R x → Calls Try.prog 18 #[.pointer (some ⟨R, 0, none⟩), .int .u64 65535] W (RetRd R y (.int .u64 b) W) := fun W hW => by have := Num_r R x 65535 W (by omega) (by omega) hW; rw [h2] at this; exact this
  have hN3 : ∀ W, RdAt W R y → Calls Try.prog 18 #[.pointer (some ⟨R, 0, none⟩), .int .u64 63] W (RetRd R z (.int .u64 c) W) := fun W hW => by have := Num_r R y 63 W hyl (by omega) hW; rw [h3] at this; exact this
  have N1 := Lib.hid hN1
  have N2 := Lib.hid hN2
  have N3 := Lib.hid hN3
  have HEr := Lib.hid (fun (W : World) (r : Rd) (h : RdAt W R r) => Err_r R r W h)
  have hRl := h.lt
  clear hN1 hN2 hN3 h1 h2 h3
  go_enter Try.func45, Try.ntmps45
  go_upto_region 1 with fail
  refine wp_name (fun W hW => ?_)
  have hF : Fr (isR R) w W := by rw [hW.out]; exact (Fr.refl _ _).alloc _
  have hR : RdAt W R r := by rw [hW.out]; exact h.below ((Below.refl _ _).alloc (Nat.le_refl _) _)
  have hZ : W.heap[w.heap.size]? = some (.cells #[.int .i64 0, .int .i64 0, .int .i64 0] 48 (0, 0)) := by rw [hW.out]; exact heap_alloc_last w _
  have hz : w.heap.size < W.heap.size := by rw [hW.out]; simp
  clear hW h
  go_upto_region 4 with (first
    | (go_at_call 18; (with_reducible refine (N1.out _ hR).mono ?_); rintro v w1 ⟨rfl, hR, hF1⟩; replace hZ := (hF1.block _ hz (by simp only [isR]; omega)).trans hZ; replace hz := Nat.lt_of_lt_of_le hz hF1.size; replace hF := hF.again hF1; clear hF1)
    | (go_at_call 18; (with_reducible refine (N2.out _ hR).mono ?_); rintro v w1 ⟨rfl, hR, hF1⟩; replace hZ := (hF1.block _ hz (by simp only [isR]; omega)).trans hZ; replace hz := Nat.lt_of_lt_of_le hz hF1.size; replace hF := hF.again hF1; clear hF1)
    | (go_at_call 18; (with_reducible refine (N3.out _ hR).mono ?_); rintro v w1 ⟨rfl, hR, hF1⟩; replace hZ := (hF1.block _ hz (by simp only [isR]; omega)).trans hZ; replace hz := Nat.lt_of_lt_of_le hz hF1.size; replace hF := hF.again hF1; clear hF1))
  clear N1 N2 N3
  by_cases hze : z.e = 0
  · have hq2 : (z.e != 0) = false := by rw [bne_eq_false_iff_eq]; exact hze
    have HE : Hid (rStamp r = (z, ⟨a, b, c⟩)) := by rw [Hid, HV.out, if_pos hze]
    clear hze HV
    go_wp2_with (first
      | (go_at_call 20; (with_reducible refine (HEr.out _ _ hR).mono ?_); rintro v w3 ⟨rfl, rfl⟩)
      | (refine wpList_store_row rfl 48 _ _ rfl w.heap.size #[.int .i64 a, .int .i64 b, .int .i64 c] rfl rfl 48 #[.int .i64 0, .int .i64 0, .int .i64 0] hZ (by kernel_rfl) rfl (by kernel_rfl) ?_))
    refine ret_cell 2 48 48 w.heap.size #[.int .i64 a, .int .i64 b, .int .i64 c] _ rfl rfl (setRow_heap _ _ _ _ _ _ hZ) Try.underlying48 rfl (by kernel_rfl) rfl ?_
    rw [HE.out]
    exact ⟨rfl, hR.setRow (by omega), hF.setRow (Or.inl (Nat.le_refl _)) _⟩
  · have hq2 : (z.e != 0) = true := by rw [bne_iff_ne]; exact hze
    have HE : Hid (rStamp r = (z, stamp0)) := by rw [Hid, HV.out, if_neg hze]
    clear hze HV
    go_wp2_with (first
      | (go_at_call 20; (with_reducible refine (HEr.out _ _ hR).mono ?_); rintro v w3 ⟨rfl, rfl⟩)
      | (refine wpList_store_row rfl 48 _ _ rfl w.heap.size #[.int .i64 0, .int .i64 0, .int .i64 0] rfl rfl 48 #[.int .i64 0, .int .i64 0, .int .i64 0] hZ (by kernel_rfl) rfl (by kernel_rfl) ?_))
    refine ret_cell 2 48 48 w.heap.size #[.int .i64 0, .int .i64 0, .int .i64 0] _ rfl rfl (setRow_heap _ _ _ _ _ _ hZ) Try.underlying48 rfl (by kernel_rfl) rfl ?_
    rw [HE.out]
    exact ⟨rfl, hR.setRow (by omega), hF.setRow (Or.inl (Nat.le_refl _)) _⟩
end Go.Proofs.Ytnpdfmpjjomhcaa

/- A put's key and cookie, read. Conditions: at most 2^30 bytes. -/
namespace Go.Proofs.Ytnpdfmpjjomhcaa
open Go.RowKit

/-- block E holds an event -/
def EvBlk (w : World) (E : Nat) (e : Ev) (a : Option Addr) (cap : Nat) : Prop := w.heap[E]? = some (.cells (evCells e a cap).toArray 55 (0, 0))
theorem EvBlk.cell {w : World} {E : Nat} {e : Ev} {a : Option Addr} {cap : Nat} (h : EvBlk w E e a cap) : w.rangeAt E 0 (evCells e a cap) := fun j v hv => by
  rw [Nat.zero_add]
  simp only [World.cell?, show w.heap[E]? = _ from h]
  simpa using hv
theorem EvBlk.free {w : World} {E : Nat} {e : Ev} {a : Option Addr} {cap : Nat} (h : EvBlk w E e a cap) (o : Nat) : w.frozen? ⟨E, o, none⟩ = false := by
  simp [World.frozen?, show w.heap[E]? = _ from h]
theorem EvBlk.lt {w : World} {E : Nat} {e : Ev} {a : Option Addr} {cap : Nat} (h : EvBlk w E e a cap) : E < w.heap.size := lt_of_block h
theorem EvBlk.fr {w w' : World} {E R : Nat} {e : Ev} {a : Option Addr} {cap : Nat} (h : EvBlk w E e a cap) (hf : Fr (isR R) w w') (hER : E ≠ R) : EvBlk w' E e a cap := (hf.block E h.lt hER).trans h
theorem EvBlk.below {w w' : World} {E : Nat} {e : Ev} {a : Option Addr} {cap : Nat} (h : EvBlk w E e a cap) (hb : Below w.heap.size w w') : EvBlk w' E e a cap := (hb.block E h.lt).trans h
abbrev isRE (R E : Nat) : Nat → Prop := fun k => k = R ∨ k = E
theorem EvBlk.set7 {w : World} {E : Nat} {e : Ev} {a : Option Addr} {cap : Nat} (h : EvBlk w E e a cap) (x : ByteArray) : EvBlk (w.setCell ⟨E, 7, none⟩ (.string x)) E { e with key := { e.key with name := x } } a cap := by
  simp [EvBlk, World.setCell, Array.getElem?_modify, show w.heap[E]? = _ from h, evCells]
theorem EvBlk.set8 {w : World} {E : Nat} {e : Ev} {a : Option Addr} {cap : Nat} (h : EvBlk w E e a cap) (x : ByteArray) : EvBlk (w.setCell ⟨E, 8, none⟩ (.string x)) E { e with key := { e.key with domain := x } } a cap := by
  simp [EvBlk, World.setCell, Array.getElem?_modify, show w.heap[E]? = _ from h, evCells]
theorem EvBlk.set9 {w : World} {E : Nat} {e : Ev} {a : Option Addr} {cap : Nat} (h : EvBlk w E e a cap) (x : ByteArray) : EvBlk (w.setCell ⟨E, 9, none⟩ (.string x)) E { e with key := { e.key with path := x } } a cap := by
  simp [EvBlk, World.setCell, Array.getElem?_modify, show w.heap[E]? = _ from h, evCells]
theorem EvBlk.set10 {w : World} {E : Nat} {e : Ev} {a : Option Addr} {cap : Nat} (h : EvBlk w E e a cap) (x : ByteArray) : EvBlk (w.setCell ⟨E, 10, none⟩ (.string x)) E { e with ck := { e.ck with value := x } } a cap := by
  simp [EvBlk, World.setCell, Array.getElem?_modify, show w.heap[E]? = _ from h, evCells]
theorem EvBlk.set15 {w : World} {E : Nat} {e : Ev} {a : Option Addr} {cap : Nat} (h : EvBlk w E e a cap) (x : Int) : EvBlk (w.setCell ⟨E, 15, none⟩ (.int .i64 x)) E { e with ck := { e.ck with expiry := x } } a cap := by
  simp [EvBlk, World.setCell, Array.getElem?_modify, show w.heap[E]? = _ from h, evCells]
theorem EvBlk.set16 {w : World} {E : Nat} {e : Ev} {a : Option Addr} {cap : Nat} (h : EvBlk w E e a cap) (x : Int) : EvBlk (w.setCell ⟨E, 16, none⟩ (.int .i64 x)) E { e with ck := { e.ck with creation := x } } a cap := by
  simp [EvBlk, World.setCell, Array.getElem?_modify, show w.heap[E]? = _ from h, evCells]
theorem EvBlk.set17 {w : World} {E : Nat} {e : Ev} {a : Option Addr} {cap : Nat} (h : EvBlk w E e a cap) (x : Int) : EvBlk (w.setCell ⟨E, 17, none⟩ (.int .i64 x)) E { e with ck := { e.ck with access := x } } a cap := by
  simp [EvBlk, World.setCell, Array.getElem?_modify, show w.heap[E]? = _ from h, evCells]
theorem EvBlk.set6 {w : World} {E : Nat} {e : Ev} {a : Option Addr} {cap : Nat} (h : EvBlk w E e a cap) (x : Int) : EvBlk (w.setCell ⟨E, 6, none⟩ (.int .i64 x)) E { e with kind := x } a cap := by
  simp [EvBlk, World.setCell, Array.getElem?_modify, show w.heap[E]? = _ from h, evCells]
theorem EvBlk.set11 {w : World} {E : Nat} {e : Ev} {a : Option Addr} {cap : Nat} (h : EvBlk w E e a cap) (x : Bool) : EvBlk (w.setCell ⟨E, 11, none⟩ (.bool x)) E { e with ck := { e.ck with hostOnly := x } } a cap := by
  simp [EvBlk, World.setCell, Array.getElem?_modify, show w.heap[E]? = _ from h, evCells]
theorem EvBlk.set12 {w : World} {E : Nat} {e : Ev} {a : Option Addr} {cap : Nat} (h : EvBlk w E e a cap) (x : Bool) : EvBlk (w.setCell ⟨E, 12, none⟩ (.bool x)) E { e with ck := { e.ck with secure := x } } a cap := by
  simp [EvBlk, World.setCell, Array.getElem?_modify, show w.heap[E]? = _ from h, evCells]
theorem EvBlk.set13 {w : World} {E : Nat} {e : Ev} {a : Option Addr} {cap : Nat} (h : EvBlk w E e a cap) (x : Bool) : EvBlk (w.setCell ⟨E, 13, none⟩ (.bool x)) E { e with ck := { e.ck with httpOnly := x } } a cap := by
  simp [EvBlk, World.setCell, Array.getElem?_modify, show w.heap[E]? = _ from h, evCells]
theorem EvBlk.set14 {w : World} {E : Nat} {e : Ev} {a : Option Addr} {cap : Nat} (h : EvBlk w E e a cap) (x : Bool) : EvBlk (w.setCell ⟨E, 14, none⟩ (.bool x)) E { e with ck := { e.ck with persistent := x } } a cap := by
  simp [EvBlk, World.setCell, Array.getElem?_modify, show w.heap[E]? = _ from h, evCells]
def RetItem (R E : Nat) (r : Rd) (e : Ev) (a : Option Addr) (cap : Nat) (w : World) (x : Ending) (w' : World) : Prop := x = .returned (.tuple #[]) ∧ RdAt w' R r ∧ EvBlk w' E e a cap ∧ Fr (isRE R E) w w'
theorem isR_RE {R E : Nat} {w w' : World} (h : Fr (isR R) w w') : Fr (isRE R E) w w' := h.mono fun _ _ g => Or.inl g

set_option maxRecDepth 100000 in
set_option maxHeartbeats 4000000 in
theorem item_r (R E : Nat) (r : Rd) (e : Ev) (a : Option Addr) (cap : Nat) (w : World) (hl : r.b.length ≤ 1073741824) (h : RdAt w R r) (hE : EvBlk w E e a cap) (hER : R < E) :
    Calls Try.prog 47 #[.pointer (some ⟨R, 0, none⟩), .pointer (some ⟨E, 0, none⟩)] w (RetItem R E (rItem r) (withItem e r) a cap w) := by
  have HV1 : Hid (rItem r = (rNum 1099511627776 (rNum 1099511627776 (rInt 1099511627776 (rText 1024 (rText 256 (rText 256 (rText 256 r).1).1).1).1).1).1).1) := rfl
  have HV2 : Hid (withItem e r = { e with key := ⟨mkS (rText 256 r).2, mkS (rText 256 (rText 256 r).1).2, mkS (rText 256 (rText 256 (rText 256 r).1).1).2⟩, ck := { e.ck with value := mkS (rText 1024 (rText 256 (rText 256 (rText 256 r).1).1).1).2, expiry := (rInt 1099511627776 (rText 1024 (rText 256 (rText 256 (rText 256 r).1).1).1).1).2, creation := (rNum 1099511627776 (rInt 1099511627776 (rText 1024 (rText 256 (rText 256 (rText 256 r).1).1).1).1).1).2, access := (rNum 1099511627776 (rNum 1099511627776 (rInt 1099511627776 (rText 1024 (rText 256 (rText 256 (rText 256 r).1).1).1).1).1).1).2 } }) := rfl
  obtain ⟨r1, v1, g1⟩ : ∃ r1 v1, rText 256 r = (r1, v1) := ⟨_, _, rfl⟩
  have f1 := rText_fit 256 r
  rw [g1] at f1 HV1 HV2
  simp only at f1 HV1 HV2
  obtain ⟨r2, v2, g2⟩ : ∃ r2 v2, rText 256 r1 = (r2, v2) := ⟨_, _, rfl⟩
  have f2 := rText_fit 256 r1
  rw [g2] at f2 HV1 HV2
  simp only at f2 HV1 HV2
  obtain ⟨r3, v3, g3⟩ : ∃ r3 v3, rText 256 r2 = (r3, v3) := ⟨_, _, rfl⟩
  have f3 := rText_fit 256 r2
  rw [g3] at f3 HV1 HV2
  simp only at f3 HV1 HV2
  obtain ⟨r4, v4, g4⟩ : ∃ r4 v4, rText 1024 r3 = (r4, v4) := ⟨_, _, rfl⟩
  have f4 := rText_fit 1024 r3
  rw [g4] at f4 HV1 HV2
  simp only at f4 HV1 HV2
  obtain ⟨r5, v5, g5⟩ : ∃ r5 v5, rInt 1099511627776 r4 = (r5, v5) := ⟨_, _, rfl⟩
  have f5 := rInt_fit 1099511627776 r4 (by omega)
  rw [g5] at f5 HV1 HV2
  simp only at f5 HV1 HV2
  obtain ⟨r6, v6, g6⟩ : ∃ r6 v6, rNum 1099511627776 r5 = (r6, v6) := ⟨_, _, rfl⟩
  have f6 := rNum_fit 1099511627776 r5
  rw [g6] at f6 HV1 HV2
  simp only at f6 HV1 HV2
  obtain ⟨r7, v7, g7⟩ : ∃ r7 v7, rNum 1099511627776 r6 = (r7, v7) := ⟨_, _, rfl⟩
  have f7 := rNum_fit 1099511627776 r6
  rw [g7] at f7 HV1 HV2
  simp only at f7 HV1 HV2
  have c1 : ∀ W, RdAt W R r → Calls Try.prog 64 #[.pointer (some ⟨R, 0, none⟩), .int .i64 256] W (RetRd R r1 (.string (mkS v1)) W) := fun W hW => by have := Text_r R r 256 W (by omega) (by omega) hW; rw [g1] at this; exact this
  have C1 := Lib.hid c1
  have c2 : ∀ W, RdAt W R r1 → Calls Try.prog 64 #[.pointer (some ⟨R, 0, none⟩), .int .i64 256] W (RetRd R r2 (.string (mkS v2)) W) := fun W hW => by have := Text_r R r1 256 W (by omega) (by omega) hW; rw [g2] at this; exact this
  have C2 := Lib.hid c2
  have c3 : ∀ W, RdAt W R r2 → Calls Try.prog 64 #[.pointer (some ⟨R, 0, none⟩), .int .i64 256] W (RetRd R r3 (.string (mkS v3)) W) := fun W hW => by have := Text_r R r2 256 W (by omega) (by omega) hW; rw [g3] at this; exact this
  have C3 := Lib.hid c3
  have c4 : ∀ W, RdAt W R r3 → Calls Try.prog 64 #[.pointer (some ⟨R, 0, none⟩), .int .i64 1024] W (RetRd R r4 (.string (mkS v4)) W) := fun W hW => by have := Text_r R r3 1024 W (by omega) (by omega) hW; rw [g4] at this; exact this
  have C4 := Lib.hid c4
  have c5 : ∀ W, RdAt W R r4 → Calls Try.prog 65 #[.pointer (some ⟨R, 0, none⟩), .int .i64 1099511627776] W (RetRd R r5 (.int .i64 v5) W) := fun W hW => by have := Int_r R r4 1099511627776 W (by omega) (by omega) (by omega) hW; rw [g5] at this; exact this
  have C5 := Lib.hid c5
  have c6 : ∀ W, RdAt W R r5 → Calls Try.prog 18 #[.pointer (some ⟨R, 0, none⟩), .int .u64 1099511627776] W (RetRd R r6 (.int .u64 v6) W) := fun W hW => by have := Num_r R r5 1099511627776 W (by omega) (by omega) hW; rw [g6] at this; exact this
  have C6 := Lib.hid c6
  have c7 : ∀ W, RdAt W R r6 → Calls Try.prog 18 #[.pointer (some ⟨R, 0, none⟩), .int .u64 1099511627776] W (RetRd R r7 (.int .u64 v7) W) := fun W hW => by have := Num_r R r6 1099511627776 W (by omega) (by omega) hW; rw [g7] at this; exact this
  have C7 := Lib.hid c7
  clear c1 g1 c2 g2 c3 g3 c4 g4 c5 g5 c6 g6 c7 g7
  go_enter Try.func47, Try.ntmps47
  go_wp2
  go_quiet (fail)
  have hF : Fr (isRE R E) w (w.drewN nq) := Fr.of_below (below_drewN (Below.refl _ _) nq)
  have hR : RdAt (w.drewN nq) R r := h.below (below_drewN (Below.refl _ _) nq)
  replace hE : EvBlk (w.drewN nq) E e a cap := hE
  clear h
  generalize w.drewN nq = W at hF hR hE ⊢
  go_upto_region 2 with (go_at_call 64; (with_reducible refine (C1.out _ hR).mono ?_); rintro x w1 ⟨rfl, hR, hF1⟩; replace hE := hE.fr hF1 (by omega); replace hF := hF.again (isR_RE hF1); clear hF1; have q := hE.cell 7 _ rfl; rw [Nat.zero_add] at q; have z := hE.free 7)
  refine wp_name (fun W1 hW1 => ?_)
  replace hF : Fr (isRE R E) w W1 := by rw [hW1.out]; exact hF.setCell (Or.inr (Or.inr rfl)) _
  replace hR := hR.setCell (o := 7) (.string (mkS v1)) hER
  replace hE := hE.set7 (mkS v1)
  rw [← hW1.out] at hR hE
  clear hW1 q z
  go_upto_region 3 with (go_at_call 64; (with_reducible refine (C2.out _ hR).mono ?_); rintro x w2 ⟨rfl, hR, hF1⟩; replace hE := hE.fr hF1 (by omega); replace hF := hF.again (isR_RE hF1); clear hF1; have q := hE.cell 8 _ rfl; rw [Nat.zero_add] at q; have z := hE.free 8)
  refine wp_name (fun W2 hW2 => ?_)
  replace hF : Fr (isRE R E) w W2 := by rw [hW2.out]; exact hF.setCell (Or.inr (Or.inr rfl)) _
  replace hR := hR.setCell (o := 8) (.string (mkS v2)) hER
  replace hE := hE.set8 (mkS v2)
  rw [← hW2.out] at hR hE
  clear hW2 q z
  go_upto_region 4 with (go_at_call 64; (with_reducible refine (C3.out _ hR).mono ?_); rintro x w3 ⟨rfl, hR, hF1⟩; replace hE := hE.fr hF1 (by omega); replace hF := hF.again (isR_RE hF1); clear hF1; have q := hE.cell 9 _ rfl; rw [Nat.zero_add] at q; have z := hE.free 9)
  refine wp_name (fun W3 hW3 => ?_)
  replace hF : Fr (isRE R E) w W3 := by rw [hW3.out]; exact hF.setCell (Or.inr (Or.inr rfl)) _
  replace hR := hR.setCell (o := 9) (.string (mkS v3)) hER
  replace hE := hE.set9 (mkS v3)
  rw [← hW3.out] at hR hE
  clear hW3 q z
  go_upto_region 5 with (go_at_call 64; (with_reducible refine (C4.out _ hR).mono ?_); rintro x w4 ⟨rfl, hR, hF1⟩; replace hE := hE.fr hF1 (by omega); replace hF := hF.again (isR_RE hF1); clear hF1; have q := hE.cell 10 _ rfl; rw [Nat.zero_add] at q; have z := hE.free 10)
  refine wp_name (fun W4 hW4 => ?_)
  replace hF : Fr (isRE R E) w W4 := by rw [hW4.out]; exact hF.setCell (Or.inr (Or.inr rfl)) _
  replace hR := hR.setCell (o := 10) (.string (mkS v4)) hER
  replace hE := hE.set10 (mkS v4)
  rw [← hW4.out] at hR hE
  clear hW4 q z
  go_upto_region 6 with (go_at_call 65; (with_reducible refine (C5.out _ hR).mono ?_); rintro x w5 ⟨rfl, hR, hF1⟩; replace hE := hE.fr hF1 (by omega); replace hF := hF.again (isR_RE hF1); clear hF1; have q := hE.cell 15 _ rfl; rw [Nat.zero_add] at q; have z := hE.free 15)
  refine wp_name (fun W5 hW5 => ?_)
  replace hF : Fr (isRE R E) w W5 := by rw [hW5.out]; exact hF.setCell (Or.inr (Or.inr rfl)) _
  replace hR := hR.setCell (o := 15) (.int .i64 v5) hER
  replace hE := hE.set15 v5
  rw [← hW5.out] at hR hE
  clear hW5 q z
  go_upto_region 7 with (go_at_call 18; (with_reducible refine (C6.out _ hR).mono ?_); rintro x w6 ⟨rfl, hR, hF1⟩; replace hE := hE.fr hF1 (by omega); replace hF := hF.again (isR_RE hF1); clear hF1; have q := hE.cell 16 _ rfl; rw [Nat.zero_add] at q; have z := hE.free 16)
  refine wp_name (fun W6 hW6 => ?_)
  replace hF : Fr (isRE R E) w W6 := by rw [hW6.out]; exact hF.setCell (Or.inr (Or.inr rfl)) _
  replace hR := hR.setCell (o := 16) (.int .i64 (v6 : Int)) hER
  replace hE := hE.set16 (v6 : Int)
  rw [← hW6.out] at hR hE
  clear hW6 q z
  go_wp2_with (go_at_call 18; (with_reducible refine (C7.out _ hR).mono ?_); rintro x w7 ⟨rfl, hR, hF1⟩; replace hE := hE.fr hF1 (by omega); replace hF := hF.again (isR_RE hF1); clear hF1; have q := hE.cell 17 _ rfl; rw [Nat.zero_add] at q; have z := hE.free 17)
  go_end0
  refine ⟨rfl, ?_, ?_, hF.setCell (Or.inr (Or.inr rfl)) _⟩
  · rw [HV1.out]; exact hR.setCell (o := 17) (.int .i64 (v7 : Int)) hER
  · rw [HV2.out]; exact hE.set17 (v7 : Int)
end Go.Proofs.Ytnpdfmpjjomhcaa
