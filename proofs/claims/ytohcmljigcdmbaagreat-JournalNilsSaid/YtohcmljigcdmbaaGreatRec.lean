/- A record, read off bytes. Conditions: at most 2^30 bytes. -/
import Derived.Test.YtohcmljigcdmbaaGreatReadK
import Derived.Test.YtohcmljigcdmbaaGreatCrc
import Derived.Test.YtohcmljigcdmbaaGreatLoad
set_option linter.unusedSimpArgs false
set_option linter.unusedVariables false
set_option linter.unnecessarySimpa false
set_option maxHeartbeats 16000000
set_option maxRecDepth 100000
namespace Go.Proofs.YtohcmljigcdmbaaGreat
open Go.RowKit
/-- a life's beginning, or an event -/
structure Rec where
 kind : Int
 inc : Int
 e : Ev
 deriving DecidableEq
def rec0 : Rec := ⟨0, 0, ev0⟩
def recCells (x : Rec) (a : Option Addr) (cap : Nat) : List Value := .int .i64 x.kind :: .int .i64 x.inc :: evCells x.e a cap
abbrev recVal (x : Rec) (a : Option Addr) (cap : Nat) : Value := .agg #[.int .i64 x.kind, .int .i64 x.inc, .int .i64 x.e.dot.a.dev, .int .i64 x.e.dot.a.inc, .int .i64 x.e.dot.seq, .int .i64 x.e.stamp.wall, .int .i64 x.e.stamp.count, .int .i64 x.e.stamp.dev, .int .i64 x.e.kind, .string x.e.key.name, .string x.e.key.domain, .string x.e.key.path, .string x.e.ck.value, .bool x.e.ck.hostOnly, .bool x.e.ck.secure, .bool x.e.ck.httpOnly, .bool x.e.ck.persistent, .int .i64 x.e.ck.expiry, .int .i64 x.e.ck.creation, .int .i64 x.e.ck.access, .slice a x.e.over.length cap]
theorem recCells_box (x : Rec) (a : Option Addr) (cap : Nat) (w : World) (t : TypeId) : (w.alloc (Obj.cells #[.int .i64 x.kind, .int .i64 x.inc, .int .i64 x.e.dot.a.dev, .int .i64 x.e.dot.a.inc, .int .i64 x.e.dot.seq, .int .i64 x.e.stamp.wall, .int .i64 x.e.stamp.count, .int .i64 x.e.stamp.dev, .int .i64 x.e.kind, .string x.e.key.name, .string x.e.key.domain, .string x.e.key.path, .string x.e.ck.value, .bool x.e.ck.hostOnly, .bool x.e.ck.secure, .bool x.e.ck.httpOnly, .bool x.e.ck.persistent, .int .i64 x.e.ck.expiry, .int .i64 x.e.ck.creation, .int .i64 x.e.ck.access, .slice a x.e.over.length cap] t)).rangeAt w.heap.size 0 (recCells x a cap) := by
 intro j v hv
 rw [Nat.zero_add, World.cell?_alloc_new]
 exact (by simpa [recCells, evCells] using hv)
theorem range_ev {w : World} {b : Nat} {x : Rec} {a : Option Addr} {cap : Nat} (h : w.rangeAt b 0 (recCells x a cap)) : w.rangeAt b 2 (evCells x.e a cap) := fun j v hv => by
 have := h (j + 2) v hv
 rwa [Nat.zero_add, Nat.add_comm] at this
/-- block X holds the record -/
def RecBlk (w : World) (X : Nat) (x : Rec) (a : Option Addr) (cap : Nat) : Prop := w.heap[X]? = some (.cells (recCells x a cap).toArray 62 (0, 0))
theorem RecBlk.lt {w : World} {X : Nat} {x : Rec} {a : Option Addr} {cap : Nat} (h : RecBlk w X x a cap) : X < w.heap.size := lt_of_block h
theorem RecBlk.below {w w' : World} {X : Nat} {x : Rec} {a : Option Addr} {cap : Nat} (h : RecBlk w X x a cap) (hb : Below w.heap.size w w') : RecBlk w' X x a cap := (hb.block _ h.lt).trans h
theorem RecBlk.fr {w w' : World} {S : Nat → Prop} {X : Nat} {x : Rec} {a : Option Addr} {cap : Nat} (h : RecBlk w X x a cap) (hf : Fr S w w') (hs : ¬ S X) : RecBlk w' X x a cap := (hf.block _ h.lt hs).trans h
theorem RecBlk.cell {w : World} {X : Nat} {x : Rec} {a : Option Addr} {cap : Nat} (h : RecBlk w X x a cap) : w.rangeAt X 0 (recCells x a cap) := fun j v hv => by
 rw [Nat.zero_add]
 simp only [World.cell?, show w.heap[X]? = _ from h]
 simpa using hv
theorem RecBlk.c0 {w : World} {X : Nat} {x : Rec} {a : Option Addr} {cap : Nat} (h : RecBlk w X x a cap) : w.cell? ⟨X, 0, none⟩ = some (.int .i64 x.kind) := h.cell 0 _ rfl
theorem RecBlk.c1 {w : World} {X : Nat} {x : Rec} {a : Option Addr} {cap : Nat} (h : RecBlk w X x a cap) : w.cell? ⟨X, 1, none⟩ = some (.int .i64 x.inc) := h.cell 1 _ rfl
theorem RecBlk.free {w : World} {X o : Nat} {x : Rec} {a : Option Addr} {cap : Nat} (h : RecBlk w X x a cap) : w.frozen? ⟨X, o, none⟩ = false := by
 simp [World.frozen?, show w.heap[X]? = _ from h]
theorem RecBlk.setInc {w : World} {X : Nat} {x : Rec} {a : Option Addr} {cap : Nat} (h : RecBlk w X x a cap) (n : Int) : RecBlk (w.setCell ⟨X, 1, none⟩ (.int .i64 n)) X ⟨x.kind, n, x.e⟩ a cap := by
 simp [RecBlk, World.setCell, Array.getElem?_modify, show w.heap[X]? = _ from h, recCells, evCells]
theorem RecBlk.there {w : World} {X : Nat} {x : Rec} {a : Option Addr} {cap : Nat} (h : RecBlk w X x a cap) : w.there X 2 19 := fun j hj => by
 refine ⟨?_, h.free⟩
 have h2 := h.cell (2 + j) ((recCells x a cap).getD (2 + j) undef) (by
  have hl : (recCells x a cap).length = 21 := rfl
  rw [List.getD_eq_getElem?_getD, List.getElem?_eq_getElem (by omega)]; rfl)
 rw [Nat.zero_add] at h2
 rw [h2]; rfl
theorem RecBlk.setEv {w : World} {X : Nat} {x : Rec} {a : Option Addr} {cap : Nat} (h : RecBlk w X x a cap) (e : Ev) (a' : Option Addr) (cap' : Nat) : RecBlk (w.setCells X 2 (evCells e a' cap')) X ⟨x.kind, x.inc, e⟩ a' cap' := by
 simp [RecBlk, World.setCells, World.setCell, Array.getElem?_modify, show w.heap[X]? = _ from h, recCells, evCells]
def recRest (k : Nat) (r : Rd) : Rd × Rec :=
 if k = 1 then ((if (rNum 1048576 r).2 = 0 then rFail (rNum 1048576 r).1 4 else (rNum 1048576 r).1), ⟨1, (rNum 1048576 r).2, ev0⟩)
 else if k = 2 then ((rEv r).1, ⟨2, 0, (rEv r).2⟩) else (rFail r 1, ⟨k, 0, ev0⟩)
def recEnd (y : Rd × Rec) : Rec × Int := if rEnd y.1 = 0 then (y.2, 0) else (rec0, rEnd y.1)
/-- the record of what is packed -/
def recRead (l : Bytes) : Rec × Int := recEnd (recRest (rNum 4294967296 ⟨l, 0⟩).2 (rNum 4294967296 ⟨l, 0⟩).1)
def RetRec (l : Bytes) (w : World) (x : Ending) (w' : World) : Prop :=
 ∃ a cap, x = .returned (.tuple #[recVal (recRead l).1 a cap, .int .i64 (recRead l).2]) ∧ DotsIn w' a (recRead l).1.e.over ∧ Below w.heap.size w w' ∧ (∀ A off, a = some ⟨A, off, none⟩ → w.heap.size ≤ A)
theorem RecRead_any (a : Option Addr) (cap : Nat) (l : Bytes) (w : World) (hl : l.length ≤ 1073741824) (h : BytesIn w a l) (hc : l.length ≤ cap) :
 Calls Tryz.prog 95 #[.slice a l.length cap] w (RetRec l w) := by
 have hfit := rNum_fit 4294967296 ⟨l, 0⟩
 have HN0 : ∀ (R : Nat) (W : World), RdAt W R ⟨l, 0⟩ → Calls Tryz.prog 130 #[.pointer (some ⟨R, 0, none⟩), .int .u64 4294967296] W (RetRd R (rNum 4294967296 ⟨l, 0⟩).1 (.int .u64 (rNum 4294967296 ⟨l, 0⟩).2) W) := fun R W h => Num_r R ⟨l, 0⟩ 4294967296 W hl (by omega) h
 have HV : Hid (recRead l = recEnd (recRest (rNum 4294967296 ⟨l, 0⟩).2 (rNum 4294967296 ⟨l, 0⟩).1)) := rfl
 obtain ⟨r, k, hk⟩ : ∃ r k, rNum 4294967296 ⟨l, 0⟩ = (r, k) := ⟨_, _, rfl⟩
 rw [hk] at HV hfit
 simp only [hk] at HN0
 simp only at HV hfit
 have HNu := Lib.hid HN0
 have HR := Lib.hid (fun (W : World) (h : BytesIn W a l) => packRead_any a cap l W h hc)
 clear hk HN0
 obtain ⟨hfl, hk32⟩ := hfit
 go_enter Tryz.func95, Tryz.ntmps95
 go_upto_region 1 with fail
 refine wp_name (fun W hW => ?_)
 have hbt : Below w.heap.size w W := by rw [hW.out]; exact (Below.refl _ _).alloc (Nat.le_refl _) _
 have hZ : RecBlk W w.heap.size rec0 none 0 := by rw [hW.out]; exact heap_alloc_last w _
 have hz : w.heap.size < W.heap.size := by rw [hW.out]; simp
 have hb0 := h.kept hbt
 clear hW h
 go_upto_region 3 with (first
  | (go_at_call 129; (with_reducible refine (HR.out _ hb0).mono ?_); rintro x w1 ⟨rfl, hRd, hb⟩; replace hZ := hZ.below hb; replace hbt := below2 hbt hb; have hz1 := hb.size)
  | (go_at_call 130; (with_reducible refine (HNu.out _ _ hRd).mono ?_); rintro x w2 ⟨rfl, hR2, hF2⟩; replace hZ := hZ.fr hF2 (by simp only [isR]; omega); have hz2 := hF2.size)
  | (refine Great.wpList_buildTo rfl 62 _ rfl _ rfl (recCells ⟨k, 0, ev0⟩ none 0).toArray (by kernel_rfl) ?_)
  | (refine wpList_store_new 62 _ _ _ (recCells ⟨k, 0, ev0⟩ none 0).toArray rfl rfl (by kernel_rfl) rfl (by kernel_rfl) ?_))
 refine wp_name (fun W3 hW3 => ?_)
 have hb3 : Below w2.heap.size w2 W3 := by rw [hW3.out]; exact (Below.refl _ _).alloc (Nat.le_refl _) _
 have hX : RecBlk W3 w2.heap.size ⟨k, 0, ev0⟩ none 0 := by rw [hW3.out]; exact heap_alloc_last w2 _
 have hbw : Below w.heap.size w W3 := (hbt.trans (hF2.below (B := w.heap.size) (by omega) (fun k hk => by simp only [isR] at hk; omega))).trans (hb3.mono (by omega))
 replace hZ := hZ.below hb3
 replace hR2 := hR2.below hb3
 have hRX : W.heap.size < w2.heap.size := by have := hRd.lt; omega
 have hZR : w.heap.size < W.heap.size := hz
 have HEnd := Lib.hid (fun (R : Nat) (W : World) (rr : Rd) (hl : rr.b.length ≤ 1073741824) (h : RdAt W R rr) => End_r R rr W h hl)
 clear hW3 hbt hF2 hb3 hRd hb0 hb HNu HR hz1 hz2 hz
 obtain ⟨XB, hXB⟩ : ∃ X, X = w2.heap.size := ⟨_, rfl⟩
 rw [← hXB] at hX hRX ⊢
 obtain ⟨R, hRR0⟩ : ∃ R, R = W.heap.size := ⟨_, rfl⟩
 rw [← hRR0] at hR2 hRX hZR ⊢
 clear hXB hRR0
 by_cases hk1 : k = 1
 ·subst hk1
  have hf1 := rNum_fit 1048576 r
  have HN1 : ∀ (W : World), RdAt W R r → Calls Tryz.prog 130 #[.pointer (some ⟨R, 0, none⟩), .int .u64 1048576] W (RetRd R (rNum 1048576 r).1 (.int .u64 (rNum 1048576 r).2) W) := fun W h => Num_r R r 1048576 W (by omega) (by omega) h
  replace HV : Hid (recRead l = recEnd ((if (rNum 1048576 r).2 = 0 then rFail (rNum 1048576 r).1 4 else (rNum 1048576 r).1), ⟨1, (rNum 1048576 r).2, ev0⟩)) := by rw [Hid, HV.out]; unfold recRest; rw [if_pos rfl]
  obtain ⟨r1, n, hn⟩ : ∃ r1 n, rNum 1048576 r = (r1, n) := ⟨_, _, rfl⟩
  rw [hn] at HN1 HV hf1
  simp only at HN1 HV hf1
  have HNu := Lib.hid HN1
  clear hn HN1
  obtain ⟨hf1, hn20⟩ := hf1
  have hc0 := hX.c0
  go_upto_region 7 with (first
   | (go_at_call 130; (with_reducible refine (HNu.out _ hR2).mono ?_); rintro x w5 ⟨rfl, hR5, hF5⟩; have hX5 := hX.fr hF5 (by simp only [isR]; omega); have hc1 := hX5.c1; have hfz := hX5.free (o := 1)))
  refine wp_name (fun W6 hW6 => ?_)
  have hX6 : RecBlk W6 XB ⟨1, n, ev0⟩ none 0 := by rw [hW6.out]; exact hX5.setInc n
  have hF6 : Fr (fun k => k = R ∨ k = XB) W3 W6 := by
   rw [hW6.out]
   exact ⟨hF5.os, hF5.tape, hF5.output, by simpa using hF5.size, fun k hk hs => (heap_setCell_other _ _ _ _ (fun e => hs (Or.inr e.symm))).trans (hF5.block k hk (fun e => hs (Or.inl e)))⟩
  have hR6 : RdAt W6 R r1 := by rw [hW6.out]; exact hR5.keep (fun k hk => heap_setCell_other _ _ _ _ (fun e => by have : XB = k := e; omega))
  replace hZ := hZ.fr hF6 (by rintro (h | h) <;> omega)
  replace hbw := hbw.trans (hF6.below (B := w.heap.size) hbw.size (fun k hk => by rcases hk with h | h <;> omega))
  clear hW6 hX5 hc1 hfz hF5 hR5 hF6 hX hc0 HNu hR2
  have hc1 := hX6.c1
  by_cases hn0 : n = 0
  ·subst hn0
   have HFl := Lib.hid (fun (W : World) (h : RdAt W R r1) => Fail_r R r1 4 W h)
   have hfe : (rFail r1 4).b.length ≤ l.length := by unfold rFail; split <;> (try simp only) <;> omega
   replace HV : Hid (recRead l = recEnd (rFail r1 4, ⟨1, 0, ev0⟩)) := by rw [Hid, HV.out, if_pos rfl]; rfl
   go_upto_region 11 with (first
        | (go_at_call 136; (with_reducible refine (HFl.out _ hR6).mono ?_); rintro x w7 ⟨rfl, hRR, hF7⟩))
   have hX : RecBlk w7 XB ⟨1, 0, ev0⟩ none 0 := hX6.fr hF7 (by simp only [isR]; omega)
   replace hZ := hZ.fr hF7 (by simp only [isR]; omega)
   replace hbw := hbw.trans (hF7.below (B := w.heap.size) hbw.size (fun k hk => by simp only [isR] at hk; omega))
   clear hX6 hc1 hF7 hR6
   have hD : DotsIn w7 none (⟨1, 0, ev0⟩ : Rec).e.over := Or.inl rfl
   have hA : ∀ A off, (none : Option Addr) = some ⟨A, off, none⟩ → w.heap.size < A := fun _ _ h => by cases h
   have HN := Lib.hid (fun (R : Nat) (W : World) (h : RdAt W R (rFail r1 4)) => HEnd.out R W (rFail r1 4) (by omega) h)
   clear HEnd HFl
   generalize rFail r1 4 = rr at *
   by_cases hx : rEnd rr = 0
   ·have hq : (rEnd rr != 0) = false := by rw [bne_eq_false_iff_eq]; exact hx
    have HE : Hid (recRead l = ((⟨1, 0, ev0⟩ : Rec), 0)) := by rw [Hid, HV.out]; unfold recEnd; rw [if_pos hx]
    clear hx HV
    go_wp2_with (first
        | (go_at_call 133; (with_reducible refine (HN.out _ _ hRR).mono ?_); rintro x w4 ⟨rfl, rfl⟩)
        | ((with_reducible refine wpList_load_at 62 _ XB 0 (recCells (⟨1, 0, ev0⟩ : Rec) none 0) _ Tryz.underlying62 rfl (by kernel_rfl) hX.cell ?_ rfl ?_); exact rfl)
        | (refine wpList_store_row rfl 62 _ _ rfl w.heap.size (recCells (⟨1, 0, ev0⟩ : Rec) none 0).toArray rfl rfl 62 (recCells rec0 none 0).toArray hZ (by kernel_rfl) rfl (by kernel_rfl) ?_))
    refine ret_cell_tmpR 2 3 62 62 w.heap.size (recCells (⟨1, 0, ev0⟩ : Rec) none 0).toArray _ (.int .i64 0) rfl rfl rfl (setRow_heap _ _ _ _ _ _ hZ) Tryz.underlying62 rfl (by kernel_rfl) rfl ?_
    refine ⟨none, 0, by rw [HE.out]; rfl, ?_, below_setRow hbw (Nat.le_refl _) _, ?_⟩
    ·rw [HE.out]
     exact hD.setRow _ (fun A off h => by have := hA A off h; omega)
    ·exact fun A off h => Nat.le_of_lt (hA A off h)
   ·have hq : (rEnd rr != 0) = true := by rw [bne_iff_ne]; exact hx
    have HE : Hid (recRead l = (rec0, rEnd rr)) := by rw [Hid, HV.out]; unfold recEnd; rw [if_neg hx]
    clear hx HV
    go_wp2_with (first
        | (go_at_call 133; (with_reducible refine (HN.out _ _ hRR).mono ?_); rintro x w4 ⟨rfl, rfl⟩)
        | (refine Great.wpList_buildTo rfl 62 _ rfl _ rfl #[.int .i64 0, .int .i64 0, .int .i64 0, .int .i64 0, .int .i64 0, .int .i64 0, .int .i64 0, .int .i64 0, .int .i64 0, .string ⟨#[]⟩, .string ⟨#[]⟩, .string ⟨#[]⟩, .string ⟨#[]⟩, .bool false, .bool false, .bool false, .bool false, .int .i64 0, .int .i64 0, .int .i64 0, .slice none 0 0] (by kernel_rfl) ?_)
        | (refine wpList_store_row rfl 62 _ _ rfl w.heap.size #[.int .i64 0, .int .i64 0, .int .i64 0, .int .i64 0, .int .i64 0, .int .i64 0, .int .i64 0, .int .i64 0, .int .i64 0, .string ⟨#[]⟩, .string ⟨#[]⟩, .string ⟨#[]⟩, .string ⟨#[]⟩, .bool false, .bool false, .bool false, .bool false, .int .i64 0, .int .i64 0, .int .i64 0, .slice none 0 0] rfl rfl 62 (recCells rec0 none 0).toArray hZ (by kernel_rfl) rfl (by kernel_rfl) ?_))
    refine ret_cell_tmpR 2 3 62 62 w.heap.size #[.int .i64 0, .int .i64 0, .int .i64 0, .int .i64 0, .int .i64 0, .int .i64 0, .int .i64 0, .int .i64 0, .int .i64 0, .string ⟨#[]⟩, .string ⟨#[]⟩, .string ⟨#[]⟩, .string ⟨#[]⟩, .bool false, .bool false, .bool false, .bool false, .int .i64 0, .int .i64 0, .int .i64 0, .slice none 0 0] _ (.int .i64 (rEnd rr)) rfl rfl rfl (setRow_heap _ _ _ _ _ _ hZ) Tryz.underlying62 rfl (by kernel_rfl) rfl ?_
    exact ⟨none, 0, by rw [HE.out]; rfl, by rw [HE.out]; exact Or.inl rfl, below_setRow hbw (Nat.le_refl _) _, fun A off h => by cases h⟩
  ·have hq0 : ((n : Int) == 0) = false := by rw [beq_eq_false_iff_ne]; omega
   have hq1 : (n == 0) = false := by rw [beq_eq_false_iff_ne]; exact hn0
   replace HV : Hid (recRead l = recEnd (r1, ⟨1, n, ev0⟩)) := by rw [Hid, HV.out, if_neg hn0]
   go_upto_region 11 with fail
   have hX := hX6
   have hRR := hR6
   clear hX6 hc1 hR6
   have hD : DotsIn W6 none (⟨1, n, ev0⟩ : Rec).e.over := Or.inl rfl
   have hA : ∀ A off, (none : Option Addr) = some ⟨A, off, none⟩ → w.heap.size < A := fun _ _ h => by cases h
   have HN := Lib.hid (fun (R : Nat) (W : World) (h : RdAt W R r1) => HEnd.out R W r1 (by omega) h)
   clear HEnd
   by_cases hx : rEnd r1 = 0
   ·have hq : (rEnd r1 != 0) = false := by rw [bne_eq_false_iff_eq]; exact hx
    have HE : Hid (recRead l = ((⟨1, n, ev0⟩ : Rec), 0)) := by rw [Hid, HV.out]; unfold recEnd; rw [if_pos hx]
    clear hx HV
    go_wp2_with (first
        | (go_at_call 133; (with_reducible refine (HN.out _ _ hRR).mono ?_); rintro x w4 ⟨rfl, rfl⟩)
        | ((with_reducible refine wpList_load_at 62 _ XB 0 (recCells (⟨1, n, ev0⟩ : Rec) none 0) _ Tryz.underlying62 rfl (by kernel_rfl) hX.cell ?_ rfl ?_); exact rfl)
        | (refine wpList_store_row rfl 62 _ _ rfl w.heap.size (recCells (⟨1, n, ev0⟩ : Rec) none 0).toArray rfl rfl 62 (recCells rec0 none 0).toArray hZ (by kernel_rfl) rfl (by kernel_rfl) ?_))
    refine ret_cell_tmpR 2 3 62 62 w.heap.size (recCells (⟨1, n, ev0⟩ : Rec) none 0).toArray _ (.int .i64 0) rfl rfl rfl (setRow_heap _ _ _ _ _ _ hZ) Tryz.underlying62 rfl (by kernel_rfl) rfl ?_
    refine ⟨none, 0, by rw [HE.out]; rfl, ?_, below_setRow hbw (Nat.le_refl _) _, ?_⟩
    ·rw [HE.out]
     exact hD.setRow _ (fun A off h => by have := hA A off h; omega)
    ·exact fun A off h => Nat.le_of_lt (hA A off h)
   ·have hq : (rEnd r1 != 0) = true := by rw [bne_iff_ne]; exact hx
    have HE : Hid (recRead l = (rec0, rEnd r1)) := by rw [Hid, HV.out]; unfold recEnd; rw [if_neg hx]
    clear hx HV
    go_wp2_with (first
        | (go_at_call 133; (with_reducible refine (HN.out _ _ hRR).mono ?_); rintro x w4 ⟨rfl, rfl⟩)
        | (refine Great.wpList_buildTo rfl 62 _ rfl _ rfl #[.int .i64 0, .int .i64 0, .int .i64 0, .int .i64 0, .int .i64 0, .int .i64 0, .int .i64 0, .int .i64 0, .int .i64 0, .string ⟨#[]⟩, .string ⟨#[]⟩, .string ⟨#[]⟩, .string ⟨#[]⟩, .bool false, .bool false, .bool false, .bool false, .int .i64 0, .int .i64 0, .int .i64 0, .slice none 0 0] (by kernel_rfl) ?_)
        | (refine wpList_store_row rfl 62 _ _ rfl w.heap.size #[.int .i64 0, .int .i64 0, .int .i64 0, .int .i64 0, .int .i64 0, .int .i64 0, .int .i64 0, .int .i64 0, .int .i64 0, .string ⟨#[]⟩, .string ⟨#[]⟩, .string ⟨#[]⟩, .string ⟨#[]⟩, .bool false, .bool false, .bool false, .bool false, .int .i64 0, .int .i64 0, .int .i64 0, .slice none 0 0] rfl rfl 62 (recCells rec0 none 0).toArray hZ (by kernel_rfl) rfl (by kernel_rfl) ?_))
    refine ret_cell_tmpR 2 3 62 62 w.heap.size #[.int .i64 0, .int .i64 0, .int .i64 0, .int .i64 0, .int .i64 0, .int .i64 0, .int .i64 0, .int .i64 0, .int .i64 0, .string ⟨#[]⟩, .string ⟨#[]⟩, .string ⟨#[]⟩, .string ⟨#[]⟩, .bool false, .bool false, .bool false, .bool false, .int .i64 0, .int .i64 0, .int .i64 0, .slice none 0 0] _ (.int .i64 (rEnd r1)) rfl rfl rfl (setRow_heap _ _ _ _ _ _ hZ) Tryz.underlying62 rfl (by kernel_rfl) rfl ?_
    exact ⟨none, 0, by rw [HE.out]; rfl, by rw [HE.out]; exact Or.inl rfl, below_setRow hbw (Nat.le_refl _) _, fun A off h => by cases h⟩
 ·by_cases hk2 : k = 2
  ·subst hk2
   have hf2 := rEv_fit r
   have HG0 := fun (W : World) (h : RdAt W R r) => evGet_r R r W (by omega) h
   replace HV : Hid (recRead l = recEnd ((rEv r).1, ⟨2, 0, (rEv r).2⟩)) := by rw [Hid, HV.out]; unfold recRest; rw [if_neg hk1, if_pos rfl]
   obtain ⟨rr, e, hre⟩ : ∃ rr e, rEv r = (rr, e) := ⟨(rEv r).1, (rEv r).2, rfl⟩
   rw [hre] at HV hf2
   simp only [hre] at HG0
   simp only at HV hf2
   have HG := Lib.hid HG0
   clear hre HG0 hk1
   have hc0 := hX.c0
   have hZl := hZ.lt
   have hXl := hX.lt
   go_upto_region 11 with (first
        | (go_at_call 137; (with_reducible refine (HG.out _ hR2).mono ?_); rintro x w5 ⟨ae, ce, rfl, hd, hR5, hF5, hae⟩; have hX5 := hX.fr hF5 (by simp only [isR]; omega))
        | (refine wpList_store_mid rfl 34 _ _ rfl XB 2 (evCells e ae ce).toArray rfl rfl hX5.there (by kernel_rfl) (by kernel_rfl) ?_))
   refine wp_name (fun W6 hW6 => ?_)
   have hX : RecBlk W6 XB ⟨2, 0, e⟩ ae ce := by rw [hW6.out]; exact hX5.setEv e ae ce
   have hF6 : Fr (fun k => k = R ∨ k = XB) W3 W6 := by
        rw [hW6.out]
        have hF' : Fr (fun k => k = R ∨ k = XB) W3 w5 := ⟨hF5.os, hF5.tape, hF5.output, hF5.size, fun k hk hs => hF5.block k hk (fun e => hs (Or.inl e))⟩
        exact hF'.setCells (Or.inr (Or.inr rfl)) _ _
   have hRR : RdAt W6 R rr := by rw [hW6.out]; exact hR5.setCells _ _ hRX
   replace hZ := hZ.fr hF6 (by rintro (h | h) <;> omega)
   have hW3 := hbw.size
   replace hbw := hbw.trans (hF6.below (B := w.heap.size) hbw.size (fun k hk => by rcases hk with h | h <;> omega))
   have hXlt := hX5.lt
   have hD : DotsIn W6 ae (⟨2, 0, e⟩ : Rec).e.over := by
        rw [hW6.out]
        exact hd.keep (fun A off h _ => heap_setCells_other _ _ _ _ _ (by have := hae A off h; omega))
   have hA : ∀ A off, ae = some ⟨A, off, none⟩ → w.heap.size < A := fun A off h => by have := hae A off h; omega
   clear hW6 hX5 hF5 hR5 hF6 hc0 hR2 hd hae
   have HN := Lib.hid (fun (R : Nat) (W : World) (h : RdAt W R rr) => HEnd.out R W rr (by omega) h)
   clear HEnd HG
   by_cases hx : rEnd rr = 0
   ·have hq : (rEnd rr != 0) = false := by rw [bne_eq_false_iff_eq]; exact hx
    have HE : Hid (recRead l = ((⟨2, 0, e⟩ : Rec), 0)) := by rw [Hid, HV.out]; unfold recEnd; rw [if_pos hx]
    clear hx HV
    go_wp2_with (first
     | (go_at_call 133; (with_reducible refine (HN.out _ _ hRR).mono ?_); rintro x w4 ⟨rfl, rfl⟩)
     | ((with_reducible refine wpList_load_at 62 _ XB 0 (recCells (⟨2, 0, e⟩ : Rec) ae ce) _ Tryz.underlying62 rfl (by kernel_rfl) hX.cell ?_ rfl ?_); exact rfl)
     | (refine wpList_store_row rfl 62 _ _ rfl w.heap.size (recCells (⟨2, 0, e⟩ : Rec) ae ce).toArray rfl rfl 62 (recCells rec0 none 0).toArray hZ (by kernel_rfl) rfl (by kernel_rfl) ?_))
    refine ret_cell_tmpR 2 3 62 62 w.heap.size (recCells (⟨2, 0, e⟩ : Rec) ae ce).toArray _ (.int .i64 0) rfl rfl rfl (setRow_heap _ _ _ _ _ _ hZ) Tryz.underlying62 rfl (by kernel_rfl) rfl ?_
    refine ⟨ae, ce, by rw [HE.out]; rfl, ?_, below_setRow hbw (Nat.le_refl _) _, ?_⟩
    ·rw [HE.out]
     exact hD.setRow _ (fun A off h => by have := hA A off h; omega)
    ·exact fun A off h => Nat.le_of_lt (hA A off h)
   ·have hq : (rEnd rr != 0) = true := by rw [bne_iff_ne]; exact hx
    have HE : Hid (recRead l = (rec0, rEnd rr)) := by rw [Hid, HV.out]; unfold recEnd; rw [if_neg hx]
    clear hx HV
    go_wp2_with (first
     | (go_at_call 133; (with_reducible refine (HN.out _ _ hRR).mono ?_); rintro x w4 ⟨rfl, rfl⟩)
     | (refine Great.wpList_buildTo rfl 62 _ rfl _ rfl #[.int .i64 0, .int .i64 0, .int .i64 0, .int .i64 0, .int .i64 0, .int .i64 0, .int .i64 0, .int .i64 0, .int .i64 0, .string ⟨#[]⟩, .string ⟨#[]⟩, .string ⟨#[]⟩, .string ⟨#[]⟩, .bool false, .bool false, .bool false, .bool false, .int .i64 0, .int .i64 0, .int .i64 0, .slice none 0 0] (by kernel_rfl) ?_)
     | (refine wpList_store_row rfl 62 _ _ rfl w.heap.size #[.int .i64 0, .int .i64 0, .int .i64 0, .int .i64 0, .int .i64 0, .int .i64 0, .int .i64 0, .int .i64 0, .int .i64 0, .string ⟨#[]⟩, .string ⟨#[]⟩, .string ⟨#[]⟩, .string ⟨#[]⟩, .bool false, .bool false, .bool false, .bool false, .int .i64 0, .int .i64 0, .int .i64 0, .slice none 0 0] rfl rfl 62 (recCells rec0 none 0).toArray hZ (by kernel_rfl) rfl (by kernel_rfl) ?_))
    refine ret_cell_tmpR 2 3 62 62 w.heap.size #[.int .i64 0, .int .i64 0, .int .i64 0, .int .i64 0, .int .i64 0, .int .i64 0, .int .i64 0, .int .i64 0, .int .i64 0, .string ⟨#[]⟩, .string ⟨#[]⟩, .string ⟨#[]⟩, .string ⟨#[]⟩, .bool false, .bool false, .bool false, .bool false, .int .i64 0, .int .i64 0, .int .i64 0, .slice none 0 0] _ (.int .i64 (rEnd rr)) rfl rfl rfl (setRow_heap _ _ _ _ _ _ hZ) Tryz.underlying62 rfl (by kernel_rfl) rfl ?_
    exact ⟨none, 0, by rw [HE.out]; rfl, by rw [HE.out]; exact Or.inl rfl, below_setRow hbw (Nat.le_refl _) _, fun A off h => by cases h⟩
  ·have hq1 : ((k : Int) == 1) = false := by rw [beq_eq_false_iff_ne]; omega
   have hq2 : ((k : Int) == 2) = false := by rw [beq_eq_false_iff_ne]; omega
   have hq3 : (k == 1) = false := by rw [beq_eq_false_iff_ne]; exact hk1
   have hq4 : (k == 2) = false := by rw [beq_eq_false_iff_ne]; exact hk2
   have HFl := Lib.hid (fun (W : World) (h : RdAt W R r) => Fail_r R r 1 W h)
   have hfe : (rFail r 1).b.length ≤ l.length := by unfold rFail; split <;> exact hfl
   replace HV : Hid (recRead l = recEnd (rFail r 1, ⟨k, 0, ev0⟩)) := by rw [Hid, HV.out]; unfold recRest; rw [if_neg hk1, if_neg hk2]
   clear hk1 hk2
   have hc0 := hX.c0
   go_upto_region 11 with (first
        | (go_at_call 136; (with_reducible refine (HFl.out _ hR2).mono ?_); rintro x w5 ⟨rfl, hRR, hF5⟩))
   have hX0 := hX.fr hF5 (by simp only [isR]; omega)
   replace hZ := hZ.fr hF5 (by simp only [isR]; omega)
   replace hbw := hbw.trans (hF5.below (B := w.heap.size) hbw.size (fun k hk => by simp only [isR] at hk; omega))
   clear hX hc0 hF5 hR2
   have hX := hX0
   have hD : DotsIn w5 none (⟨k, 0, ev0⟩ : Rec).e.over := Or.inl rfl
   have hA : ∀ A off, (none : Option Addr) = some ⟨A, off, none⟩ → w.heap.size < A := fun _ _ h => by cases h
   have HN := Lib.hid (fun (R : Nat) (W : World) (h : RdAt W R (rFail r 1)) => HEnd.out R W (rFail r 1) (by omega) h)
   clear HEnd HFl
   generalize rFail r 1 = rr at *
   by_cases hx : rEnd rr = 0
   ·have hq : (rEnd rr != 0) = false := by rw [bne_eq_false_iff_eq]; exact hx
    have HE : Hid (recRead l = ((⟨k, 0, ev0⟩ : Rec), 0)) := by rw [Hid, HV.out]; unfold recEnd; rw [if_pos hx]
    clear hx HV
    go_wp2_with (first
     | (go_at_call 133; (with_reducible refine (HN.out _ _ hRR).mono ?_); rintro x w4 ⟨rfl, rfl⟩)
     | ((with_reducible refine wpList_load_at 62 _ XB 0 (recCells (⟨k, 0, ev0⟩ : Rec) none 0) _ Tryz.underlying62 rfl (by kernel_rfl) hX.cell ?_ rfl ?_); exact rfl)
     | (refine wpList_store_row rfl 62 _ _ rfl w.heap.size (recCells (⟨k, 0, ev0⟩ : Rec) none 0).toArray rfl rfl 62 (recCells rec0 none 0).toArray hZ (by kernel_rfl) rfl (by kernel_rfl) ?_))
    refine ret_cell_tmpR 2 3 62 62 w.heap.size (recCells (⟨k, 0, ev0⟩ : Rec) none 0).toArray _ (.int .i64 0) rfl rfl rfl (setRow_heap _ _ _ _ _ _ hZ) Tryz.underlying62 rfl (by kernel_rfl) rfl ?_
    refine ⟨none, 0, by rw [HE.out]; rfl, ?_, below_setRow hbw (Nat.le_refl _) _, ?_⟩
    ·rw [HE.out]
     exact hD.setRow _ (fun A off h => by have := hA A off h; omega)
    ·exact fun A off h => Nat.le_of_lt (hA A off h)
   ·have hq : (rEnd rr != 0) = true := by rw [bne_iff_ne]; exact hx
    have HE : Hid (recRead l = (rec0, rEnd rr)) := by rw [Hid, HV.out]; unfold recEnd; rw [if_neg hx]
    clear hx HV
    go_wp2_with (first
     | (go_at_call 133; (with_reducible refine (HN.out _ _ hRR).mono ?_); rintro x w4 ⟨rfl, rfl⟩)
     | (refine Great.wpList_buildTo rfl 62 _ rfl _ rfl #[.int .i64 0, .int .i64 0, .int .i64 0, .int .i64 0, .int .i64 0, .int .i64 0, .int .i64 0, .int .i64 0, .int .i64 0, .string ⟨#[]⟩, .string ⟨#[]⟩, .string ⟨#[]⟩, .string ⟨#[]⟩, .bool false, .bool false, .bool false, .bool false, .int .i64 0, .int .i64 0, .int .i64 0, .slice none 0 0] (by kernel_rfl) ?_)
     | (refine wpList_store_row rfl 62 _ _ rfl w.heap.size #[.int .i64 0, .int .i64 0, .int .i64 0, .int .i64 0, .int .i64 0, .int .i64 0, .int .i64 0, .int .i64 0, .int .i64 0, .string ⟨#[]⟩, .string ⟨#[]⟩, .string ⟨#[]⟩, .string ⟨#[]⟩, .bool false, .bool false, .bool false, .bool false, .int .i64 0, .int .i64 0, .int .i64 0, .slice none 0 0] rfl rfl 62 (recCells rec0 none 0).toArray hZ (by kernel_rfl) rfl (by kernel_rfl) ?_))
    refine ret_cell_tmpR 2 3 62 62 w.heap.size #[.int .i64 0, .int .i64 0, .int .i64 0, .int .i64 0, .int .i64 0, .int .i64 0, .int .i64 0, .int .i64 0, .int .i64 0, .string ⟨#[]⟩, .string ⟨#[]⟩, .string ⟨#[]⟩, .string ⟨#[]⟩, .bool false, .bool false, .bool false, .bool false, .int .i64 0, .int .i64 0, .int .i64 0, .slice none 0 0] _ (.int .i64 (rEnd rr)) rfl rfl rfl (setRow_heap _ _ _ _ _ _ hZ) Tryz.underlying62 rfl (by kernel_rfl) rfl ?_
    exact ⟨none, 0, by rw [HE.out]; rfl, by rw [HE.out]; exact Or.inl rfl, below_setRow hbw (Nat.le_refl _) _, fun A off h => by cases h⟩
/-- may a record be? -/
def recOk (x : Rec) : Bool := if x.kind = 1 then (decide (1 ≤ x.inc) && (decide (x.inc ≤ 1048576) && decide (x.e = ev0))) else if x.kind = 2 then (decide (x.inc = 0) && evOk x.e) else false
theorem RecRight_any (x : Rec) (a : Option Addr) (cap : Nat) (w : World) (hs : EvSmall x.e) (hover : DotsIn w a x.e.over) :
 Calls Tryz.prog 75 #[recVal x a cap] w fun v w' => v = .returned (.bool (recOk x)) ∧ Below w.heap.size w w' := by
 have HV : Hid (recOk x = if x.kind = 1 then (decide (1 ≤ x.inc) && (decide (x.inc ≤ 1048576) && decide (x.e = ev0))) else if x.kind = 2 then (decide (x.inc = 0) && evOk x.e) else false) := rfl
 have HR := Lib.hid (fun (W : World) (h : DotsIn W a x.e.over) => eventRight_any x.e a cap W hs h)
 have HS0 : ∀ (W : World), DotsIn W a x.e.over → Calls Tryz.prog 114 #[evVal x.e a cap, .agg #[.int .i64 0, .int .i64 0, .int .i64 0, .int .i64 0, .int .i64 0, .int .i64 0, .int .i64 0, .string ⟨#[]⟩, .string ⟨#[]⟩, .string ⟨#[]⟩, .string ⟨#[]⟩, .bool false, .bool false, .bool false, .bool false, .int .i64 0, .int .i64 0, .int .i64 0, .slice none 0 0]] W fun v w' => v = .returned (.bool (decide (x.e = ev0))) ∧ Below W.heap.size W w' := fun W h => sameEv_any x.e ev0 a none cap 0 W hs.over (Nat.zero_le _) h (Or.inl rfl)
 have HS := Lib.hid HS0
 clear HS0
 go_enter Tryz.func75, Tryz.ntmps75
 go_upto_region 1 with fail
 refine wp_name (fun W hW => ?_)
 have hbt : Below w.heap.size w W := by rw [hW.out]; exact (Below.refl _ _).alloc (Nat.le_refl _) _
 have hC : W.rangeAt w.heap.size 0 (recCells x a cap) := by rw [hW.out]; exact recCells_box x a cap w _
 have hE := range_ev hC
 have c0 : W.cell? ⟨w.heap.size, 0, none⟩ = some (.int .i64 x.kind) := hC 0 _ rfl
 have c1 : W.cell? ⟨w.heap.size, 1, none⟩ = some (.int .i64 x.inc) := hC 1 _ rfl
 have ho := hover.kept hbt
 clear hW hover hC
 by_cases h1 : x.kind = 1
 ·have q1 : (x.kind == 1) = true := beq_iff_eq.2 h1
  have HV2 := Lib.hid (HV.out.trans (if_pos h1))
  clear HV
  by_cases h2 : 1 ≤ x.inc
  ·by_cases h3 : x.inc ≤ 1048576
   ·have HE : Hid (recOk x = decide (x.e = ev0)) := by rw [Hid, HV2.out, decide_eq_true h2, decide_eq_true h3]; rfl
    rw [h1] at c0
    clear h1 q1 HV2
    go_wp2_with (first
     | ((with_reducible refine wpList_load_evo _ w.heap.size 2 x.e a cap hE ?_ rfl ?_); exact rfl)
     | (go_at_call 114; (with_reducible refine (HS.out _ ho).mono ?_); rintro v w1 ⟨rfl, hb⟩; replace hbt := below2 hbt hb)
     | (go_at_call 32; (with_reducible refine (HR.out _ ho).mono ?_); rintro v w1 ⟨rfl, hb⟩; replace hbt := below2 hbt hb))
    go_ret
    exact ⟨ret_bool HE.out.symm, hbt⟩
   ·have HE : Hid (recOk x = false) := by rw [Hid, HV2.out, decide_eq_false h3]; simp
    have d3 := decide_eq_false h3
    rw [h1] at c0
    clear h1 q1 HV2
    go_wp2_with (first
     | ((with_reducible refine wpList_load_evo _ w.heap.size 2 x.e a cap hE ?_ rfl ?_); exact rfl)
     | (go_at_call 114; (with_reducible refine (HS.out _ ho).mono ?_); rintro v w1 ⟨rfl, hb⟩; replace hbt := below2 hbt hb)
     | (go_at_call 32; (with_reducible refine (HR.out _ ho).mono ?_); rintro v w1 ⟨rfl, hb⟩; replace hbt := below2 hbt hb))
    go_ret
    exact ⟨ret_bool HE.out.symm, hbt⟩
  ·have HE : Hid (recOk x = false) := by rw [Hid, HV2.out, decide_eq_false h2]; simp
   have d2 := decide_eq_false h2
   rw [h1] at c0
   clear h1 q1 HV2
   go_wp2_with (first
        | ((with_reducible refine wpList_load_evo _ w.heap.size 2 x.e a cap hE ?_ rfl ?_); exact rfl)
        | (go_at_call 114; (with_reducible refine (HS.out _ ho).mono ?_); rintro v w1 ⟨rfl, hb⟩; replace hbt := below2 hbt hb)
        | (go_at_call 32; (with_reducible refine (HR.out _ ho).mono ?_); rintro v w1 ⟨rfl, hb⟩; replace hbt := below2 hbt hb))
   go_ret
   exact ⟨ret_bool HE.out.symm, hbt⟩
 ·have q1 : (x.kind == 1) = false := beq_eq_false_iff_ne.2 h1
  have HV2 := Lib.hid (HV.out.trans (if_neg h1))
  clear HV
  by_cases h2 : x.kind = 2
  ·have q2 : (x.kind == 2) = true := beq_iff_eq.2 h2
   by_cases h3 : x.inc = 0
   ·have q3 : (x.inc == 0) = true := beq_iff_eq.2 h3
    have HE : Hid (recOk x = evOk x.e) := by rw [Hid, HV2.out, if_pos h2, decide_eq_true h3]; rfl
    rw [h2] at c0
    rw [h3] at c1
    clear h1 h2 h3 q1 q2 q3 HV2
    go_wp2_with (first
     | ((with_reducible refine wpList_load_evo _ w.heap.size 2 x.e a cap hE ?_ rfl ?_); exact rfl)
     | (go_at_call 114; (with_reducible refine (HS.out _ ho).mono ?_); rintro v w1 ⟨rfl, hb⟩; replace hbt := below2 hbt hb)
     | (go_at_call 32; (with_reducible refine (HR.out _ ho).mono ?_); rintro v w1 ⟨rfl, hb⟩; replace hbt := below2 hbt hb))
    go_ret
    exact ⟨ret_bool HE.out.symm, hbt⟩
   ·have q3 : (x.inc == 0) = false := beq_eq_false_iff_ne.2 h3
    have HE : Hid (recOk x = false) := by rw [Hid, HV2.out, if_pos h2, decide_eq_false h3]; rfl
    rw [h2] at c0
    clear h1 h2 h3 q1 q2 HV2
    go_wp2_with (first
     | ((with_reducible refine wpList_load_evo _ w.heap.size 2 x.e a cap hE ?_ rfl ?_); exact rfl)
     | (go_at_call 114; (with_reducible refine (HS.out _ ho).mono ?_); rintro v w1 ⟨rfl, hb⟩; replace hbt := below2 hbt hb)
     | (go_at_call 32; (with_reducible refine (HR.out _ ho).mono ?_); rintro v w1 ⟨rfl, hb⟩; replace hbt := below2 hbt hb))
    go_ret
    exact ⟨ret_bool HE.out.symm, hbt⟩
  ·have q2 : (x.kind == 2) = false := beq_eq_false_iff_ne.2 h2
   have HE : Hid (recOk x = false) := by rw [Hid, HV2.out, if_neg h2]
   clear h1 h2 HV2
   go_wp2_with (first
        | ((with_reducible refine wpList_load_evo _ w.heap.size 2 x.e a cap hE ?_ rfl ?_); exact rfl)
        | (go_at_call 114; (with_reducible refine (HS.out _ ho).mono ?_); rintro v w1 ⟨rfl, hb⟩; replace hbt := below2 hbt hb)
        | (go_at_call 32; (with_reducible refine (HR.out _ ho).mono ?_); rintro v w1 ⟨rfl, hb⟩; replace hbt := below2 hbt hb))
   go_ret
   exact ⟨ret_bool HE.out.symm, hbt⟩
end Go.Proofs.YtohcmljigcdmbaaGreat
