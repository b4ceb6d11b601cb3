/- DeltaJoins' own functions: first. Conditions: as in the text. -/
import Derived.Test.YtpbobhfnglikmaaGreatRefR
import Derived.Test.YtpbobhfnglikmaaGreatJoinP
set_option linter.unusedSimpArgs false
set_option linter.unusedVariables false
set_option linter.unnecessarySimpa false
set_option maxHeartbeats 16000000
set_option maxRecDepth 100000
namespace Go.Proofs.YtpbobhfnglikmaaGreat
open Go.RowKit
theorem first22_any (aK a : Option Addr) (cK ca : Nat) (Ks ls : List EvIt) (k : Nat) (hk : k < ls.length) (w : World) (hK : Ks.length ≤ 4096) (hl : ls.length ≤ 4096) (hEK : EvsIn w aK Ks) (hE : EvsIn w a ls) (hsK : EvsSmall Ks) (hsl : EvsSmall ls) :
 Calls Tryz.prog 100 #[.slice aK Ks.length cK, .slice a ls.length ca, .int .i64 k] w fun x w' => ∃ q : Bool, x = .returned (.bool q) ∧ (q = true → ls[k].1 ∈ evsOf Ks) ∧ Below w.heap.size w w' := by
 have HSK := Lib.hid hsK
 have HSL := Lib.hid hsl
 have HKT := Lib.hid hk
 have hk9 : k ≤ 4096 := by omega
 have hf9 : EvSmall ls[k].1 := hsl _ (List.getElem_mem hk)
 have HF9 := Lib.hid hf9
 obtain ⟨A, off, rfl, hra, hdf⟩ := hE.at hk
 have rk := hra k hk
 clear hra
 generalize ls[k] = z at *
 obtain ⟨f, ay, cy⟩ := z
 simp only [itEv] at rk
 simp only at hdf HF9
 clear hsK hsl hf9
 go_enter Tryz.func100, Tryz.ntmps100
 go_wp2
 go_loopw [7, 8] (fun u i wr => ∃ (j : Nat) (q : Bool), i = .int .i64 j ∧ j ≤ Ks.length ∧ u = .bool q ∧ (q = true → f ∈ evsOf Ks) ∧ Below w.heap.size w wr) (fun _ i _ => Ks.length - (intOf i).toNat)
 case atStart => exact ⟨0, false, rfl, Nat.zero_le _, rfl, (fun h => by cases h), Below.refl _ _⟩
 case round =>
  obtain ⟨j, q, rfl, hj, rfl, hq, hbw⟩ := hrel
  have HQ := Lib.hid hq
  clear hq
  by_cases hlt : j < Ks.length
  ·obtain ⟨B, ob, rfl, hrb, hde⟩ := (hEK.kept hbw).at hlt
   have rj := hrb j hlt
   have rkr := rangeAt_kept rk hbw
   have hdr := hdf.kept hbw
   have hse := HSK.out _ (List.getElem_mem hlt)
   have hmem : Ks[j].1 ∈ evsOf Ks := List.mem_map_of_mem (List.getElem_mem hlt)
   have HLT := Lib.hid hlt
   clear hrb
   generalize Ks[j] = x at *
   obtain ⟨e, ax, cx⟩ := x
   simp only [itEv] at rj
   simp only at hde hse hmem
   have hS0 := fun (X : World) (h1 : DotsIn X ax e.over) (h2 : DotsIn X ay f.over) => rSameEv_any e f ax ay cx cy X (by have := hse.over; omega) (by have := HF9.out.over; omega) h1 h2
   have HM := Lib.hid hmem
   clear hmem hse
   cases q with
   | true =>
     go_upto_region 5 with fail
     refine wp_region_after (by kernel_rfl) (by kernel_rfl) (fun WA hWA => ?_)
     have hbA : Below wr.heap.size wr WA := by rw [hWA.out]; go_grown
     clear hWA
     iterate 13 go_big_quiet_step (fail)
     refine wpQuiet_nil ?_
     first
      | rintro _ ⟨i, rfl⟩
      | intro i
     have hiA := i.h
     generalize i.w = W2 at hiA ⊢
     have hbW2 : Below wr.heap.size wr W2 := below2 hbA hiA
     clear hbA hiA 
     have hbZ := hbw.trans (hbW2.mono hbw.size)
     clear hbW2 hbw rj rkr hde hdr hS0
     go_wp2
     go_roundw
     case rel => exact ⟨j + 1, true, by go_num, HLT.out, rfl, HQ.out, hbZ⟩
     case measure => have := HLT.out; simp [intOf] <;> omega
   | false =>
     have HS := Lib.hid hS0
     clear hS0
     go_upto_region 5 with fail
     refine wp_region_after (by kernel_rfl) (by kernel_rfl) (fun WA hWA => ?_)
     have hbA : Below wr.heap.size wr WA := by rw [hWA.out]; go_grown
     have RA := rangeAt_kept rj hbA
     have RB := rangeAt_kept rkr hbA
     have de := hde.kept hbA
     have df := hdr.kept hbA
     clear hWA
     iterate 5 go_big_quiet_step (fail)
     ((with_reducible refine wpQuiet_load_evo _ B (ob + j * 19) e ax cx RA ?_ rfl ?_); exact rfl; go_simp)
     iterate 3 go_big_quiet_step (fail)
     ((with_reducible refine wpQuiet_load_evo _ A (off + k * 19) f ay cy RB ?_ rfl ?_); exact rfl; go_simp)
     go_big_quiet_step (exact Calls.after (HS.out _ (de.kept (After.h _)) (df.kept (After.h _))))
     iterate 2 go_big_quiet_step (fail)
     refine wpQuiet_nil ?_
     first
      | rintro _ ⟨i, rfl⟩
      | intro i
     have hiA := i.h
     generalize i.w = W2 at hiA ⊢
     have hbW2 : Below wr.heap.size wr W2 := below2 hbA hiA
     clear hbA hiA 
     have hbZ := hbw.trans (hbW2.mono hbw.size)
     have HQ2 : Hid (decide (e = f) = true → f ∈ evsOf Ks) := fun h => by rw [← of_decide_eq_true h]; exact HM.out
     generalize decide (e = f) = q2 at *
     clear hbW2 hbw rj rkr hde hdr HS
     go_wp2
     go_roundw
     case rel => exact ⟨j + 1, q2, by go_num, HLT.out, rfl, HQ2.out, hbZ⟩
     case measure => have := HLT.out; simp [intOf] <;> omega
  ·obtain rfl : j = Ks.length := by omega
   have hE2 := hE.kept hbw
   have HBW := Lib.hid hbw
   obtain ⟨W1, hW1⟩ : ∃ W1, W1 = wr := ⟨_, rfl⟩
   rw [← hW1] at hE2 HBW ⊢
   have rk2 : W1.rangeAt A (off + k * 19) (evCells f ay cy) := by rw [hW1]; exact rangeAt_kept rk hbw
   clear hW1 hbw rk hdf hEK hE
   go_wp2
   go_loopw [7, 9] (fun u i wr => ∃ (j : Nat) (q : Bool), i = .int .i64 j ∧ j ≤ k ∧ u = .bool q ∧ (q = true → f ∈ evsOf Ks) ∧ Below W1.heap.size W1 wr) (fun _ i _ => k - (intOf i).toNat)
   case atStart => exact ⟨0, q, rfl, Nat.zero_le _, rfl, HQ.out, Below.refl _ _⟩
   case round =>
        obtain ⟨j, q, rfl, hj, rfl, hq, hbr⟩ := hrel
        have HQ2 := Lib.hid hq
        clear hq HQ
        by_cases hlt : j < k
        ·obtain ⟨A2, of2, hA2, hrb, _⟩ := (hE2.kept hbr).at (Nat.lt_trans hlt HKT.out)
         have hjl : j < ls.length := Nat.lt_trans hlt HKT.out
         have rj := hrb j hjl
         obtain ⟨rfl, rfl⟩ : A = A2 ∧ off = of2 := by
          simp only [Option.some.injEq, Addr.mk.injEq, and_true] at hA2
          exact hA2
         have rkr := rangeAt_kept rk2 hbr
         have HLT := Lib.hid hlt
         clear hrb hA2
         generalize ls[j] = x at *
         obtain ⟨e, ax, cx⟩ := x
         simp only [itEv] at rj
         cases q with
         | false =>
           go_upto_region 9 with fail
           refine wp_region_after (by kernel_rfl) (by kernel_rfl) (fun WA hWA => ?_)
           have hbA : Below wr.heap.size wr WA := by rw [hWA.out]; go_grown
           clear hWA
           iterate 15 go_big_quiet_step (fail)
           refine wpQuiet_nil ?_
           first
            | rintro _ ⟨i, rfl⟩
            | intro i
           have hiA := i.h
           generalize i.w = W2 at hiA ⊢
           have hbW2 : Below wr.heap.size wr W2 := below2 hbA hiA
           clear hbA hiA 
           have hbZ := hbr.trans (hbW2.mono hbr.size)
           clear hbW2 hbr rj rkr
           go_wp2
           go_roundw
           case rel => exact ⟨j + 1, false, by go_num, HLT.out, rfl, (fun h => by cases h), hbZ⟩
           case measure => have := HLT.out; simp [intOf] <;> omega
         | true =>
           have c0 := rj 0 _ rfl
           have c1 := rj 1 _ rfl
           have c2 := rj 2 _ rfl
           have d0 := rkr 0 _ rfl
           have d1 := rkr 1 _ rfl
           have d2 := rkr 2 _ rfl
           simp only [Nat.add_zero] at c0 d0
           have hEq := fun (W : World) => eqDot W 9997 e.dot f.dot
           have hm := noGuardDot
           generalize decide (e.dot = f.dot) = dd at *
           go_upto_region 9 with fail
           refine wp_region_after (by kernel_rfl) (by kernel_rfl) (fun WA hWA => ?_)
           have hbA : Below wr.heap.size wr WA := by rw [hWA.out]; go_grown
           have pc0 : ∀ i : After WA, i.w.cell? ⟨A, off + j * 19, none⟩ = some (.int .i64 e.dot.a.dev) := fun i => i.cell (kept hbA c0)
           have pc1 : ∀ i : After WA, i.w.cell? ⟨A, off + j * 19 + 1, none⟩ = some (.int .i64 e.dot.a.inc) := fun i => i.cell (kept hbA c1)
           have pc2 : ∀ i : After WA, i.w.cell? ⟨A, off + j * 19 + 2, none⟩ = some (.int .i64 e.dot.seq) := fun i => i.cell (kept hbA c2)
           have pd0 : ∀ i : After WA, i.w.cell? ⟨A, off + k * 19, none⟩ = some (.int .i64 f.dot.a.dev) := fun i => i.cell (kept hbA d0)
           have pd1 : ∀ i : After WA, i.w.cell? ⟨A, off + k * 19 + 1, none⟩ = some (.int .i64 f.dot.a.inc) := fun i => i.cell (kept hbA d1)
           have pd2 : ∀ i : After WA, i.w.cell? ⟨A, off + k * 19 + 2, none⟩ = some (.int .i64 f.dot.seq) := fun i => i.cell (kept hbA d2)
           clear hWA
           iterate 15 go_big_quiet_step (fail)
           refine wpQuiet_nil ?_
           first
            | rintro _ ⟨i, rfl⟩
            | intro i
           have hiA := i.h
           generalize i.w = W2 at hiA ⊢
           have hbW2 : Below wr.heap.size wr W2 := below2 hbA hiA
           clear hbA hiA pc0 pc1 pc2 pd0 pd1 pd2
           have hbZ := hbr.trans (hbW2.mono hbr.size)
           clear hbW2 hbr rj rkr hEq hm c0 c1 c2 d0 d1 d2
           go_wp2
           go_roundw
           case rel => exact ⟨j + 1, !dd, by go_num, HLT.out, rfl, fun _ => HQ2.out rfl, hbZ⟩
           case measure => have := HLT.out; simp [intOf] <;> omega
        ·obtain rfl : j = k := by omega
         go_wp2
         go_ret
         exact ⟨q, rfl, HQ2.out, HBW.out.trans (hbr.mono HBW.out.size)⟩
theorem tmod3 (n : Int) : -2 ≤ n.tmod 3 ∧ n.tmod 3 ≤ 2 := by
 rcases Int.natAbs_eq n with h | h
 ·rw [h]
  show -2 ≤ ((n.natAbs % 3 : Nat) : Int) ∧ ((n.natAbs % 3 : Nat) : Int) ≤ 2
  omega
 ·rw [h, Int.neg_tmod]
  show -2 ≤ -((n.natAbs % 3 : Nat) : Int) ∧ -((n.natAbs % 3 : Nat) : Int) ≤ 2
  omega
/-- what lies neither in an empty block nor in one of three zeros -/
theorem evsIn_off {w w' : World} {a : Option Addr} {ls : List EvIt} {B1 B2 : Nat} {t1 t2 : TypeId} {f1 f2 : Nat × Nat} (h : EvsIn w a ls) (hok : ∀ x ∈ ls, ∀ d ∈ x.1.over, dotOk d = true) (h1 : w.heap[B1]? = some (.cells #[] t1 f1)) (h2 : w.heap[B2]? = some (.cells #[.int .i64 0, .int .i64 0, .int .i64 0] t2 f2)) (hf : Fr (fun k => k = B1 ∨ k = B2) w w') : EvsIn w' a ls := by
 have hn1 : ∀ (A o : Nat) (v : Value), w.cell? ⟨A, o, none⟩ = some v → A ≠ B1 := fun A o v hv e => by
  subst e
  simp [World.cell?, h1] at hv
 refine ⟨?_, fun x hx => ?_⟩
 ·rcases h.rows with h0 | ⟨A, off, e, hr⟩
  ·exact Or.inl h0
  ·by_cases h0 : ls = []
   ·exact Or.inl h0
   ·have hl : 0 < ls.length := List.length_pos_iff.2 h0
    have c7 : w.cell? ⟨A, off + 0 * 19 + 7, none⟩ = some (.string ls[0].1.key.name) := hr 0 hl 7 _ rfl
    have hA1 := hn1 _ _ _ c7
    have hA2 : A ≠ B2 := fun e2 => by
     subst e2
     simp [World.cell?, h2] at c7
    exact Or.inr ⟨A, off, e, fun i hi j v hv => hf.kept (hr i hi j v hv) (fun h9 => h9.elim hA1 hA2)⟩
 ·rcases h.dots x hx with h0 | ⟨A, off, e, hd⟩
  ·exact Or.inl h0
  ·by_cases h0 : x.1.over = []
   ·exact Or.inl h0
   ·have hl : 0 < x.1.over.length := List.length_pos_iff.2 h0
    have c2 := hd.seq 0 hl
    have hA1 := hn1 _ _ _ c2
    have hA2 : A ≠ B2 := fun e2 => by
     subst e2
     have h8 := hok x hx _ (List.getElem_mem hl)
     unfold dotOk at h8
     simp only [Bool.and_eq_true, decide_eq_true_eq] at h8
     simp only [World.cell?, h2] at c2
     simp at c2
     obtain ⟨h9, h10⟩ := List.getElem?_eq_some_iff.1 c2
     have : off = 0 := by simpa using h9
     subst this
     simp at h10
     omega
    exact Or.inr ⟨A, off, e, ⟨fun i hi => hf.kept (hd.dev i hi) (fun h9 => h9.elim hA1 hA2), fun i hi => hf.kept (hd.inc i hi) (fun h9 => h9.elim hA1 hA2), fun i hi => hf.kept (hd.seq i hi) (fun h9 => h9.elim hA1 hA2)⟩⟩
/-- a round of choice -/
structure ChAt (w w3 wr : World) (ls : List EvIt) (F : List Ev) (n0 n1 n2 : UInt8) (u : Value) (j : Nat) (ds : List EvIt) (m0 m1 m2 : Int) : Prop where
 own : wr.ownsRow (w.heap.size + 1) 43 19 u ds.length (evItCells ds)
 ob : ∀ g, u.ownBlock = some g → g = w.heap.size + 1 ∨ w3.heap.size ≤ g
 mem : ∀ x ∈ ds, x ∈ ls ∧ x.1 ∈ F
 len : ds.length ≤ j
 met : wr.heap[w.heap.size + 2]? = some (.cells #[.int .i64 m0, .int .i64 m1, .int .i64 m2] 133 (0, 0))
 rng : (0 ≤ m0 ∧ m0 ≤ j) ∧ (0 ≤ m1 ∧ m1 ≤ j) ∧ 0 ≤ m2 ∧ m2 ≤ j
 arr : wr.heap[w.heap.size]? = some (.cells #[.int .u8 n0.toNat, .int .u8 n1.toNat, .int .u8 n2.toNat] 78 (0, 0))
 fr : Fr (fun k => k = w.heap.size + 1 ∨ k = w.heap.size + 2) w3 wr
 below : Below w.heap.size w wr
 up : w.heap.size + 3 ≤ w3.heap.size
section
variable {w w3 wr wr' : World} {ls ds : List EvIt} {F : List Ev} {n0 n1 n2 : UInt8} {u : Value} {j : Nat} {m0 m1 m2 : Int}
theorem ChAt.kept (h : ChAt w w3 wr ls F n0 n1 n2 u j ds m0 m1 m2) (hb : Below wr.heap.size wr wr') : ChAt w w3 wr' ls F n0 n1 n2 u j ds m0 m1 m2 :=
 ⟨ownsRow_below h.own hb, h.ob, h.mem, h.len, (hb.block _ (lt_of_block h.met)).trans h.met, h.rng, (hb.block _ (lt_of_block h.arr)).trans h.arr, h.fr.again (Fr.of_below hb), h.below.trans (hb.mono h.below.size), h.up⟩
theorem ChAt.next (h : ChAt w w3 wr ls F n0 n1 n2 u j ds m0 m1 m2) : ChAt w w3 wr ls F n0 n1 n2 u (j + 1) ds m0 m1 m2 :=
 ⟨h.own, h.ob, h.mem, Nat.le_succ_of_le h.len, h.met, by have := h.rng; omega, h.arr, h.fr, h.below, h.up⟩
theorem ChAt.app {v' : Value} {x : EvIt} (h : ChAt w w3 wr ls F n0 n1 n2 u j ds m0 m1 m2) (h3 : w3.heap.size ≤ wr.heap.size) (hx : x ∈ ls) (hF : x.1 ∈ F) (hal : Below wr.heap.size wr wr') {wf : World} (hown : wf.ownsRow (w.heap.size + 1) 43 19 v' (ds.length + 1) (evItCells ds ++ itEv x)) (hg : wr'.grownBy wf u.ownBlock) (hat : v'.ownBlock = u.ownBlock ∨ v'.ownBlock = some wr'.heap.size) :
 ∀ k', j + 1 ≤ k' → ChAt w w3 wf ls F n0 n1 n2 v' k' (ds ++ [x]) m0 m1 m2 := fun k' hk' => by
 have hne : ∀ (B : Nat) (cs : Array Value) (t : TypeId), wr'.heap[B]? = some (.cells cs t (0, 0)) → t ≠ 43 → wf.heap[B]? = wr'.heap[B]? := fun B cs t hB ht => hg.block B (lt_of_block hB) (fun e => by
  have h9 := ownsRow_below h.own hal
  rcases h9.2 with ⟨rfl, _⟩ | ⟨g, cap, cur, rfl, _, hgb, _⟩
  ·simp [Value.ownBlock] at e
  ·obtain rfl : B = g := by simpa [Value.ownBlock] using e
   rw [hB] at hgb
   simp only [Option.some.injEq, Obj.cells.injEq] at hgb
   exact ht hgb.2.1)
 have hk := h.kept hal
 refine ⟨by rw [List.length_append, evItCells_snoc]; exact hown, fun g hgb => ?_, fun y hy => ?_, by rw [List.length_append]; have := h.len; simp; omega, (hne _ _ _ hk.met (by decide)).trans hk.met, by have := h.rng; omega, (hne _ _ _ hk.arr (by decide)).trans hk.arr, ?_, ?_, h.up⟩
 ·rcases hat with h9 | h9
  ·rw [h9] at hgb
   exact h.ob g hgb
  ·rw [h9] at hgb
   simp only [Option.some.injEq] at hgb
   have := hal.size
   exact Or.inr (by omega)
 ·rcases List.mem_append.1 hy with hy | hy
  ·exact h.mem y hy
  ·rw [List.mem_singleton.1 hy]
   exact ⟨hx, hF⟩
 ·refine ⟨hg.os.trans hk.fr.os, hg.tape.trans hk.fr.tape, hg.output.trans hk.fr.output, Nat.le_trans hk.fr.size hg.size, fun i hi hs => ?_⟩
  refine (hg.block i (Nat.lt_of_lt_of_le hi hk.fr.size) (fun e => ?_)).trans (hk.fr.block i hi hs)
  rcases h.ob i e.symm with h9 | h9
  ·exact hs (Or.inl h9)
  ·omega
 ·refine hk.below.grown hg (Nat.le_trans h.below.size hal.size) (fun i hi => ?_)
  rcases h.ob i hi with h9 | h9
  ·omega
  ·have := h.up
   omega
end
theorem ChAt.met0 {w w3 wr : World} {ls ds : List EvIt} {F : List Ev} {n0 n1 n2 : UInt8} {u : Value} {j : Nat} {m0 m1 m2 : Int} (h : ChAt w w3 wr ls F n0 n1 n2 u j ds m0 m1 m2) (hd : ds.length ≤ j + 1) : ChAt w w3 (wr.setCell ⟨w.heap.size + 2, 0, none⟩ (.int .i64 (m0 + 1))) ls F n0 n1 n2 u (j + 1) ds (m0 + 1) (m1) (m2) := by
 have hf : Fr (fun k => k = w.heap.size + 1 ∨ k = w.heap.size + 2) wr (wr.setCell ⟨w.heap.size + 2, 0, none⟩ (.int .i64 (m0 + 1))) := ⟨rfl, rfl, rfl, by simp [World.setCell], fun i _ hs => heap_setCell_other _ _ _ _ (fun e => hs (Or.inr e.symm))⟩
 have hne : ∀ B, B ≠ w.heap.size + 2 → (wr.setCell ⟨w.heap.size + 2, 0, none⟩ (.int .i64 (m0 + 1))).heap[B]? = wr.heap[B]? := fun B hB => heap_setCell_other _ _ _ _ (fun e => hB e.symm)
 refine ⟨?_, h.ob, h.mem, hd, ?_, by have := h.rng; omega, (hne _ (by omega)).trans h.arr, h.fr.again hf, h.below.setCell (by show w.heap.size ≤ w.heap.size + 2; omega) _, h.up⟩
 ·refine ⟨h.own.1, ?_⟩
  rcases h.own.2 with h9 | ⟨g, cap, cur, h1, h2, h3, h4⟩
  ·exact Or.inl h9
  ·refine Or.inr ⟨g, cap, cur, h1, h2, (hne g (fun e => ?_)).trans h3, h4⟩
   rw [e, h.met] at h3
   simp only [Option.some.injEq, Obj.cells.injEq] at h3
   exact absurd h3.2.1 (by decide)
 ·simp [World.setCell, Array.getElem?_modify, h.met]
theorem ChAt.met1 {w w3 wr : World} {ls ds : List EvIt} {F : List Ev} {n0 n1 n2 : UInt8} {u : Value} {j : Nat} {m0 m1 m2 : Int} (h : ChAt w w3 wr ls F n0 n1 n2 u j ds m0 m1 m2) (hd : ds.length ≤ j + 1) : ChAt w w3 (wr.setCell ⟨w.heap.size + 2, 1, none⟩ (.int .i64 (m1 + 1))) ls F n0 n1 n2 u (j + 1) ds (m0) (m1 + 1) (m2) := by
 have hf : Fr (fun k => k = w.heap.size + 1 ∨ k = w.heap.size + 2) wr (wr.setCell ⟨w.heap.size + 2, 1, none⟩ (.int .i64 (m1 + 1))) := ⟨rfl, rfl, rfl, by simp [World.setCell], fun i _ hs => heap_setCell_other _ _ _ _ (fun e => hs (Or.inr e.symm))⟩
 have hne : ∀ B, B ≠ w.heap.size + 2 → (wr.setCell ⟨w.heap.size + 2, 1, none⟩ (.int .i64 (m1 + 1))).heap[B]? = wr.heap[B]? := fun B hB => heap_setCell_other _ _ _ _ (fun e => hB e.symm)
 refine ⟨?_, h.ob, h.mem, hd, ?_, by have := h.rng; omega, (hne _ (by omega)).trans h.arr, h.fr.again hf, h.below.setCell (by show w.heap.size ≤ w.heap.size + 2; omega) _, h.up⟩
 ·refine ⟨h.own.1, ?_⟩
  rcases h.own.2 with h9 | ⟨g, cap, cur, h1, h2, h3, h4⟩
  ·exact Or.inl h9
  ·refine Or.inr ⟨g, cap, cur, h1, h2, (hne g (fun e => ?_)).trans h3, h4⟩
   rw [e, h.met] at h3
   simp only [Option.some.injEq, Obj.cells.injEq] at h3
   exact absurd h3.2.1 (by decide)
 ·simp [World.setCell, Array.getElem?_modify, h.met]
theorem ChAt.met2 {w w3 wr : World} {ls ds : List EvIt} {F : List Ev} {n0 n1 n2 : UInt8} {u : Value} {j : Nat} {m0 m1 m2 : Int} (h : ChAt w w3 wr ls F n0 n1 n2 u j ds m0 m1 m2) (hd : ds.length ≤ j + 1) : ChAt w w3 (wr.setCell ⟨w.heap.size + 2, 2, none⟩ (.int .i64 (m2 + 1))) ls F n0 n1 n2 u (j + 1) ds (m0) (m1) (m2 + 1) := by
 have hf : Fr (fun k => k = w.heap.size + 1 ∨ k = w.heap.size + 2) wr (wr.setCell ⟨w.heap.size + 2, 2, none⟩ (.int .i64 (m2 + 1))) := ⟨rfl, rfl, rfl, by simp [World.setCell], fun i _ hs => heap_setCell_other _ _ _ _ (fun e => hs (Or.inr e.symm))⟩
 have hne : ∀ B, B ≠ w.heap.size + 2 → (wr.setCell ⟨w.heap.size + 2, 2, none⟩ (.int .i64 (m2 + 1))).heap[B]? = wr.heap[B]? := fun B hB => heap_setCell_other _ _ _ _ (fun e => hB e.symm)
 refine ⟨?_, h.ob, h.mem, hd, ?_, by have := h.rng; omega, (hne _ (by omega)).trans h.arr, h.fr.again hf, h.below.setCell (by show w.heap.size ≤ w.heap.size + 2; omega) _, h.up⟩
 ·refine ⟨h.own.1, ?_⟩
  rcases h.own.2 with h9 | ⟨g, cap, cur, h1, h2, h3, h4⟩
  ·exact Or.inl h9
  ·refine Or.inr ⟨g, cap, cur, h1, h2, (hne g (fun e => ?_)).trans h3, h4⟩
   rw [e, h.met] at h3
   simp only [Option.some.injEq, Obj.cells.injEq] at h3
   exact absurd h3.2.1 (by decide)
 ·simp [World.setCell, Array.getElem?_modify, h.met]
theorem ChAt.met0' {w w3 wr : World} {ls ds : List EvIt} {F : List Ev} {n0 n1 n2 : UInt8} {u : Value} {j : Nat} {m0 m1 m2 : Int} (h : ChAt w w3 wr ls F n0 n1 n2 u (j + 1) ds m0 m1 m2) (hm : m0 ≤ j) : ChAt w w3 (wr.setCell ⟨w.heap.size + 2, 0, none⟩ (.int .i64 (m0 + 1))) ls F n0 n1 n2 u (j + 1) ds (m0 + 1) m1 m2 := by
 have h2 := h.met0 (Nat.le_succ_of_le h.len)
 refine ⟨h2.own, h2.ob, h2.mem, h.len, h2.met, ?_, h2.arr, h2.fr, h2.below, h2.up⟩
 have := h.rng
 omega
theorem ChAt.met1' {w w3 wr : World} {ls ds : List EvIt} {F : List Ev} {n0 n1 n2 : UInt8} {u : Value} {j : Nat} {m0 m1 m2 : Int} (h : ChAt w w3 wr ls F n0 n1 n2 u (j + 1) ds m0 m1 m2) (hm : m1 ≤ j) : ChAt w w3 (wr.setCell ⟨w.heap.size + 2, 1, none⟩ (.int .i64 (m1 + 1))) ls F n0 n1 n2 u (j + 1) ds m0 (m1 + 1) m2 := by
 have h2 := h.met1 (Nat.le_succ_of_le h.len)
 refine ⟨h2.own, h2.ob, h2.mem, h.len, h2.met, ?_, h2.arr, h2.fr, h2.below, h2.up⟩
 have := h.rng
 omega
theorem ChAt.met2' {w w3 wr : World} {ls ds : List EvIt} {F : List Ev} {n0 n1 n2 : UInt8} {u : Value} {j : Nat} {m0 m1 m2 : Int} (h : ChAt w w3 wr ls F n0 n1 n2 u (j + 1) ds m0 m1 m2) (hm : m2 ≤ j) : ChAt w w3 (wr.setCell ⟨w.heap.size + 2, 2, none⟩ (.int .i64 (m2 + 1))) ls F n0 n1 n2 u (j + 1) ds m0 m1 (m2 + 1) := by
 have h2 := h.met2 (Nat.le_succ_of_le h.len)
 refine ⟨h2.own, h2.ob, h2.mem, h.len, h2.met, ?_, h2.arr, h2.fr, h2.below, h2.up⟩
 have := h.rng
 omega
theorem choice22_any (a : Option Addr) (ca : Nat) (ls : List EvIt) (n0 n1 n2 : UInt8) (w : World) (hl : ls.length ≤ 30) (hE : EvsIn w a ls) (hsl : EvsSmall ls) :
 Calls Tryz.prog 46 #[.slice a ls.length ca, .agg #[.int .u8 n0.toNat, .int .u8 n1.toNat, .int .u8 n2.toNat]] w fun x w' => ∃ a' ds c', x = .returned (.slice a' ds.length c') ∧ EvsIn w' a' ds ∧ ((∀ x ∈ ds, x ∈ ls ∧ x.1 ∈ ((evsOf ls).foldl rmAp RM.empty).kept) ∧ ds.length ≤ ls.length) ∧ Below w.heap.size w w' := by
 obtain ⟨i0, hiE, hz0, hz1, hz2⟩ := info_parts Tryz.infoEv
 have HFo := Lib.hid (fun (X : World) (h : EvsIn X a ls) => rFold_any a ca ls X (by omega) h hsl)
 have hgood := RMGood.empty.fold (evsOf ls)
 have hpure := Pure.empty.fold (evsOf ls)
 have hfrom := fold_from (evsOf ls) RM.empty
 rw [Nat.zero_add, evsOf_length] at hgood
 obtain ⟨FR, hFR⟩ : ∃ FR, FR = (evsOf ls).foldl rmAp RM.empty := ⟨_, rfl⟩
 rw [← hFR] at hgood hpure hfrom ⊢
 have HFR := Lib.hid hFR
 have HHS := Lib.hid hsl
 have HG9 := Lib.hid (And.intro hgood (And.intro hpure hfrom))
 clear hFR hgood hpure hfrom hsl
 have hfd : ∀ (y : RMIt) (w : World), (Instr.field 31 (rmVal y) 1).run Tryz.prog w = .ok (.slice y.aK y.K.length y.cK) w := fun _ _ => by kernel_rfl
 go_enter Tryz.func46, Tryz.ntmps46
 go_upto_region 3 with fail
 refine wp_name (fun W0 hW0 => ?_)
 have hb0 : Below w.heap.size w W0 := by rw [hW0.out]; go_grown
 have hz9 : W0.heap.size = w.heap.size + 3 := by rw [hW0.out]; simp
 have harr : W0.heap[w.heap.size]? = some (.cells #[.int .u8 n0.toNat, .int .u8 n1.toNat, .int .u8 n2.toNat] 78 (0, 0)) := by
  rw [hW0.out, Below.heap_alloc _ _ _ (by simp; omega), Below.heap_alloc _ _ _ (by simp)]
  exact heap_last0 _ _
 have hemp : W0.heap[w.heap.size + 1]? = some (.cells #[] 43 (0, 0)) := by
  rw [hW0.out, Below.heap_alloc _ _ _ (by simp)]
  exact heap_last1 _ _ _
 have hmet : W0.heap[w.heap.size + 2]? = some (.cells #[.int .i64 0, .int .i64 0, .int .i64 0] 133 (0, 0)) := by
  rw [hW0.out]
  have h9 := heap_last0 ((w.alloc (Obj.cells #[.int .u8 n0.toNat, .int .u8 n1.toNat, .int .u8 n2.toNat] 78)).alloc (Obj.cells #[] 43)) (Obj.cells #[.int .i64 0, .int .i64 0, .int .i64 0] 133)
  simpa using h9
 have hown0 : W0.ownsRow (w.heap.size + 1) 43 19 (.slice (some ⟨w.heap.size + 1, 0, none⟩) 0 0) 0 [] := ⟨rfl, Or.inr ⟨w.heap.size + 1, 0, #[], rfl, Nat.le_refl _, hemp, Nat.le_refl _, by decide, rfl, rfl⟩⟩
 have hE0 := hE.kept hb0
 clear hW0
 go_upto_region 4 with (go_at_call 88; (with_reducible refine (HFo.out _ hE0).mono ?_); rintro x w3 ⟨y, rfl, hIn, hy, hb3⟩)
 have hb03 := hb0.trans (hb3.mono hb0.size)
 have hz3 := hb3.size
 have hFRy : FR = y.rm := HFR.out.trans hy.symm
 have hKl : y.K.length ≤ 4096 := by have h9 := HG9.out.1.kept; rw [hFRy, show y.rm.kept = evsOf y.K from rfl, evsOf_length] at h9; omega
 have hKs : EvsSmall y.K := fun z hz => by
  have h9 : z.1 ∈ FR.kept := by rw [hFRy]; exact List.mem_map_of_mem hz
  rcases HG9.out.2.2 _ h9 with h8 | h8
  ·exact absurd h8 List.not_mem_nil
  ·obtain ⟨v, hv, e⟩ := List.mem_map.1 h8
   rw [← e]
   exact HHS.out v hv
 have hKo : ∀ z ∈ y.K, ∀ d ∈ z.1.over, dotOk d = true := fun z hz d hd => by
  have h9 : z.1 ∈ FR.kept := by rw [hFRy]; exact List.mem_map_of_mem hz
  exact (evOk_parts (HG9.out.2.1.ok _ h9)).2.1 d hd
 have hCh0 : ChAt w w3 w3 ls FR.kept n0 n1 n2 (.slice (some ⟨w.heap.size + 1, 0, none⟩) 0 0) 0 [] 0 0 0 :=
  ⟨ownsRow_below hown0 hb3, fun g hg => Or.inl (by simpa [Value.ownBlock] using hg.symm), fun x hx => absurd hx List.not_mem_nil, Nat.le_refl _, (hb3.block _ (lt_of_block hmet)).trans hmet, ⟨⟨by decide, by decide⟩, ⟨by decide, by decide⟩, by decide, by decide⟩, (hb3.block _ (lt_of_block harr)).trans harr, Fr.refl _ _, hb03, by omega⟩
 have HCh0 := Lib.hid hCh0
 have HF3 := Lib.hid (And.intro hIn.kept (And.intro hKo (And.intro ((hb3.block _ (lt_of_block hemp)).trans hemp) ((hb3.block _ (lt_of_block hmet)).trans hmet))))
 have HFi := Lib.hid (fun (X : World) (j : Nat) (hj : j < ls.length) (h1 : EvsIn X y.aK y.K) (h2 : EvsIn X a ls) => first22_any y.aK a y.cK ca y.K ls j hj X hKl (by omega) h1 h2 hKs HHS.out)
 have HEF : Hid (evsOf y.K = FR.kept) := by unfold Hid; rw [hFRy]; rfl
 clear hown0 hmet hemp harr hE0 hb3 hb03 hIn hy hFRy hKl hKs hKo hCh0 HFo hb0 hfd
 generalize y.aK = aK at *
 generalize y.K = Ks at *
 generalize y.cK = cK at *
 go_wp2
 go_loopw [5, 8] (fun u i wr => ∃ (j : Nat) (ds : List EvIt) (m0 m1 m2 : Int), i = .int .i64 j ∧ j ≤ ls.length ∧ ChAt w w3 wr ls FR.kept n0 n1 n2 u j ds m0 m1 m2) (fun _ i _ => ls.length - (intOf i).toNat)
 case atStart => exact ⟨0, [], 0, 0, 0, rfl, Nat.zero_le _, HCh0.out⟩
 case round =>
  obtain ⟨j, ds, m0, m1, m2, rfl, hj, hC⟩ := hrel
  obtain ⟨u, hu⟩ : ∃ u, u = u5 := ⟨_, rfl⟩
  rw [← hu] at hC ⊢
  clear hu
  have HC := Lib.hid hC
  have hw3 := hC.fr.size
  by_cases hlt : j < ls.length
  ·have hEr := hE.kept hC.below
   have hEK := evsIn_off HF3.out.1 HF3.out.2.1 HF3.out.2.2.1 HF3.out.2.2.2 hC.fr
   have HF1 := Lib.hid (HFi.out wr j hlt hEK hEr)
   obtain ⟨A, off, rfl, hra, hda⟩ := hEr.at hlt
   have r1 := hra j hlt
   have HX : Hid (ls[j] ∈ ls) := List.getElem_mem hlt
   have HLT := Lib.hid hlt
   clear hra hEr hEK hC
   generalize ls[j] = x at *
   obtain ⟨e, ax, cx⟩ := x
   simp only [itEv] at r1
   simp only at hda HF1
   have c0 : wr.cell? ⟨A, off + j * 19, none⟩ = some (.int .i64 e.dot.a.dev) := r1 0 _ rfl
   obtain ⟨hq1, hq2⟩ := tmod3 e.dot.a.dev
   obtain ⟨q, hq⟩ : ∃ q, q = e.dot.a.dev.tmod 3 := ⟨_, rfl⟩
   have hwq : IntKind.i64.wrap q = q := IntWalk.i64_in _ (by omega)
   rw [← hq] at hq1 hq2
   go_upto_region 8 with fail
   rw [← hq]
   try rw [hwq]
   clear hq hwq
   by_cases hneg : q < 0
   ·have hb : decide (q < 0) = true := decide_eq_true hneg
    clear hneg HF1 r1 hda c0
    go_wp2
    go_roundw
    case rel => exact ⟨j + 1, ds, m0, m1, m2, by go_num, HLT.out, HC.out.next⟩
    case measure => have := HLT.out; simp [intOf] <;> omega
   ·have hb : decide (q < 0) = false := decide_eq_false hneg
    obtain rfl | rfl | rfl : q = 0 ∨ q = 1 ∨ q = 2 := by omega
    ·clear hq1 hq2 hneg hb c0
     go_wp2_with (go_at_call 100; (with_reducible refine HF1.out.mono ?_); rintro v w5 ⟨fb, rfl, hfb, hb5⟩; cases fb)
     ·have HZ := Lib.hid (HC.out.kept hb5).next
      clear hb5 hfb r1 HF1
      go_roundw
      case rel => exact ⟨j + 1, ds, m0, m1, m2, by go_num, HLT.out, HZ.out⟩
      case measure => have := HLT.out; simp [intOf] <;> omega
     ·have hxF : e ∈ FR.kept := by rw [← HEF.out]; exact hfb (by first | trivial | rfl)
      have HZ := Lib.hid (HC.out.kept hb5)
      have R5 := rangeAt_kept r1 hb5
      have hw5 := Nat.le_trans hw3 hb5.size
      clear r1 hfb hb5 HF1 HC hw3
      obtain ⟨g0, g1, g2⟩ := cells3_of HZ.out.met
      obtain ⟨p0, p1, p2⟩ := cells3_of HZ.out.arr
      have hgf : w5.frozen? ⟨w.heap.size + 2, 0, none⟩ = false := by simp [World.frozen?, HZ.out.met]
      have hnw : IntKind.i64.wrap (n0.toNat : Int) = (n0.toNat : Int) := by have : n0.toNat < 256 := UInt8.toNat_lt _; exact IntWalk.i64_in _ (by omega)
      have hmw : IntKind.i64.wrap (m0 + 1) = m0 + 1 := by have := HZ.out.rng; exact IntWalk.i64_in _ (by omega)
      refine wp_region_after (by kernel_rfl) (by kernel_rfl) (fun WA hWA => ?_)
      have hbA : Below w5.heap.size w5 WA := by rw [hWA.out]; go_grown
      have pg0 : ∀ i : After WA, i.w.cell? ⟨w.heap.size + 2, 0, none⟩ = some (.int .i64 m0) := fun i => i.cell (kept hbA g0)
      have pg1 : ∀ i : After WA, i.w.cell? ⟨w.heap.size + 2, 1, none⟩ = some (.int .i64 m1) := fun i => i.cell (kept hbA g1)
      have pg2 : ∀ i : After WA, i.w.cell? ⟨w.heap.size + 2, 2, none⟩ = some (.int .i64 m2) := fun i => i.cell (kept hbA g2)
      have pp0 : ∀ i : After WA, i.w.cell? ⟨w.heap.size, 0, none⟩ = some (.int .u8 n0.toNat) := fun i => i.cell (kept hbA p0)
      have pp1 : ∀ i : After WA, i.w.cell? ⟨w.heap.size, 1, none⟩ = some (.int .u8 n1.toNat) := fun i => i.cell (kept hbA p1)
      have pp2 : ∀ i : After WA, i.w.cell? ⟨w.heap.size, 2, none⟩ = some (.int .u8 n2.toNat) := fun i => i.cell (kept hbA p2)
      clear hWA
      iterate 8 go_big_quiet_step (fail)
      refine wpQuiet_nil ?_
      first
       | rintro _ ⟨i, rfl⟩
       | intro i
      have hiA := i.h
      generalize i.w = W6 at hiA ⊢
      have hbW6 : Below w5.heap.size w5 W6 := below2 hbA hiA
      clear hbA hiA pg0 pg1 pg2 pp0 pp1 pp2
      have HZ6 := Lib.hid (HZ.out.kept hbW6)
      have R6 := rangeAt_kept R5 hbW6
      have hw6 := Nat.le_trans hw5 hbW6.size
      obtain ⟨g0, g1, g2⟩ := cells3_of HZ6.out.met
      replace hgf : W6.frozen? ⟨w.heap.size + 2, 0, none⟩ = false := by simp [World.frozen?, HZ6.out.met]
      clear p0 p1 p2 hbW6 R5 hw5 HZ hnw
      cases hl9 : decide (m0 < (n0.toNat : Int)) with
      | false =>
        have HZ9 := Lib.hid (HZ6.out.met0 (Nat.le_succ_of_le HZ6.out.len))
        clear R6
        go_wp2
        go_roundw
        case rel => exact ⟨j + 1, ds, (m0 + 1), m1, m2, by go_num, HLT.out, HZ9.out⟩
        case measure => have := HLT.out; simp [intOf] <;> omega
      | true =>
        have hown6 := HZ6.out.own
        have hlen := HZ6.out.len
        have hww : w.heap.size + 1 ≤ W6.heap.size := by have := HZ6.out.up; omega
        go_upto_region 11 with (first
           | ((with_reducible refine wpList_load_evo _ A (off + j * 19) e ax cx R6 ?_ rfl ?_); exact rfl)
           | (refine wpList_buildOne rfl 28 43 _ rfl (evCells e ax cx).toArray 19 rfl rfl (by decide) (by decide) Tryz.underlying28 (by kernel_rfl) (by kernel_rfl) ?_)
           | (at_builtin; go_loud (refine wpList_append_own_at _ rfl _ _ 28 rfl (w.heap.size + 1) 43 i0 (.agg (evCells ev0 none 0).toArray) 19 176 Tryz.underlying28 hiE hz0 hz1 hz2 rfl (by decide) _ _ _ rfl (hown6.alloc _) ⟨W6.heap.size, 0, none⟩ 1 1 (evCells e ax cx) rfl rfl (evs_new W6 e ax cx _) (evCells_one _ _ _) (by unfold maxLen; omega) (by omega) (by simp; omega) ?_); intro v' wf hownf hgrow _ hat))
        have hal : Below W6.heap.size W6 (W6.alloc (Obj.cells (evCells e ax cx).toArray 43)) := (Below.refl _ _).alloc (Nat.le_refl _) _
        have HZ7 := Lib.hid (HZ6.out.app (x := (e, ax, cx)) hw6 HX.out hxF hal hownf hgrow hat (j + 1) (Nat.le_refl _))
        obtain ⟨g0, g1, g2⟩ := cells3_of HZ7.out.met
        have hgf7 : wf.frozen? ⟨w.heap.size + 2, 0, none⟩ = false := by simp [World.frozen?, HZ7.out.met]
        clear hownf hgrow hat hal hown6 R6 hgf
        have HZ9 := Lib.hid (ChAt.met0' HZ7.out (by have := HZ6.out.rng; omega))
        go_wp2
        go_roundw
        case rel => exact ⟨j + 1, ds ++ [(e, ax, cx)], (m0 + 1), m1, m2, by go_num, HLT.out, HZ9.out⟩
        case measure => have := HLT.out; simp [intOf] <;> omega
    ·clear hq1 hq2 hneg hb c0
     go_wp2_with (go_at_call 100; (with_reducible refine HF1.out.mono ?_); rintro v w5 ⟨fb, rfl, hfb, hb5⟩; cases fb)
     ·have HZ := Lib.hid (HC.out.kept hb5).next
      clear hb5 hfb r1 HF1
      go_roundw
      case rel => exact ⟨j + 1, ds, m0, m1, m2, by go_num, HLT.out, HZ.out⟩
      case measure => have := HLT.out; simp [intOf] <;> omega
     ·have hxF : e ∈ FR.kept := by rw [← HEF.out]; exact hfb (by first | trivial | rfl)
      have HZ := Lib.hid (HC.out.kept hb5)
      have R5 := rangeAt_kept r1 hb5
      have hw5 := Nat.le_trans hw3 hb5.size
      clear r1 hfb hb5 HF1 HC hw3
      obtain ⟨g0, g1, g2⟩ := cells3_of HZ.out.met
      obtain ⟨p0, p1, p2⟩ := cells3_of HZ.out.arr
      have hgf : w5.frozen? ⟨w.heap.size + 2, 1, none⟩ = false := by simp [World.frozen?, HZ.out.met]
      have hnw : IntKind.i64.wrap (n1.toNat : Int) = (n1.toNat : Int) := by have : n1.toNat < 256 := UInt8.toNat_lt _; exact IntWalk.i64_in _ (by omega)
      have hmw : IntKind.i64.wrap (m1 + 1) = m1 + 1 := by have := HZ.out.rng; exact IntWalk.i64_in _ (by omega)
      refine wp_region_after (by kernel_rfl) (by kernel_rfl) (fun WA hWA => ?_)
      have hbA : Below w5.heap.size w5 WA := by rw [hWA.out]; go_grown
      have pg0 : ∀ i : After WA, i.w.cell? ⟨w.heap.size + 2, 0, none⟩ = some (.int .i64 m0) := fun i => i.cell (kept hbA g0)
      have pg1 : ∀ i : After WA, i.w.cell? ⟨w.heap.size + 2, 1, none⟩ = some (.int .i64 m1) := fun i => i.cell (kept hbA g1)
      have pg2 : ∀ i : After WA, i.w.cell? ⟨w.heap.size + 2, 2, none⟩ = some (.int .i64 m2) := fun i => i.cell (kept hbA g2)
      have pp0 : ∀ i : After WA, i.w.cell? ⟨w.heap.size, 0, none⟩ = some (.int .u8 n0.toNat) := fun i => i.cell (kept hbA p0)
      have pp1 : ∀ i : After WA, i.w.cell? ⟨w.heap.size, 1, none⟩ = some (.int .u8 n1.toNat) := fun i => i.cell (kept hbA p1)
      have pp2 : ∀ i : After WA, i.w.cell? ⟨w.heap.size, 2, none⟩ = some (.int .u8 n2.toNat) := fun i => i.cell (kept hbA p2)
      clear hWA
      iterate 8 go_big_quiet_step (fail)
      refine wpQuiet_nil ?_
      first
       | rintro _ ⟨i, rfl⟩
       | intro i
      have hiA := i.h
      generalize i.w = W6 at hiA ⊢
      have hbW6 : Below w5.heap.size w5 W6 := below2 hbA hiA
      clear hbA hiA pg0 pg1 pg2 pp0 pp1 pp2
      have HZ6 := Lib.hid (HZ.out.kept hbW6)
      have R6 := rangeAt_kept R5 hbW6
      have hw6 := Nat.le_trans hw5 hbW6.size
      obtain ⟨g0, g1, g2⟩ := cells3_of HZ6.out.met
      replace hgf : W6.frozen? ⟨w.heap.size + 2, 1, none⟩ = false := by simp [World.frozen?, HZ6.out.met]
      clear p0 p1 p2 hbW6 R5 hw5 HZ hnw
      cases hl9 : decide (m1 < (n1.toNat : Int)) with
      | false =>
        have HZ9 := Lib.hid (HZ6.out.met1 (Nat.le_succ_of_le HZ6.out.len))
        clear R6
        go_wp2
        go_roundw
        case rel => exact ⟨j + 1, ds, m0, (m1 + 1), m2, by go_num, HLT.out, HZ9.out⟩
        case measure => have := HLT.out; simp [intOf] <;> omega
      | true =>
        have hown6 := HZ6.out.own
        have hlen := HZ6.out.len
        have hww : w.heap.size + 1 ≤ W6.heap.size := by have := HZ6.out.up; omega
        go_upto_region 11 with (first
           | ((with_reducible refine wpList_load_evo _ A (off + j * 19) e ax cx R6 ?_ rfl ?_); exact rfl)
           | (refine wpList_buildOne rfl 28 43 _ rfl (evCells e ax cx).toArray 19 rfl rfl (by decide) (by decide) Tryz.underlying28 (by kernel_rfl) (by kernel_rfl) ?_)
           | (at_builtin; go_loud (refine wpList_append_own_at _ rfl _ _ 28 rfl (w.heap.size + 1) 43 i0 (.agg (evCells ev0 none 0).toArray) 19 176 Tryz.underlying28 hiE hz0 hz1 hz2 rfl (by decide) _ _ _ rfl (hown6.alloc _) ⟨W6.heap.size, 0, none⟩ 1 1 (evCells e ax cx) rfl rfl (evs_new W6 e ax cx _) (evCells_one _ _ _) (by unfold maxLen; omega) (by omega) (by simp; omega) ?_); intro v' wf hownf hgrow _ hat))
        have hal : Below W6.heap.size W6 (W6.alloc (Obj.cells (evCells e ax cx).toArray 43)) := (Below.refl _ _).alloc (Nat.le_refl _) _
        have HZ7 := Lib.hid (HZ6.out.app (x := (e, ax, cx)) hw6 HX.out hxF hal hownf hgrow hat (j + 1) (Nat.le_refl _))
        obtain ⟨g0, g1, g2⟩ := cells3_of HZ7.out.met
        have hgf7 : wf.frozen? ⟨w.heap.size + 2, 1, none⟩ = false := by simp [World.frozen?, HZ7.out.met]
        clear hownf hgrow hat hal hown6 R6 hgf
        have HZ9 := Lib.hid (ChAt.met1' HZ7.out (by have := HZ6.out.rng; omega))
        go_wp2
        go_roundw
        case rel => exact ⟨j + 1, ds ++ [(e, ax, cx)], m0, (m1 + 1), m2, by go_num, HLT.out, HZ9.out⟩
        case measure => have := HLT.out; simp [intOf] <;> omega
    ·clear hq1 hq2 hneg hb c0
     go_wp2_with (go_at_call 100; (with_reducible refine HF1.out.mono ?_); rintro v w5 ⟨fb, rfl, hfb, hb5⟩; cases fb)
     ·have HZ := Lib.hid (HC.out.kept hb5).next
      clear hb5 hfb r1 HF1
      go_roundw
      case rel => exact ⟨j + 1, ds, m0, m1, m2, by go_num, HLT.out, HZ.out⟩
      case measure => have := HLT.out; simp [intOf] <;> omega
     ·have hxF : e ∈ FR.kept := by rw [← HEF.out]; exact hfb (by first | trivial | rfl)
      have HZ := Lib.hid (HC.out.kept hb5)
      have R5 := rangeAt_kept r1 hb5
      have hw5 := Nat.le_trans hw3 hb5.size
      clear r1 hfb hb5 HF1 HC hw3
      obtain ⟨g0, g1, g2⟩ := cells3_of HZ.out.met
      obtain ⟨p0, p1, p2⟩ := cells3_of HZ.out.arr
      have hgf : w5.frozen? ⟨w.heap.size + 2, 2, none⟩ = false := by simp [World.frozen?, HZ.out.met]
      have hnw : IntKind.i64.wrap (n2.toNat : Int) = (n2.toNat : Int) := by have : n2.toNat < 256 := UInt8.toNat_lt _; exact IntWalk.i64_in _ (by omega)
      have hmw : IntKind.i64.wrap (m2 + 1) = m2 + 1 := by have := HZ.out.rng; exact IntWalk.i64_in _ (by omega)
      refine wp_region_after (by kernel_rfl) (by kernel_rfl) (fun WA hWA => ?_)
      have hbA : Below w5.heap.size w5 WA := by rw [hWA.out]; go_grown
      have pg0 : ∀ i : After WA, i.w.cell? ⟨w.heap.size + 2, 0, none⟩ = some (.int .i64 m0) := fun i => i.cell (kept hbA g0)
      have pg1 : ∀ i : After WA, i.w.cell? ⟨w.heap.size + 2, 1, none⟩ = some (.int .i64 m1) := fun i => i.cell (kept hbA g1)
      have pg2 : ∀ i : After WA, i.w.cell? ⟨w.heap.size + 2, 2, none⟩ = some (.int .i64 m2) := fun i => i.cell (kept hbA g2)
      have pp0 : ∀ i : After WA, i.w.cell? ⟨w.heap.size, 0, none⟩ = some (.int .u8 n0.toNat) := fun i => i.cell (kept hbA p0)
      have pp1 : ∀ i : After WA, i.w.cell? ⟨w.heap.size, 1, none⟩ = some (.int .u8 n1.toNat) := fun i => i.cell (kept hbA p1)
      have pp2 : ∀ i : After WA, i.w.cell? ⟨w.heap.size, 2, none⟩ = some (.int .u8 n2.toNat) := fun i => i.cell (kept hbA p2)
      clear hWA
      iterate 8 go_big_quiet_step (fail)
      refine wpQuiet_nil ?_
      first
       | rintro _ ⟨i, rfl⟩
       | intro i
      have hiA := i.h
      generalize i.w = W6 at hiA ⊢
      have hbW6 : Below w5.heap.size w5 W6 := below2 hbA hiA
      clear hbA hiA pg0 pg1 pg2 pp0 pp1 pp2
      have HZ6 := Lib.hid (HZ.out.kept hbW6)
      have R6 := rangeAt_kept R5 hbW6
      have hw6 := Nat.le_trans hw5 hbW6.size
      obtain ⟨g0, g1, g2⟩ := cells3_of HZ6.out.met
      replace hgf : W6.frozen? ⟨w.heap.size + 2, 2, none⟩ = false := by simp [World.frozen?, HZ6.out.met]
      clear p0 p1 p2 hbW6 R5 hw5 HZ hnw
      cases hl9 : decide (m2 < (n2.toNat : Int)) with
      | false =>
        have HZ9 := Lib.hid (HZ6.out.met2 (Nat.le_succ_of_le HZ6.out.len))
        clear R6
        go_wp2
        go_roundw
        case rel => exact ⟨j + 1, ds, m0, m1, (m2 + 1), by go_num, HLT.out, HZ9.out⟩
        case measure => have := HLT.out; simp [intOf] <;> omega
      | true =>
        have hown6 := HZ6.out.own
        have hlen := HZ6.out.len
        have hww : w.heap.size + 1 ≤ W6.heap.size := by have := HZ6.out.up; omega
        go_upto_region 11 with (first
           | ((with_reducible refine wpList_load_evo _ A (off + j * 19) e ax cx R6 ?_ rfl ?_); exact rfl)
           | (refine wpList_buildOne rfl 28 43 _ rfl (evCells e ax cx).toArray 19 rfl rfl (by decide) (by decide) Tryz.underlying28 (by kernel_rfl) (by kernel_rfl) ?_)
           | (at_builtin; go_loud (refine wpList_append_own_at _ rfl _ _ 28 rfl (w.heap.size + 1) 43 i0 (.agg (evCells ev0 none 0).toArray) 19 176 Tryz.underlying28 hiE hz0 hz1 hz2 rfl (by decide) _ _ _ rfl (hown6.alloc _) ⟨W6.heap.size, 0, none⟩ 1 1 (evCells e ax cx) rfl rfl (evs_new W6 e ax cx _) (evCells_one _ _ _) (by unfold maxLen; omega) (by omega) (by simp; omega) ?_); intro v' wf hownf hgrow _ hat))
        have hal : Below W6.heap.size W6 (W6.alloc (Obj.cells (evCells e ax cx).toArray 43)) := (Below.refl _ _).alloc (Nat.le_refl _) _
        have HZ7 := Lib.hid (HZ6.out.app (x := (e, ax, cx)) hw6 HX.out hxF hal hownf hgrow hat (j + 1) (Nat.le_refl _))
        obtain ⟨g0, g1, g2⟩ := cells3_of HZ7.out.met
        have hgf7 : wf.frozen? ⟨w.heap.size + 2, 2, none⟩ = false := by simp [World.frozen?, HZ7.out.met]
        clear hownf hgrow hat hal hown6 R6 hgf
        have HZ9 := Lib.hid (ChAt.met2' HZ7.out (by have := HZ6.out.rng; omega))
        go_wp2
        go_roundw
        case rel => exact ⟨j + 1, ds ++ [(e, ax, cx)], m0, m1, (m2 + 1), by go_num, HLT.out, HZ9.out⟩
        case measure => have := HLT.out; simp [intOf] <;> omega
  ·obtain rfl : j = ls.length := by omega
   obtain ⟨a2, c2, rfl, hF⟩ := evsIn_own hC.own (fun z hz => (hE.dots z (hC.mem z hz).1).kept hC.below)
   go_wp2
   go_ret
   exact ⟨a2, ds, c2, rfl, hF, ⟨hC.mem, hC.len⟩, hC.below⟩
end Go.Proofs.YtpbobhfnglikmaaGreat
