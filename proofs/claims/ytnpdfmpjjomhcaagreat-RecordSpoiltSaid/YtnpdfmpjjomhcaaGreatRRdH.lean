/- The reference's record, read off bytes. Conditions: at most 2^30 bytes. -/
import Derived.Test.YtnpdfmpjjomhcaaGreatRRdF
import Derived.Test.YtnpdfmpjjomhcaaGreatRec
import Derived.Test.YtnpdfmpjjomhcaaGreatRecP
import Derived.Test.YtnpdfmpjjomhcaaGreatRefGet
import Derived.Test.YtnpdfmpjjomhcaaGreatRecG
import Derived.Test.YtnpdfmpjjomhcaaGreatSpoil
set_option linter.unusedSimpArgs false
set_option linter.unusedVariables false
set_option linter.unnecessarySimpa false
namespace Go.Proofs.YtnpdfmpjjomhcaaGreat
open Go.RowKit

/-- block X holds the reference's record -/
def RRec (w : World) (X : Nat) (x : Rec) (a : Option Addr) (cap : Nat) : Prop := w.heap[X]? = some (.cells (recCells x a cap).toArray 66 (0, 0))
theorem RRec.lt {w : World} {X : Nat} {x : Rec} {a : Option Addr} {cap : Nat} (h : RRec w X x a cap) : X < w.heap.size := lt_of_block h
theorem RRec.below {w w' : World} {X : Nat} {x : Rec} {a : Option Addr} {cap : Nat} (h : RRec w X x a cap) (hb : Below w.heap.size w w') : RRec w' X x a cap := (hb.block _ h.lt).trans h
theorem RRec.cell {w : World} {X : Nat} {x : Rec} {a : Option Addr} {cap : Nat} (h : RRec w X x a cap) : w.rangeAt X 0 (recCells x a cap) := fun j v hv => by
  rw [Nat.zero_add]
  simp only [World.cell?, show w.heap[X]? = _ from h]
  simpa using hv
theorem RRec.c1 {w : World} {X : Nat} {x : Rec} {a : Option Addr} {cap : Nat} (h : RRec w X x a cap) : w.cell? ⟨X, 1, none⟩ = some (.int .i64 x.inc) := h.cell 1 _ rfl
theorem RRec.free {w : World} {X o : Nat} {x : Rec} {a : Option Addr} {cap : Nat} (h : RRec w X x a cap) : w.frozen? ⟨X, o, none⟩ = false := by
  simp [World.frozen?, show w.heap[X]? = _ from h]
theorem RRec.setInc {w : World} {X : Nat} {x : Rec} {a : Option Addr} {cap : Nat} (h : RRec w X x a cap) (n : Int) : RRec (w.setCell ⟨X, 1, none⟩ (.int .i64 n)) X ⟨x.kind, n, x.e⟩ a cap := by
  simp [RRec, World.setCell, Array.getElem?_modify, show w.heap[X]? = _ from h, recCells, evCells]
theorem RRec.there {w : World} {X : Nat} {x : Rec} {a : Option Addr} {cap : Nat} (h : RRec w X x a cap) : w.there X 2 19 := fun j hj => by
  refine ⟨?_, h.free⟩
  have h2 := h.cell (2 + j) ((recCells x a cap).getD (2 + j) undef) (by
    have hl : (recCells x a cap).length = 21 := rfl
    rw [List.getD_eq_getElem?_getD, List.getElem?_eq_getElem (by omega)]; rfl)
  rw [Nat.zero_add] at h2
  rw [h2]; rfl
theorem RRec.setEv {w : World} {X : Nat} {x : Rec} {a : Option Addr} {cap : Nat} (h : RRec w X x a cap) (e : Ev) (a' : Option Addr) (cap' : Nat) : RRec (w.setCells X 2 (evCells e a' cap')) X ⟨x.kind, x.inc, e⟩ a' cap' := by
  simp [RRec, World.setCells, World.setCell, Array.getElem?_modify, show w.heap[X]? = _ from h, recCells, evCells]
theorem rNum_bad {m : Nat} {r x : Rd} {k : Nat} (h : rNum m r = (x, k)) (he : x.e ≠ 0) : k = 0 := by
  unfold rNum at h
  split at h
  · split at h
    · split at h
      · cases h; rfl
      · cases h; exact absurd rfl he
    · cases h; rfl
  · cases h; rfl
theorem exec_build {P : Program} {o : Oper} {a : Act} {w : World} (t : TypeId) (parts : Array (Nat × Operand)) (ho : o.op = .build t parts) (cells : Array Value) (hf : P.built t (parts.map fun (i, x) => (i, a.eval x)).toList = some cells) : (execOp a.eval o).run P w = .ok (.value (.agg cells)) w := by
  unfold execOp
  simp only [ho, Sem.run_bind, run_build w t _ cells hf, Result.andThen_ok, Sem.run_pure]
/-- ahead of the last tests -/
def RrecMid (l : Bytes) (w0 w wx : World) (R X : Nat) : Prop :=
  ∃ ry x ax cx ad capd, recRead l = recEnd (ry, x) ∧ RdBlk wx R ry ax cx ∧ ry.b.length ≤ 1073741824 ∧ RRec wx X x ad capd ∧ DotsIn wx ad x.e.over ∧ (∀ A off, ad = some ⟨A, off, none⟩ → w.heap.size < A) ∧
    RRec wx w.heap.size rec0 none 0 ∧ Below w.heap.size w wx
set_option maxRecDepth 100000 in
set_option maxHeartbeats 4000000 in
theorem rRecRead_any (a : Option Addr) (cap : Nat) (l : Bytes) (w : World) (hl : l.length ≤ 1073741824) (hc : l.length ≤ cap) (hby : BytesIn w a l) :
    Calls Tryz.prog 69 #[.slice a l.length cap] w (RetRec l w) := by
  have hfit := rNum_fit 4294967296 ⟨l, 0⟩
  have HV : Hid (recRead l = recEnd (recRest (rNum 4294967296 ⟨l, 0⟩).2 (rNum 4294967296 ⟨l, 0⟩).1)) := rfl
  obtain ⟨r, k, hk⟩ : ∃ r k, rNum 4294967296 ⟨l, 0⟩ = (r, k) := ⟨_, _, rfl⟩
  have g1 : Hid (∀ W, Below w.heap.size w W → Calls Tryz.prog 87 #[.agg #[.slice a l.length cap, .int .i64 0], .int .u64 4294967296] W (RetRv r (.int .u64 k) w W)) := fun W h => by have := rReadNum_any ⟨l, 0⟩ a cap 4294967296 w W h hl hc (by omega) hby; rw [hk] at this; exact this
  have HK0 := Lib.hid (rNum_bad hk)
  rw [hk] at hfit HV
  simp only at hfit HV
  obtain ⟨hrl, hk32⟩ := hfit
  have hrl2 : r.b.length ≤ 1073741824 := by omega
  clear hk
  go_enter Tryz.func69, Tryz.ntmps69
  go_upto_region 1 with fail
  refine wp_name (fun W hW => ?_)
  have hbt : Below w.heap.size w W := by rw [hW.out]; go_grown
  have hZ : RRec W w.heap.size rec0 none 0 := by rw [hW.out]; exact heap_alloc_last w _
  have h0W := hbt
  have hlw := hZ.lt
  clear hW
  go_upto_region 2 with (first
    | (go_at_call 87; (with_reducible refine (g1.out _ h0W).mono ?_); rintro x w1 ⟨a1, c1, rfl, hin1, hc1, hb1⟩)
    | (refine wpList_store_new 135 _ _ _ #[.slice a1 r.b.length c1, .int .i64 r.e] rfl rfl (by kernel_rfl) rfl (by kernel_rfl) ?_))
  refine wp_name (fun V1 hV => ?_)
  have hX1 : RdBlk V1 w1.heap.size r a1 c1 := by rw [hV.out]; exact RdBlk.new w1 r a1 c1
  have hbv : Below W.heap.size W V1 := by rw [hV.out]; exact hb1.alloc hb1.size _
  have hlo1 := Nat.lt_of_lt_of_le hlw hb1.size
  clear hV hb1 hlw
  replace hZ := hZ.below hbv
  replace hbt := below2 hbt hbv
  clear hbv h0W g1
  go_upto_region 3 with (first
    | (refine Great.wpList_buildTo rfl 66 _ rfl _ rfl (recCells ⟨k, 0, ev0⟩ none 0).toArray (by kernel_rfl) ?_)
    | (refine wpList_store_new 66 _ _ _ (recCells ⟨k, 0, ev0⟩ none 0).toArray rfl rfl (by kernel_rfl) rfl (by kernel_rfl) ?_))
  refine wp_name (fun U hU => ?_)
  have hR : RRec U V1.heap.size ⟨k, 0, ev0⟩ none 0 := by rw [hU.out]; exact heap_alloc_last V1 _
  have hbu : Below V1.heap.size V1 U := by rw [hU.out]; exact (Below.refl _ _).alloc (Nat.le_refl _) _
  have hRX : w1.heap.size < V1.heap.size := hX1.lt
  have hX := hX1.below hbu
  replace hZ := hZ.below hbu
  replace hbt := below2 hbt hbu
  have hRl := hR.lt
  have hwU := hbt.size
  clear hU hbu hX1
  obtain ⟨x0, x1, xf0, xf1⟩ := hX.two
  obtain ⟨tB, htB⟩ : ∃ tB, tB = (decide (r.e = 0) && decide (k = 1)) := ⟨_, rfl⟩
  have HTB := Lib.hid htB
  clear htB
  go_cut [26] (fun v wx => v = .bool tB ∧ U = wx)
  case first =>
    by_cases h1 : r.e = 0
    · have q1 : (r.e == 0) = true := beq_iff_eq.2 h1
      by_cases h2 : k = 1
      · have q2 : ((k : Int) == 1) = true := beq_iff_eq.2 (by omega)
        have HT : Hid (tB = true) := by rw [Hid, HTB.out]; simp [h1, h2]
        clear h1 h2
        go_wp2
        go_meet
        exact ⟨by rw [HT.out], rfl⟩
      · have q2 : ((k : Int) == 1) = false := beq_eq_false_iff_ne.2 (by omega)
        have HT : Hid (tB = false) := by rw [Hid, HTB.out]; simp [h2]
        clear h1 h2
        go_wp2
        go_meet
        exact ⟨by rw [HT.out], rfl⟩
    · have q1 : (r.e == 0) = false := beq_eq_false_iff_ne.2 h1
      have HT : Hid (tB = false) := by rw [Hid, HTB.out]; simp [h1]
      clear h1
      go_wp2
      go_meet
      exact ⟨by rw [HT.out], rfl⟩
  case rest =>
    obtain ⟨rfl, rfl⟩ := hcut
    go_upto_if 26 with fail
    go_cut [] (fun wx => RrecMid l w w wx w1.heap.size V1.heap.size)
    case first =>
      by_cases h1 : r.e = 0
      · have q1 : (r.e == 0) = true := beq_iff_eq.2 h1
        by_cases h2 : k = 1
        · obtain rfl : tB = true := by rw [HTB.out]; simp [h1, h2]
          have hf2 := rNum_fit 1048576 r
          obtain ⟨r2, n, hn⟩ : ∃ r2 n, rNum 1048576 r = (r2, n) := ⟨_, _, rfl⟩
          have HQ : Hid (recRead l = recEnd ((if n = 0 then rFail r2 4 else r2), ⟨1, n, ev0⟩)) := by
            rw [Hid, HV.out]; unfold recRest; rw [if_pos h2, hn]
          have g2 : Hid (∀ W, Below w.heap.size w W → Calls Tryz.prog 87 #[rdVal r a1 c1, .int .u64 1048576] W (RetRv r2 (.int .u64 n) w W)) := fun W h => by have := rReadNum_any r a1 c1 1048576 w W h hrl2 hc1 (by omega) hin1; rw [hn] at this; exact this
          have HN0 := Lib.hid (rNum_bad hn)
          rw [hn] at hf2
          simp only at hf2
          obtain ⟨hf2a, hf2b⟩ := hf2
          have hrg := hX.range
          clear h1 hn HV HTB HK0
          subst h2
          go_upto_region 5 with (first
            | ((with_reducible refine wpList_load_to 135 _ w1.heap.size 0 [.slice a1 r.b.length c1, .int .i64 r.e] (rdVal r a1 c1) rfl _ Tryz.underlying135 rfl (by kernel_rfl) hrg ?_ rfl ?_); exact rfl)
            | (go_at_call 87; (with_reducible refine (g2.out _ hbt).mono ?_); rintro x w2 ⟨a2, c2, rfl, hin2, hc2, hb2⟩)
            | (refine wpList_store_new 135 _ _ _ #[.slice a2 r2.b.length c2, .int .i64 r2.e] rfl rfl (by kernel_rfl) rfl (by kernel_rfl) ?_))
          refine wp_name (fun V2 hV => ?_)
          have hX2 : RdBlk V2 w2.heap.size r2 a2 c2 := by rw [hV.out]; exact RdBlk.new w2 r2 a2 c2
          have hbv : Below U.heap.size U V2 := by rw [hV.out]; exact hb2.alloc hb2.size _
          have hz2 := hb2.size
          replace hX := hX.below hbv
          replace hR := hR.below hbv
          replace hZ := hZ.below hbv
          replace hbt := below2 hbt hbv
          clear hV hb2 hbv hrg x0 x1 xf0 xf1 q1 g2
          have hrg := hX2.range
          go_upto_region 6 with (first
            | ((with_reducible refine wpList_load_to 135 _ w2.heap.size 0 [.slice a2 r2.b.length c2, .int .i64 r2.e] (rdVal r2 a2 c2) rfl _ Tryz.underlying135 rfl (by kernel_rfl) hrg ?_ rfl ?_); exact rfl)
            | (refine wpList_store_row rfl 135 _ _ rfl w1.heap.size #[.slice a2 r2.b.length c2, .int .i64 r2.e] rfl rfl 135 (rdCells r a1 c1) hX (by kernel_rfl) rfl (by kernel_rfl) ?_))
          refine wp_name (fun Y hY => ?_)
          have hk : ∀ q, q ≠ w1.heap.size → Y.heap[q]? = V2.heap[q]? := fun q hq => by rw [hY.out]; exact heap_setRow_other _ _ _ _ (fun e => hq e.symm)
          have hXY : RdBlk Y w1.heap.size r2 a2 c2 := by rw [hY.out]; exact setRow_heap _ _ _ _ _ _ hX
          have hRY : RRec Y V1.heap.size ⟨((1 : Nat) : Int), 0, ev0⟩ none 0 := (hk _ (by omega)).trans hR
          have hZY : RRec Y w.heap.size rec0 none 0 := (hk _ (by omega)).trans hZ
          have hbY : Below w.heap.size w Y := by rw [hY.out]; exact below_setRow hbt (by omega) _
          clear hY hk hX hR hZ hbt hrg hX2
          have e1 := hRY.c1
          have ez := hRY.free (o := 1)
          go_upto_region 7 with fail
          refine wp_name (fun T hT => ?_)
          have hk : ∀ q, q ≠ V1.heap.size → T.heap[q]? = Y.heap[q]? := fun q hq => by rw [hT.out]; exact heap_setCell_other _ _ _ _ (fun e => hq e.symm)
          have hRT : RRec T V1.heap.size ⟨1, n, ev0⟩ none 0 := by rw [hT.out]; exact hRY.setInc n
          have hXT : RdBlk T w1.heap.size r2 a2 c2 := (hk _ (by omega)).trans hXY
          have hZT : RRec T w.heap.size rec0 none 0 := (hk _ (by omega)).trans hZY
          have hbT : Below w.heap.size w T := by rw [hT.out]; exact hbY.setCell (by simp only; omega) _
          clear hT hk hXY hRY hZY hbY e1 ez
          obtain ⟨x0, x1, xf0, xf1⟩ := hXT.two
          by_cases h3 : r2.e = 0
          · have q1 : (r2.e == 0) = true := beq_iff_eq.2 h3
            by_cases h4 : n = 0
            · have q2 : ((n : Int) == 0) = true := beq_iff_eq.2 (by omega)
              have HQ2 : Hid (recRead l = (rec0, 4)) := by
                rw [Hid, HQ.out, if_pos h4]; unfold recEnd rEnd rFail
                simp only [if_pos h3]
                rfl
              clear h3 h4 HQ HN0
              go_wp2_with (first
                | (refine Great.wpList_buildTo rfl 66 _ rfl _ rfl (recCells rec0 none 0).toArray (by kernel_rfl) ?_)
                | (refine wpList_store_row rfl 66 _ _ rfl w.heap.size (recCells rec0 none 0).toArray rfl rfl 66 (recCells rec0 none 0).toArray hZT (by kernel_rfl) rfl (by kernel_rfl) ?_))
              refine ret_cell_tmp1 2 3 66 66 w.heap.size (recCells rec0 none 0).toArray _ (.int .i64 4) rfl rfl rfl (setRow_heap _ _ _ _ _ _ hZT) Tryz.underlying66 rfl (by kernel_rfl) rfl ?_
              unfold RetRec
              rw [HQ2.out]
              exact ⟨none, 0, rfl, Or.inl rfl, below_setRow hbT (Nat.le_refl _) _, fun A off h => by cases h⟩
            · have q2 : ((n : Int) == 0) = false := beq_eq_false_iff_ne.2 (by omega)
              have HQ2 : Hid (recRead l = recEnd (r2, ⟨1, n, ev0⟩)) := by rw [Hid, HQ.out, if_neg h4]
              clear h3 h4 HQ HN0
              go_wp2
              go_meet
              exact ⟨r2, _, a2, c2, none, 0, HQ2.out, hXT, by omega, hRT, Or.inl rfl, (fun A off h => by cases h), hZT, hbT⟩
          · have q1 : (r2.e == 0) = false := beq_eq_false_iff_ne.2 h3
            have HQ2 : Hid (recRead l = recEnd (r2, ⟨1, n, ev0⟩)) := by
              rw [Hid, HQ.out, if_pos (HN0.out h3)]; unfold rFail; rw [if_neg h3]
            clear h3 HQ HN0
            go_wp2
            go_meet
            exact ⟨r2, _, a2, c2, none, 0, HQ2.out, hXT, by omega, hRT, Or.inl rfl, (fun A off h => by cases h), hZT, hbT⟩
        · obtain rfl : tB = false := by rw [HTB.out]; simp [h2]
          by_cases h3 : k = 2
          · have q2 : ((k : Int) == 2) = true := beq_iff_eq.2 (by omega)
            have hf2 := rEv_fit r
            have HQ : Hid (recRead l = recEnd ((rEv r).1, ⟨2, 0, (rEv r).2⟩)) := by
              rw [Hid, HV.out]; unfold recRest; rw [if_neg h2, if_pos h3]
            have g2 := fun (W : World) (h : Below w.heap.size w W) => rEvGet_any r a1 c1 w W h hrl2 hc1 hin1
            unfold RetRevG at g2
            obtain ⟨r2, ev, hev⟩ : ∃ r2 ev, rEv r = (r2, ev) := ⟨_, _, rfl⟩
            rw [hev] at HQ hf2
            simp only [hev] at g2
            simp only at HQ hf2
            have G2 := Lib.hid g2
            have hrg := hX.range
            clear h1 h2 hev HV HTB HK0 g2
            subst h3
            go_upto_region 11 with (first
              | ((with_reducible refine wpList_load_to 135 _ w1.heap.size 0 [.slice a1 r.b.length c1, .int .i64 r.e] (rdVal r a1 c1) rfl _ Tryz.underlying135 rfl (by kernel_rfl) hrg ?_ rfl ?_); exact rfl)
              | (go_at_call 89; (with_reducible refine (G2.out _ hbt).mono ?_); rintro x w2 ⟨a2, c2, ae, ce, rfl, hin2, hc2, hd2, hb2, hn2⟩)
              | (refine wpList_store_new2 135 _ _ _ #[.slice a2 r2.b.length c2, .int .i64 r2.e] _ rfl rfl (by kernel_rfl) rfl (by kernel_rfl) ?_)
              | (refine wpList_store_newAt 34 _ _ _ (evCells ev ae ce).toArray (w2.heap.size + 1) (by simp) rfl rfl (by kernel_rfl) rfl (by kernel_rfl) ?_))
            refine wp_name (fun V2 hV => ?_)
            have hX2 : RdBlk V2 w2.heap.size r2 a2 c2 := by rw [hV.out]; exact RdBlk.new2 w2 r2 a2 c2 _
            have hS2 : EvBlk V2 (w2.heap.size + 1) ev ae ce := by rw [hV.out]; exact StBlk.new2 w2 _ _ _
            have hb22 : Below w2.heap.size w2 V2 := by rw [hV.out]; exact ((Below.refl _ _).alloc (Nat.le_refl _) _).alloc (by simp) _
            have hbv : Below U.heap.size U V2 := by rw [hV.out]; exact (hb2.alloc hb2.size _).alloc (Nat.le_trans hb2.size (by simp)) _
            have hz2 := hb2.size
            have hdV := hd2.kept hb22
            replace hX := hX.below hbv
            replace hR := hR.below hbv
            replace hZ := hZ.below hbv
            replace hbt := below2 hbt hbv
            clear hV hb2 hbv hrg x0 x1 xf0 xf1 q1 q2 G2 hb22 hd2
            have hrg := hX2.range
            have hrs := hS2.cell
            have hrs2 : ∀ cs : Array Value, (V2.setRow w1.heap.size cs).rangeAt (w2.heap.size + 1) 0 (evCells ev ae ce) := fun cs j v hv => (World.cell?_of_block (heap_setRow_other _ _ _ _ (by simp only; omega))).trans (hrs j v hv)
            have hRS : ∀ cs : Array Value, RRec (V2.setRow w1.heap.size cs) V1.heap.size ⟨((2 : Nat) : Int), 0, ev0⟩ none 0 := fun cs => (heap_setRow_other _ _ _ _ (by omega)).trans hR
            go_wp2_with (first
              | ((with_reducible refine wpList_load_to 135 _ w2.heap.size 0 [.slice a2 r2.b.length c2, .int .i64 r2.e] (rdVal r2 a2 c2) rfl _ Tryz.underlying135 rfl (by kernel_rfl) hrg ?_ rfl ?_); exact rfl)
              | (refine wpList_store_row rfl 135 _ _ rfl w1.heap.size #[.slice a2 r2.b.length c2, .int .i64 r2.e] rfl rfl 135 (rdCells r a1 c1) hX (by kernel_rfl) rfl (by kernel_rfl) ?_)
              | ((with_reducible refine wpList_load_ev _ (w2.heap.size + 1) ev ae ce (hrs2 _) ?_ rfl ?_); exact rfl)
              | (refine wpList_store_mid rfl 34 _ _ rfl V1.heap.size 2 (evCells ev ae ce).toArray rfl rfl (RRec.there (hRS _)) (by kernel_rfl) (by kernel_rfl) ?_))
            go_meet
            refine ⟨r2, ⟨2, 0, ev⟩, a2, c2, ae, ce, HQ.out, ?_, by omega, (hRS _).setEv ev ae ce, ?_, (fun A off h => by have := hn2 A off h; omega), ?_, below_setCells (below_setRow hbt (by omega) _) (by omega) _ _⟩
            · exact (heap_setCells_other _ _ _ _ _ (by omega)).trans (setRow_heap _ _ _ _ _ _ hX)
            · exact hdV.keep (fun A off h _ => (heap_setCells_other _ _ _ _ _ (by have := hn2 A off h; omega)).trans (heap_setRow_other _ _ _ _ (by have := hn2 A off h; omega)))
            · exact (heap_setCells_other _ _ _ _ _ (by omega)).trans ((heap_setRow_other _ _ _ _ (by omega)).trans hZ)
          · have q2 : ((k : Int) == 2) = false := beq_eq_false_iff_ne.2 (by omega)
            have HQ : Hid (recRead l = (rec0, 1)) := by
              rw [Hid, HV.out]; unfold recRest; rw [if_neg h2, if_neg h3]
              unfold recEnd rEnd rFail
              simp only [if_pos h1]
              rfl
            clear h1 h2 h3 HV HTB
            go_wp2_with (first
              | (refine Great.wpList_buildTo rfl 66 _ rfl _ rfl (recCells rec0 none 0).toArray (by kernel_rfl) ?_)
              | (refine wpList_store_row rfl 66 _ _ rfl w.heap.size (recCells rec0 none 0).toArray rfl rfl 66 (recCells rec0 none 0).toArray hZ (by kernel_rfl) rfl (by kernel_rfl) ?_))
            refine ret_cell_tmp1 2 3 66 66 w.heap.size (recCells rec0 none 0).toArray _ (.int .i64 1) rfl rfl rfl (setRow_heap _ _ _ _ _ _ hZ) Tryz.underlying66 rfl (by kernel_rfl) rfl ?_
            unfold RetRec
            rw [HQ.out]
            exact ⟨none, 0, rfl, Or.inl rfl, below_setRow hbt (Nat.le_refl _) _, fun A off h => by cases h⟩
      · have q1 : (r.e == 0) = false := beq_eq_false_iff_ne.2 h1
        obtain rfl : tB = false := by rw [HTB.out]; simp [h1]
        have hk0 := HK0.out h1
        have HQ : Hid (recRead l = recEnd (r, ⟨k, 0, ev0⟩)) := by
          rw [Hid, HV.out, hk0]; unfold recRest; rw [if_neg (by omega), if_neg (by omega)]; unfold rFail; rw [if_neg h1]
        clear h1 hk0 HV HTB
        go_wp2
        go_meet
        exact ⟨r, _, a1, c1, none, 0, HQ.out, hX, hrl2, hR, Or.inl rfl, (fun A off h => by cases h), hZ, hbt⟩
    case rest =>
      obtain ⟨ry, x, ax, cx, ad, capd, hQ, hX, hryl, hR, hd, hdz, hZ, hbt⟩ := hcut
      obtain ⟨U, hUe⟩ : ∃ U, U = wc := ⟨_, rfl⟩
      subst hUe
      have HQ := Lib.hid hQ
      have hXl := hX.lt
      have hRl := hR.lt
      obtain ⟨p0, p1, pf0, pf1⟩ := hX.two
      clear hQ HV HTB HK0
      by_cases h1 : ry.e = 0
      · have q1 : (ry.e == 0) = true := beq_iff_eq.2 h1
        have q2 : (ry.e != 0) = false := by rw [bne_eq_false_iff_eq]; exact h1
        by_cases h2 : 0 < ry.b.length
        · have d1 := decide_eq_true h2
          have d2 : decide ((0 : Int) < (ry.b.length : Int)) = true := decide_eq_true (by omega)
          have HQ2 : Hid (recRead l = (rec0, 1)) := by rw [Hid, HQ.out]; unfold recEnd rEnd; simp only [if_pos h1, if_pos h2]; rfl
          clear h1 HQ
          go_upto_region 17 with fail
          refine wp_name (fun U2 hU2 => ?_)
          have hk : ∀ q, q ≠ w1.heap.size → U2.heap[q]? = U.heap[q]? := fun q hq => by rw [hU2.out]; exact heap_setCell_other _ _ _ _ (fun e => hq e.symm)
          have hX2 : RdBlk U2 w1.heap.size ⟨ry.b, 1⟩ ax cx := by rw [hU2.out]; exact two_set1 hX _
          have hbt2 : Below w.heap.size w U2 := by rw [hU2.out]; exact hbt.setCell (by simp only; omega) _
          have hZ2 : RRec U2 w.heap.size rec0 none 0 := (hk _ (by omega)).trans hZ
          clear hU2 hk hX hbt hZ p0 p1 pf0 pf1 q1 q2
          obtain ⟨p0, p1, pf0, pf1⟩ := hX2.two
          go_upto_region 18 with fail
          refine wp_region_noPanic ?_
          refine wp_region_held_drew (S := fun W' => W'.cell? ⟨w1.heap.size, 1, none⟩ = some (.int .i64 1)) (by kernel_rfl) p1 (fun hHeld => ?_)
          refine wpAnyH_take (i := 0) (oi := ⟨some 76, _, _, _, _, _⟩) rfl (by kernel_rfl) (by kernel_rfl) (by kernel_rfl) (fun _ _ _ h => h) (Or.inl ⟨by rfl, fun W hSW => exec_build _ _ rfl (recCells rec0 none 0).toArray (by kernel_rfl)⟩) (by assumption) ?_
          try simp only [Act.put, List.setIfInBounds_toArray, List.set_cons_zero, List.set_cons_succ]
          refine wpAnyH_take (i := 1) (oi := ⟨some 77, _, _, _, _, _⟩) (v := ?_) rfl (by kernel_rfl) (by kernel_rfl) (by kernel_rfl) (fun _ _ _ h => h) (Or.inl ⟨by rfl, ?_⟩) (by assumption) ?_
          case refine_2 => (intro w hSw; go_simp; try with_reducible rfl)
          try simp only [Act.put, List.setIfInBounds_toArray, List.set_cons_zero, List.set_cons_succ]
          refine wpAnyH_take (i := 2) (oi := ⟨some 78, _, _, _, _, _⟩) (v := ?_) rfl (by kernel_rfl) (by kernel_rfl) (by kernel_rfl) (fun _ _ _ h => h) (Or.inl ⟨by rfl, ?_⟩) (by assumption) ?_
          case refine_2 => (intro w hSw; go_simp; try with_reducible rfl)
          try simp only [Act.put, List.setIfInBounds_toArray, List.set_cons_zero, List.set_cons_succ]
          refine wpAnyH_ready (rs := [3]) (by kernel_rfl) (by simp) ?_
          refine AllReadyH.cons rfl (fun K hK => ?_) AllReadyH.nil
          refine step_store_row rfl 66 _ _ rfl w.heap.size (recCells rec0 none 0).toArray rfl rfl 66 (recCells rec0 none 0).toArray hZ2 (by kernel_rfl) rfl (by kernel_rfl) ?_
          refine hK.out _ _ ?_ (fun hHeld => ?_)
          · exact ((World.cell?_of_block (heap_setRow_other _ _ _ _ (by simp only; omega))).trans p1)
          clear hK K
          try simp only [Act.put, List.setIfInBounds_toArray, List.set_cons_zero, List.set_cons_succ]
          refine wpAnyH_take (i := 4) (oi := ⟨some 3, _, _, _, _, _⟩) (v := ?_) rfl (by kernel_rfl) (by kernel_rfl) (by kernel_rfl) (fun _ _ _ h => h) (Or.inl ⟨by rfl, ?_⟩) (by assumption) ?_
          case refine_2 => (intro w hSw; go_simp; try with_reducible rfl)
          try simp only [Act.put, List.setIfInBounds_toArray, List.set_cons_zero, List.set_cons_succ]
          refine wpAnyH_done (by kernel_rfl) ?_ _
          refine NoPanic.normal ?_
          go_wp2
          refine ret_cell_tmp1 2 3 66 66 w.heap.size (recCells rec0 none 0).toArray _ (.int .i64 1) rfl rfl rfl (setRow_heap U2.drew _ _ _ _ _ hZ2) Tryz.underlying66 rfl (by kernel_rfl) rfl ?_
          unfold RetRec
          rw [HQ2.out]
          exact ⟨none, 0, rfl, Or.inl rfl, below_setRow hbt2.drew (Nat.le_refl _) _, fun A off h => by cases h⟩
        · have d1 := decide_eq_false h2
          have d2 : decide ((0 : Int) < (ry.b.length : Int)) = false := decide_eq_false (by omega)
          have HQ2 : Hid (recRead l = (x, 0)) := by rw [Hid, HQ.out]; unfold recEnd rEnd; simp only [if_pos h1, if_neg h2]; rfl
          have hrr := hR.cell
          clear h1 HQ
          go_wp2_with (first
            | ((with_reducible refine wpList_load_to 66 _ V1.heap.size 0 (recCells x ad capd) (recVal x ad capd) rfl _ Tryz.underlying66 rfl (by kernel_rfl) hrr ?_ rfl ?_); exact rfl)
            | (refine wpList_store_row rfl 66 _ _ rfl w.heap.size (recCells x ad capd).toArray rfl rfl 66 (recCells rec0 none 0).toArray hZ (by kernel_rfl) rfl (by kernel_rfl) ?_))
          refine ret_cell_tmp1 2 3 66 66 w.heap.size (recCells x ad capd).toArray _ (.int .i64 0) rfl rfl rfl (setRow_heap _ _ _ _ _ _ hZ) Tryz.underlying66 rfl (by kernel_rfl) rfl ?_
          unfold RetRec
          rw [HQ2.out]
          exact ⟨ad, capd, rfl, hd.setRow _ (fun A off h => hdz A off h), below_setRow hbt (Nat.le_refl _) _, fun A off h => Nat.le_of_lt (hdz A off h)⟩
      · have q1 : (ry.e == 0) = false := beq_eq_false_iff_ne.2 h1
        have q2 : (ry.e != 0) = true := by rw [bne_iff_ne]; exact h1
        have HQ2 : Hid (recRead l = (rec0, ry.e)) := by rw [Hid, HQ.out]; unfold recEnd rEnd; simp only [if_neg h1]
        have hbt2 := hbt
        have hZ2 := hZ
        clear h1 HQ
        go_upto_region 18 with fail
        refine wp_region_noPanic ?_
        refine wp_region_held_drew (S := fun W' => W'.cell? ⟨w1.heap.size, 1, none⟩ = some (.int .i64 ry.e)) (by kernel_rfl) p1 (fun hHeld => ?_)
        refine wpAnyH_take (i := 0) (oi := ⟨some 76, _, _, _, _, _⟩) rfl (by kernel_rfl) (by kernel_rfl) (by kernel_rfl) (fun _ _ _ h => h) (Or.inl ⟨by rfl, fun W hSW => exec_build _ _ rfl (recCells rec0 none 0).toArray (by kernel_rfl)⟩) (by assumption) ?_
        try simp only [Act.put, List.setIfInBounds_toArray, List.set_cons_zero, List.set_cons_succ]
        refine wpAnyH_take (i := 1) (oi := ⟨some 77, _, _, _, _, _⟩) (v := ?_) rfl (by kernel_rfl) (by kernel_rfl) (by kernel_rfl) (fun _ _ _ h => h) (Or.inl ⟨by rfl, ?_⟩) (by assumption) ?_
        case refine_2 => (intro w hSw; go_simp; try with_reducible rfl)
        try simp only [Act.put, List.setIfInBounds_toArray, List.set_cons_zero, List.set_cons_succ]
        refine wpAnyH_take (i := 2) (oi := ⟨some 78, _, _, _, _, _⟩) (v := ?_) rfl (by kernel_rfl) (by kernel_rfl) (by kernel_rfl) (fun _ _ _ h => h) (Or.inl ⟨by rfl, ?_⟩) (by assumption) ?_
        case refine_2 => (intro w hSw; go_simp; try with_reducible rfl)
        try simp only [Act.put, List.setIfInBounds_toArray, List.set_cons_zero, List.set_cons_succ]
        refine wpAnyH_ready (rs := [3]) (by kernel_rfl) (by simp) ?_
        refine AllReadyH.cons rfl (fun K hK => ?_) AllReadyH.nil
        refine step_store_row rfl 66 _ _ rfl w.heap.size (recCells rec0 none 0).toArray rfl rfl 66 (recCells rec0 none 0).toArray hZ2 (by kernel_rfl) rfl (by kernel_rfl) ?_
        refine hK.out _ _ ?_ (fun hHeld => ?_)
        · exact ((World.cell?_of_block (heap_setRow_other _ _ _ _ (by simp only; omega))).trans p1)
        clear hK K
        try simp only [Act.put, List.setIfInBounds_toArray, List.set_cons_zero, List.set_cons_succ]
        refine wpAnyH_take (i := 4) (oi := ⟨some 3, _, _, _, _, _⟩) (v := ?_) rfl (by kernel_rfl) (by kernel_rfl) (by kernel_rfl) (fun _ _ _ h => h) (Or.inl ⟨by rfl, ?_⟩) (by assumption) ?_
        case refine_2 => (intro w hSw; go_simp; try with_reducible rfl)
        try simp only [Act.put, List.setIfInBounds_toArray, List.set_cons_zero, List.set_cons_succ]
        refine wpAnyH_done (by kernel_rfl) ?_ _
        refine NoPanic.normal ?_
        go_wp2
        refine ret_cell_tmp1 2 3 66 66 w.heap.size (recCells rec0 none 0).toArray _ (.int .i64 ry.e) rfl rfl rfl (setRow_heap U.drew _ _ _ _ _ hZ2) Tryz.underlying66 rfl (by kernel_rfl) rfl ?_
        unfold RetRec
        rw [HQ2.out]
        exact ⟨none, 0, rfl, Or.inl rfl, below_setRow hbt2.drew (Nat.le_refl _) _, fun A off h => by cases h⟩
end Go.Proofs.YtnpdfmpjjomhcaaGreat

/- The reference's records at the beginning of bytes. Conditions: at most 2^30 bytes. -/
namespace Go.Proofs.YtnpdfmpjjomhcaaGreat
open Go.RowKit

theorem frGet_size {l b : Bytes} {n : Nat} (h : frGet l = (b, n, 0)) : n = sizeN b.length ∧ n ≤ l.length := by
  have hf := frGet_fit l
  have hfit := getS_fit l
  unfold frGet at h
  obtain ⟨m, k, e, hg⟩ : ∃ m k e, getS l = (m, k, e) := ⟨_, _, _, rfl⟩
  rw [hg] at h hfit
  simp only at h hfit
  by_cases he : e = 0
  · subst he
    have hk := (getS_form hg).1
    rw [if_pos rfl] at h
    split at h
    · simp at h
    · split at h
      · simp at h
      · rename_i h1 h2
        split at h
        · simp only [Prod.mk.injEq] at h
          obtain ⟨rfl, rfl, -⟩ := h
          have hl : ((l.drop k).take m).length = m := by simp; omega
          refine ⟨?_, by omega⟩
          unfold sizeN
          rw [hl, ← hk]
        · simp at h
  · rw [if_neg he] at h
    simp only [Prod.mk.injEq] at h
    exact absurd h.2.2 he
theorem recScan_ok {l b : Bytes} {n : Nat} {x : Rec} (h : frGet l = (b, n, 0)) (hx : recRead b = (x, 0)) : recScan l = (x :: (recScan (l.drop n)).1, n + (recScan (l.drop n)).2) := by
  have hs := (frGet_size h).1
  unfold recScan
  rw [frScan_ok h]
  simp only [recScanB, hx, if_true, ← hs]
theorem recScan_bad {l b : Bytes} {n : Nat} {x : Rec} {e : Int} (h : frGet l = (b, n, 0)) (hx : recRead b = (x, e)) (he : e ≠ 0) : recScan l = ([], 0) := by
  unfold recScan
  rw [frScan_ok h]
  simp only [recScanB, hx, if_neg he]
/-- a list of records that grows, in memory of its own; the dots elsewhere -/
structure RRecsOwn (w0 : World) (v : Value) (ls : List RecIt) (W : World) : Prop where
  own : W.ownsRow w0.heap.size 66 21 v ls.length (itCells ls)
  dots : ∀ x ∈ ls, DotsIn W x.2.1 x.1.e.over
  ne : ∀ x ∈ ls, ∀ A off, x.2.1 = some ⟨A, off, none⟩ → w0.heap.size ≤ A ∧ (x.1.e.over ≠ [] → v.ownBlock ≠ some A)
  bel : Below w0.heap.size w0 W
theorem RRecsOwn.nil (w0 : World) : RRecsOwn w0 (.slice none 0 0) [] w0 := ⟨World.ownsRow_nil _ _ _ _, fun x hx => by simp at hx, fun x hx => by simp at hx, Below.refl _ _⟩
theorem RRecsOwn.step {w0 w w' : World} {v : Value} {ls : List RecIt} (h : RRecsOwn w0 v ls w) (hb : Below w.heap.size w w') : RRecsOwn w0 v ls w' :=
  ⟨ownsRow_below h.own hb, fun x hx => (h.dots x hx).kept hb, h.ne, h.bel.trans (hb.mono h.bel.size)⟩
theorem RRecsOwn.app {w0 w w2 : World} {v v2 : Value} {ls : List RecIt} {x : RecIt} (h : RRecsOwn w0 v ls w) (hown : w2.ownsRow w0.heap.size 66 21 v2 (ls.length + 1) (itCells ls ++ recCells x.1 x.2.1 x.2.2))
    (hg : w.grownBy w2 v.ownBlock) (hat : v2.ownBlock = v.ownBlock ∨ v2.ownBlock = some w.heap.size) (hd : DotsIn w x.2.1 x.1.e.over) (hx : ∀ A off, x.2.1 = some ⟨A, off, none⟩ → w0.heap.size ≤ A ∧ (x.1.e.over ≠ [] → v.ownBlock ≠ some A)) : RRecsOwn w0 v2 (ls ++ [x]) w2 := by
  have hall : ∀ y ∈ ls ++ [x], DotsIn w y.2.1 y.1.e.over ∧ ∀ A off, y.2.1 = some ⟨A, off, none⟩ → w0.heap.size ≤ A ∧ (y.1.e.over ≠ [] → v.ownBlock ≠ some A) := by
    intro y hy
    rcases List.mem_append.1 hy with hy | hy
    · exact ⟨h.dots y hy, h.ne y hy⟩
    · simp only [List.mem_singleton] at hy; subst hy; exact ⟨hd, hx⟩
  refine ⟨by rw [itCells_snoc, List.length_append]; exact hown, fun y hy => ?_, fun y hy A off hA => ⟨((hall y hy).2 A off hA).1, fun hne => ?_⟩, h.bel.grown hg h.bel.size (fun k hk => (h.own.lt k hk).1)⟩
  · obtain ⟨h1, h2⟩ := hall y hy
    refine h1.keep (fun A off hA hne => hg.block A ?_ (fun e => (h2 A off hA).2 hne e.symm))
    rw [hA] at h1; exact h1.lt hne
  · obtain ⟨h1, h2⟩ := hall y hy
    rcases hat with hat | hat
    · rw [hat]; exact (h2 A off hA).2 hne
    · rw [hA] at h1
      have := h1.lt hne
      rw [hat]; intro e; injection e with e; omega
theorem RRecsOwn.fresh {w0 w : World} {v : Value} {ls : List RecIt} (h : RRecsOwn w0 v ls w) {a : Option Addr} {p : Prop} (hn : ∀ A off, a = some ⟨A, off, none⟩ → w.heap.size ≤ A) : ∀ A off, a = some ⟨A, off, none⟩ → w0.heap.size ≤ A ∧ (p → v.ownBlock ≠ some A) :=
  fun A off ha => ⟨Nat.le_trans h.bel.size (hn A off ha), fun _ e => by have := hn A off ha; have := (h.own.lt A e).2; omega⟩
/-- behind the reference's Scan -/
def RetRRecScan (r : List Rec × Nat) (w : World) (e : Ending) (w' : World) : Prop :=
  ∃ v ls, e = .returned (.tuple #[v, .int .i64 r.2]) ∧ RRecsOwn w v ls w' ∧ ls.map (·.1) = r.1
set_option maxRecDepth 100000 in
set_option maxHeartbeats 2000000 in
theorem rRecScan_any (a : Option Addr) (cap : Nat) (l : Bytes) (w : World) (hl : l.length ≤ 1073741824) (hcap : l.length ≤ cap) (h : BytesIn w a l) :
    Calls Tryz.prog 26 #[.slice a l.length cap] w (RetRRecScan (recScan l) w) := by
  obtain ⟨i0, hi, hz0, hz1, hz2⟩ := info_parts Tryz.infoRec2
  have hI0 : RRecsOwn w (.slice (some ⟨w.heap.size, 0, none⟩) 0 0) [] (w.alloc (Obj.cells #[] 66)) := ⟨World.ownsRow_made _ _ _ (Nat.le_refl _) (by decide) rfl, fun x hx => by simp at hx, fun x hx => by simp at hx, (Below.refl _ _).alloc (Nat.le_refl _) _⟩
  go_enter Tryz.func26, Tryz.ntmps26
  go_wp2
  go_loopw [4, 5] (fun out s wr => ∃ (n : Nat) (ls : List RecIt), s = .int .i64 n ∧ n ≤ l.length ∧ ls.length ≤ n ∧ RRecsOwn w out ls wr ∧ recScan l = (ls.map (·.1) ++ (recScan (l.drop n)).1, n + (recScan (l.drop n)).2)) (fun _ s _ => l.length - (intOf s).toNat)
  case atStart => exact ⟨0, [], rfl, Nat.zero_le _, Nat.zero_le _, hI0, by simp⟩
  case round =>
    obtain ⟨n, ls, rfl, hn, hln, hinv, hpre⟩ := hrel
    have HP := Lib.hid hpre
    clear hpre hI0
    have hin := (h.kept hinv.bel).cut hcap n
    have hlen : (l.drop n).length = l.length - n := List.length_drop ..
    have hsl : ∀ W, (Instr.sliceAt 37 (.slice a l.length cap) (some (.int .i64 (n : Int))) none none).run Tryz.prog W = .ok (.slice (cutA a cap n 1) (l.length - n) (cap - n)) W := fun W => bslice_lo W a l.length cap .i64 n hn
    have hg := fun (W : World) (hx : BytesIn W (cutA a cap n 1) (l.drop n)) => rFrGet_any (cutA a cap n 1) (cap - n) (l.drop n) W (by omega) (by omega) hx
    have hf := frGet_fit (l.drop n)
    rw [hlen] at hg hf
    obtain ⟨b, k, e, hx⟩ : ∃ b k e, frGet (l.drop n) = (b, k, e) := ⟨_, _, _, rfl⟩
    rw [hx] at hg hf
    unfold RetFr at hg
    simp only at hf hg
    have HG := Lib.hid hg
    have hzb := hinv.bel.size
    clear hg
    by_cases he : e = 0
    · subst he
      obtain ⟨hnk, hkl⟩ := frGet_size hx
      rw [hlen] at hkl
      have hbl : b.length ≤ 1048576 ∧ 5 ≤ k := by
        rcases hf with ⟨-, h5, -, h6, -⟩ | ⟨h6, -⟩
        · exact ⟨h6, h5⟩
        · exact absurd rfl h6
      obtain ⟨hb1, hk5⟩ := hbl
      have hR0 := fun (A : Option Addr) (C : Nat) (W : World) (hc : b.length ≤ C) (hb : BytesIn W A b) => rRecRead_any A C b W (by omega) hc hb
      obtain ⟨x, f, hxr⟩ : ∃ x f, recRead b = (x, f) := ⟨_, _, rfl⟩
      unfold RetRec at hR0
      simp only [hxr] at hR0
      have HR := Lib.hid hR0
      have q1 : ((0 : Int) != 0) = false := rfl
      clear hR0 hf hnk hlen
      by_cases hf0 : f = 0
      · subst hf0
        have HE : Hid (recScan l = ((ls.map (·.1) ++ [x]) ++ (recScan (l.drop (n + k))).1, n + k + (recScan (l.drop (n + k))).2)) := by
          rw [Hid, HP.out, recScan_ok hx hxr, List.drop_drop]; simp [Nat.add_assoc]
        clear hx hxr HP
        go_upto_region 9 with (first
          | (refine wpList_of_exec rfl _ (exec_slice _ _ _ _ _ rfl _ (hsl _)) ?_)
          | (go_at_call 68; (with_reducible refine (HG.out _ hin).mono ?_); rintro _ w1 ⟨v1, rfl, hown1, hbb1⟩; obtain ⟨ab, cb, rfl, hinb⟩ := own_bytes hown1; have hcb := own_cap2 hown1)
          | (go_at_call 69; (with_reducible refine (HR.out _ _ _ hcb hinb).mono ?_); rintro _ w2 ⟨a1, c1, rfl, hd1, hb2, hn1⟩)
          | (refine wpList_store_new 66 _ _ _ (recCells x a1 c1).toArray rfl rfl (by kernel_rfl) rfl (by kernel_rfl) ?_))
        refine wp_name (fun W9 hW9 => ?_)
        have hb9 : Below w2.heap.size w2 W9 := by rw [hW9.out]; exact (Below.refl _ _).alloc (Nat.le_refl _) _
        have hR9 : W9.rangeAt w2.heap.size 0 (recCells x a1 c1) := by rw [hW9.out]; exact recCells_box x a1 c1 w2 _
        have hinv1 := hinv.step hbb1
        have hxx := hinv1.fresh (p := x.e.over ≠ []) hn1
        have hinv9 := (hinv1.step hb2).step hb9
        have hd9 := hd1.kept hb9
        have hz9 := hinv9.bel.size
        clear hW9 hb9 hd1 hn1 hinv hinv1 hin hbb1 hb2 hown1 hinb hcb
        go_wp2_with (first
          | ((with_reducible refine wpList_load_to 66 _ w2.heap.size 0 (recCells x a1 c1) (recVal x a1 c1) rfl _ Tryz.underlying66 rfl (by kernel_rfl) hR9 ?_ rfl ?_); exact rfl)
          | (refine wpList_buildOne rfl 51 66 _ rfl (recCells x a1 c1).toArray 21 rfl rfl (by decide) (by decide) Tryz.underlying51 (by kernel_rfl) (by kernel_rfl) ?_)
          | (at_builtin; go_loud (refine wpList_append_own_at _ rfl _ _ 51 rfl w.heap.size 66 i0 (.agg (recCells rec0 none 0).toArray) 21 192 Tryz.underlying51 hi hz0 hz1 hz2 rfl (by decide) _ _ _ rfl (hinv9.own.alloc _) ⟨W9.heap.size, 0, none⟩ 1 1 (recCells x a1 c1) rfl rfl (recs_new W9 x a1 c1 _) (recCells_one _ _ _) (by unfold maxLen; omega) (by omega) (by simp; omega) ?_); intro v' wf hown3 hgrow _ hat; have hinv2 := RRecsOwn.app (x := (x, a1, c1)) (hinv9.step ((Below.refl _ _).alloc (Nat.le_refl _) _)) hown3 hgrow hat (hd9.kept ((Below.refl _ _).alloc (Nat.le_refl _) _)) hxx))
        go_roundw
        case rel => exact ⟨n + k, ls ++ [(x, a1, c1)], by go_num, by omega, by simp; omega, hinv2, by rw [HE.out]; simp⟩
        case measure => simp [intOf] <;> omega
      · have q2 : (f != 0) = true := by rw [bne_iff_ne]; exact hf0
        have HE : Hid (recScan l = (ls.map (·.1), n)) := by rw [Hid, HP.out, recScan_bad hx hxr hf0]; simp
        clear hx hxr HP hf0
        go_wp2_with (first
          | (refine wpList_of_exec rfl _ (exec_slice _ _ _ _ _ rfl _ (hsl _)) ?_)
          | (go_at_call 68; (with_reducible refine (HG.out _ hin).mono ?_); rintro _ w1 ⟨v1, rfl, hown1, hbb1⟩; obtain ⟨ab, cb, rfl, hinb⟩ := own_bytes hown1; have hcb := own_cap2 hown1)
          | (go_at_call 69; (with_reducible refine (HR.out _ _ _ hcb hinb).mono ?_); rintro _ w2 ⟨a1, c1, rfl, hd1, hb2, hn1⟩)
          | (refine wpList_store_new 66 _ _ _ (recCells x a1 c1).toArray rfl rfl (by kernel_rfl) rfl (by kernel_rfl) ?_))
        all_goals
          try rw [Exit.noGoto_ret]
          go_ret2
          rw [HE.out]
          exact ⟨_, ls, rfl, ((hinv.step hbb1).step hb2).step ((Below.refl _ _).alloc (Nat.le_refl _) _), rfl⟩
    · have q1 : (e != 0) = true := by rw [bne_iff_ne]; exact he
      have HE : Hid (recScan l = (ls.map (·.1), n)) := by rw [Hid, HP.out, recScan_none (by rw [hx]; exact he)]; simp
      clear hx HP he hf hlen
      go_wp2_with (first
        | (refine wpList_of_exec rfl _ (exec_slice _ _ _ _ _ rfl _ (hsl _)) ?_)
        | (go_at_call 68; (with_reducible refine (HG.out _ hin).mono ?_); rintro _ w1 ⟨v1, rfl, hown1, hbb1⟩))
      all_goals
        try rw [Exit.noGoto_ret]
        go_ret2
        rw [HE.out]
        exact ⟨_, ls, rfl, hinv.step hbb1, rfl⟩
end Go.Proofs.YtnpdfmpjjomhcaaGreat
