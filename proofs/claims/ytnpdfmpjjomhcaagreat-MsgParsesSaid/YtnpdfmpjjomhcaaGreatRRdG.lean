/- The references' reader by value: marks. Conditions: at most 2^30 bytes. -/
import Derived.Test.YtnpdfmpjjomhcaaGreatRRd
import Derived.Test.YtnpdfmpjjomhcaaGreatVecGet
set_option linter.unusedSimpArgs false
set_option linter.unusedVariables false
set_option linter.unnecessarySimpa false
namespace Go.Proofs.YtnpdfmpjjomhcaaGreat
open Go.RowKit

/-- behind the read of marks -/
def RetRmk (r : Rd) (w0 w : World) (x : Ending) (w' : World) : Prop :=
  ∃ a cap ao co, x = .returned (.tuple #[rdVal (rMarks r).1 a cap, .slice ao (rMarks r).2.length co]) ∧ BytesIn w0 a (rMarks r).1.b ∧ (rMarks r).1.b.length ≤ cap ∧ DotsIn w' ao (rMarks r).2 ∧ Below w.heap.size w w' ∧ (∀ A off, ao = some ⟨A, off, none⟩ → w.heap.size ≤ A)
theorem RdBlk.fr {w w' : World} {S : Nat → Prop} {R : Nat} {r : Rd} {a : Option Addr} {cap : Nat} (h : RdBlk w R r a cap) (hf : Fr S w w') (hs : ¬ S R) : RdBlk w' R r a cap := (hf.block _ h.lt hs).trans h
theorem st2_new (w : World) (o : Obj) (cs : Array Value) (t : TypeId) : ((w.alloc o).alloc (.cells cs t)).heap[w.heap.size + 1]? = some (.cells cs t (0, 0)) := by
  have := heap_alloc_last (w.alloc o) (Obj.cells cs t)
  rw [show (w.alloc o).heap.size = w.heap.size + 1 by simp] at this
  exact this
set_option maxRecDepth 100000 in
set_option maxHeartbeats 4000000 in
theorem rMarksRead_any (r : Rd) (a : Option Addr) (cap : Nat) (w0 w : World) (h0 : Below w0.heap.size w0 w) (hl : r.b.length ≤ 1073741824) (hc : r.b.length ≤ cap) (hby : BytesIn w0 a r.b) :
    Calls Tryz.prog 88 #[rdVal r a cap] w (RetRmk r w0 w) := by
  obtain ⟨i0, hi, hz0, hz1, hz2⟩ := info_parts Tryz.infoMark
  have hfit := rNum_fit 4096 r
  have HV : Hid (rMarks r = rMarksEnd (rDots (rNum 4096 r).2 (rNum 4096 r).1)) := rfl
  obtain ⟨x, N, hx⟩ : ∃ x N, rNum 4096 r = (x, N) := ⟨_, _, rfl⟩
  have g1 : Hid (∀ W, Below w0.heap.size w0 W → Calls Tryz.prog 87 #[rdVal r a cap, .int .u64 4096] W (RetRv x (.int .u64 N) w0 W)) := fun W h => by have := rReadNum_any r a cap 4096 w0 W h hl hc (by omega) hby; rw [hx] at this; exact this
  rw [hx] at hfit HV
  simp only at hfit HV
  obtain ⟨hxl, hN⟩ := hfit
  have hw0 := h0.size
  clear hx
  go_enter Tryz.func88, Tryz.ntmps88
  go_upto_region 1 with fail
  refine wp_name (fun W hW => ?_)
  have hbt : Below w.heap.size w W := by rw [hW.out]; go_grown
  have hB : RdBlk W w.heap.size r a cap := by
    rw [hW.out]; unfold RdBlk; rw [Below.heap_alloc _ _ _ (by simp)]; exact heap_alloc_last w _
  have hZ : W.heap[w.heap.size + 1]? = some (.cells rdZero 135 (0, 0)) := by
    rw [hW.out]; exact st2_new w _ _ _
  have h0W := h0.trans (hbt.mono h0.size)
  have hrg := hB.range
  have hlw := lt_of_block hZ
  clear hW hB
  go_upto_region 2 with (first
    | ((with_reducible refine wpList_load_to 135 _ w.heap.size 0 [.slice a r.b.length cap, .int .i64 r.e] (rdVal r a cap) rfl _ Tryz.underlying135 rfl (by kernel_rfl) hrg ?_ rfl ?_); exact rfl)
    | (go_at_call 87; (with_reducible refine (g1.out _ h0W).mono ?_); rintro x w1 ⟨a1, c1, rfl, hin1, hc1, hb1⟩)
    | (refine wpList_store_new 135 _ _ _ #[.slice a1 x.b.length c1, .int .i64 x.e] rfl rfl (by kernel_rfl) rfl (by kernel_rfl) ?_))
  refine wp_name (fun V1 hV => ?_)
  have hX1 : RdBlk V1 w1.heap.size x a1 c1 := by rw [hV.out]; exact RdBlk.new w1 x a1 c1
  have hbv : Below W.heap.size W V1 := by rw [hV.out]; exact hb1.alloc hb1.size _
  replace h0W := h0W.trans (hbv.mono h0W.size)
  have hlo1 := Nat.lt_of_lt_of_le hlw hb1.size
  replace hlw := Nat.lt_of_lt_of_le hlw hbv.size
  clear hV hb1 hrg
  have hrg := hX1.range
  replace hZ := (hbv.block _ (lt_of_block hZ)).trans hZ
  replace hbt := below2 hbt hbv
  clear hbv
  obtain ⟨W, hWe⟩ : ∃ W, W = V1 := ⟨_, rfl⟩
  subst hWe
  have hXl := hX1.lt
  have hwW := hbt.size
  have hmade : (W.alloc (Obj.cells #[] 142)).ownsRow W.heap.size 142 3 (.slice (some ⟨W.heap.size, 0, none⟩) 0 0) 0 (dotVals []) := World.ownsRow_made _ _ _ (Nat.le_refl _) (by decide) rfl
  have hFm : Fr (isR w1.heap.size) W (W.alloc (Obj.cells #[] 142)) := Fr.of_below ((Below.refl _ _).alloc (Nat.le_refl _) _)
  have hXm := hX1.below ((Below.refl _ _).alloc (Nat.le_refl _) (Obj.cells #[] 142))
  clear g1 hrg
  go_upto_region 3 with fail
  go_wp2
  go_loopw [6, 7] (fun out i wr => ∃ (j m : Nat) (ls : List Dot) (rr : Rd) (ar : Option Addr) (cr : Nat), i = .int .u64 j ∧ j + m = N ∧ m + ls.length ≤ 4096 ∧ rr.b.length ≤ 1073741824 ∧ RdBlk wr w1.heap.size rr ar cr ∧ BytesIn w0 ar rr.b ∧ rr.b.length ≤ cr ∧ wr.ownsRow W.heap.size 142 3 out ls.length (dotVals ls) ∧ Fr (isR w1.heap.size) W wr ∧ rDots N x = ((rDots m rr).1, ls ++ (rDots m rr).2)) (fun _ i _ => N - (intOf i).toNat)
  case atStart => exact ⟨0, N, [], x, a1, c1, rfl, by omega, by simp; omega, by omega, hXm, hin1, hc1, hmade, hFm, by simp⟩
  case round =>
    clear hmade hFm hXm hX1
    obtain ⟨j, m, ls, rr, ar, cr, rfl, hjm, hmn, hrl, hX, hinr, hcr, hown, hF, hpre⟩ := hrel
    have HP := Lib.hid hpre
    clear hpre
    have hzw := hF.size
    have h0R : Below w0.heap.size w0 wr := h0W.trans (hF.below (by omega) (fun q hq => by simp only [isR] at hq; omega))
    by_cases hgo : 0 < m ∧ rr.e = 0
    · obtain ⟨hm0, hre⟩ := hgo
      obtain ⟨n, rfl⟩ : ∃ n, m = n + 1 := ⟨m - 1, by omega⟩
      have hjk : j < N := by omega
      have d1 := decide_eq_true hjk
      have d2 : decide ((j : Int) < (N : Int)) = true := decide_eq_true (by omega)
      have q1 : (rr.e == 0) = true := beq_iff_eq.2 hre
      have hf := rDot_fit rr
      have HS : Hid (rDots N x = ((rDots n (rDot rr).1).1, (ls ++ [(rDot rr).2]) ++ (rDots n (rDot rr).1).2)) := by rw [Hid, HP.out, rDots_next hre]; simp
      have hG0 := rDotGet_any rr
      obtain ⟨r2, d, hrd⟩ : ∃ r2 d, rDot rr = (r2, d) := ⟨_, _, rfl⟩
      rw [hrd] at hf HS hG0
      simp only at hf HS hG0
      have HG := Lib.hid (fun (U : World) (h : Below w0.heap.size w0 U) => hG0 ar cr w0 U h hrl hcr hinr)
      obtain ⟨p0, p1, zf0, zf1⟩ := hX.two
      have hrg := hX.range
      clear hrd hG0 HP hre
      go_upto_region 7 with (first
        | ((with_reducible refine wpList_load_to 135 _ w1.heap.size 0 [.slice ar rr.b.length cr, .int .i64 rr.e] (rdVal rr ar cr) rfl _ Tryz.underlying135 rfl (by kernel_rfl) hrg ?_ rfl ?_); exact rfl)
        | (go_at_call 128; (with_reducible refine (HG.out _ h0R).mono ?_); rintro x w5 ⟨a5, c5, rfl, hin5, hc5, hb5⟩)
        | (refine wpList_store_new2 135 _ _ _ #[.slice a5 r2.b.length c5, .int .i64 r2.e] _ rfl rfl (by kernel_rfl) rfl (by kernel_rfl) ?_)
        | (refine wpList_store_newAt 25 _ _ _ #[.int .i64 d.a.dev, .int .i64 d.a.inc, .int .i64 d.seq] (w5.heap.size + 1) (by simp) rfl rfl (by kernel_rfl) rfl (by kernel_rfl) ?_))
      refine wp_name (fun U hU => ?_)
      have hN5 : RdBlk U w5.heap.size r2 a5 c5 := by rw [hU.out]; exact RdBlk.new2 w5 r2 a5 c5 _
      have hS : StBlk U (w5.heap.size + 1) #[.int .i64 d.a.dev, .int .i64 d.a.inc, .int .i64 d.seq] 25 := by rw [hU.out]; exact StBlk.new2 w5 _ _ _
      have hbU : Below wr.heap.size wr U := by rw [hU.out]; exact (hb5.alloc hb5.size _).alloc (Nat.le_trans hb5.size (by simp)) _
      have hz5 := hb5.size
      have hXU := hX.below hbU
      have hownU := ownsRow_below hown hbU
      have hFU := hF.again (Fr.of_below hbU)
      clear hU hb5 hX hown hF p0 p1 zf0 zf1 hrg
      have hrN := hN5.range
      go_upto_region 8 with (first
        | ((with_reducible refine wpList_load_to 135 _ w5.heap.size 0 [.slice a5 r2.b.length c5, .int .i64 r2.e] (rdVal r2 a5 c5) rfl _ Tryz.underlying135 rfl (by kernel_rfl) hrN ?_ rfl ?_); exact rfl)
        | (refine wpList_store_row rfl 135 _ _ rfl w1.heap.size #[.slice a5 r2.b.length c5, .int .i64 r2.e] rfl rfl 135 (rdCells rr ar cr) hXU (by kernel_rfl) rfl (by kernel_rfl) ?_))
      refine wp_name (fun Y hY => ?_)
      have hk : ∀ q, q ≠ w1.heap.size → Y.heap[q]? = U.heap[q]? := fun q hq => by rw [hY.out]; exact heap_setRow_other _ _ _ _ (fun e => hq e.symm)
      have hXY : RdBlk Y w1.heap.size r2 a5 c5 := by rw [hY.out]; exact setRow_heap _ _ _ _ _ _ hXU
      have hSY : StBlk Y (w5.heap.size + 1) #[.int .i64 d.a.dev, .int .i64 d.a.inc, .int .i64 d.seq] 25 := (hk _ (by omega)).trans hS
      have hownY := own_frame hownU (fun q hq => hk q (by omega))
      have hFY : Fr (isR w1.heap.size) W Y := by rw [hY.out]; exact hFU.setRow (Or.inr rfl) _
      have hXYl := hXY.lt
      have hVY := hFY.size
      clear hY hk hrN hN5 hXU hownU hFU hbU hS
      have hrS := hSY.range
      have s0 : Y.cell? ⟨w5.heap.size + 1, 0, none⟩ = some (.int .i64 d.a.dev) := by have := hrS 0 _ rfl; simpa using this
      have s1 : Y.cell? ⟨w5.heap.size + 1, 1, none⟩ = some (.int .i64 d.a.inc) := by have := hrS 1 _ rfl; simpa using this
      have s2 : Y.cell? ⟨w5.heap.size + 1, 2, none⟩ = some (.int .i64 d.seq) := by have := hrS 2 _ rfl; simpa using this
      have hdv := dotVals_length ls
      go_wp2_with (at_builtin; go_loud (refine wpList_append_own _ rfl _ _ 75 rfl W.heap.size 142 i0 (.agg #[.int .i64 0, .int .i64 0, .int .i64 0]) 3 24 Tryz.underlying75 hi hz0 hz1 hz2 rfl (by decide) _ _ _ rfl (hownY.alloc _) ⟨Y.heap.size, 0, none⟩ 1 1 [.int .i64 d.a.dev, .int .i64 d.a.inc, .int .i64 d.seq] rfl rfl (new3 Y d _) (by simp [Value.oneCell']) (by unfold maxLen; omega) (by omega) (by simp; omega) ?_))
      intro v' wf hownf0 hgrow _
      rw [dotVals_snoc2] at hownf0
      have hXf : RdBlk wf w1.heap.size r2 a5 c5 := (hgrow.block _ (by simp; omega) (fun h => by have := (hownY.lt _ h.symm).1; omega)).trans (hXY.below ((Below.refl _ _).alloc (Nat.le_refl _) _))
      have hFf : Fr (isR w1.heap.size) W wf := (hFY.alloc _).grown2 hgrow (fun q hq => (hownY.lt q hq).1)
      go_wp2
      go_roundw
      case rel => exact ⟨j + 1, n, ls ++ [d], r2, a5, c5, by go_num, by omega, by simp; omega, by omega, hXf, hin5, hc5, by rw [List.length_append]; exact hownf0, hFf, HS.out⟩
      case measure => simp [intOf] <;> omega
    · have hend : rDots m rr = (rr, []) := by
        by_cases h0 : m = 0
        · subst h0; rfl
        · exact rDots_err (fun e => hgo ⟨by omega, e⟩)
      have HQ : Hid (rMarks r = rMarksEnd (rr, ls)) := by rw [Hid, HV.out, HP.out, hend]; simp
      have hlen : ls.length ≤ 4096 := by omega
      obtain ⟨ao, co, hvo, hdo, hao⟩ := dotsIn_own hown
      have HVO := Lib.hid hvo
      replace hZ := (hF.block _ (lt_of_block hZ) (by simp only [isR]; omega)).trans hZ
      replace hbt : Below w.heap.size w wr := hbt.trans (hF.below (by omega) (fun q hq => by simp only [isR] at hq; omega))
      clear hown hend HP HV hF
      rw [HVO.out]
      clear hvo
      by_cases he : rr.e = 0
      · have hm0 : m = 0 := by
          by_cases h0 : m = 0
          · exact h0
          · exact absurd ⟨by omega, he⟩ hgo
        subst hm0
        have hjk : ¬ j < N := by omega
        have d1 := decide_eq_false hjk
        have d2 : decide ((j : Int) < (N : Int)) = false := decide_eq_false (by omega)
        have q1 : (rr.e == 0) = true := beq_iff_eq.2 he
        have q2 : (rr.e != 0) = false := by rw [bne_eq_false_iff_eq]; exact he
        have HQ2 : Hid (rMarks r = if marksErr ls = 0 then (rr, ls) else (rFail rr (marksErr ls), [])) := by rw [Hid, HQ.out]; unfold rMarksEnd; simp only; rw [if_pos he]
        have HCK0 := fun (X : World) (c : Nat) (h : DotsIn X ao ls) => rCheck_any ao c ls X (by omega) h
        have HRF : Hid (rFail rr (marksErr ls) = ⟨rr.b, marksErr ls⟩) := by unfold Hid rFail; rw [if_pos he]
        obtain ⟨me, hme2⟩ : ∃ me, me = marksErr ls := ⟨_, rfl⟩
        rw [← hme2] at HQ2 HRF HCK0
        have HCK := Lib.hid HCK0
        obtain ⟨p0, p1, zf0, zf1⟩ := hX.two
        have HHE := Lib.hid he
        clear HCK0 hme2 hgo he HQ
        go_upto_region 11 with (go_at_call 76; (with_reducible refine (HCK.out _ _ hdo).mono ?_); rintro v w3 ⟨rfl, hb3⟩; obtain ⟨y0, y1, yf0, yf1⟩ := (hX.below hb3).two)
        refine wp_name (fun U hU => ?_)
        have hk : ∀ q, q ≠ w1.heap.size → U.heap[q]? = w3.heap[q]? := fun q hq => by rw [hU.out]; exact heap_setCell_other _ _ _ _ (fun e => hq e.symm)
        have hXU : RdBlk U w1.heap.size ⟨rr.b, me⟩ ar cr := by rw [hU.out]; exact two_set1 (hX.below hb3) _
        have hZU := (hk _ (by omega)).trans ((hb3.block _ (lt_of_block hZ)).trans hZ)
        have hbU : Below w.heap.size w U := by rw [hU.out]; exact (below2 hbt hb3).setCell (by simp only; omega) _
        have hdU : DotsIn U ao ls := (hdo.kept hb3).keep (fun A off h _ => hk _ (by have := hao A off h; omega))
        clear hU hk hX hZ hbt hdo hb3 p0 p1 zf0 zf1 y0 y1 yf0 yf1 q1 q2
        have hX := hXU
        have hZ := hZU
        by_cases hme : me = 0
        · have HQ3 : Hid (rMarks r = (⟨rr.b, me⟩, ls)) := by rw [Hid, HQ2.out, if_pos hme, hme]; cases rr; simp only at *; rw [HHE.out]
          have q3 : (me == 0) = true := beq_iff_eq.2 hme
          have q4 : (me != 0) = false := by rw [bne_eq_false_iff_eq]; exact hme
          clear HQ2 hme
          obtain ⟨p0, p1, zf0, zf1⟩ := hX.two
          have hrg := hX.range
          go_wp2_with (first
            | ((with_reducible refine wpList_load_to 135 _ w1.heap.size 0 [.slice ar (⟨rr.b, me⟩ : Rd).b.length cr, .int .i64 (⟨rr.b, me⟩ : Rd).e] (rdVal (⟨rr.b, me⟩ : Rd) ar cr) rfl _ Tryz.underlying135 rfl (by kernel_rfl) hrg ?_ rfl ?_); exact rfl)
            | (refine wpList_store_row rfl 135 _ _ rfl (w.heap.size + 1) #[.slice ar (⟨rr.b, me⟩ : Rd).b.length cr, .int .i64 (⟨rr.b, me⟩ : Rd).e] rfl rfl 135 rdZero hZ (by kernel_rfl) rfl (by kernel_rfl) ?_)
            )
          refine ret_cell_tmp1 2 3 135 135 (w.heap.size + 1) #[.slice ar (⟨rr.b, me⟩ : Rd).b.length cr, .int .i64 (⟨rr.b, me⟩ : Rd).e] _ (.slice ao ls.length co) rfl rfl rfl (setRow_heap _ _ _ _ _ _ hZ) Tryz.underlying135 rfl (by kernel_rfl) rfl ?_
          unfold RetRmk
          rw [HQ3.out]
          exact ⟨ar, cr, ao, co, rfl, hinr, hcr, hdU.setRow _ (fun A off h => by have := hao A off h; omega), below_setRow hbU (by omega) _, fun A off h => by have := hao A off h; omega⟩
        · have HQ3 : Hid (rMarks r = (⟨rr.b, me⟩, [])) := by rw [Hid, HQ2.out, if_neg hme, HRF.out]
          have q3 : (me == 0) = false := beq_eq_false_iff_ne.2 hme
          have q4 : (me != 0) = true := by rw [bne_iff_ne]; exact hme
          clear HQ2 hme
          obtain ⟨p0, p1, zf0, zf1⟩ := hX.two
          have hrg := hX.range
          go_wp2_with (first
            | ((with_reducible refine wpList_load_to 135 _ w1.heap.size 0 [.slice ar (⟨rr.b, me⟩ : Rd).b.length cr, .int .i64 (⟨rr.b, me⟩ : Rd).e] (rdVal (⟨rr.b, me⟩ : Rd) ar cr) rfl _ Tryz.underlying135 rfl (by kernel_rfl) hrg ?_ rfl ?_); exact rfl)
            | (refine wpList_store_row rfl 135 _ _ rfl (w.heap.size + 1) #[.slice ar (⟨rr.b, me⟩ : Rd).b.length cr, .int .i64 (⟨rr.b, me⟩ : Rd).e] rfl rfl 135 rdZero hZ (by kernel_rfl) rfl (by kernel_rfl) ?_)
            )
          refine ret_cell_tmp1 2 3 135 135 (w.heap.size + 1) #[.slice ar (⟨rr.b, me⟩ : Rd).b.length cr, .int .i64 (⟨rr.b, me⟩ : Rd).e] _ (.slice none 0 0) rfl rfl rfl (setRow_heap _ _ _ _ _ _ hZ) Tryz.underlying135 rfl (by kernel_rfl) rfl ?_
          unfold RetRmk
          rw [HQ3.out]
          exact ⟨ar, cr, none, 0, rfl, hinr, hcr, Or.inl rfl, below_setRow hbU (by omega) _, fun A off h => by cases h⟩
      · have q1 : (rr.e == 0) = false := beq_eq_false_iff_ne.2 he
        have q2 : (rr.e != 0) = true := by rw [bne_iff_ne]; exact he
        have HQ3 : Hid (rMarks r = (rr, [])) := by rw [Hid, HQ.out]; unfold rMarksEnd; simp only; rw [if_neg he]
        clear HQ hgo he
        by_cases hjk : j < N
        · have d1 := decide_eq_true hjk
          have d2 : decide ((j : Int) < (N : Int)) = true := decide_eq_true (by omega)
          obtain ⟨p0, p1, zf0, zf1⟩ := hX.two
          have hrg := hX.range
          go_wp2_with (first
            | ((with_reducible refine wpList_load_to 135 _ w1.heap.size 0 [.slice ar rr.b.length cr, .int .i64 rr.e] (rdVal rr ar cr) rfl _ Tryz.underlying135 rfl (by kernel_rfl) hrg ?_ rfl ?_); exact rfl)
            | (refine wpList_store_row rfl 135 _ _ rfl (w.heap.size + 1) #[.slice ar rr.b.length cr, .int .i64 rr.e] rfl rfl 135 rdZero hZ (by kernel_rfl) rfl (by kernel_rfl) ?_)
            )
          refine ret_cell_tmp1 2 3 135 135 (w.heap.size + 1) #[.slice ar rr.b.length cr, .int .i64 rr.e] _ (.slice none 0 0) rfl rfl rfl (setRow_heap _ _ _ _ _ _ hZ) Tryz.underlying135 rfl (by kernel_rfl) rfl ?_
          unfold RetRmk
          rw [HQ3.out]
          exact ⟨ar, cr, none, 0, rfl, hinr, hcr, Or.inl rfl, below_setRow hbt (by omega) _, fun A off h => by cases h⟩
        · have d1 := decide_eq_false hjk
          have d2 : decide ((j : Int) < (N : Int)) = false := decide_eq_false (by omega)
          obtain ⟨p0, p1, zf0, zf1⟩ := hX.two
          have hrg := hX.range
          go_wp2_with (first
            | ((with_reducible refine wpList_load_to 135 _ w1.heap.size 0 [.slice ar rr.b.length cr, .int .i64 rr.e] (rdVal rr ar cr) rfl _ Tryz.underlying135 rfl (by kernel_rfl) hrg ?_ rfl ?_); exact rfl)
            | (refine wpList_store_row rfl 135 _ _ rfl (w.heap.size + 1) #[.slice ar rr.b.length cr, .int .i64 rr.e] rfl rfl 135 rdZero hZ (by kernel_rfl) rfl (by kernel_rfl) ?_)
            )
          refine ret_cell_tmp1 2 3 135 135 (w.heap.size + 1) #[.slice ar rr.b.length cr, .int .i64 rr.e] _ (.slice none 0 0) rfl rfl rfl (setRow_heap _ _ _ _ _ _ hZ) Tryz.underlying135 rfl (by kernel_rfl) rfl ?_
          unfold RetRmk
          rw [HQ3.out]
          exact ⟨ar, cr, none, 0, rfl, hinr, hcr, Or.inl rfl, below_setRow hbt (by omega) _, fun A off h => by cases h⟩
end Go.Proofs.YtnpdfmpjjomhcaaGreat
