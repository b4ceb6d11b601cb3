/- The reference's message, parsed. Conditions: at most 2^30 bytes. -/
import Derived.Test.YtnpdfmpjjomhcaaGreatRRdF
import Derived.Test.YtnpdfmpjjomhcaaGreatRRdG
import Derived.Test.YtnpdfmpjjomhcaaGreatRefGet
import Derived.Test.YtnpdfmpjjomhcaaGreatMsgP
set_option linter.unusedSimpArgs false
set_option linter.unusedVariables false
set_option linter.unnecessarySimpa false
namespace Go.Proofs.YtnpdfmpjjomhcaaGreat
open Go.RowKit

/-- events that grow, in memory of its own; the dots elsewhere; blocks of S may be written -/
structure EvsOwn (S : Nat → Prop) (w0 : World) (v : Value) (ls : List EvIt) (W : World) : Prop where
  own : W.ownsRow w0.heap.size 34 19 v ls.length (evItCells ls)
  dots : ∀ x ∈ ls, DotsIn W x.2.1 x.1.over
  ne : ∀ x ∈ ls, ∀ A off, x.2.1 = some ⟨A, off, none⟩ → x.1.over ≠ [] → w0.heap.size ≤ A ∧ v.ownBlock ≠ some A
  fr : Fr S w0 W
theorem EvsOwn.step {S : Nat → Prop} {w0 w w' : World} {v : Value} {ls : List EvIt} (h : EvsOwn S w0 v ls w) (hb : Below w.heap.size w w') : EvsOwn S w0 v ls w' :=
  ⟨ownsRow_below h.own hb, fun x hx => (h.dots x hx).kept hb, h.ne, h.fr.again (Fr.of_below hb)⟩
theorem EvsOwn.other {S : Nat → Prop} {w0 w w' : World} {v : Value} {ls : List EvIt} (h : EvsOwn S w0 v ls w) {g : Nat} (hg : g < w0.heap.size) (hk : ∀ k, k ≠ g → w'.heap[k]? = w.heap[k]?) (hf : Fr S w0 w') : EvsOwn S w0 v ls w' :=
  ⟨own_frame h.own (fun k hk2 => hk k (by omega)), fun x hx => (h.dots x hx).keep (fun A off hA hne => hk A (by have := (h.ne x hx A off hA hne).1; omega)), h.ne, hf⟩
theorem EvsOwn.app {S : Nat → Prop} {w0 w w2 : World} {v v2 : Value} {ls : List EvIt} {x : EvIt} (h : EvsOwn S w0 v ls w) (hown : w2.ownsRow w0.heap.size 34 19 v2 (ls.length + 1) (evItCells ls ++ itEv x))
    (hg : w.grownBy w2 v.ownBlock) (hat : v2.ownBlock = v.ownBlock ∨ v2.ownBlock = some w.heap.size) (hd : DotsIn w x.2.1 x.1.over) (hx : ∀ A off, x.2.1 = some ⟨A, off, none⟩ → x.1.over ≠ [] → w0.heap.size ≤ A ∧ v.ownBlock ≠ some A) : EvsOwn S w0 v2 (ls ++ [x]) w2 := by
  have hall : ∀ y ∈ ls ++ [x], DotsIn w y.2.1 y.1.over ∧ ∀ A off, y.2.1 = some ⟨A, off, none⟩ → y.1.over ≠ [] → w0.heap.size ≤ A ∧ v.ownBlock ≠ some A := by
    intro y hy
    rcases List.mem_append.1 hy with hy | hy
    · exact ⟨h.dots y hy, h.ne y hy⟩
    · simp only [List.mem_singleton] at hy; subst hy; exact ⟨hd, hx⟩
  refine ⟨by rw [evItCells_snoc, List.length_append]; exact hown, fun y hy => ?_, fun y hy A off hA hne => ⟨((hall y hy).2 A off hA hne).1, ?_⟩, h.fr.grown2 hg (fun k hk => (h.own.lt k hk).1)⟩
  · obtain ⟨h1, h2⟩ := hall y hy
    refine h1.keep (fun A off hA hne => hg.block A ?_ (fun e => (h2 A off hA hne).2 e.symm))
    rw [hA] at h1; exact dotsIn_lt h1 hne
  · obtain ⟨h1, h2⟩ := hall y hy
    rcases hat with hat | hat
    · rw [hat]; exact (h2 A off hA hne).2
    · rw [hA] at h1
      have := dotsIn_lt h1 hne
      rw [hat]; intro e; injection e with e; omega
theorem EvsOwn.fresh {S : Nat → Prop} {w0 w : World} {v : Value} {ls : List EvIt} (h : EvsOwn S w0 v ls w) {a : Option Addr} {p : Prop} (hn : ∀ A off, a = some ⟨A, off, none⟩ → w.heap.size ≤ A) : ∀ A off, a = some ⟨A, off, none⟩ → p → w0.heap.size ≤ A ∧ v.ownBlock ≠ some A :=
  fun A off ha _ => ⟨Nat.le_trans h.fr.size (hn A off ha), fun e => by have := hn A off ha; have := (h.own.lt A e).2; omega⟩
theorem exec_buildM {P : Program} {o : Oper} {a : Act} {w : World} (t : TypeId) (parts : Array (Nat × Operand)) (ho : o.op = .build t parts) (cells : Array Value) (hf : P.built t (parts.map fun (i, x) => (i, a.eval x)).toList = some cells) : (execOp a.eval o).run P w = .ok (.value (.agg cells)) w := by
  unfold execOp
  simp only [ho, Sem.run_bind, run_build w t _ cells hf, Result.andThen_ok, Sem.run_pure]
set_option maxRecDepth 100000 in
set_option maxHeartbeats 4000000 in
theorem rMsgParse_bad (a : Option Addr) (cap : Nat) (l : Bytes) (w : World) (hl : l.length ≤ 1073741824) (hcap : l.length ≤ cap) (h : BytesIn w a l) (hno : (frOne l).2 ≠ 0) :
    Calls Tryz.prog 41 #[.slice a l.length cap] w (RetMsg (msgParse l) w) := by
  have HV : Hid (msgParse l = (msg0, (frOne l).2)) := by unfold Hid msgParse; rw [if_neg hno]
  have HF : Hid (frOne l = if (frGet l).2.2 = 0 then (if (frGet l).2.1 < l.length then ([], 1) else ((frGet l).1, 0)) else ([], (frGet l).2.2)) := rfl
  have HG0 := fun (W : World) (h : BytesIn W a l) => rFrGet_any a cap l W hl hcap h
  obtain ⟨b, n, e, hx⟩ : ∃ b n e, frGet l = (b, n, e) := ⟨_, _, _, rfl⟩
  rw [hx] at HG0 HF
  unfold RetFr at HG0
  simp only at HG0 HF
  have HG := Lib.hid HG0
  by_cases he : e = 0
  · subst he
    have hn : n < l.length := by
      by_cases hn : n < l.length
      · exact hn
      · exact absurd (by rw [HF.out, if_pos rfl, if_neg hn]) hno
    have HV2 : Hid (msgParse l = (msg0, 1)) := by rw [Hid, HV.out, HF.out, if_pos rfl, if_pos hn]
    have d1 := decide_eq_true hn
    have d2 : decide ((n : Int) < (l.length : Int)) = true := decide_eq_true (by omega)
    clear HG0 hx hno HV HF
    go_enter Tryz.func41, Tryz.ntmps41
    go_upto_region 1 with fail
    refine wp_name (fun W hW => ?_)
    have hbt : Below w.heap.size w W := by rw [hW.out]; exact (Below.refl _ _).alloc (Nat.le_refl _) _
    have hZ : MsgBlk W w.heap.size 0 0 0 none 0 0 (.slice none 0 0) := by rw [hW.out]; exact heap_alloc_last w _
    have hin := h.kept hbt
    clear hW h
    go_wp2_with (first
      | (go_at_call 68; (with_reducible refine (HG.out _ hin).mono ?_); rintro x w1 ⟨v, rfl, hown, hb⟩; replace hZ := hZ.below hb; replace hbt := below2 hbt hb)
      | (refine wpList_store_row rfl 78 _ _ rfl w.heap.size msgZero rfl rfl 78 (msgCells 0 0 0 none 0 0 (.slice none 0 0)) hZ (by kernel_rfl) rfl (by kernel_rfl) ?_)
      )
    refine ret_cell_tmp1 2 3 78 78 w.heap.size msgZero _ (.int .i64 1) rfl rfl rfl (setRow_heap _ _ _ _ _ _ hZ) Tryz.underlying78 rfl (by kernel_rfl) rfl ?_
    rw [HV2.out]
    exact ⟨mit0, rfl, mit0_msg, mit0_in _, below_setRow hbt (Nat.le_refl _) _⟩
  · have q1 : (e == 0) = false := beq_eq_false_iff_ne.2 he
    have q2 : (e != 0) = true := by rw [bne_iff_ne]; exact he
    have HV2 : Hid (msgParse l = (msg0, e)) := by rw [Hid, HV.out, HF.out, if_neg he]
    clear HG0 hx hno HV HF he
    go_enter Tryz.func41, Tryz.ntmps41
    go_upto_region 1 with fail
    refine wp_name (fun W hW => ?_)
    have hbt : Below w.heap.size w W := by rw [hW.out]; exact (Below.refl _ _).alloc (Nat.le_refl _) _
    have hZ : MsgBlk W w.heap.size 0 0 0 none 0 0 (.slice none 0 0) := by rw [hW.out]; exact heap_alloc_last w _
    have hin := h.kept hbt
    clear hW h
    go_wp2_with (first
      | (go_at_call 68; (with_reducible refine (HG.out _ hin).mono ?_); rintro x w1 ⟨v, rfl, hown, hb⟩; replace hZ := hZ.below hb; replace hbt := below2 hbt hb)
      | (refine wpList_store_row rfl 78 _ _ rfl w.heap.size msgZero rfl rfl 78 (msgCells 0 0 0 none 0 0 (.slice none 0 0)) hZ (by kernel_rfl) rfl (by kernel_rfl) ?_)
      )
    refine ret_cell_tmp1 2 3 78 78 w.heap.size msgZero _ (.int .i64 e) rfl rfl rfl (setRow_heap _ _ _ _ _ _ hZ) Tryz.underlying78 rfl (by kernel_rfl) rfl ?_
    rw [HV2.out]
    exact ⟨mit0, rfl, mit0_msg, mit0_in _, below_setRow hbt (Nat.le_refl _) _⟩
set_option maxRecDepth 100000 in
set_option maxHeartbeats 8000000 in
theorem rMsgParse_ok (a : Option Addr) (cap : Nat) (l : Bytes) (w : World) (hl : l.length ≤ 1073741824) (hcap : l.length ≤ cap) (h : BytesIn w a l) (hok : (frOne l).2 = 0) :
    Calls Tryz.prog 41 #[.slice a l.length cap] w (RetMsg (msgParse l) w) := by
  obtain ⟨i0, hi, hz0, hz1, hz2⟩ := info_parts Tryz.infoEv
  have HV : Hid (msgParse l = msgRead (frOne l).1) := by unfold Hid msgParse; rw [if_pos hok]
  have HF : Hid (frOne l = if (frGet l).2.2 = 0 then (if (frGet l).2.1 < l.length then ([], 1) else ((frGet l).1, 0)) else ([], (frGet l).2.2)) := rfl
  have HG0 := fun (W : World) (h : BytesIn W a l) => rFrGet_any a cap l W hl hcap h
  have hfr := frGet_fit l
  obtain ⟨b, n, e, hx⟩ : ∃ b n e, frGet l = (b, n, e) := ⟨_, _, _, rfl⟩
  rw [hx] at HG0 HF hfr
  unfold RetFr at HG0
  simp only at HG0 HF hfr
  have he : e = 0 := by
    by_cases he : e = 0
    · exact he
    · have := HF.out; rw [if_neg he] at this; rw [this] at hok; exact absurd hok he
  subst he
  have hn : ¬ n < l.length := fun hn => by
    have := HF.out; rw [if_pos rfl, if_pos hn] at this; rw [this] at hok; exact absurd hok (by simp)
  have hbl : b.length ≤ 1048576 := by
    rcases hfr with ⟨-, -, -, h6, -⟩ | ⟨h6, -⟩
    · exact h6
    · exact absurd rfl h6
  have HVb : Hid (msgParse l = msgRead b) := by rw [Hid, HV.out, HF.out, if_pos rfl, if_neg hn]
  have d1 := decide_eq_false hn
  have d2 : decide ((n : Int) < (l.length : Int)) = false := decide_eq_false (by omega)
  have HG := Lib.hid HG0
  clear HG0 hx hok HV HF hfr hn
  have f1 := rNum_fit 3 ⟨b, 0⟩
  obtain ⟨r1, k, h1⟩ : ∃ x y, rNum 3 ⟨b, 0⟩ = (x, y) := ⟨_, _, rfl⟩
  have f2 := rNum_fit 63 r1
  obtain ⟨r2, f, h2⟩ : ∃ x y, rNum 63 r1 = (x, y) := ⟨_, _, rfl⟩
  have f3 := rNum_fit 63 r2
  obtain ⟨r3, d, h3⟩ : ∃ x y, rNum 63 r2 = (x, y) := ⟨_, _, rfl⟩
  have f4 := rMarks_fit r3
  have f4l := rMarks_len r3
  obtain ⟨r4, mk, h4⟩ : ∃ x y, rMarks r3 = (x, y) := ⟨_, _, rfl⟩
  have f5 := rNum_fit 256 r4
  obtain ⟨r5, N, h5⟩ : ∃ x y, rNum 256 r4 = (x, y) := ⟨_, _, rfl⟩
  rw [h1] at f1
  rw [h2] at f2
  rw [h3] at f3
  rw [h4] at f4 f4l
  rw [h5] at f5
  simp only at f1 f2 f3 f4 f4l f5
  have HM : Hid (msgParse l = msgEnd k f d mk (rEvs N r5)) := by
    rw [Hid, HVb.out]; unfold msgRead; simp only [h1, h2, h3, h4, h5]
  have g1 : Hid (∀ (w0 W : World) (a : Option Addr) (cap : Nat), Below w0.heap.size w0 W → b.length ≤ cap → BytesIn w0 a b → Calls Tryz.prog 87 #[.agg #[.slice a b.length cap, .int .i64 0], .int .u64 3] W (RetRv r1 (.int .u64 k) w0 W)) := fun w0 W a cap h hc hb => by have := rReadNum_any ⟨b, 0⟩ a cap 3 w0 W h (by simp only; omega) hc (by omega) hb; rw [h1] at this; exact this
  have g2 : Hid (∀ (w0 W : World) (a : Option Addr) (cap : Nat), Below w0.heap.size w0 W → r1.b.length ≤ cap → BytesIn w0 a r1.b → Calls Tryz.prog 87 #[rdVal r1 a cap, .int .u64 63] W (RetRv r2 (.int .u64 f) w0 W)) := fun w0 W a cap h hc hb => by have := rReadNum_any r1 a cap 63 w0 W h (by omega) hc (by omega) hb; rw [h2] at this; exact this
  have g3 : Hid (∀ (w0 W : World) (a : Option Addr) (cap : Nat), Below w0.heap.size w0 W → r2.b.length ≤ cap → BytesIn w0 a r2.b → Calls Tryz.prog 87 #[rdVal r2 a cap, .int .u64 63] W (RetRv r3 (.int .u64 d) w0 W)) := fun w0 W a cap h hc hb => by have := rReadNum_any r2 a cap 63 w0 W h (by omega) hc (by omega) hb; rw [h3] at this; exact this
  have g4 := fun (w0 W : World) (a : Option Addr) (cap : Nat) (h : Below w0.heap.size w0 W) (hc : r3.b.length ≤ cap) (hb : BytesIn w0 a r3.b) => rMarksRead_any r3 a cap w0 W h (by omega) hc hb
  unfold RetRmk at g4
  simp only [h4] at g4
  have G4 := Lib.hid g4
  have g5 : Hid (∀ (w0 W : World) (a : Option Addr) (cap : Nat), Below w0.heap.size w0 W → r4.b.length ≤ cap → BytesIn w0 a r4.b → Calls Tryz.prog 87 #[rdVal r4 a cap, .int .u64 256] W (RetRv r5 (.int .u64 N) w0 W)) := fun w0 W a cap h hc hb => by have := rReadNum_any r4 a cap 256 w0 W h (by omega) hc (by omega) hb; rw [h5] at this; exact this
  obtain ⟨bk, bb⟩ : k ≤ 3 ∧ f ≤ 63 := ⟨f1.2, f2.2⟩
  have bd := f3.2
  have bN := f5.2
  have l5 : r5.b.length ≤ 1048576 := by omega
  clear HVb g4 h1 h2 h3 h4 h5 f1 f2 f3 f4 f5
  go_enter Tryz.func41, Tryz.ntmps41
  go_upto_region 1 with fail
  refine wp_name (fun W hW => ?_)
  have hbt : Below w.heap.size w W := by rw [hW.out]; exact (Below.refl _ _).alloc (Nat.le_refl _) _
  have hZ : MsgBlk W w.heap.size 0 0 0 none 0 0 (.slice none 0 0) := by rw [hW.out]; exact heap_alloc_last w _
  have hin := h.kept hbt
  clear hW h
  go_upto_region 6 with (go_at_call 68; (with_reducible refine (HG.out _ hin).mono ?_); rintro x w0 ⟨v, rfl, hown, hb⟩)
  obtain ⟨ab, cb, rfl, hinb⟩ := own_bytes hown
  have hcb := own_cap2 hown
  replace hZ := hZ.below hb
  replace hbt := below2 hbt hb
  have hlw := hZ.lt
  have h0W : Below w0.heap.size w0 w0 := Below.refl _ _
  clear hb hown hin HG
  have G1 := Lib.hid (fun W h => g1.out w0 W ab cb h hcb hinb)
  go_upto_region 7 with (first
    | (go_at_call 87; (with_reducible refine (G1.out _ h0W).mono ?_); rintro x w1 ⟨a1, c1, rfl, hin1, hc1, hb1⟩)
    | (refine wpList_store_new 135 _ _ _ #[.slice a1 r1.b.length c1, .int .i64 r1.e] rfl rfl (by kernel_rfl) rfl (by kernel_rfl) ?_))
  refine wp_name (fun V1 hV => ?_)
  have hX1 : RdBlk V1 w1.heap.size r1 a1 c1 := by rw [hV.out]; exact RdBlk.new w1 r1 a1 c1
  have hbv : Below w0.heap.size w0 V1 := by rw [hV.out]; exact hb1.alloc hb1.size _
  replace h0W := h0W.trans (hbv.mono h0W.size)
  have hlo1 := Nat.lt_of_lt_of_le hlw hb1.size
  replace hlw := Nat.lt_of_lt_of_le hlw hbv.size
  clear hV hb1 G1 g1
  have hrg := hX1.range
  replace hZ := hZ.below hbv
  replace hbt := below2 hbt hbv
  clear hbv
  obtain ⟨W, hWe⟩ : ∃ W, W = V1 := ⟨_, rfl⟩
  subst hWe
  have G2 := Lib.hid (fun W h => g2.out w0 W a1 c1 h hc1 hin1)
  go_upto_region 8 with (first
    | ((with_reducible refine wpList_load_to 135 _ w1.heap.size 0 [.slice a1 r1.b.length c1, .int .i64 r1.e] (rdVal r1 a1 c1) rfl _ Tryz.underlying135 rfl (by kernel_rfl) hrg ?_ rfl ?_); exact rfl)
    | (go_at_call 87; (with_reducible refine (G2.out _ h0W).mono ?_); rintro x w2 ⟨a2, c2, rfl, hin2, hc2, hb2⟩)
    | (refine wpList_store_new 135 _ _ _ #[.slice a2 r2.b.length c2, .int .i64 r2.e] rfl rfl (by kernel_rfl) rfl (by kernel_rfl) ?_))
  refine wp_name (fun V2 hV => ?_)
  have hX2 : RdBlk V2 w2.heap.size r2 a2 c2 := by rw [hV.out]; exact RdBlk.new w2 r2 a2 c2
  have hbv : Below W.heap.size W V2 := by rw [hV.out]; exact hb2.alloc hb2.size _
  replace h0W := h0W.trans (hbv.mono h0W.size)
  have hlo2 := Nat.lt_of_lt_of_le hlw hb2.size
  replace hlw := Nat.lt_of_lt_of_le hlw hbv.size
  clear hV hb2 hrg
  have hrg := hX2.range
  replace hZ := hZ.below hbv
  replace hbt := below2 hbt hbv
  clear hbv
  obtain ⟨W, hWe⟩ : ∃ W, W = V2 := ⟨_, rfl⟩
  subst hWe
  have G3 := Lib.hid (fun W h => g3.out w0 W a2 c2 h hc2 hin2)
  go_upto_region 9 with (first
    | ((with_reducible refine wpList_load_to 135 _ w2.heap.size 0 [.slice a2 r2.b.length c2, .int .i64 r2.e] (rdVal r2 a2 c2) rfl _ Tryz.underlying135 rfl (by kernel_rfl) hrg ?_ rfl ?_); exact rfl)
    | (go_at_call 87; (with_reducible refine (G3.out _ h0W).mono ?_); rintro x w3 ⟨a3, c3, rfl, hin3, hc3, hb3⟩)
    | (refine wpList_store_new 135 _ _ _ #[.slice a3 r3.b.length c3, .int .i64 r3.e] rfl rfl (by kernel_rfl) rfl (by kernel_rfl) ?_))
  refine wp_name (fun V3 hV => ?_)
  have hX3 : RdBlk V3 w3.heap.size r3 a3 c3 := by rw [hV.out]; exact RdBlk.new w3 r3 a3 c3
  have hbv : Below W.heap.size W V3 := by rw [hV.out]; exact hb3.alloc hb3.size _
  replace h0W := h0W.trans (hbv.mono h0W.size)
  have hlo3 := Nat.lt_of_lt_of_le hlw hb3.size
  replace hlw := Nat.lt_of_lt_of_le hlw hbv.size
  clear hV hb3 hrg
  have hrg := hX3.range
  replace hZ := hZ.below hbv
  replace hbt := below2 hbt hbv
  clear hbv
  obtain ⟨W, hWe⟩ : ∃ W, W = V3 := ⟨_, rfl⟩
  subst hWe
  have G4' := Lib.hid (fun W h => G4.out w0 W a3 c3 h hc3 hin3)
  go_upto_region 10 with (first
    | ((with_reducible refine wpList_load_to 135 _ w3.heap.size 0 [.slice a3 r3.b.length c3, .int .i64 r3.e] (rdVal r3 a3 c3) rfl _ Tryz.underlying135 rfl (by kernel_rfl) hrg ?_ rfl ?_); exact rfl)
    | (go_at_call 88; (with_reducible refine (G4'.out _ h0W).mono ?_); rintro x w4 ⟨a4, c4, am, cm, rfl, hin4, hc4, hdm, hb4, hAm⟩)
    | (refine wpList_store_new 135 _ _ _ #[.slice a4 r4.b.length c4, .int .i64 r4.e] rfl rfl (by kernel_rfl) rfl (by kernel_rfl) ?_))
  refine wp_name (fun V4 hV => ?_)
  have hX4 : RdBlk V4 w4.heap.size r4 a4 c4 := by rw [hV.out]; exact RdBlk.new w4 r4 a4 c4
  have hbv : Below W.heap.size W V4 := by rw [hV.out]; exact hb4.alloc hb4.size _
  have hdm4 : DotsIn V4 am mk := by rw [hV.out]; exact hdm.kept ((Below.refl _ _).alloc (Nat.le_refl _) _)
  replace h0W := h0W.trans (hbv.mono h0W.size)
  have hAm4 : ∀ A off, am = some ⟨A, off, none⟩ → w.heap.size < A := fun A off h => Nat.lt_of_lt_of_le hlw (hAm A off h)
  have hAm5 : ∀ A off, am = some ⟨A, off, none⟩ → mk ≠ [] → A < V4.heap.size := fun A off h hne => by subst h; exact dotsIn_lt hdm4 hne
  replace hlw := Nat.lt_of_lt_of_le hlw hbv.size
  clear hV hb4 hrg hdm hAm
  have hrg := hX4.range
  replace hZ := hZ.below hbv
  replace hbt := below2 hbt hbv
  clear hbv
  obtain ⟨W, hWe⟩ : ∃ W, W = V4 := ⟨_, rfl⟩
  subst hWe
  have G5 := Lib.hid (fun W h => g5.out w0 W a4 c4 h hc4 hin4)
  have hlw5 := hlw
  go_upto_region 11 with (first
    | ((with_reducible refine wpList_load_to 135 _ w4.heap.size 0 [.slice a4 r4.b.length c4, .int .i64 r4.e] (rdVal r4 a4 c4) rfl _ Tryz.underlying135 rfl (by kernel_rfl) hrg ?_ rfl ?_); exact rfl)
    | (go_at_call 87; (with_reducible refine (G5.out _ h0W).mono ?_); rintro x w5 ⟨a5, c5, rfl, hin5, hc5, hb5⟩)
    | (refine wpList_store_new 135 _ _ _ #[.slice a5 r5.b.length c5, .int .i64 r5.e] rfl rfl (by kernel_rfl) rfl (by kernel_rfl) ?_))
  refine wp_name (fun V5 hV => ?_)
  have hX5 : RdBlk V5 w5.heap.size r5 a5 c5 := by rw [hV.out]; exact RdBlk.new w5 r5 a5 c5
  have hbv : Below W.heap.size W V5 := by rw [hV.out]; exact hb5.alloc hb5.size _
  have hAmX : ∀ A off, am = some ⟨A, off, none⟩ → mk ≠ [] → A < w5.heap.size := fun A off h hne => Nat.lt_of_lt_of_le (hAm5 A off h hne) hb5.size
  have hlo5 := Nat.lt_of_lt_of_le hlw hb5.size
  have h05 := Nat.le_trans h0W.size hb5.size
  replace hdm4 := hdm4.kept hbv
  replace hZ := hZ.below hbv
  replace hbt := below2 hbt hbv
  replace h0W := h0W.trans (hbv.mono h0W.size)
  clear hV hb5 hrg hbv hlw hlw5 hAm5 G2 G3 G4' G5 G4 g2 g3 g5 hX1 hX2 hX3 hX4
  go_upto_region 12 with (first
    | (refine Great.wpList_buildTo rfl 78 _ rfl _ rfl (msgCells k f d am mk.length cm (.slice none 0 0)) (by kernel_rfl) ?_)
    | (refine wpList_store_new 78 _ _ _ (msgCells k f d am mk.length cm (.slice none 0 0)) rfl rfl (by kernel_rfl) rfl (by kernel_rfl) ?_))
  refine wp_name (fun V6 hV => ?_)
  have hM : MsgBlk V6 V5.heap.size k f d am mk.length cm (.slice none 0 0) := by rw [hV.out]; exact heap_alloc_last V5 _
  have hbv : Below V5.heap.size V5 V6 := by rw [hV.out]; exact (Below.refl _ _).alloc (Nat.le_refl _) _
  have hXl := hX5.lt
  have hX := hX5.below hbv
  have hMl := hM.lt
  replace hdm4 := hdm4.kept hbv
  replace hZ := hZ.below hbv
  replace hbt := below2 hbt hbv
  replace h0W := h0W.trans (hbv.mono h0W.size)
  clear hV hbv hX5
  have hI0 : EvsOwn (isRE w5.heap.size V5.heap.size) V6 (.slice none 0 0) [] V6 := ⟨World.ownsRow_nil _ _ _ _, fun x hx => by simp at hx, fun x hx => by simp at hx, Fr.refl _ _⟩
  have hXM : w5.heap.size < V5.heap.size := hXl
  go_upto_block 0 with fail
  go_cut [] (fun wx => ∃ (rr : Rd) (ar : Option Addr) (cr : Nat) (ls : List EvIt) (v : Value), rEvs N r5 = (rr, evsOf ls) ∧ ls.length ≤ 256 ∧ rr.b.length ≤ 1048576 ∧ EvsSmall ls ∧ RdBlk wx w5.heap.size rr ar cr ∧ MsgBlk wx V5.heap.size k f d am mk.length cm v ∧ EvsOwn (isRE w5.heap.size V5.heap.size) V6 v ls wx)
  case first =>
    go_wp2
    go_loopw [18] (fun i wr => ∃ (j m : Nat) (rr : Rd) (ar : Option Addr) (cr : Nat) (ls : List EvIt) (v : Value), i = .int .u64 j ∧ j + m = N ∧ m + ls.length ≤ 256 ∧ rr.b.length ≤ 1048576 ∧ EvsSmall ls ∧ RdBlk wr w5.heap.size rr ar cr ∧ BytesIn w0 ar rr.b ∧ rr.b.length ≤ cr ∧ MsgBlk wr V5.heap.size k f d am mk.length cm v ∧ EvsOwn (isRE w5.heap.size V5.heap.size) V6 v ls wr ∧ rEvs N r5 = ((rEvs m rr).1, evsOf ls ++ (rEvs m rr).2)) (fun i _ => N - (intOf i).toNat)
    case atStart => exact ⟨0, N, r5, a5, c5, [], _, rfl, by omega, by simp; omega, l5, fun x hx => by simp at hx, hX, hin5, hc5, hM, hI0, by simp [evsOf]⟩
    case round =>
      clear hI0 hX hM
      obtain ⟨j, m, rr, ar, cr, ls, v, rfl, hjm, hmn, hrl, hsm, hX, hinr, hcr, hM, hI, hpre⟩ := hrel
      have HP := Lib.hid hpre
      clear hpre
      have hzw := hI.fr.size
      by_cases hgo : 0 < m ∧ rr.e = 0
      · obtain ⟨hm0, hre⟩ := hgo
        obtain ⟨n2, rfl⟩ : ∃ n, m = n + 1 := ⟨m - 1, by omega⟩
        have hjk : j < N := by omega
        have e1 := decide_eq_true hjk
        have e2 : decide ((j : Int) < (N : Int)) = true := decide_eq_true (by omega)
        have q1 : (rr.e == 0) = true := beq_iff_eq.2 hre
        have hf := rEv_fit rr
        have hsv := rEv_small rr
        have HS : Hid (rEvs N r5 = ((rEvs n2 (rEv rr).1).1, (evsOf ls ++ [(rEv rr).2]) ++ (rEvs n2 (rEv rr).1).2)) := by rw [Hid, HP.out, rEvs_next hre]; simp
        have h0R : Below w0.heap.size w0 wr := h0W.trans (hI.fr.below (by omega) (fun q hq => by rcases hq with rfl | rfl <;> omega))
        have hG0 := fun (U : World) (h : Below w0.heap.size w0 U) => rEvGet_any rr ar cr w0 U h (by omega) hcr hinr
        unfold RetRevG at hG0
        obtain ⟨rn, ev, hrd⟩ : ∃ r2 d, rEv rr = (r2, d) := ⟨_, _, rfl⟩
        rw [hrd] at hf HS hsv
        simp only [hrd] at hG0
        simp only at hf HS hsv
        have HG := Lib.hid hG0
        obtain ⟨p0, p1, pf0, pf1⟩ := hX.two
        have hrg := hX.range
        clear hrd hG0 HP hre hm0
        go_upto_region 16 with (first
          | ((with_reducible refine wpList_load_to 135 _ w5.heap.size 0 [.slice ar rr.b.length cr, .int .i64 rr.e] (rdVal rr ar cr) rfl _ Tryz.underlying135 rfl (by kernel_rfl) hrg ?_ rfl ?_); exact rfl)
          | (go_at_call 89; (with_reducible refine (HG.out _ h0R).mono ?_); rintro x w7 ⟨a7, c7, ae, ce, rfl, hin7, hc7, hde, hb7, hae⟩)
          | (refine wpList_store_new2 135 _ _ _ #[.slice a7 rn.b.length c7, .int .i64 rn.e] _ rfl rfl (by kernel_rfl) rfl (by kernel_rfl) ?_)
          | (refine wpList_store_newAt 34 _ _ _ (evCells ev ae ce).toArray (w7.heap.size + 1) (by simp) rfl rfl (by kernel_rfl) rfl (by kernel_rfl) ?_))
        refine wp_name (fun U hU => ?_)
        have hN7 : RdBlk U w7.heap.size rn a7 c7 := by rw [hU.out]; exact RdBlk.new2 w7 rn a7 c7 _
        have hS7 : EvBlk U (w7.heap.size + 1) ev ae ce := by rw [hU.out]; exact StBlk.new2 w7 _ _ _
        have hb77 : Below w7.heap.size w7 U := by rw [hU.out]; exact ((Below.refl _ _).alloc (Nat.le_refl _) _).alloc (by simp) _
        have hbU : Below wr.heap.size wr U := by rw [hU.out]; exact (hb7.alloc hb7.size _).alloc (Nat.le_trans hb7.size (by simp)) _
        have hz7 := hb7.size
        have hdU := hde.kept hb77
        have hxx := hI.fresh (p := ev.over ≠ []) hae
        have hIU := hI.step hbU
        have hXU := hX.below hbU
        have hMU := hM.below hbU
        clear hU hb77 hbU hb7 hX hM hI hde hrg p0 p1 pf0 pf1 q1
        have hrN := hN7.range
        go_upto_region 17 with (first
          | ((with_reducible refine wpList_load_to 135 _ w7.heap.size 0 [.slice a7 rn.b.length c7, .int .i64 rn.e] (rdVal rn a7 c7) rfl _ Tryz.underlying135 rfl (by kernel_rfl) hrN ?_ rfl ?_); exact rfl)
          | (refine wpList_store_row rfl 135 _ _ rfl w5.heap.size #[.slice a7 rn.b.length c7, .int .i64 rn.e] rfl rfl 135 (rdCells rr ar cr) hXU (by kernel_rfl) rfl (by kernel_rfl) ?_))
        refine wp_name (fun Y hY => ?_)
        have hk : ∀ q, q ≠ w5.heap.size → Y.heap[q]? = U.heap[q]? := fun q hq => by rw [hY.out]; exact heap_setRow_other _ _ _ _ (fun e => hq e.symm)
        have hXY : RdBlk Y w5.heap.size rn a7 c7 := by rw [hY.out]; exact setRow_heap _ _ _ _ _ _ hXU
        have hMY : MsgBlk Y V5.heap.size k f d am mk.length cm v := (hk _ (by omega)).trans hMU
        have hSY : EvBlk Y (w7.heap.size + 1) ev ae ce := (hk _ (by omega)).trans hS7
        have hIY : EvsOwn (isRE w5.heap.size V5.heap.size) V6 v ls Y := hIU.other (g := w5.heap.size) (by omega) hk (by rw [hY.out]; exact hIU.fr.setRow (Or.inr (Or.inl rfl)) _)
        have hdY : DotsIn Y ae ev.over := hdU.keep (fun A off h _ => hk _ (by have := hae A off h; omega))
        have hzY := hIY.fr.size
        clear hY hk hrN hN7 hXU hMU hIU hS7 hdU
        have p4 := hMY.cells.2.2.2.2
        have y4 := hMY.free 4
        have hrS := hSY.cell
        have hown := hIY.own
        go_wp2_with (first
          | ((with_reducible refine wpList_load_ev _ (w7.heap.size + 1) ev ae ce hrS ?_ rfl ?_); exact rfl)
          | (refine wpList_buildOne rfl 76 34 _ rfl (evCells ev ae ce).toArray 19 rfl rfl (by decide) (by decide) Tryz.underlying76 (by kernel_rfl) (by kernel_rfl) ?_)
          | (at_builtin; go_loud (refine wpList_append_own_at _ rfl _ _ 76 rfl V6.heap.size 34 i0 (.agg (evCells ev0 none 0).toArray) 19 176 Tryz.underlying76 hi hz0 hz1 hz2 rfl (by decide) _ _ _ rfl (hown.alloc _) ⟨Y.heap.size, 0, none⟩ 1 1 (evCells ev ae ce) rfl rfl (evs_new Y ev ae ce _) (evCells_one _ _ _) (by unfold maxLen; omega) (by omega) (by simp; omega) ?_)))
        intro v' wf hownf hgrow _ hat
        obtain ⟨ad', cap', rfl⟩ := own_shape hownf
        have hal : Below Y.heap.size Y (Y.alloc (Obj.cells (evCells ev ae ce).toArray 34)) := (Below.refl _ _).alloc (Nat.le_refl _) _
        have hI2 := EvsOwn.app (x := (ev, ae, ce)) (hIY.step hal) hownf hgrow (by rcases hat with h | h; exact Or.inl h; exact Or.inr (by rw [h]; simp)) (hdY.kept hal) hxx
        have hlt := fun (q : Nat) (e : v.ownBlock = some q) => (hown.lt q e).1
        have hXf : RdBlk wf w5.heap.size rn a7 c7 := (hgrow.block _ (by simp; omega) (fun e => by have := hlt _ e.symm; omega)).trans (hXY.below hal)
        have hMf : MsgBlk wf V5.heap.size k f d am mk.length cm v := (hMY.below hal).grown hgrow (fun e => by have := hlt _ e.symm; omega)
        have p4f := hMf.cells.2.2.2.2
        have x4f := hMf.free 4
        have hkf : ∀ (u : Value) (q : Nat), q ≠ V5.heap.size → (wf.setCell ⟨V5.heap.size, 4, none⟩ u).heap[q]? = wf.heap[q]? := fun u q hq => heap_setCell_other _ _ _ _ (fun e => hq e.symm)
        have hI3 := fun (u : Value) => hI2.other (g := V5.heap.size) hMl (hkf u) (hI2.fr.setCell (p := ⟨V5.heap.size, 4, none⟩) (Or.inr (Or.inr rfl)) u)
        have hX3 := fun (u : Value) => (hkf u w5.heap.size (by omega)).trans hXf
        have hM3 := fun (u : Value) => hMf.set4 u
        have hs2 : EvsSmall (ls ++ [(ev, ae, ce)]) := by
          intro x hx
          rcases List.mem_append.1 hx with hx | hx
          · exact hsm x hx
          · simp only [List.mem_singleton] at hx; subst hx; exact hsv
        have HEV : Hid (evsOf (ls ++ [(ev, ae, ce)]) = evsOf ls ++ [ev]) := by simp [Hid, evsOf]
        have HFIN := Lib.hid (And.intro hI3 (And.intro hX3 hM3))
        clear hI2 hXf hMf hownf hgrow hat hIY hXY hMY hSY hdY hrS hown hal hI3 hX3 hM3 hkf hlt p4 y4 hxx
        go_wp2
        go_roundw
        case rel => exact ⟨j + 1, n2, rn, a7, c7, ls ++ [(ev, ae, ce)], _, by go_num, by omega, by simp; omega, by omega, hs2, HFIN.out.2.1 _, hin7, hc7, HFIN.out.2.2 _, HFIN.out.1 _, by rw [HEV.out]; exact HS.out⟩
        case measure => simp [intOf] <;> omega
      · have hend : rEvs m rr = (rr, []) := by
          by_cases h0 : m = 0
          · subst h0; rfl
          · exact rEvs_err (fun e => hgo ⟨by omega, e⟩)
        have HQ : Hid (rEvs N r5 = (rr, evsOf ls)) := by rw [Hid, HP.out, hend]; simp
        obtain ⟨p0, p1, pf0, pf1⟩ := hX.two
        have hls : ls.length ≤ 256 := by omega
        clear hend HP
        by_cases hjk : j < N
        · have q1 : (rr.e == 0) = false := beq_eq_false_iff_ne.2 (fun e => hgo ⟨by omega, e⟩)
          have e1 := decide_eq_true hjk
          have e2 : decide ((j : Int) < (N : Int)) = true := decide_eq_true (by omega)
          clear hgo
          go_wp2
          go_meet
          exact ⟨rr, ar, cr, ls, v, HQ.out, hls, hrl, hsm, hX, hM, hI⟩
        · have e1 := decide_eq_false hjk
          have e2 : decide ((j : Int) < (N : Int)) = false := decide_eq_false (by omega)
          clear hgo
          go_wp2
          go_meet
          exact ⟨rr, ar, cr, ls, v, HQ.out, hls, hrl, hsm, hX, hM, hI⟩
  case rest =>
    obtain ⟨rr, ar, cr, ls, v, hre0, hls, hrl, hsm, hX, hM, hI⟩ := hcut
    obtain ⟨U, hUe⟩ : ∃ U, U = wc := ⟨_, rfl⟩
    subst hUe
    have HQ : Hid (msgParse l = msgEnd k f d mk (rr, evsOf ls)) := by rw [Hid, HM.out, hre0]
    obtain ⟨ax, cx, hvx, hin⟩ := evsIn_own hI.own hI.dots
    subst hvx
    have hFr := hI.fr
    have hdmr : DotsIn U am mk := hdm4.keep (fun A off h hne => hFr.block A (by have := hAmX A off h hne; omega) (isXE_other (by have := hAmX A off h hne; omega) (by have := hAmX A off h hne; omega)))
    replace hZ := hZ.fr hFr (isXE_other (by omega) (by omega))
    replace hbt := hbt.trans (hFr.below (B := w.heap.size) hbt.size (fun q hq => by rcases hq with rfl | rfl <;> omega))
    have hnew : ∀ x ∈ ls, ∀ A off, x.2.1 = some ⟨A, off, none⟩ → x.1.over ≠ [] → w.heap.size < A := fun x hx A off h1 h2 => by have := (hI.ne x hx A off h1 h2).1; omega
    have hnewx : ∀ A off, ax = some ⟨A, off, none⟩ → ls ≠ [] → w.heap.size < A := by
      intro A off h1 h2
      rcases hI.own.2 with ⟨_, hn⟩ | ⟨g, cap, cur, hv, hg, _⟩
      · exact absurd (List.length_eq_zero_iff.1 hn) h2
      · simp only [Value.slice.injEq] at hv
        rw [h1] at hv
        have : A = g := by have h5 := hv.1; simp at h5; exact h5.1
        omega
    obtain ⟨y0, y1, y2, y3, y4⟩ := hM.cells
    obtain ⟨p0, p1, pf0, pf1⟩ := hX.two
    have hpos : w.heap.size < U.heap.size := hZ.lt
    clear hre0 HM hI hI0 hdm4
    by_cases he : rr.e = 0
    · have q1 : (rr.e == 0) = true := beq_iff_eq.2 he
      have q2 : (rr.e != 0) = false := by rw [bne_eq_false_iff_eq]; exact he
      by_cases hlen : 0 < rr.b.length
      · have e1 := decide_eq_true hlen
        have e2 : decide ((0 : Int) < (rr.b.length : Int)) = true := decide_eq_true (by omega)
        have HQ2 : Hid (msgParse l = (msg0, 1)) := by rw [Hid, HQ.out]; unfold msgEnd rEnd; simp only [if_pos he, if_pos hlen]; rfl
        clear HQ he
        go_wp2_with (refine wpList_store_row rfl 78 _ _ rfl w.heap.size msgZero rfl rfl 78 (msgCells 0 0 0 none 0 0 (.slice none 0 0)) hZ (by kernel_rfl) rfl (by kernel_rfl) ?_)
        refine ret_cell_tmp1 2 3 78 78 w.heap.size msgZero _ (.int .i64 1) rfl rfl rfl (setRow_heap _ _ _ _ _ _ hZ) Tryz.underlying78 rfl (by kernel_rfl) rfl ?_
        rw [HQ2.out]
        exact ⟨mit0, rfl, mit0_msg, mit0_in _, below_setRow hbt (Nat.le_refl _) _⟩
      · have e1 := decide_eq_false hlen
        have e2 : decide ((0 : Int) < (rr.b.length : Int)) = false := decide_eq_false (by omega)
        have HQ1 : Hid (msgParse l = if msgOk ⟨k, f, d, mk, evsOf ls⟩ = true then (⟨k, f, d, mk, evsOf ls⟩, 0) else (msg0, 1)) := by rw [Hid, HQ.out]; unfold msgEnd rEnd; simp only [if_pos he, if_neg hlen, if_true]
        have hsms : MsgSmall ⟨k, f, d, mk, am, cm, ls, ax, cx⟩ := ⟨by simp only; omega, by simp only; omega, hsm⟩
        have HRt := fun (Y : World) (h1 : DotsIn Y am mk) (h2 : EvsIn Y ax ls) => rMsgRight_any ⟨k, f, d, mk, am, cm, ls, ax, cx⟩ Y hsms ⟨h1, h2⟩
        obtain ⟨ok, hokk⟩ : ∃ ok, msgOk ⟨k, f, d, mk, evsOf ls⟩ = ok := ⟨_, rfl⟩
        rw [show msgOk (MsgIt.msg ⟨k, f, d, mk, am, cm, ls, ax, cx⟩) = ok from hokk] at HRt
        rw [hokk] at HQ1
        clear HQ he hokk hsms
        cases ok with
        | false =>
          have HR := Lib.hid (show ∀ (Y : World), DotsIn Y am mk → EvsIn Y ax ls → Calls Tryz.prog 36 #[.agg #[.int .i64 k, .int .i64 f, .int .i64 d, .slice am mk.length cm, .slice ax ls.length cx]] Y (fun x w' => x = .returned (.bool false) ∧ Below Y.heap.size Y w') from HRt)
          have HQ2 : Hid (msgParse l = (msg0, 1)) := by rw [Hid, HQ1.out]; rfl
          clear HRt HQ1
          go_wp2_with (first
            | (go_at_call 36; (with_reducible refine (HR.out _ hdmr hin).mono ?_); rintro x w13 ⟨rfl, hb13⟩; replace hZ := hZ.below hb13; replace hbt := below2 hbt hb13)
            | (refine wpList_store_row rfl 78 _ _ rfl w.heap.size msgZero rfl rfl 78 (msgCells 0 0 0 none 0 0 (.slice none 0 0)) hZ (by kernel_rfl) rfl (by kernel_rfl) ?_)
            )
          refine ret_cell_tmp1 2 3 78 78 w.heap.size msgZero _ (.int .i64 1) rfl rfl rfl (setRow_heap _ _ _ _ _ _ hZ) Tryz.underlying78 rfl (by kernel_rfl) rfl ?_
          rw [HQ2.out]
          exact ⟨mit0, rfl, mit0_msg, mit0_in _, below_setRow hbt (Nat.le_refl _) _⟩
        | true =>
          have HR := Lib.hid (show ∀ (Y : World), DotsIn Y am mk → EvsIn Y ax ls → Calls Tryz.prog 36 #[.agg #[.int .i64 k, .int .i64 f, .int .i64 d, .slice am mk.length cm, .slice ax ls.length cx]] Y (fun x w' => x = .returned (.bool true) ∧ Below Y.heap.size Y w') from HRt)
          have HQ2 : Hid (msgParse l = (⟨k, f, d, mk, evsOf ls⟩, 0)) := by rw [Hid, HQ1.out]; rfl
          clear HRt HQ1
          go_wp2_with (first
            | (go_at_call 36; (with_reducible refine (HR.out _ hdmr hin).mono ?_); rintro x w13 ⟨rfl, hb13⟩; replace hZ := hZ.below hb13; replace hbt := below2 hbt hb13; replace hdmr := hdmr.kept hb13; replace hin := hin.kept hb13; replace y0 := kept hb13 y0; replace y1 := kept hb13 y1; replace y2 := kept hb13 y2; replace y3 := kept hb13 y3; replace y4 := kept hb13 y4)
            | (refine wpList_store_row rfl 78 _ _ rfl w.heap.size (msgCells k f d am mk.length cm (.slice ax ls.length cx)) rfl rfl 78 (msgCells 0 0 0 none 0 0 (.slice none 0 0)) hZ (by kernel_rfl) rfl (by kernel_rfl) ?_)
            )
          refine ret_cell_tmp1 2 3 78 78 w.heap.size (msgCells k f d am mk.length cm (.slice ax ls.length cx)) _ (.int .i64 0) rfl rfl rfl (setRow_heap _ _ _ _ _ _ hZ) Tryz.underlying78 rfl (by kernel_rfl) rfl ?_
          rw [HQ2.out]
          refine ⟨⟨k, f, d, mk, am, cm, ls, ax, cx⟩, rfl, rfl, ⟨?_, ⟨?_, ?_⟩⟩, below_setRow hbt (Nat.le_refl _) _⟩
          · exact hdmr.keep (fun A off h _ => heap_setRow_other _ _ _ _ (by have := hAm4 A off h; omega))
          · rcases hin.rows with h0 | ⟨A, off, hA, hr⟩
            · exact Or.inl h0
            · refine Or.inr ⟨A, off, hA, fun i hi j u hu => ?_⟩
              have hne : ls ≠ [] := fun e => by rw [e] at hi; simp at hi
              have := hnewx A off hA hne
              exact (World.cell?_of_block (heap_setRow_other _ _ _ A (Nat.ne_of_lt this))).trans (hr i hi j u hu)
          · exact fun x hx => (hin.dots x hx).keep (fun A off h1 h2 => heap_setRow_other _ _ _ _ (by have := hnew x hx A off h1 h2; omega))
    · have q1 : (rr.e == 0) = false := beq_eq_false_iff_ne.2 he
      have q2 : (rr.e != 0) = true := by rw [bne_iff_ne]; exact he
      have HQ2 : Hid (msgParse l = (msg0, rr.e)) := by rw [Hid, HQ.out]; unfold msgEnd rEnd; simp only [if_neg he]
      clear HQ he
      go_upto_region 19 with fail
      refine wp_region_noPanic ?_
      refine wp_region_held_drew (S := fun W' => W'.cell? ⟨w5.heap.size, 1, none⟩ = some (.int .i64 rr.e)) (by kernel_rfl) p1 (fun hHeld => ?_)
      refine wpAnyH_take (i := 0) (oi := ⟨some 95, _, _, _, _, _⟩) rfl (by kernel_rfl) (by kernel_rfl) (by kernel_rfl) (fun _ _ _ h => h) (Or.inl ⟨by rfl, fun W hSW => exec_buildM _ _ rfl (msgCells 0 0 0 none 0 0 (.slice none 0 0)) (by kernel_rfl)⟩) (by assumption) ?_
      try simp only [Act.put, List.setIfInBounds_toArray, List.set_cons_zero, List.set_cons_succ]
      refine wpAnyH_take (i := 1) (oi := ⟨some 96, _, _, _, _, _⟩) (v := ?_) rfl (by kernel_rfl) (by kernel_rfl) (by kernel_rfl) (fun _ _ _ h => h) (Or.inl ⟨by rfl, ?_⟩) (by assumption) ?_
      case refine_2 => (intro w hSw; go_simp; try with_reducible rfl)
      try simp only [Act.put, List.setIfInBounds_toArray, List.set_cons_zero, List.set_cons_succ]
      refine wpAnyH_take (i := 2) (oi := ⟨some 97, _, _, _, _, _⟩) (v := ?_) rfl (by kernel_rfl) (by kernel_rfl) (by kernel_rfl) (fun _ _ _ h => h) (Or.inl ⟨by rfl, ?_⟩) (by assumption) ?_
      case refine_2 => (intro w hSw; go_simp; try with_reducible rfl)
      try simp only [Act.put, List.setIfInBounds_toArray, List.set_cons_zero, List.set_cons_succ]
      refine wpAnyH_ready (rs := [3]) (by kernel_rfl) (by simp) ?_
      refine AllReadyH.cons rfl (fun K hK => ?_) AllReadyH.nil
      refine step_store_row rfl 78 _ _ rfl w.heap.size msgZero rfl rfl 78 (msgCells 0 0 0 none 0 0 (.slice none 0 0)) hZ (by kernel_rfl) rfl (by kernel_rfl) ?_
      refine hK.out _ _ ?_ (fun hHeld => ?_)
      · exact ((World.cell?_of_block (heap_setRow_other _ _ _ _ (by simp only; omega))).trans p1)
      clear hK K
      try simp only [Act.put, List.setIfInBounds_toArray, List.set_cons_zero, List.set_cons_succ]
      refine wpAnyH_take (i := 4) (oi := ⟨some 3, _, _, _, _, _⟩) (v := ?_) rfl (by kernel_rfl) (by kernel_rfl) (by kernel_rfl) (fun _ _ _ h => h) (Or.inl ⟨by rfl, ?_⟩) (by assumption) ?_
      case refine_2 => (intro w hSw; go_simp; try with_reducible rfl)
      try simp only [Act.put, List.setIfInBounds_toArray, List.set_cons_zero, List.set_cons_succ]
      refine wpAnyH_done (by kernel_rfl) ?_ _
      refine NoPanic.normal ?_
      go_wp2
      refine ret_cell_tmp1 2 3 78 78 w.heap.size msgZero _ (.int .i64 rr.e) rfl rfl rfl (setRow_heap U.drew _ _ _ _ _ hZ) Tryz.underlying78 rfl (by kernel_rfl) rfl ?_
      rw [HQ2.out]
      exact ⟨mit0, rfl, mit0_msg, mit0_in _, below_setRow hbt.drew (Nat.le_refl _) _⟩
theorem rMsgParse_any (a : Option Addr) (cap : Nat) (l : Bytes) (w : World) (hl : l.length ≤ 1073741824) (hcap : l.length ≤ cap) (h : BytesIn w a l) :
    Calls Tryz.prog 41 #[.slice a l.length cap] w (RetMsg (msgParse l) w) := by
  by_cases hok : (frOne l).2 = 0
  · exact rMsgParse_ok a cap l w hl hcap h hok
  · exact rMsgParse_bad a cap l w hl hcap h hok
end Go.Proofs.YtnpdfmpjjomhcaaGreat
