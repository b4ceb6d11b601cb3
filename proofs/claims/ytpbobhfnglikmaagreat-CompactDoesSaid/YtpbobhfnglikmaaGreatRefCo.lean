/- The reference's compact: Settled, Do. Conditions: as in the text. -/
import Derived.Test.YtpbobhfnglikmaaGreatCompP
import Derived.Test.YtpbobhfnglikmaaGreatRefFb
set_option linter.unusedSimpArgs false
set_option linter.unusedVariables false
set_option linter.unnecessarySimpa false
set_option maxHeartbeats 16000000
set_option maxRecDepth 100000
namespace Go.Proofs.YtpbobhfnglikmaaGreat
open Go.RowKit
/-- sizes, and each dot once: kept through Do -/
structure DoOk (r : RM) : Prop where
 kept : r.kept.length ≤ 4096
 ctx : r.ctx.length ≤ 1048576
 dead : r.dead.length ≤ 1048576
 nd : (r.kept.map (·.dot)).Nodup
theorem DoOk.fg {r : RM} (h : DoOk r) (d : Dot) : DoOk (rmFg r d) := by
 unfold rmFg
 split
 ·exact ⟨Nat.le_trans (List.length_filter_le _ _) h.kept, h.ctx, h.dead, h.nd.sublist (List.Sublist.map _ List.filter_sublist)⟩
 ·exact h
theorem DoOk.br {r : RM} (h : DoOk r) (d : Dot) : DoOk (rmBr r d) := by
 unfold rmBr
 split
 ·refine ⟨by show (r.kept.map _).length ≤ _; rw [List.length_map]; exact h.kept, h.ctx, h.dead, ?_⟩
  show ((r.kept.map fun e => if e.dot = d then bareEv e else e).map (·.dot)).Nodup
  rw [List.map_map]
  have : r.kept.map ((·.dot) ∘ fun e => if e.dot = d then bareEv e else e) = r.kept.map (·.dot) := List.map_congr_left fun e _ => by
   show (if e.dot = d then bareEv e else e).dot = e.dot
   split <;> rfl
  rw [this]
  exact h.nd
 ·exact h
theorem DoOk.ev {r : RM} (h : DoOk r) (v : List Dot) (e : Ev) : DoOk (cpEv v r e) := by
 unfold cpEv
 split
 ·exact h.fg _
 ·split
  ·exact h.br _
  ·exact h
theorem DoOk.cl {r : RM} (h : DoOk r) (v : List Dot) (d : Dot) : DoOk (cpCl v r d) := by
 unfold cpCl rmCl
 split
 ·split
  ·exact ⟨h.kept, h.ctx, Nat.le_trans (List.length_filter_le _ _) h.dead, h.nd⟩
  ·exact h
 ·exact h
theorem DoOk.evs {r : RM} (h : DoOk r) (v : List Dot) : ∀ l : List Ev, DoOk (l.foldl (cpEv v) r)
 | [] => h
 | e :: l => DoOk.evs (r := cpEv v r e) (h.ev v e) v l
theorem DoOk.cls {r : RM} (h : DoOk r) (v : List Dot) : ∀ l : List Dot, DoOk (l.foldl (cpCl v) r)
 | [] => h
 | d :: l => DoOk.cls (r := cpCl v r d) (h.cl v d) v l
/-- the reference's own map in its block -/
structure RDo (w0 w : World) (y : RMIt) : Prop where
 row : RMAt w w0.heap.size y
 ref : RMIn w y
 zero : w.heap[w0.heap.size + 1]? = some (.cells #[.slice none 0 0, .slice none 0 0, .slice none 0 0] 31 (0, 0))
 below : Below w0.heap.size w0 w
theorem RDo.kept {w0 w w' : World} {y : RMIt} (h : RDo w0 w y) (hb : Below w.heap.size w w') : RDo w0 w' y :=
 ⟨h.row.kept hb, h.ref.keep hb, (hb.block _ (lt_of_block h.zero)).trans h.zero, h.below.trans (hb.mono h.below.size)⟩
theorem RDo.set {w0 w : World} {y z : RMIt} (h : RDo w0 w y) (hz : RMIn w z) : RDo w0 (w.setRow w0.heap.size (rmRow z)) z :=
 ⟨setRow_heap _ _ _ _ _ _ h.row, RMIn.not3 (R := w0.heap.size) hz h.row.sl3 (fun k9 hk9 => heap_setRow_other _ _ _ _ (fun e9 => hk9 e9.symm)), (heap_setRow_other _ _ _ _ (by omega)).trans h.zero, below_setRow h.below (Nat.le_refl _) _⟩
/-- what a round of Do holds: the map, the event's box, its dots, the marks -/
structure RcF (w0 w : World) (B : Nat) (y : RMIt) (e : Ev) (ax : Option Addr) (cx : Nat) (am : Option Addr) (l : List Dot) : Prop where
 own : RDo w0 w y
 box : w.rangeAt B 0 (evCells e ax cx)
 dots : DotsIn w ax e.over
 marks : DotsIn w am l
theorem RcF.kept {w0 w w' : World} {B : Nat} {y : RMIt} {e : Ev} {ax : Option Addr} {cx : Nat} {am : Option Addr} {l : List Dot} (h : RcF w0 w B y e ax cx am l) (hb : Below w.heap.size w w') : RcF w0 w' B y e ax cx am l :=
 ⟨h.own.kept hb, rangeAt_kept h.box hb, h.dots.kept hb, h.marks.kept hb⟩
theorem RcF.cells {w0 w : World} {B : Nat} {y : RMIt} {e : Ev} {ax : Option Addr} {cx : Nat} {am : Option Addr} {l : List Dot} (h : RcF w0 w B y e ax cx am l) :
 w.cell? ⟨B, 0, none⟩ = some (.int .i64 e.dot.a.dev) ∧ w.cell? ⟨B, 1, none⟩ = some (.int .i64 e.dot.a.inc) ∧ w.cell? ⟨B, 2, none⟩ = some (.int .i64 e.dot.seq) ∧ w.cell? ⟨B, 6, none⟩ = some (.int .i64 e.kind) ∧
 w.cell? ⟨w0.heap.size, 0, none⟩ = some (.slice y.ac y.ctx.length y.cc) ∧ w.cell? ⟨w0.heap.size, 1, none⟩ = some (.slice y.aK y.K.length y.cK) ∧ w.cell? ⟨w0.heap.size, 2, none⟩ = some (.slice y.ad y.dead.length y.cd) := by
 have hR := h.box
 obtain ⟨c0, c1, c2⟩ := h.own.row.cells
 have v0 : w.cell? ⟨B, 0, none⟩ = some (.int .i64 e.dot.a.dev) := by have := hR 0 _ rfl; rwa [Nat.zero_add] at this
 have v1 : w.cell? ⟨B, 1, none⟩ = some (.int .i64 e.dot.a.inc) := by have := hR 1 _ rfl; rwa [Nat.zero_add] at this
 have v2 : w.cell? ⟨B, 2, none⟩ = some (.int .i64 e.dot.seq) := by have := hR 2 _ rfl; rwa [Nat.zero_add] at this
 have v6 : w.cell? ⟨B, 6, none⟩ = some (.int .i64 e.kind) := by have := hR 6 _ rfl; rwa [Nat.zero_add] at this
 have v7 : w.cell? ⟨B, 7, none⟩ = some (.string e.key.name) := by have := hR 7 _ rfl; rwa [Nat.zero_add] at this
 have v8 : w.cell? ⟨B, 8, none⟩ = some (.string e.key.domain) := by have := hR 8 _ rfl; rwa [Nat.zero_add] at this
 have v9 : w.cell? ⟨B, 9, none⟩ = some (.string e.key.path) := by have := hR 9 _ rfl; rwa [Nat.zero_add] at this
 exact ⟨v0, v1, v2, v6, c0, c1, c2⟩
theorem rSettled23_any (e : Ev) (a am : Option Addr) (cap cm : Nat) (l : List Dot) (w : World) (hd : DotsIn w a e.over) (hol : e.over.length ≤ 1073741824) (hm : DotsIn w am l) (hl : l.length ≤ 1073741824) :
 Calls Tryz.prog 43 #[evVal e a cap, .slice am l.length cm] w fun x w' => x = .returned (.bool (setl l e)) ∧ Below w.heap.size w w' := by
 have HH := fun (d : Dot) (X : World) (h : DotsIn X am l) => rHasM_any am cm l d X hl h
 go_enter Tryz.func43, Tryz.ntmps43
 go_upto_region 1 with fail
 refine wp_name (fun W0 hW0 => ?_)
 have hb0 : Below w.heap.size w W0 := by rw [hW0.out]; go_grown
 have hR0 : W0.rangeAt w.heap.size 0 (evCells e a cap) := by rw [hW0.out]; exact evCells_box e a cap w _
 have hd0 := hd.kept hb0
 have hm0 := hm.kept hb0
 clear hW0 hd hm
 have v0 : W0.cell? ⟨w.heap.size, 0, none⟩ = some (.int .i64 e.dot.a.dev) := by have := hR0 0 _ rfl; rwa [Nat.zero_add] at this
 have v1 : W0.cell? ⟨w.heap.size, 1, none⟩ = some (.int .i64 e.dot.a.inc) := by have := hR0 1 _ rfl; rwa [Nat.zero_add] at this
 have v2 : W0.cell? ⟨w.heap.size, 2, none⟩ = some (.int .i64 e.dot.seq) := by have := hR0 2 _ rfl; rwa [Nat.zero_add] at this
 have v6 : W0.cell? ⟨w.heap.size, 6, none⟩ = some (.int .i64 e.kind) := by have := hR0 6 _ rfl; rwa [Nat.zero_add] at this
 have v7 : W0.cell? ⟨w.heap.size, 7, none⟩ = some (.string e.key.name) := by have := hR0 7 _ rfl; rwa [Nat.zero_add] at this
 have v8 : W0.cell? ⟨w.heap.size, 8, none⟩ = some (.string e.key.domain) := by have := hR0 8 _ rfl; rwa [Nat.zero_add] at this
 have v9 : W0.cell? ⟨w.heap.size, 9, none⟩ = some (.string e.key.path) := by have := hR0 9 _ rfl; rwa [Nat.zero_add] at this
 clear v6 v7 v8 v9
 have v18 : W0.cell? ⟨w.heap.size, 18, none⟩ = some (.slice a e.over.length cap) := by have := hR0 18 _ rfl; rwa [Nat.zero_add] at this
 have HHe := Lib.hid (HH e.dot)
 have HSE : Hid (setl l e = (hasM l e.dot && e.over.all fun d => hasM l d)) := rfl
 generalize e.over = ov at *
 clear hR0
 go_wp2
 go_loopw [5] (fun i wr => ∃ k : Nat, i = .int .i64 k ∧ k ≤ ov.length ∧ (ov.all fun d => hasM l d) = (ov.drop k).all (fun d => hasM l d) ∧ Below W0.heap.size W0 wr) (fun i _ => ov.length - (intOf i).toNat)
 case atStart => exact ⟨0, rfl, Nat.zero_le _, rfl, Below.refl _ _⟩
 case round =>
  obtain ⟨k, rfl, hk, hC0, hbr⟩ := hrel
  have HC := Lib.hid hC0
  clear hC0
  replace v0 := kept hbr v0
  replace v1 := kept hbr v1
  replace v2 := kept hbr v2
  replace v18 := kept hbr v18
  have hmr := hm0.kept hbr
  have hbw := below2 hb0 hbr
  by_cases hlt : k < ov.length
  ·obtain ⟨A2, off, rfl, c0, c1, c2⟩ := (hd0.kept hbr).at hlt
   have HS : Hid ((ov.drop k).all (fun d => hasM l d) = (hasM l ov[k] && (ov.drop (k + 1)).all fun d => hasM l d)) := setl_drop l ov k hlt
   have HLT := Lib.hid hlt
   generalize ov[k] = d at *
   have HHd0 := HH d
   cases hh : hasM l d with
   | true =>
     rw [hh] at HHd0 HS
     have HHd := Lib.hid HHd0
     clear HHd0 hh
     go_upto_region 3 with (go_at_call 37; (with_reducible refine (HHd.out _ hmr).mono ?_); rintro x W2 ⟨rfl, hbW2⟩)
     have hbZ := hbr.trans (hbW2.mono hbr.size)
     go_wp2
     go_roundw
     case rel => exact ⟨k + 1, by go_num, HLT.out, by rw [HC.out, HS.out]; exact Bool.true_and _, hbZ⟩
     case measure => have := HLT.out; simp [intOf] <;> omega
   | false =>
     rw [hh] at HHd0 HS
     have HHd := Lib.hid HHd0
     clear HHd0 hh
     go_upto_region 5 with (go_at_call 37; (with_reducible refine (HHd.out _ hmr).mono ?_); rintro x W2 ⟨rfl, hbW2⟩)
     have HF : Hid (setl l e = false) := by unfold Hid; rw [HSE.out, HC.out, HS.out]; exact Bool.and_false _
     go_wp2
     go_ret
     exact ⟨ret_bool HF.out.symm, below2 hbw hbW2⟩
  ·obtain rfl : k = ov.length := by omega
   have HF : Hid (setl l e = hasM l e.dot) := by unfold Hid; rw [HSE.out, HC.out, List.drop_length]; exact Bool.and_true _
   go_wp2_with (go_at_call 37; (with_reducible refine (HHe.out _ hmr).mono ?_); rintro x W2 ⟨rfl, hbW2⟩)
   go_ret
   exact ⟨ret_bool HF.out.symm, below2 hbw hbW2⟩
theorem rDo23_any (x : RMIt) (am : Option Addr) (cm : Nat) (l : List Dot) (w : World) (hx : DoOk x.rm) (hov : ∀ e ∈ x.rm.kept, e.over.length ≤ 1073741824 ∧ (e.kind = 1 ∨ e.kind = 2)) (hI : RMIn w x) (hm : DotsIn w am l) (hl : l.length ≤ 1073741824) :
 Calls Tryz.prog 56 #[rmVal x, .slice am l.length cm] w fun v w' => ∃ y, v = .returned (rmVal y) ∧ RMIn w' y ∧ y.rm = cpDo l x.rm ∧ Below w.heap.size w w' := by
 have HX := Lib.hid (And.intro hx hov)
 have hKl : x.K.length ≤ 4096 := by have := hx.kept; rwa [show x.rm.kept = evsOf x.K from rfl, evsOf_length] at this
 have HI0 := Lib.hid hI
 have HM0 := Lib.hid hm
 have HEK := Lib.hid hI.kept
 have HXO : Hid (∀ z ∈ x.K, z.1.over.length ≤ 1073741824 ∧ (z.1.kind = 1 ∨ z.1.kind = 2)) := fun z hz => hov _ (List.mem_map_of_mem hz)
 clear hx hov
 go_enter Tryz.func56, Tryz.ntmps56
 go_upto_region 1 with fail
 refine wp_name (fun W0 hW0 => ?_)
 have hb0 : Below w.heap.size w W0 := by rw [hW0.out]; go_grown
 have hA0 : RMAt W0 w.heap.size x := by
  rw [hW0.out]
  exact (((Below.refl _ _).alloc (Nat.le_refl _) _).block _ (by simp)).trans (heap_last0 _ _)
 have hZ : W0.heap[w.heap.size + 1]? = some (.cells #[.slice none 0 0, .slice none 0 0, .slice none 0 0] 31 (0, 0)) := by
  rw [hW0.out]
  exact heap_last1 _ _ _
 have HD0 := Lib.hid (show RDo w W0 x from ⟨hA0, hI.keep hb0, hZ, hb0⟩)
 obtain ⟨c0, c1, c2⟩ := hA0.cells
 clear hW0 hA0 hZ hb0 hI hm
 go_wp2
 clear c0 c1 c2
 have HS0 : Hid (((evsOf x.K).take x.K.length).foldl (cpEv l) x.rm = cpEvs l x.rm) := by unfold Hid; rw [List.take_of_length_le (by rw [evsOf_length]; exact Nat.le_refl _)]; rfl
 generalize x.aK = aK at *
 generalize x.K = Ks at *
 go_loopw [6] (fun i wr => ∃ (k : Nat) (y : RMIt), i = .int .i64 k ∧ k ≤ Ks.length ∧ RDo w wr y ∧ y.rm = ((evsOf Ks).take k).foldl (cpEv l) x.rm) (fun i _ => Ks.length - (intOf i).toNat)
 case atStart => exact ⟨0, x, rfl, Nat.zero_le _, HD0.out, rfl⟩
 case round =>
  obtain ⟨k, y, rfl, hk, hD, hY⟩ := hrel
  have HY := Lib.hid hY
  have hyok : DoOk y.rm := by rw [hY]; exact HX.out.1.evs l _
  by_cases hlt : k < Ks.length
  ·obtain ⟨A, off, rfl, hra, hdov⟩ := (HEK.out.kept hD.below).at hlt
   have r1 := hra k hlt
   have hxx := HXO.out _ (List.getElem_mem hlt)
   have HT : Hid (((evsOf Ks).take (k + 1)).foldl (cpEv l) x.rm = cpEv l y.rm Ks[k].1) := by
        unfold Hid
        rw [cpEvs_snoc _ _ _ (by rw [evsOf_length]; exact hlt), evsOf_at hlt, HY.out]
   have HLT := Lib.hid hlt
   clear hra hY
   generalize Ks[k] = xe at *
   obtain ⟨e, ax, cx⟩ := xe
   simp only [itEv] at r1
   simp only at hxx hdov HT
   obtain ⟨hol, hkd⟩ := hxx
   obtain ⟨c0, c1, c2⟩ := hD.row.cells
   go_upto_region 6 with (first
        | ((with_reducible refine wpList_load_evo _ A (off + k * 19) e ax cx r1 ?_ rfl ?_); exact rfl)
        | (refine wpList_store_new 43 _ _ _ (evCells e ax cx).toArray rfl rfl (by kernel_rfl) rfl (by kernel_rfl) ?_))
   refine wp_name (fun Wx hWx => ?_)
   have hbx : Below wr.heap.size wr Wx := by rw [hWx.out]; exact (Below.refl _ _).alloc (Nat.le_refl _) _
   have hRx : Wx.rangeAt wr.heap.size 0 (evCells e ax cx) := by rw [hWx.out]; exact evCells_box e ax cx wr _
   have hDx := hD.kept hbx
   have hdx := hdov.kept hbx
   have hmx := HM0.out.kept hDx.below
   have hdl := hyok.dead
   have hcl := hyok.ctx
   have HHd0 := fun (X : World) (h : DotsIn X y.ad y.dead) => rHasD_any y.ad y.cd y.dead e.dot X (show y.dead.length ≤ 1073741824 by have : y.dead.length ≤ 1048576 := hdl; omega) h
   have HV0 := fun (X : World) (h : DotsIn X am l) => rHasM_any am cm l e.dot X hl h
   have HS0 := fun (X : World) (h1 : DotsIn X ax e.over) (h2 : DotsIn X am l) => rSettled23_any e ax am cx cm l X h1 hol h2 hl
   have hyK : y.K.length ≤ 4096 := by have := hyok.kept; rwa [show y.rm.kept = evsOf y.K from rfl, evsOf_length] at this
   have HFg := Lib.hid (fun (X : World) (h : RMIn X y) => rForget21_any y e.dot X hyK hdl hyok.nd h)
   have HBr := Lib.hid (fun (X : World) (h : RMIn X y) => rBare21_any y e.dot X hyK hyok.nd h)
   have HIS : Hid (isDead y.rm e = (decide (e.kind = 1) && decide (e.dot ∈ y.dead))) := rfl
   have hB8 : w.heap.size < wr.heap.size := lt_of_block hD.row
   clear hWx hbx r1 hdov hD c0 c1 c2 hyok hdl hcl hyK hol
   generalize wr.heap.size = B8 at *
   have hF : RcF w Wx B8 y e ax cx am l := ⟨hDx, hRx, hdx, hmx⟩
   clear hDx hRx hdx hmx
   obtain ⟨v0, v1, v2, v6, c0, c1, c2⟩ := hF.cells
   by_cases hk1 : e.kind = 1
   case neg =>
        have hk2 : e.kind = 2 := hkd.resolve_left hk1
        have hkb : (e.kind == 1) = false := beq_eq_false_iff_ne.2 hk1
        have hkc : (e.kind == 2) = true := beq_iff_eq.2 hk2
        have HKD : Hid ((decide (e.kind = 1) && decide (e.dot ∈ y.dead)) = false) := by unfold Hid; rw [decide_eq_false hk1]; rfl
        have HK2 : Hid (decide (e.kind = 2) = true) := decide_eq_true hk2
        have HD1 := Lib.hid HHd0
        clear hk1 hk2 HHd0
        cases hst : setl l e with
        | false =>
          rw [hst] at HS0
          have HHS := Lib.hid hst
          have HS := Lib.hid HS0
          clear hst
          have HC : Hid (cpEv l y.rm e = y.rm) := by
           unfold Hid cpEv
           rw [HIS.out, HHS.out, HKD.out, HK2.out]
           rfl
          clear HV0 HS0 HIS hkd
          go_upto_region 4 with (first
           | ((with_reducible refine wpList_load_evo _ B8 0 e ax cx hF.box ?_ rfl ?_); exact rfl)
           | (go_at_call 43; (with_reducible refine (HS.out _ hF.dots hF.marks).mono ?_); rintro v W9 ⟨rfl, hbW9⟩; replace hF := hF.kept hbW9; clear v0 v1 v2 v6 c0 c1 c2; obtain ⟨v0, v1, v2, v6, c0, c1, c2⟩ := hF.cells; clear hbW9))
          have HF := Lib.hid hF.own
          clear hF v0 v1 v2 v6 c0 c1 c2
          go_wp2
          go_roundw
          case rel => exact ⟨k + 1, y, by go_num, HLT.out, HF.out, by rw [HT.out, HC.out]⟩
          case measure => have := HLT.out; simp [intOf] <;> omega
        | true =>
          rw [hst] at HS0
          have HHS := Lib.hid hst
          have HS := Lib.hid HS0
          clear hst
          have HC : Hid (cpEv l y.rm e = rmFg y.rm e.dot) := by
           unfold Hid cpEv
           rw [HIS.out, HHS.out, HKD.out, HK2.out]
           rfl
          clear HV0 HS0 HIS hkd
          go_upto_region 8 with (first
           | ((with_reducible refine wpList_load_evo _ B8 0 e ax cx hF.box ?_ rfl ?_); exact rfl)
           | (go_at_call 43; (with_reducible refine (HS.out _ hF.dots hF.marks).mono ?_); rintro v W9 ⟨rfl, hbW9⟩; replace hF := hF.kept hbW9; clear v0 v1 v2 v6 c0 c1 c2; obtain ⟨v0, v1, v2, v6, c0, c1, c2⟩ := hF.cells; clear hbW9))
          go_upto_region 9 with (first
           | (go_at_call 18; (with_reducible refine (HFg.out _ hF.own.ref).mono ?_); rintro v w1 ⟨z, rfl, hz1, hzr, hb1'⟩)
           | (refine wpList_store_new 31 _ _ _ (rmRow z) rfl rfl (by kernel_rfl) rfl (by kernel_rfl) ?_))
          have hbB := (Below.refl w1.heap.size w1).alloc (Nat.le_refl _) (.cells (rmRow z) 31)
          have hA7 : RMAt (w1.alloc (.cells (rmRow z) 31)) w1.heap.size z := heap_last0 _ _
          obtain ⟨W1, hWe⟩ : ∃ W1, W1 = w1.alloc (.cells (rmRow z) 31) := ⟨_, rfl⟩
          rw [← hWe] at hbB hA7 ⊢
          have hD1 := (hF.own.kept hb1').kept hbB
          have hzW := hz1.keep hbB
          generalize w1.heap.size = B7 at *
          obtain ⟨d0, d1, d2⟩ := hA7.cells
          have hx3 := hD1.row
          have HQ := Lib.hid (And.intro hD1 hzW)
          clear hWe hbB hb1' hz1 hF v0 v1 v2 v6 c0 c1 c2 hD1 hzW hA7
          unfold RMAt at hx3
          go_wp2_with (refine wpList_store_row rfl 31 _ _ rfl w.heap.size #[.slice z.ac z.ctx.length z.cc, .slice z.aK z.K.length z.cK, .slice z.ad z.dead.length z.cd] rfl rfl 31 _ hx3 (by kernel_rfl) rfl (by kernel_rfl) ?_)
          have HF := Lib.hid (HQ.out.1.set HQ.out.2)
          clear hx3 d0 d1 d2
          go_roundw
          case rel => exact ⟨k + 1, z, by go_num, HLT.out, HF.out, by rw [HT.out, HC.out]; exact hzr⟩
          case measure => have := HLT.out; simp [intOf] <;> omega
   have hkb : (e.kind == 1) = true := beq_iff_eq.2 hk1
   have hkc : (e.kind == 2) = false := beq_eq_false_iff_ne.2 (by rw [hk1]; decide)
   have HK2 : Hid (decide (e.kind = 2) = false) := decide_eq_false (by rw [hk1]; decide)
   cases hdd : decide (e.dot ∈ y.dead) with
   | true =>
     have HKD : Hid ((decide (e.kind = 1) && decide (e.dot ∈ y.dead)) = true) := by unfold Hid; rw [decide_eq_true hk1, hdd]; rfl
     rw [hdd] at HHd0
     have HD1 := Lib.hid HHd0
     clear hk1 hdd HHd0
     cases hhv : hasM l e.dot with
     | false =>
       rw [hhv] at HV0
       have HHV := Lib.hid hhv
       have HV := Lib.hid HV0
       clear hhv
       have HC : Hid (cpEv l y.rm e = y.rm) := by
        unfold Hid cpEv
        rw [HIS.out, HHV.out, HKD.out, HK2.out]
        rfl
       clear HV0 HS0 HIS hkd
       go_upto_region 4 with (first
        | (go_at_call 82; (with_reducible refine (HD1.out _ hF.own.ref.dead).mono ?_); rintro v W7 ⟨rfl, hbW7⟩; replace hF := hF.kept hbW7; clear v0 v1 v2 v6 c0 c1 c2; obtain ⟨v0, v1, v2, v6, c0, c1, c2⟩ := hF.cells; clear hbW7)
        | (go_at_call 37; (with_reducible refine (HV.out _ hF.marks).mono ?_); rintro v W8 ⟨rfl, hbW8⟩; replace hF := hF.kept hbW8; clear v0 v1 v2 v6 c0 c1 c2; obtain ⟨v0, v1, v2, v6, c0, c1, c2⟩ := hF.cells; clear hbW8))
       have HF := Lib.hid hF.own
       clear hF v0 v1 v2 v6 c0 c1 c2
       go_wp2
       go_roundw
       case rel => exact ⟨k + 1, y, by go_num, HLT.out, HF.out, by rw [HT.out, HC.out]⟩
       case measure => have := HLT.out; simp [intOf] <;> omega
     | true =>
       rw [hhv] at HV0
       have HHV := Lib.hid hhv
       have HV := Lib.hid HV0
       clear hhv
       have HC : Hid (cpEv l y.rm e = rmFg y.rm e.dot) := by
        unfold Hid cpEv
        rw [HIS.out, HHV.out, HKD.out, HK2.out]
        rfl
       clear HV0 HS0 HIS hkd
       go_upto_region 8 with (first
        | (go_at_call 82; (with_reducible refine (HD1.out _ hF.own.ref.dead).mono ?_); rintro v W7 ⟨rfl, hbW7⟩; replace hF := hF.kept hbW7; clear v0 v1 v2 v6 c0 c1 c2; obtain ⟨v0, v1, v2, v6, c0, c1, c2⟩ := hF.cells; clear hbW7)
        | (go_at_call 37; (with_reducible refine (HV.out _ hF.marks).mono ?_); rintro v W8 ⟨rfl, hbW8⟩; replace hF := hF.kept hbW8; clear v0 v1 v2 v6 c0 c1 c2; obtain ⟨v0, v1, v2, v6, c0, c1, c2⟩ := hF.cells; clear hbW8))
       go_upto_region 9 with (first
        | (go_at_call 18; (with_reducible refine (HFg.out _ hF.own.ref).mono ?_); rintro v w1 ⟨z, rfl, hz1, hzr, hb1'⟩)
        | (refine wpList_store_new 31 _ _ _ (rmRow z) rfl rfl (by kernel_rfl) rfl (by kernel_rfl) ?_))
       have hbB := (Below.refl w1.heap.size w1).alloc (Nat.le_refl _) (.cells (rmRow z) 31)
       have hA7 : RMAt (w1.alloc (.cells (rmRow z) 31)) w1.heap.size z := heap_last0 _ _
       obtain ⟨W1, hWe⟩ : ∃ W1, W1 = w1.alloc (.cells (rmRow z) 31) := ⟨_, rfl⟩
       rw [← hWe] at hbB hA7 ⊢
       have hD1 := (hF.own.kept hb1').kept hbB
       have hzW := hz1.keep hbB
       generalize w1.heap.size = B7 at *
       obtain ⟨d0, d1, d2⟩ := hA7.cells
       have hx3 := hD1.row
       have HQ := Lib.hid (And.intro hD1 hzW)
       clear hWe hbB hb1' hz1 hF v0 v1 v2 v6 c0 c1 c2 hD1 hzW hA7
       unfold RMAt at hx3
       go_wp2_with (refine wpList_store_row rfl 31 _ _ rfl w.heap.size #[.slice z.ac z.ctx.length z.cc, .slice z.aK z.K.length z.cK, .slice z.ad z.dead.length z.cd] rfl rfl 31 _ hx3 (by kernel_rfl) rfl (by kernel_rfl) ?_)
       have HF := Lib.hid (HQ.out.1.set HQ.out.2)
       clear hx3 d0 d1 d2
       go_roundw
       case rel => exact ⟨k + 1, z, by go_num, HLT.out, HF.out, by rw [HT.out, HC.out]; exact hzr⟩
       case measure => have := HLT.out; simp [intOf] <;> omega
   | false =>
     have HKD : Hid ((decide (e.kind = 1) && decide (e.dot ∈ y.dead)) = false) := by unfold Hid; rw [decide_eq_true hk1, hdd]; rfl
     rw [hdd] at HHd0
     have HD1 := Lib.hid HHd0
     clear hk1 hdd HHd0
     cases hst : setl l e with
     | false =>
       rw [hst] at HS0
       have HHS := Lib.hid hst
       have HS := Lib.hid HS0
       clear hst
       have HC : Hid (cpEv l y.rm e = y.rm) := by
        unfold Hid cpEv
        rw [HIS.out, HHS.out, HKD.out, HK2.out]
        rfl
       clear HV0 HS0 HIS hkd
       go_upto_region 4 with (first
        | (go_at_call 82; (with_reducible refine (HD1.out _ hF.own.ref.dead).mono ?_); rintro v W7 ⟨rfl, hbW7⟩; replace hF := hF.kept hbW7; clear v0 v1 v2 v6 c0 c1 c2; obtain ⟨v0, v1, v2, v6, c0, c1, c2⟩ := hF.cells; clear hbW7)
        | ((with_reducible refine wpList_load_evo _ B8 0 e ax cx hF.box ?_ rfl ?_); exact rfl)
        | (go_at_call 43; (with_reducible refine (HS.out _ hF.dots hF.marks).mono ?_); rintro v W9 ⟨rfl, hbW9⟩; replace hF := hF.kept hbW9; clear v0 v1 v2 v6 c0 c1 c2; obtain ⟨v0, v1, v2, v6, c0, c1, c2⟩ := hF.cells; clear hbW9))
       have HF := Lib.hid hF.own
       clear hF v0 v1 v2 v6 c0 c1 c2
       go_wp2
       go_roundw
       case rel => exact ⟨k + 1, y, by go_num, HLT.out, HF.out, by rw [HT.out, HC.out]⟩
       case measure => have := HLT.out; simp [intOf] <;> omega
     | true =>
       rw [hst] at HS0
       have HHS := Lib.hid hst
       have HS := Lib.hid HS0
       clear hst
       have HC : Hid (cpEv l y.rm e = rmBr y.rm e.dot) := by
        unfold Hid cpEv
        rw [HIS.out, HHS.out, HKD.out, HK2.out]
        rfl
       clear HV0 HS0 HIS hkd
       go_upto_region 11 with (first
        | (go_at_call 82; (with_reducible refine (HD1.out _ hF.own.ref.dead).mono ?_); rintro v W7 ⟨rfl, hbW7⟩; replace hF := hF.kept hbW7; clear v0 v1 v2 v6 c0 c1 c2; obtain ⟨v0, v1, v2, v6, c0, c1, c2⟩ := hF.cells; clear hbW7)
        | ((with_reducible refine wpList_load_evo _ B8 0 e ax cx hF.box ?_ rfl ?_); exact rfl)
        | (go_at_call 43; (with_reducible refine (HS.out _ hF.dots hF.marks).mono ?_); rintro v W9 ⟨rfl, hbW9⟩; replace hF := hF.kept hbW9; clear v0 v1 v2 v6 c0 c1 c2; obtain ⟨v0, v1, v2, v6, c0, c1, c2⟩ := hF.cells; clear hbW9))
       go_upto_region 12 with (first
        | (go_at_call 20; (with_reducible refine (HBr.out _ hF.own.ref).mono ?_); rintro v w1 ⟨z, rfl, hz1, hzr, hb1'⟩)
        | (refine wpList_store_new 31 _ _ _ (rmRow z) rfl rfl (by kernel_rfl) rfl (by kernel_rfl) ?_))
       have hbB := (Below.refl w1.heap.size w1).alloc (Nat.le_refl _) (.cells (rmRow z) 31)
       have hA7 : RMAt (w1.alloc (.cells (rmRow z) 31)) w1.heap.size z := heap_last0 _ _
       obtain ⟨W1, hWe⟩ : ∃ W1, W1 = w1.alloc (.cells (rmRow z) 31) := ⟨_, rfl⟩
       rw [← hWe] at hbB hA7 ⊢
       have hD1 := (hF.own.kept hb1').kept hbB
       have hzW := hz1.keep hbB
       generalize w1.heap.size = B7 at *
       obtain ⟨d0, d1, d2⟩ := hA7.cells
       have hx3 := hD1.row
       have HQ := Lib.hid (And.intro hD1 hzW)
       clear hWe hbB hb1' hz1 hF v0 v1 v2 v6 c0 c1 c2 hD1 hzW hA7
       unfold RMAt at hx3
       go_wp2_with (refine wpList_store_row rfl 31 _ _ rfl w.heap.size #[.slice z.ac z.ctx.length z.cc, .slice z.aK z.K.length z.cK, .slice z.ad z.dead.length z.cd] rfl rfl 31 _ hx3 (by kernel_rfl) rfl (by kernel_rfl) ?_)
       have HF := Lib.hid (HQ.out.1.set HQ.out.2)
       clear hx3 d0 d1 d2
       go_roundw
       case rel => exact ⟨k + 1, z, by go_num, HLT.out, HF.out, by rw [HT.out, HC.out]; exact hzr⟩
       case measure => have := HLT.out; simp [intOf] <;> omega
  ·obtain rfl : k = Ks.length := by omega
   have hY1 : y.rm = cpEvs l x.rm := hY.trans HS0.out
   have HY1 : Hid (cpDo l x.rm = y.dead.foldl (cpCl l) y.rm) := by unfold Hid cpDo; rw [← hY1]; rfl
   obtain ⟨c0, c1, c2⟩ := hD.row.cells
   have HD4 := Lib.hid hD
   have HOK := Lib.hid hyok
   have HIN0 := Lib.hid hD.ref.dead
   have hdl : y.dead.length ≤ 1048576 := hyok.dead
   clear hD hY hyok hY1 HY
   go_wp2
   clear c0 c1 c2
   generalize y.ad = ad1 at *
   generalize y.dead = ds at *
   go_loopw [14] (fun i wr => ∃ (j : Nat) (z : RMIt), i = .int .i64 j ∧ j ≤ ds.length ∧ RDo w wr z ∧ z.rm = (ds.take j).foldl (cpCl l) y.rm ∧ DotsIn wr ad1 ds) (fun i _ => ds.length - (intOf i).toNat)
   case atStart => exact ⟨0, y, rfl, Nat.zero_le _, HD4.out, rfl, HIN0.out⟩
   case round =>
        obtain ⟨j, z, rfl, hj, hDz, hZz, hin⟩ := hrel
        have HZz := Lib.hid hZz
        have hzok : DoOk z.rm := by rw [hZz]; exact HOK.out.cls l _
        obtain ⟨c0, c1, c2⟩ := hDz.row.cells
        by_cases hlt : j < ds.length
        ·obtain ⟨A2, off, rfl, d0, d1, d2⟩ := hin.at hlt
         have HT : Hid ((ds.take (j + 1)).foldl (cpCl l) y.rm = cpCl l z.rm ds[j]) := by
          unfold Hid
          rw [cpCls_snoc _ _ _ hlt, HZz.out]
         have HLT := Lib.hid hlt
         have HV0 := fun (X : World) (h : DotsIn X am l) => rHasM_any am cm l ds[j] X hl h
         have hzK : z.K.length ≤ 4096 := by have := hzok.kept; rwa [show z.rm.kept = evsOf z.K from rfl, evsOf_length] at this
         have HCl := Lib.hid (fun (X : World) (h : RMIn X z) => rClear21_any z ds[j] X hzK hzok.ctx hzok.dead h)
         have hmz := HM0.out.kept hDz.below
         clear hZz hzok hzK
         generalize ds[j] = d at *
         clear hlt
         cases hhv : hasM l d with
         | false =>
           rw [hhv] at HV0
           have HV := Lib.hid HV0
           have HC : Hid (cpCl l z.rm d = z.rm) := by unfold Hid cpCl; rw [hhv]; rfl
           clear HV0 hhv
           go_upto_region 16 with (go_at_call 37; (with_reducible refine (HV.out _ hmz).mono ?_); rintro v W9 ⟨rfl, hbW9⟩)
           have HF := Lib.hid (And.intro (hDz.kept hbW9) (hin.kept hbW9))
           clear hDz hin hbW9 hmz d0 d1 d2 c0 c1 c2
           go_wp2
           go_roundw
           case rel => exact ⟨j + 1, z, by go_num, HLT.out, HF.out.1, by rw [HT.out, HC.out], HF.out.2⟩
           case measure => have := HLT.out; simp [intOf] <;> omega
         | true =>
           rw [hhv] at HV0
           have HV := Lib.hid HV0
           have HC : Hid (cpCl l z.rm d = rmCl z.rm d) := by unfold Hid cpCl; rw [hhv]; rfl
           clear HV0 hhv
           go_upto_region 18 with (go_at_call 37; (with_reducible refine (HV.out _ hmz).mono ?_); rintro v W9 ⟨rfl, hbW9⟩)
           refine wp_name (fun V hV => ?_)
           have hbV : Below wr.heap.size wr V.drew := by rw [hV.out]; exact hbW9.drew
           have vC0 := kept hbV c0
           have vC1 := kept hbV c1
           have vC2 := kept hbV c2
           have vD0 := kept hbV d0
           have vD1 := kept hbV d1
           have vD2 := kept hbV d2
           have vI := hDz.kept hbV
           have vi := hin.kept hbV
           have hlo : w.heap.size + 1 < V.drew.heap.size := lt_of_block vI.zero
           clear hV hbV hbW9 hDz hin c0 c1 c2 d0 d1 d2 hmz
           refine wp_region_noPanic ?_
           refine wp_region_held_drew (S := fun W' => Below V.drew.heap.size V.drew W') (by kernel_rfl) (Below.refl _ _) (fun hHeld => ?_)
           refine tH (v := ?_) 0 94 rfl (Or.inl ⟨by rfl, ?_⟩) ?_
           case refine_2 => (intro w hSw; have sC0 := kept hSw vC0; have sC1 := kept hSw vC1; have sC2 := kept hSw vC2; have sD0 := kept hSw vD0; have sD1 := kept hSw vD1; have sD2 := kept hSw vD2; go_simp; try with_reducible rfl)
           try simp only [pS]
           refine tH (v := ?_) 1 95 rfl (Or.inl ⟨by rfl, ?_⟩) ?_
           case refine_2 => (intro w hSw; have sC0 := kept hSw vC0; have sC1 := kept hSw vC1; have sC2 := kept hSw vC2; have sD0 := kept hSw vD0; have sD1 := kept hSw vD1; have sD2 := kept hSw vD2; go_simp; try with_reducible rfl)
           try simp only [pS]
           refine tH (v := ?_) 2 96 rfl (Or.inl ⟨by rfl, ?_⟩) ?_
           case refine_2 => (intro w hSw; have sC0 := kept hSw vC0; have sC1 := kept hSw vC1; have sC2 := kept hSw vC2; have sD0 := kept hSw vD0; have sD1 := kept hSw vD1; have sD2 := kept hSw vD2; go_simp; try with_reducible rfl)
           try simp only [pS]
           refine tH (v := ?_) 3 97 rfl (Or.inl ⟨by rfl, ?_⟩) ?_
           case refine_2 => (intro w hSw; have sC0 := kept hSw vC0; have sC1 := kept hSw vC1; have sC2 := kept hSw vC2; have sD0 := kept hSw vD0; have sD1 := kept hSw vD1; have sD2 := kept hSw vD2; go_simp; try with_reducible rfl)
           try simp only [pS]
           refine tH (v := ?_) 4 98 rfl (Or.inl ⟨by rfl, ?_⟩) ?_
           case refine_2 => (intro w hSw; have sC0 := kept hSw vC0; have sC1 := kept hSw vC1; have sC2 := kept hSw vC2; have sD0 := kept hSw vD0; have sD1 := kept hSw vD1; have sD2 := kept hSw vD2; go_simp; try with_reducible rfl)
           try simp only [pS]
           refine wpAnyH_ready (rs := [5, 9]) (by kernel_rfl) (by simp) ?_
           refine AllReadyH.cons (o := ⟨some 99, _, _, _, _, _⟩) rfl (fun K hK => ?_) (AllReadyH.cons (o := ⟨some 15, _, _, _, _, _⟩) rfl (fun K hK => ?_) AllReadyH.nil)
           ·skip
            go_simp
            go_at_call 22
            (with_reducible refine (HCl.out _ (vI.kept hHeld).ref).mono ?_)
            rintro v w5 ⟨z2, rfl, hz5, hzr, hb5⟩
            go_simp
            have hNext := hHeld.trans (hb5.mono hHeld.size)
            refine hK.out _ _ hNext (fun hHeld2 => ?_)
            clear hK K hHeld
            have hHeld := hNext
            clear hHeld2 hNext
            try simp only [pS]
            refine tH (v := ?_) 6 93 rfl (Or.inl ⟨by rfl, ?_⟩) ?_
            case refine_2 => (intro w hSw; go_simp; try with_reducible rfl)
            try simp only [pS]
            refine tH (v := ?_) 7 100 rfl (Or.inl ⟨by rfl, ?_⟩) ?_
            case refine_2 => (intro w hSw; go_simp; try with_reducible rfl)
            try simp only [pS]
            refine tH (v := ?_) 8 101 rfl (Or.inl ⟨by rfl, ?_⟩) ?_
            case refine_2 => (intro w hSw; go_simp; try with_reducible rfl)
            try simp only [pS]
            refine rH 9 15 rfl fun K hK => ?_
            have hz59 := hHeld.size
            go_simp
            have hNext := hHeld.alloc hHeld.size (.cells #[.slice none 0 0, .slice none 0 0, .slice none 0 0] 31)
            refine hK.out _ _ hNext (fun hHeld2 => ?_)
            clear hK K hHeld
            have hHeld := hNext
            clear hHeld2 hNext
            try simp only [pS]
            refine wpAnyH_ready (rs := [10]) (by kernel_rfl) (by simp) ?_
            refine AllReadyH.cons (o := ⟨none, _, _, _, _, _⟩) rfl (fun K hK => ?_) AllReadyH.nil
            have hq0 : (w5.alloc (.cells #[.slice none 0 0, .slice none 0 0, .slice none 0 0] 31)).heap[w5.heap.size]? = some (.cells #[.slice none 0 0, .slice none 0 0, .slice none 0 0] 31 (0, 0)) := heap_last0 _ _
            refine step_store_row (by rfl) 31 _ _ rfl (w5.heap.size) #[.slice z2.ac z2.ctx.length z2.cc, .slice z2.aK z2.K.length z2.cK, .slice z2.ad z2.dead.length z2.cd] rfl rfl 31 _ hq0 (by kernel_rfl) rfl (by kernel_rfl) ?_
            have hNext : Below V.drew.heap.size V.drew ((w5.alloc (.cells #[.slice none 0 0, .slice none 0 0, .slice none 0 0] 31)).setRow (w5.heap.size) #[.slice z2.ac z2.ctx.length z2.cc, .slice z2.aK z2.K.length z2.cK, .slice z2.ad z2.dead.length z2.cd]) := below_setRow hHeld (by omega : V.drew.heap.size ≤ w5.heap.size) #[.slice z2.ac z2.ctx.length z2.cc, .slice z2.aK z2.K.length z2.cK, .slice z2.ad z2.dead.length z2.cd]
            refine hK.out _ _ hNext (fun hHeld2 => ?_)
            clear hK K hHeld
            have hHeld := hNext
            clear hHeld2 hNext
            try simp only [pS]
            refine tH (v := ?_) 11 16 rfl (Or.inl ⟨by rfl, ?_⟩) ?_
            case refine_2 => (intro w hSw; go_simp; try with_reducible rfl)
            try simp only [pS]
            refine wpAnyH_done (by kernel_rfl) ?_ _
            refine NoPanic.normal ?_
            obtain ⟨X, hX⟩ : ∃ X, X = (w5.alloc (.cells #[.slice none 0 0, .slice none 0 0, .slice none 0 0] 31)).setRow (w5.heap.size) #[.slice z2.ac z2.ctx.length z2.cc, .slice z2.aK z2.K.length z2.cK, .slice z2.ad z2.dead.length z2.cd] := ⟨_, rfl⟩
            rw [← hX] at hHeld ⊢
            have hqX : RMAt X (w5.heap.size) z2 := by rw [hX]; exact setRow_heap _ _ _ _ _ _ hq0
            have hzX : RMIn X z2 := by
             rw [hX]
             exact RMIn.not3 (R := w5.heap.size) (hz5.keep ((Below.refl _ _).alloc (Nat.le_refl _) _)) ⟨_, _, _, _, _, _, _, _, _, _, _, hq0⟩ (fun k9 hk9 => heap_setRow_other _ _ _ _ (fun e9 => hk9 e9.symm))
            generalize hqn : w5.heap.size = q at *
            clear hX hq0 hqn
            obtain ⟨e0, e1, e2⟩ := hqX.cells
            have hDX := vI.kept hHeld
            have hiX := vi.kept hHeld
            have hx3 := hDX.row
            have HQ := Lib.hid (And.intro hDX (And.intro hzX hiX))
            clear hzX vI vi vC0 vC1 vC2 vD0 vD1 vD2 hqX hlo hHeld hb5 hz5 hDX hiX
            unfold RMAt at hx3
            go_wp2_with (refine wpList_store_row rfl 31 _ _ rfl w.heap.size #[.slice z2.ac z2.ctx.length z2.cc, .slice z2.aK z2.K.length z2.cK, .slice z2.ad z2.dead.length z2.cd] rfl rfl 31 _ hx3 (by kernel_rfl) rfl (by kernel_rfl) ?_)
            have HF := Lib.hid (And.intro (HQ.out.1.set HQ.out.2.1) (HQ.out.2.2.not3 HQ.out.1.row.sl3 (fun k9 hk9 => heap_setRow_other X w.heap.size (rmRow z2) k9 (fun e9 => hk9 e9.symm))))
            clear hx3 e0 e1 e2
            go_roundw
            case rel => exact ⟨j + 1, z2, by go_num, HLT.out, HF.out.1, by rw [HT.out, HC.out]; exact hzr, HF.out.2⟩
            case measure => have := HLT.out; simp [intOf] <;> omega
           ·skip
            go_simp
            have hNext := hHeld.alloc hHeld.size (.cells #[.slice none 0 0, .slice none 0 0, .slice none 0 0] 31)
            refine hK.out _ _ hNext (fun hHeld2 => ?_)
            clear hK K hHeld
            have hHeld := hNext
            clear hHeld2 hNext
            try simp only [pS]
            replace hHeld : Below V.drew.heap.size V.drew (V.alloc (.cells #[.slice none 0 0, .slice none 0 0, .slice none 0 0] 31)).drew := hHeld
            refine rH 5 99 rfl fun K hK => ?_
            go_simp
            go_at_call 22
            (with_reducible refine (HCl.out _ (vI.kept hHeld).ref).mono ?_)
            rintro v w5 ⟨z2, rfl, hz5, hzr, hb5⟩
            go_simp
            have hNext := hHeld.trans (hb5.mono hHeld.size)
            refine hK.out _ _ hNext (fun hHeld2 => ?_)
            clear hK K hHeld
            have hHeld := hNext
            clear hHeld2 hNext
            try simp only [pS]
            refine tH (v := ?_) 6 93 rfl (Or.inl ⟨by rfl, ?_⟩) ?_
            case refine_2 => (intro w hSw; go_simp; try with_reducible rfl)
            try simp only [pS]
            refine tH (v := ?_) 7 100 rfl (Or.inl ⟨by rfl, ?_⟩) ?_
            case refine_2 => (intro w hSw; go_simp; try with_reducible rfl)
            try simp only [pS]
            refine tH (v := ?_) 8 101 rfl (Or.inl ⟨by rfl, ?_⟩) ?_
            case refine_2 => (intro w hSw; go_simp; try with_reducible rfl)
            try simp only [pS]
            refine wpAnyH_ready (rs := [10]) (by kernel_rfl) (by simp) ?_
            refine AllReadyH.cons (o := ⟨none, _, _, _, _, _⟩) rfl (fun K hK => ?_) AllReadyH.nil
            have hq0 : w5.heap[V.heap.size]? = some (.cells #[.slice none 0 0, .slice none 0 0, .slice none 0 0] 31 (0, 0)) := (hb5.block V.drew.heap.size (by show V.heap.size < (V.heap.push _).size; simp)).trans (heap_last0 V _)
            refine step_store_row (by rfl) 31 _ _ rfl (V.heap.size) #[.slice z2.ac z2.ctx.length z2.cc, .slice z2.aK z2.K.length z2.cK, .slice z2.ad z2.dead.length z2.cd] rfl rfl 31 _ hq0 (by kernel_rfl) rfl (by kernel_rfl) ?_
            have hNext : Below V.drew.heap.size V.drew (w5.setRow (V.heap.size) #[.slice z2.ac z2.ctx.length z2.cc, .slice z2.aK z2.K.length z2.cK, .slice z2.ad z2.dead.length z2.cd]) := below_setRow hHeld (Nat.le_refl _ : V.drew.heap.size ≤ V.heap.size) #[.slice z2.ac z2.ctx.length z2.cc, .slice z2.aK z2.K.length z2.cK, .slice z2.ad z2.dead.length z2.cd]
            refine hK.out _ _ hNext (fun hHeld2 => ?_)
            clear hK K hHeld
            have hHeld := hNext
            clear hHeld2 hNext
            try simp only [pS]
            refine tH (v := ?_) 11 16 rfl (Or.inl ⟨by rfl, ?_⟩) ?_
            case refine_2 => (intro w hSw; go_simp; try with_reducible rfl)
            try simp only [pS]
            refine wpAnyH_done (by kernel_rfl) ?_ _
            refine NoPanic.normal ?_
            obtain ⟨X, hX⟩ : ∃ X, X = w5.setRow (V.heap.size) #[.slice z2.ac z2.ctx.length z2.cc, .slice z2.aK z2.K.length z2.cK, .slice z2.ad z2.dead.length z2.cd] := ⟨_, rfl⟩
            rw [← hX] at hHeld ⊢
            have hqX : RMAt X (V.heap.size) z2 := by rw [hX]; exact setRow_heap _ _ _ _ _ _ hq0
            have hzX : RMIn X z2 := by
             rw [hX]
             exact RMIn.not3 (R := V.heap.size) (hz5) ⟨_, _, _, _, _, _, _, _, _, _, _, hq0⟩ (fun k9 hk9 => heap_setRow_other _ _ _ _ (fun e9 => hk9 e9.symm))
            generalize hqn : V.heap.size = q at *
            clear hX hq0 hqn
            obtain ⟨e0, e1, e2⟩ := hqX.cells
            have hDX := vI.kept hHeld
            have hiX := vi.kept hHeld
            have hx3 := hDX.row
            have HQ := Lib.hid (And.intro hDX (And.intro hzX hiX))
            clear hzX vI vi vC0 vC1 vC2 vD0 vD1 vD2 hqX hlo hHeld hb5 hz5 hDX hiX
            unfold RMAt at hx3
            go_wp2_with (refine wpList_store_row rfl 31 _ _ rfl w.heap.size #[.slice z2.ac z2.ctx.length z2.cc, .slice z2.aK z2.K.length z2.cK, .slice z2.ad z2.dead.length z2.cd] rfl rfl 31 _ hx3 (by kernel_rfl) rfl (by kernel_rfl) ?_)
            have HF := Lib.hid (And.intro (HQ.out.1.set HQ.out.2.1) (HQ.out.2.2.not3 HQ.out.1.row.sl3 (fun k9 hk9 => heap_setRow_other X w.heap.size (rmRow z2) k9 (fun e9 => hk9 e9.symm))))
            clear hx3 e0 e1 e2
            go_roundw
            case rel => exact ⟨j + 1, z2, by go_num, HLT.out, HF.out.1, by rw [HT.out, HC.out]; exact hzr, HF.out.2⟩
            case measure => have := HLT.out; simp [intOf] <;> omega
        ·obtain rfl : j = ds.length := by omega
         have hE : z.rm = cpDo l x.rm := by rw [hZz, HY1.out, List.take_of_length_le (Nat.le_refl _)]
         have hx3 := hDz.zero
         have HF := Lib.hid (And.intro hDz hE)
         clear hDz hZz hin hzok hE
         go_wp2_with (refine wpList_store_row rfl 31 _ _ rfl (w.heap.size + 1) #[.slice z.ac z.ctx.length z.cc, .slice z.aK z.K.length z.cK, .slice z.ad z.dead.length z.cd] rfl rfl 31 _ hx3 (by kernel_rfl) rfl (by kernel_rfl) ?_)
         refine ret_cell 4 31 31 (w.heap.size + 1) #[.slice z.ac z.ctx.length z.cc, .slice z.aK z.K.length z.cK, .slice z.ad z.dead.length z.cd] _ rfl rfl (setRow_heap _ _ _ _ _ _ hx3) Tryz.underlying31 rfl (by kernel_rfl) rfl ?_
         exact ⟨z, rfl, RMIn.not3 (R := w.heap.size + 1) HF.out.1.ref ⟨_, _, _, _, _, _, _, _, _, _, _, hx3⟩ (fun k9 hk9 => heap_setRow_other _ _ _ _ (fun e9 => hk9 e9.symm)), HF.out.2, below_setRow HF.out.1.below (by omega) _⟩
end Go.Proofs.YtpbobhfnglikmaaGreat
