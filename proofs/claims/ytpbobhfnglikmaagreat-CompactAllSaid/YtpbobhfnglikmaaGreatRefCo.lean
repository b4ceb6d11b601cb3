/- The reference's compact: Settled, Do. Conditions: as in the text. -/
import Derived.Test.YtpbobhfnglikmaaGreatCompP
import Derived.Test.YtpbobhfnglikmaaGreatRefFb
set_option linter.unusedSimpArgs false
set_option linter.unusedVariables false
set_option linter.unnecessarySimpa false
set_option maxHeartbeats 16000000
set_option maxRecDepth 100000
namespace Go.Proofs.YtpbobhfnglikmaaGreat
open Go.RowKit
/-- sizes, and each dot once: kept through Do -/
structure DoOk (r : RM) : Prop where
 kept : r.kept.length ≤ 4096
 ctx : r.ctx.length ≤ 1048576
 dead : r.dead.length ≤ 1048576
 nd : (r.kept.map (·.dot)).Nodup
theorem DoOk.fg {r : RM} (h : DoOk r) (d : Dot) : DoOk (rmFg r d) := by
 unfold rmFg
 split
 ·exact ⟨Nat.le_trans (List.length_filter_le _ _) h.kept, h.ctx, h.dead, h.nd.sublist (List.Sublist.map _ List.filter_sublist)⟩
 ·exact h
theorem DoOk.br {r : RM} (h : DoOk r) (d : Dot) : DoOk (rmBr r d) := by
 unfold rmBr
 split
 ·refine ⟨by show (r.kept.map _).length ≤ _; rw [List.length_map]; exact h.kept, h.ctx, h.dead, ?_⟩
  show ((r.kept.map fun e => if e.dot = d then bareEv e else e).map (·.dot)).Nodup
  rw [List.map_map]
  have : r.kept.map ((·.dot) ∘ fun e => if e.dot = d then bareEv e else e) = r.kept.map (·.dot) := List.map_congr_left fun e _ => by
   show (if e.dot = d then bareEv e else e).dot = e.dot
   split <;> rfl
  rw [this]
  exact h.nd
 ·exact h
theorem DoOk.ev {r : RM} (h : DoOk r) (v : List Dot) (e : Ev) : DoOk (cpEv v r e) := by
 unfold cpEv
 split
 ·exact h.fg _
 ·split
  ·exact h.br _
  ·exact h
theorem DoOk.cl {r : RM} (h : DoOk r) (v : List Dot) (d : Dot) : DoOk (cpCl v r d) := by
 unfold cpCl rmCl
 split
 ·split
  ·exact ⟨h.kept, h.ctx, Nat.le_trans (List.length_filter_le _ _) h.dead, h.nd⟩
  ·exact h
 ·exact h
theorem DoOk.evs {r : RM} (h : DoOk r) (v : List Dot) : ∀ l : List Ev, DoOk (l.foldl (cpEv v) r)
 | [] => h
 | e :: l => DoOk.evs (r := cpEv v r e) (h.ev v e) v l
/-- the reference's own map in its block -/
structure RDo (w0 w : World) (y : RMIt) : Prop where
 row : RMAt w w0.heap.size y
 ref : RMIn w y
 zero : w.heap[w0.heap.size + 1]? = some (.cells #[.slice none 0 0, .slice none 0 0, .slice none 0 0] 31 (0, 0))
 below : Below w0.heap.size w0 w
theorem RDo.kept {w0 w w' : World} {y : RMIt} (h : RDo w0 w y) (hb : Below w.heap.size w w') : RDo w0 w' y :=
 ⟨h.row.kept hb, h.ref.keep hb, (hb.block _ (lt_of_block h.zero)).trans h.zero, h.below.trans (hb.mono h.below.size)⟩
theorem RDo.set {w0 w : World} {y z : RMIt} (h : RDo w0 w y) (hz : RMIn w z) : RDo w0 (w.setRow w0.heap.size (rmRow z)) z :=
 ⟨setRow_heap _ _ _ _ _ _ h.row, RMIn.not3 (R := w0.heap.size) hz h.row.sl3 (fun k9 hk9 => heap_setRow_other _ _ _ _ (fun e9 => hk9 e9.symm)), (heap_setRow_other _ _ _ _ (by omega)).trans h.zero, below_setRow h.below (Nat.le_refl _) _⟩
/-- what a round of Do holds: the map, the event's box, its dots, the marks -/
structure RcF (w0 w : World) (B : Nat) (y : RMIt) (e : Ev) (ax : Option Addr) (cx : Nat) (am : Option Addr) (l : List Dot) : Prop where
 own : RDo w0 w y
 box : w.rangeAt B 0 (evCells e ax cx)
 dots : DotsIn w ax e.over
 marks : DotsIn w am l
theorem RcF.kept {w0 w w' : World} {B : Nat} {y : RMIt} {e : Ev} {ax : Option Addr} {cx : Nat} {am : Option Addr} {l : List Dot} (h : RcF w0 w B y e ax cx am l) (hb : Below w.heap.size w w') : RcF w0 w' B y e ax cx am l :=
 ⟨h.own.kept hb, rangeAt_kept h.box hb, h.dots.kept hb, h.marks.kept hb⟩
theorem RcF.cells {w0 w : World} {B : Nat} {y : RMIt} {e : Ev} {ax : Option Addr} {cx : Nat} {am : Option Addr} {l : List Dot} (h : RcF w0 w B y e ax cx am l) :
 w.cell? ⟨B, 0, none⟩ = some (.int .i64 e.dot.a.dev) ∧ w.cell? ⟨B, 1, none⟩ = some (.int .i64 e.dot.a.inc) ∧ w.cell? ⟨B, 2, none⟩ = some (.int .i64 e.dot.seq) ∧ w.cell? ⟨B, 6, none⟩ = some (.int .i64 e.kind) ∧
 w.cell? ⟨w0.heap.size, 0, none⟩ = some (.slice y.ac y.ctx.length y.cc) ∧ w.cell? ⟨w0.heap.size, 1, none⟩ = some (.slice y.aK y.K.length y.cK) ∧ w.cell? ⟨w0.heap.size, 2, none⟩ = some (.slice y.ad y.dead.length y.cd) := by
 have hR := h.box
 obtain ⟨c0, c1, c2⟩ := h.own.row.cells
 have v0 : w.cell? ⟨B, 0, none⟩ = some (.int .i64 e.dot.a.dev) := by have := hR 0 _ rfl; rwa [Nat.zero_add] at this
 have v1 : w.cell? ⟨B, 1, none⟩ = some (.int .i64 e.dot.a.inc) := by have := hR 1 _ rfl; rwa [Nat.zero_add] at this
 have v2 : w.cell? ⟨B, 2, none⟩ = some (.int .i64 e.dot.seq) := by have := hR 2 _ rfl; rwa [Nat.zero_add] at this
 have v6 : w.cell? ⟨B, 6, none⟩ = some (.int .i64 e.kind) := by have := hR 6 _ rfl; rwa [Nat.zero_add] at this
 have v7 : w.cell? ⟨B, 7, none⟩ = some (.string e.key.name) := by have := hR 7 _ rfl; rwa [Nat.zero_add] at this
 have v8 : w.cell? ⟨B, 8, none⟩ = some (.string e.key.domain) := by have := hR 8 _ rfl; rwa [Nat.zero_add] at this
 have v9 : w.cell? ⟨B, 9, none⟩ = some (.string e.key.path) := by have := hR 9 _ rfl; rwa [Nat.zero_add] at this
 exact ⟨v0, v1, v2, v6, c0, c1, c2⟩
theorem rSettled23_any (e : Ev) (a am : Option Addr) (cap cm : Nat) (l : List Dot) (w : World) (hd : DotsIn w a e.over) (hol : e.over.length ≤ 1073741824) (hm : DotsIn w am l) (hl : l.length ≤ 1073741824) :
 Calls Tryz.prog 43 #[evVal e a cap, .slice am l.length cm] w fun x w' => x = .returned (.bool (setl l e)) ∧ Below w.heap.size w w' := by
 have HH := fun (d : Dot) (X : World) (h : DotsIn X am l) => rHasM_any am cm l d X hl h
 go_enter Tryz.func43, Tryz.ntmps43
 go_upto_region 1 with fail
 refine wp_name (fun W0 hW0 => ?_)
 have hb0 : Below w.heap.size w W0 := by rw [hW0.out]; go_grown
 have hR0 : W0.rangeAt w.heap.size 0 (evCells e a cap) := by rw [hW0.out]; exact evCells_box e a cap w _
 have hd0 := hd.kept hb0
 have hm0 := hm.kept hb0
 clear hW0 hd hm
 have v0 : W0.cell? ⟨w.heap.size, 0, none⟩ = some (.int .i64 e.dot.a.dev) := by have := hR0 0 _ rfl; rwa [Nat.zero_add] at this
 have v1 : W0.cell? ⟨w.heap.size, 1, none⟩ = some (.int .i64 e.dot.a.inc) := by have := hR0 1 _ rfl; rwa [Nat.zero_add] at this
 have v2 : W0.cell? ⟨w.heap.size, 2, none⟩ = some (.int .i64 e.dot.seq) := by have := hR0 2 _ rfl; rwa [Nat.zero_add] at this
 have v6 : W0.cell? ⟨w.heap.size, 6, none⟩ = some (.int .i64 e.kind) := by have := hR0 6 _ rfl; rwa [Nat.zero_add] at this
 have v7 : W0.cell? ⟨w.heap.size, 7, none⟩ = some (.string e.key.name) := by have := hR0 7 _ rfl; rwa [Nat.zero_add] at this
 have v8 : W0.cell? ⟨w.heap.size, 8, none⟩ = some (.string e.key.domain) := by have := hR0 8 _ rfl; rwa [Nat.zero_add] at this
 have v9 : W0.cell? ⟨w.heap.size, 9, none⟩ = some (.string e.key.path) := by have := hR0 9 _ rfl; rwa [Nat.zero_add] at this
 clear v6 v7 v8 v9
 have v18 : W0.cell? ⟨w.heap.size, 18, none⟩ = some (.slice a e.over.length cap) := by have := hR0 18 _ rfl; rwa [Nat.zero_add] at this
 have HHe := Lib.hid (HH e.dot)
 have HSE : Hid (setl l e = (hasM l e.dot && e.over.all fun d => hasM l d)) := rfl
 generalize e.over = ov at *
 clear hR0
 go_wp2
 go_loopw [5] (fun i wr => ∃ k : Nat, i = .int .i64 k ∧ k ≤ ov.length ∧ (ov.all fun d => hasM l d) = (ov.drop k).all (fun d => hasM l d) ∧ Below W0.heap.size W0 wr) (fun i _ => ov.length - (intOf i).toNat)
 case atStart => exact ⟨0, rfl, Nat.zero_le _, rfl, Below.refl _ _⟩
 case round =>
  obtain ⟨k, rfl, hk, hC0, hbr⟩ := hrel
  have HC := Lib.hid hC0
  clear hC0
  replace v0 := kept hbr v0
  replace v1 := kept hbr v1
  replace v2 := kept hbr v2
  replace v18 := kept hbr v18
  have hmr := hm0.kept hbr
  have hbw := below2 hb0 hbr
  by_cases hlt : k < ov.length
  ·obtain ⟨A2, off, rfl, c0, c1, c2⟩ := (hd0.kept hbr).at hlt
   have HS : Hid ((ov.drop k).all (fun d => hasM l d) = (hasM l ov[k] && (ov.drop (k + 1)).all fun d => hasM l d)) := setl_drop l ov k hlt
   have HLT := Lib.hid hlt
   generalize ov[k] = d at *
   have HHd0 := HH d
   cases hh : hasM l d with
   | true =>
     rw [hh] at HHd0 HS
     have HHd := Lib.hid HHd0
     clear HHd0 hh
     go_upto_region 3 with (go_at_call 37; (with_reducible refine (HHd.out _ hmr).mono ?_); rintro x W2 ⟨rfl, hbW2⟩)
     have hbZ := hbr.trans (hbW2.mono hbr.size)
     go_wp2
     go_roundw
     case rel => exact ⟨k + 1, by go_num, HLT.out, by rw [HC.out, HS.out]; exact Bool.true_and _, hbZ⟩
     case measure => have := HLT.out; simp [intOf] <;> omega
   | false =>
     rw [hh] at HHd0 HS
     have HHd := Lib.hid HHd0
     clear HHd0 hh
     go_upto_region 5 with (go_at_call 37; (with_reducible refine (HHd.out _ hmr).mono ?_); rintro x W2 ⟨rfl, hbW2⟩)
     have HF : Hid (setl l e = false) := by unfold Hid; rw [HSE.out, HC.out, HS.out]; exact Bool.and_false _
     go_wp2
     go_ret
     exact ⟨ret_bool HF.out.symm, below2 hbw hbW2⟩
  ·obtain rfl : k = ov.length := by omega
   have HF : Hid (setl l e = hasM l e.dot) := by unfold Hid; rw [HSE.out, HC.out, List.drop_length]; exact Bool.and_true _
   go_wp2_with (go_at_call 37; (with_reducible refine (HHe.out _ hmr).mono ?_); rintro x W2 ⟨rfl, hbW2⟩)
   go_ret
   exact ⟨ret_bool HF.out.symm, below2 hbw hbW2⟩
end Go.Proofs.YtpbobhfnglikmaaGreat
