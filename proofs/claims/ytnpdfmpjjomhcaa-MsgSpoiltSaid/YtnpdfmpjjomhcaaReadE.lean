/- The reader of package pack: five flags. Conditions: at most 2^30 bytes. -/
import Derived.Test.YtnpdfmpjjomhcaaReadB
set_option linter.unusedSimpArgs false
set_option linter.unusedVariables false
set_option linter.unnecessarySimpa false
namespace Go.Proofs.Ytnpdfmpjjomhcaa
open Go.RowKit

theorem headD_zero {l : Bytes} (h : 0 < l.length) : l.headD 0 = l[0] := by
  cases l with
  | nil => simp at h
  | cons x t => simp
/-- flags in memory of the call's own, or none -/
def FlagsIn (w w' : World) (v : Value) (fl : List Bool) : Prop := (fl = [] ∧ v = .slice none 0 0) ∨ ∃ B, v = .slice (some ⟨B, 0, none⟩) fl.length fl.length ∧ BoolsAt w' B fl ∧ w.heap.size ≤ B ∧ B < w'.heap.size
def RetFl (R : Nat) (r : Rd) (fl : List Bool) (w : World) (x : Ending) (w' : World) : Prop := ∃ v, x = .returned v ∧ FlagsIn w w' v fl ∧ RdAt w' R r ∧ Fr (isR R) w w'

theorem Try.infoBool : (Try.prog.info? 4).map (fun i => (i.zero, i.size, i.bytes)) = some (some (.bool false), 1, 1) := by kernel_rfl
theorem make5 (W : World) : (Instr.makeSlice 93 (.int .i64 5) (.int .i64 5)).run Try.prog W = .ok (.slice (some ⟨W.heap.size, 0, none⟩) 5 5) (W.alloc (.cells #[.bool false, .bool false, .bool false, .bool false, .bool false] 4)) := by
  obtain ⟨i0, hi, hz0, hz1, hz2⟩ := info_parts Try.infoBool
  have := run_make (P := Try.prog) W 93 4 i0 (.bool false) Try.underlying93 hi hz0 .i64 .i64 5 5 (by omega) (by omega) (by rw [hz2]; omega) (by omega)
  rw [this, hz1]
  have h5 : madeCells (Value.bool false).cells ((5 : Int).toNat * 1) = #[.bool false, .bool false, .bool false, .bool false, .bool false] := by kernel_rfl
  rw [h5]
  rfl

theorem bit1_fin : ∀ x : Fin 256, (bits BinOp.and IntKind.u8 ((x.val : Nat) : Int) 1 == 1) = decide (x.val % 2 = 1) := by decide +kernel
theorem bit1 (x : Nat) (h : x < 256) : (bits BinOp.and IntKind.u8 (x : Int) 1 == 1) = decide (x % 2 = 1) := bit1_fin ⟨x, h⟩
/-- the first k flags, the others not yet -/
def upd (c k : Nat) : Array Value := (((bits5 c).take k).map Value.bool ++ List.replicate (5 - k) (Value.bool false)).toArray
set_option maxRecDepth 100000 in
set_option maxHeartbeats 2000000 in
theorem Flags_r (R : Nat) (r : Rd) (w : World) (hl : r.b.length ≤ 1073741824) (h : RdAt w R r) :
    Calls Try.prog 46 #[.pointer (some ⟨R, 0, none⟩), .int .i64 5] w (RetFl R (rFlags r).1 (rFlags r).2 w) := by
  have h' := h
  obtain ⟨a, cap, hB, hb, hc⟩ := h
  obtain ⟨q0, q1, f0, f1⟩ := two_cell hB
  have hmay := may_r R r w h'
  by_cases he : r.e = 0
  · rw [decide_eq_true he] at hmay
    have HM := Lib.hid hmay
    clear hmay
    rw [he] at q1
    have HV : Hid (rFlags r = if r.b = [] then (⟨r.b, 2⟩, []) else if (r.b.headD 0).toNat < 32 then (⟨r.b.drop 1, 0⟩, bits5 (r.b.headD 0).toNat) else (⟨r.b, 1⟩, [])) := by unfold Hid rFlags; rw [if_pos he]
    have HE0 := Lib.hid he
    clear he
    by_cases hn : r.b = []
    · have hq : ((r.b.length : Int) == 0) = true := by rw [hn]; rfl
      have HE : Hid (rFlags r = (⟨r.b, 2⟩, [])) := by rw [Hid, HV.out, if_pos hn]
      have HR := Lib.hid (h'.setE 2)
      clear hn HV
      go_enter Try.func46, Try.ntmps46
      go_wp2_with (go_at_call 41; (with_reducible refine HM.out.mono ?_); rintro x w1 ⟨rfl, rfl⟩)
      go_ret
      rw [HE.out]
      exact ⟨_, rfl, Or.inl ⟨rfl, rfl⟩, HR.out, fr_set _⟩
    · have hpos : 0 < r.b.length := List.length_pos_iff.2 hn
      have hq : ((r.b.length : Int) == 0) = false := by rw [beq_eq_false_iff_ne]; omega
      rcases hb with hb | ⟨A, off, rfl, hAR, hba⟩
      · exact absurd hb hn
      have hA : A ≠ R := by omega
      have c0 := hba 0 hpos
      have hh : r.b.headD 0 = r.b[0] := headD_zero hpos
      rw [hh] at HV
      obtain ⟨c, hcc⟩ : ∃ c, c = r.b[0] := ⟨_, rfl⟩
      rw [← hcc] at HV c0
      rw [Nat.add_zero] at c0
      have hcl := c.toNat_lt
      clear hcc hh
      by_cases h32 : c.toNat < 32
      · have HE : Hid (rFlags r = (⟨r.b.drop 1, 0⟩, bits5 c.toNat)) := by rw [Hid, HV.out, if_neg hn, if_pos h32]
        have hq32 : ((c.toNat : Int) / 32 != 0) = false := by rw [bne_eq_false_iff_eq]; omega
        have hmk := make5
        clear hn HV
        go_enter Try.func46, Try.ntmps46
        go_wp2_with (go_at_call 41; (with_reducible refine HM.out.mono ?_); rintro x w1 ⟨rfl, rfl⟩)
        go_loopw [53] (fun i wr => ∃ k : Nat, k ≤ 5 ∧ i = .int .i64 k ∧ Below w.heap.size w wr ∧ w.heap.size < wr.heap.size ∧ wr.heap[w.heap.size]? = some (.cells (upd c.toNat k) 4 (0, 0))) (fun i _ => 5 - (intOf i).toNat)
        case atStart => exact ⟨0, by omega, rfl, (Below.refl _ _).alloc (Nat.le_refl _) _, by simp, heap_alloc_last w _⟩
        case round =>
          obtain ⟨k, hk, rfl, hbw, hsz, hU⟩ := hrel
          have p0 := kept hbw q0
          have p1 := kept hbw q1
          have d0 := kept hbw c0
          by_cases hlt : k < 5
          · have hk5 : k = 0 ∨ k = 1 ∨ k = 2 ∨ k = 3 ∨ k = 4 := by omega
            clear hlt hk
            rcases hk5 with rfl | rfl | rfl | rfl | rfl
            · have hc1 : wr.cell? ⟨w.heap.size, 0, none⟩ = some (.bool false) := by simp [World.cell?, hU, upd, bits5]
              have hf1 : wr.frozen? ⟨w.heap.size, 0, none⟩ = false := by simp [World.frozen?, hU]
              have hbit : (bits BinOp.and IntKind.u8 (((c.toNat : Nat) : Int)) 1 == 1) = decide (c.toNat % 2 = 1) := bit1 c.toNat (by omega)
              have HU : Hid ((wr.setCell ⟨w.heap.size, 0, none⟩ (.bool (decide (c.toNat % 2 = 1)))).heap[w.heap.size]? = some (.cells (upd c.toNat 1) 4 (0, 0))) := by simp [Hid, World.setCell, Array.getElem?_modify, hU, upd, bits5]
              go_wp2
              go_roundw
              case rel => exact ⟨1, by omega, rfl, hbw.setCell (by simp) _, by simpa using hsz, HU.out⟩
              case measure => simp [intOf]
            · have hc1 : wr.cell? ⟨w.heap.size, 1, none⟩ = some (.bool false) := by simp [World.cell?, hU, upd, bits5]
              have hf1 : wr.frozen? ⟨w.heap.size, 1, none⟩ = false := by simp [World.frozen?, hU]
              have hbit : (bits BinOp.and IntKind.u8 (((c.toNat : Nat) : Int) / 2) 1 == 1) = decide (c.toNat / 2 % 2 = 1) := by have h := bit1 (c.toNat / 2) (by omega); rw [show ((c.toNat / 2 : Nat) : Int) = (c.toNat : Int) / 2 by omega] at h; exact h
              have HU : Hid ((wr.setCell ⟨w.heap.size, 1, none⟩ (.bool (decide (c.toNat / 2 % 2 = 1)))).heap[w.heap.size]? = some (.cells (upd c.toNat 2) 4 (0, 0))) := by simp [Hid, World.setCell, Array.getElem?_modify, hU, upd, bits5]
              go_wp2
              go_roundw
              case rel => exact ⟨2, by omega, rfl, hbw.setCell (by simp) _, by simpa using hsz, HU.out⟩
              case measure => simp [intOf]
            · have hc1 : wr.cell? ⟨w.heap.size, 2, none⟩ = some (.bool false) := by simp [World.cell?, hU, upd, bits5]
              have hf1 : wr.frozen? ⟨w.heap.size, 2, none⟩ = false := by simp [World.frozen?, hU]
              have hbit : (bits BinOp.and IntKind.u8 (((c.toNat : Nat) : Int) / 4) 1 == 1) = decide (c.toNat / 4 % 2 = 1) := by have h := bit1 (c.toNat / 4) (by omega); rw [show ((c.toNat / 4 : Nat) : Int) = (c.toNat : Int) / 4 by omega] at h; exact h
              have HU : Hid ((wr.setCell ⟨w.heap.size, 2, none⟩ (.bool (decide (c.toNat / 4 % 2 = 1)))).heap[w.heap.size]? = some (.cells (upd c.toNat 3) 4 (0, 0))) := by simp [Hid, World.setCell, Array.getElem?_modify, hU, upd, bits5]
              go_wp2
              go_roundw
              case rel => exact ⟨3, by omega, rfl, hbw.setCell (by simp) _, by simpa using hsz, HU.out⟩
              case measure => simp [intOf]
            · have hc1 : wr.cell? ⟨w.heap.size, 3, none⟩ = some (.bool false) := by simp [World.cell?, hU, upd, bits5]
              have hf1 : wr.frozen? ⟨w.heap.size, 3, none⟩ = false := by simp [World.frozen?, hU]
              have hbit : (bits BinOp.and IntKind.u8 (((c.toNat : Nat) : Int) / 8) 1 == 1) = decide (c.toNat / 8 % 2 = 1) := by have h := bit1 (c.toNat / 8) (by omega); rw [show ((c.toNat / 8 : Nat) : Int) = (c.toNat : Int) / 8 by omega] at h; exact h
              have HU : Hid ((wr.setCell ⟨w.heap.size, 3, none⟩ (.bool (decide (c.toNat / 8 % 2 = 1)))).heap[w.heap.size]? = some (.cells (upd c.toNat 4) 4 (0, 0))) := by simp [Hid, World.setCell, Array.getElem?_modify, hU, upd, bits5]
              go_wp2
              go_roundw
              case rel => exact ⟨4, by omega, rfl, hbw.setCell (by simp) _, by simpa using hsz, HU.out⟩
              case measure => simp [intOf]
            · have hc1 : wr.cell? ⟨w.heap.size, 4, none⟩ = some (.bool false) := by simp [World.cell?, hU, upd, bits5]
              have hf1 : wr.frozen? ⟨w.heap.size, 4, none⟩ = false := by simp [World.frozen?, hU]
              have hbit : (bits BinOp.and IntKind.u8 (((c.toNat : Nat) : Int) / 16) 1 == 1) = decide (c.toNat / 16 % 2 = 1) := by have h := bit1 (c.toNat / 16) (by omega); rw [show ((c.toNat / 16 : Nat) : Int) = (c.toNat : Int) / 16 by omega] at h; exact h
              have HU : Hid ((wr.setCell ⟨w.heap.size, 4, none⟩ (.bool (decide (c.toNat / 16 % 2 = 1)))).heap[w.heap.size]? = some (.cells (upd c.toNat 5) 4 (0, 0))) := by simp [Hid, World.setCell, Array.getElem?_modify, hU, upd, bits5]
              go_wp2
              go_roundw
              case rel => exact ⟨5, by omega, rfl, hbw.setCell (by simp) _, by simpa using hsz, HU.out⟩
              case measure => simp [intOf]
          · have hk5 : k = 5 := by omega
            subst hk5
            have hRl := h'.lt
            have g0 : wr.frozen? ⟨R, 0, none⟩ = false := (hbw.frozen (p := ⟨R, 0, none⟩) hRl).trans f0
            have hRw := h'.below hbw
            have hbb : BytesUnder wr R (some ⟨A, off, none⟩) r.b := BytesUnder.keep (Or.inr ⟨A, off, rfl, hAR, hba⟩) (fun k hk => hbw.block k (Nat.lt_trans hk hRl))
            have hBo : BoolsAt wr w.heap.size (bits5 c.toNat) := by
              intro j hj
              have hj5 : j < 5 := hj
              simp only [World.cell?, hU]
              have e : upd c.toNat 5 = ((bits5 c.toNat).map Value.bool).toArray := by simp [upd, bits5]
              rw [e]
              simp [hj]
            go_wp2
            all_goals
              go_ret
              rw [HE.out]
              refine ⟨_, rfl, Or.inr ⟨w.heap.size, rfl, ?_, Nat.le_refl _, by simpa using hsz⟩, ?_, (Fr.of_below hbw).again (fr_set _)⟩
              · intro j hj
                rw [World.cell?_setCell_other _ _ _ _ (fun e => by simp only [Addr.mk.injEq] at e; omega)]
                exact hBo j hj
              · first | exact hRw.setDrop HE0 1 (hbb.dropMap 1) (by omega) | exact hRw.setDrop HE0 1 (Or.inl (List.drop_eq_nil_of_le (by omega))) (by omega)
      · have HE : Hid (rFlags r = (⟨r.b, 1⟩, [])) := by rw [Hid, HV.out, if_neg hn, if_neg h32]
        have HR := Lib.hid (h'.setE 1)
        have hq32 : ((c.toNat : Int) / 32 != 0) = true := by rw [bne_iff_ne]; omega
        clear hn HV
        go_enter Try.func46, Try.ntmps46
        go_wp2_with (go_at_call 41; (with_reducible refine HM.out.mono ?_); rintro x w1 ⟨rfl, rfl⟩)
        go_ret
        rw [HE.out]
        exact ⟨_, rfl, Or.inl ⟨rfl, rfl⟩, HR.out, fr_set _⟩
  · rw [decide_eq_false he] at hmay
    have HM := Lib.hid hmay
    clear hmay
    have HE : Hid (rFlags r = (r, [])) := by unfold Hid rFlags; rw [if_neg he]
    clear he
    go_enter Try.func46, Try.ntmps46
    go_wp2_with (go_at_call 41; (with_reducible refine HM.out.mono ?_); rintro x w1 ⟨rfl, rfl⟩)
    go_ret
    rw [HE.out]
    exact ⟨_, rfl, Or.inl ⟨rfl, rfl⟩, h', Fr.refl _ _⟩
end Go.Proofs.Ytnpdfmpjjomhcaa
