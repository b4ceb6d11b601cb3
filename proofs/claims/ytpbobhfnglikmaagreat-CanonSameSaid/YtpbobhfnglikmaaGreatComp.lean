/- compact: settled, Settled, may. Conditions: as in the text. -/
import Derived.Test.YtpbobhfnglikmaaGreatCompR
import Derived.Test.YtpbobhfnglikmaaGreatIsB
set_option linter.unusedSimpArgs false
set_option linter.unusedVariables false
set_option linter.unnecessarySimpa false
set_option maxHeartbeats 16000000
set_option maxRecDepth 100000
namespace Go.Proofs.YtpbobhfnglikmaaGreat
open Go.RowKit
theorem cSettled_any {v b : Nat} {l : List Dot} (e : Ev) (a : Option Addr) (cap : Nat) (w : World) (h : VecIn w v b l) (hd : DotsIn w a e.over) (hl : e.over.length ≤ 1073741824) :
 Calls Tryz.prog 90 #[evVal e a cap, .pointer (some ⟨v, 0, none⟩)] w fun x w' => x = .returned (.bool (setl l e)) ∧ Below w.heap.size w w' := by
 have HH0 := fun (d : Dot) (X : World) (h : VecIn X v b l) => vHas_any d X h
 go_enter Tryz.func90, Tryz.ntmps90
 go_upto_region 1 with fail
 refine wp_name (fun W0 hW0 => ?_)
 have hb0 : Below w.heap.size w W0 := by rw [hW0.out]; go_grown
 have hR0 : W0.rangeAt w.heap.size 0 (evCells e a cap) := by rw [hW0.out]; exact evCells_box e a cap w _
 have h0 := h.kept hb0
 have hd0 := hd.kept hb0
 clear hW0 h hd
 have v0 : W0.cell? ⟨w.heap.size, 0, none⟩ = some (.int .i64 e.dot.a.dev) := by have := hR0 0 _ rfl; rwa [Nat.zero_add] at this
 have v1 : W0.cell? ⟨w.heap.size, 1, none⟩ = some (.int .i64 e.dot.a.inc) := by have := hR0 1 _ rfl; rwa [Nat.zero_add] at this
 have v2 : W0.cell? ⟨w.heap.size, 2, none⟩ = some (.int .i64 e.dot.seq) := by have := hR0 2 _ rfl; rwa [Nat.zero_add] at this
 have v6 : W0.cell? ⟨w.heap.size, 6, none⟩ = some (.int .i64 e.kind) := by have := hR0 6 _ rfl; rwa [Nat.zero_add] at this
 have v7 : W0.cell? ⟨w.heap.size, 7, none⟩ = some (.string e.key.name) := by have := hR0 7 _ rfl; rwa [Nat.zero_add] at this
 have v8 : W0.cell? ⟨w.heap.size, 8, none⟩ = some (.string e.key.domain) := by have := hR0 8 _ rfl; rwa [Nat.zero_add] at this
 have v9 : W0.cell? ⟨w.heap.size, 9, none⟩ = some (.string e.key.path) := by have := hR0 9 _ rfl; rwa [Nat.zero_add] at this
 clear v6 v7 v8 v9
 have HHe0 := HH0 e.dot
 cases hh : hasM l e.dot with
 | false =>
   have HE : Hid (setl l e = false) := by unfold Hid setl; rw [hh]; rfl
   rw [hh] at HHe0
   have HHe := Lib.hid HHe0
   clear HHe0
   go_upto_region 2 with (go_at_call 74; (with_reducible refine (HHe.out _ h0).mono ?_); rintro x W1 ⟨rfl, hbW1⟩)
   clear hh HHe
   go_wp2
   go_ret
   exact ⟨ret_bool HE.out.symm, below2 hb0 hbW1⟩
 | true =>
   have HE : Hid (setl l e = e.over.all fun d => hasM l d) := by unfold Hid setl; rw [hh]; exact Bool.true_and _
   rw [hh] at HHe0
   have HHe := Lib.hid HHe0
   clear HHe0
   go_upto_region 3 with (go_at_call 74; (with_reducible refine (HHe.out _ h0).mono ?_); rintro x W1 ⟨rfl, hbW1⟩)
   have hbw1 := below2 hb0 hbW1
   have v18 : W1.cell? ⟨w.heap.size, 18, none⟩ = some (.slice a e.over.length cap) := by have := rangeAt_kept hR0 hbW1 18 _ rfl; rwa [Nat.zero_add] at this
   have h1 := h0.kept hbW1
   have hd1 := hd0.kept hbW1
   clear hh HHe v0 v1 v2 h0 hd0 hR0 hbW1 hb0
   generalize e.over = ov at *
   go_wp2
   go_loopw [15] (fun i wr => ∃ k : Nat, i = .int .i64 k ∧ k ≤ ov.length ∧ setl l e = (ov.drop k).all (fun d => hasM l d) ∧ Below w.heap.size w wr ∧ Below W1.heap.size W1 wr) (fun i _ => ov.length - (intOf i).toNat)
   case atStart => exact ⟨0, rfl, Nat.zero_le _, HE.out, hbw1, Below.refl _ _⟩
   case round =>
    obtain ⟨k, rfl, hk, hC0, hbw, hbr⟩ := hrel
    have HC := Lib.hid hC0
    clear hC0
    by_cases hlt : k < ov.length
    ·obtain ⟨A2, off, rfl, c0, c1, c2⟩ := (hd1.kept hbr).at hlt
     have hr := h1.kept hbr
     have HS : Hid ((ov.drop k).all (fun d => hasM l d) = (hasM l ov[k] && (ov.drop (k + 1)).all fun d => hasM l d)) := setl_drop l ov k hlt
     have HLT := Lib.hid hlt
     generalize ov[k] = d at *
     clear hlt
     go_upto_region 6 with fail
     refine wp_name (fun Wx hWx => ?_)
     have hbx : Below wr.heap.size wr Wx := by rw [hWx.out]; go_grown
     have v0 : Wx.cell? ⟨wr.heap.size, 0, none⟩ = some (.int .i64 d.a.dev) := by rw [hWx.out]; go_simp
     have v1 : Wx.cell? ⟨wr.heap.size, 1, none⟩ = some (.int .i64 d.a.inc) := by rw [hWx.out]; go_simp
     have v2 : Wx.cell? ⟨wr.heap.size, 2, none⟩ = some (.int .i64 d.seq) := by rw [hWx.out]; go_simp
     have hx := hr.kept hbx
     clear hWx c0 c1 c2 hr
     have HHd0 := HH0 d
     cases hh : hasM l d with
     | true =>
       rw [hh] at HHd0 HS
       have HHd := Lib.hid HHd0
       clear HHd0 hh
       go_upto_region 8 with (go_at_call 74; (with_reducible refine (HHd.out _ hx).mono ?_); rintro x W2 ⟨rfl, hbW2⟩)
       have hb2 := below2 hbx hbW2
       have hbY := hbw.trans (hb2.mono hbw.size)
       have hbZ := hbr.trans (hb2.mono hbr.size)
       clear hb2
       go_wp2
       go_roundw
       case rel => exact ⟨k + 1, by go_num, HLT.out, by rw [HC.out, HS.out]; exact Bool.true_and _, hbY, hbZ⟩
       case measure => have := HLT.out; simp [intOf] <;> omega
     | false =>
       rw [hh] at HHd0 HS
       have HHd := Lib.hid HHd0
       clear HHd0 hh
       go_upto_region 7 with (go_at_call 74; (with_reducible refine (HHd.out _ hx).mono ?_); rintro x W2 ⟨rfl, hbW2⟩)
       have hb2 := below2 hbx hbW2
       have hbY := hbw.trans (hb2.mono hbw.size)
       have hbZ := hbr.trans (hb2.mono hbr.size)
       clear hb2
       have HF : Hid (setl l e = false) := by unfold Hid; rw [HC.out, HS.out]; rfl
       go_wp2
       go_ret
       exact ⟨ret_bool HF.out.symm, hbY⟩
    ·obtain rfl : k = ov.length := by omega
     have HF : Hid (setl l e = true) := by unfold Hid; rw [HC.out, List.drop_length]; rfl
     go_wp2
     go_ret
     exact ⟨ret_bool HF.out.symm, hbw⟩
theorem may_yes {m : Nat} {b : MB} {s : MS} (a : Option Addr) (cap : Nat) (l : List Dot) (w : World) (h : MpIn w m b s) (hi : MInv s) (hc : s.ctx.length ≤ 4096) (hd : DotsIn w a l) (hok : marksErr l = 0) (hcov : coversM s.ctx l = true) :
 Calls Tryz.prog 89 #[.pointer (some ⟨m, 0, none⟩), .slice a l.length cap] w fun x w' => ∃ v vb, x = .returned (.tuple #[.pointer (some ⟨v, 0, none⟩), .int .i64 0]) ∧ VecIn w' v vb l ∧ Below w.heap.size w w' ∧ w.heap.size ≤ v ∧ w.heap.size ≤ vb := by
 have HO := Lib.hid (vOf_yes a cap l w hd hok)
 have HC := Lib.hid (fun (X : World) (h : MpIn X m b s) => callCtx X h hi hc)
 have HS := Lib.hid (fun (X : World) (aC : Option Addr) (cC : Nat) (hd : DotsIn X aC s.ctx) => vOf_yes aC cC s.ctx X hd (hi.marks hc))
 obtain ⟨hll, hok2, hsr⟩ := marksErr_ok hok
 have HV := Lib.hid (fun (X : World) (v vb u ub : Nat) (hv : VecIn X v vb s.ctx) (hu : VecIn X u ub l) => by have := vCovers_any X hv hu hsr (by omega) hok2; rw [hcov] at this; exact this)
 clear hok hi hc hll hok2 hsr hcov
 go_enter Tryz.func89, Tryz.ntmps89
 go_upto_region 6 with (go_at_call 97; (with_reducible refine HO.out.mono ?_); rintro x w1 ⟨u, ub, rfl, hu, hb1, hz1, hz2⟩)
 have h1 := h.kept_w hb1
 clear HO h hd
 go_upto_region 7 with (first
  | (go_at_call 32; (with_reducible refine (HC.out _ h1).mono ?_); rintro x w2 ⟨aC, cC, rfl, hdC, hb2⟩)
  | (go_at_call 97; (with_reducible refine (HS.out _ _ _ hdC).mono ?_); rintro x w3 ⟨v, vb, rfl, hv, hb3, _, _⟩))
 have hb13 : Below w1.heap.size w1 w3 := hb2.trans (hb3.mono hb2.size)
 have hu3 := hu.kept hb13
 have HZ := Lib.hid (And.intro (hb1.trans (hb13.mono hb1.size)) (And.intro hz1 hz2))
 clear hu hb1 hb2 hb3 hb13 h1 hdC HC HS hz1 hz2
 go_wp2_with (go_at_call 144; (with_reducible refine (HV.out _ _ _ _ _ hv hu3).mono ?_); rintro x w4 ⟨rfl, hb4⟩)
 all_goals
  go_ret2
  exact ⟨u, ub, rfl, hu3.kept hb4, HZ.out.1.trans (hb4.mono HZ.out.1.size), HZ.out.2.1, HZ.out.2.2⟩
end Go.Proofs.YtpbobhfnglikmaaGreat
