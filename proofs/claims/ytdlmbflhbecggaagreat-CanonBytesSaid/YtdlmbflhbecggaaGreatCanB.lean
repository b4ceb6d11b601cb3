/- canon: View and Full of an empty map, the law's own example, how long Full may be. Conditions: as in the text. -/
import Derived.Test.YtdlmbflhbecggaaGreatCanS
set_option linter.unusedSimpArgs false
set_option linter.unusedVariables false
set_option linter.unnecessarySimpa false
set_option maxHeartbeats 16000000
set_option maxRecDepth 100000
namespace Go.Proofs.YtdlmbflhbecggaaGreat
open Go.RowKit
theorem Ik {m : Nat} {b : MB} (w : World) (h : MpIn w m b MS.empty) : Calls Tryz.prog 13 #[.pointer (some ⟨m, 0, none⟩)] w fun x w' => (∃ a c, x = .returned (.tuple #[.slice a 2 c, .int .i64 0])) ∧ Below w.heap.size w w' := by
 have hmf : ∀ (fn : Fn) (first cap : Array Value) (w : World), (Instr.makeFunc fn first cap).run Tryz.prog w = .ok (.func fn first cap) w := fun _ _ _ _ => rfl
 have HAl := Lib.hid (sG w h MInv.empty MInv.empty.dots (fun x hx => (nomatch hx)))
 have HBg := Lib.hid (fun (X : World) (a : Option Addr) (cap : Nat) (h : MpIn X m b MS.empty) => vY a 0 cap X h MInv.empty (by decide) (by decide))
 have HM := Lib.hid h
 go_enter Tryz.func13, Tryz.ntmps13
 go_upto_region 4 with (go_at_call 41; (with_reducible refine HAl.out.mono ?_); rintro x w1 ⟨aE, ls, cE, rfl, hE, ⟨hev, _, _⟩, hb1⟩)
 have hl0 : ls = [] := by
  have h1 := congrArg List.length hev
  rw [aJ] at h1
  exact List.eq_nil_of_length_eq_zero h1
 subst hl0
 have h1 := HM.out.kept_w hb1
 rw [show ([] : List bg).length = 0 from rfl]
 clear hE hev HAl h
 go_upto_region 7 with (go_at_call 32; (with_reducible refine (HBg.out _ _ _ h1).mono ?_); rintro x w2 ⟨B, W0, x0, t0, f0, rfl, hBw, hB0, hb2, HH⟩)
 refine aX (fun W hW => ?_)
 have hbx : Below w2.heap.size w2 W := by rw [hW.out]; go_grown
 have x0c : W.cell? ⟨w2.heap.size, 0, none⟩ = some (.pointer (some ⟨B, 0, none⟩)) := by rw [hW.out]; go_simp
 have hbw0 : Below w.heap.size w W0 := hb1.trans (hb2.mono hb1.size)
 have hbw2 := hbw0.trans (HH.fr.below hbw0.size (fun k hk => by rw [show k = B from hk]; exact Nat.le_trans hb1.size hBw))
 have hD0 : Calls Tryz.prog 37 #[.pointer (some ⟨B, 0, none⟩)] W fun x w' => ∃ a c, x = .returned (.tuple #[.slice a 2 c, .int .i64 0]) ∧ Below W.heap.size W w' := (zZ W (HH.below hbx) (by decide +kernel)).mono fun x w' h => by
  obtain ⟨a, c, rfl, _, h2⟩ := h
  exact ⟨a, c, by rw [show (eX MS.empty.ctx ++ aN 0).length = 2 by decide +kernel], h2⟩
 have HDn := Lib.hid hD0
 have HBW := Lib.hid (hbw2.trans (hbx.mono hbw2.size))
 clear hW HH hbx hb1 hb2 h1 hbw0 hbw2 hD0
 go_wp2
 go_loopw [26] (fun i wr => i = .int .i64 0 ∧ wr = W) (fun _ _ => 0)
 case atStart => exact ⟨rfl, rfl⟩
 case round =>
  obtain ⟨rfl, rfl⟩ := hrel
  go_wp2_with (go_at_call 37; (with_reducible refine HDn.out.mono ?_); rintro x w9 ⟨a9, c9, rfl, hb9⟩)
  go_ret2
  exact ⟨⟨a9, c9, rfl⟩, HBW.out.trans (hb9.mono HBW.out.size)⟩
theorem Il {m : Nat} {b : MB} (w : World) (h : MpIn w m b MS.empty) : Calls Tryz.prog 8 #[.pointer (some ⟨m, 0, none⟩)] w fun x w' => (∃ a c, x = .returned (.tuple #[.slice a 3 c, .int .i64 0])) ∧ Below w.heap.size w w' :=
 (BV w h (SGood.empty.mono (Nat.zero_le _)) (by decide)).mono fun x w' h => by
  obtain ⟨a, c, rfl, _, h2⟩ := h
  exact ⟨⟨a, c, by rw [show (jQ MS.empty).length = 3 by decide +kernel]⟩, h2⟩
theorem FV (w : World) : Calls Tryz.prog 5 #[] w fun x w' => x = .returned (.bool true) ∧ Below w.heap.size w w' := by
 have HN := Lib.hid (fun X => yZ X)
 have HV := Lib.hid (fun (m : Nat) (b : MB) (X : World) (h : MpIn X m b MS.empty) => Ik X h)
 have HF := Lib.hid (fun (m : Nat) (b : MB) (X : World) (h : MpIn X m b MS.empty) => Il X h)
 have HM := Lib.hid (fun (X : World) => show Calls Tryz.prog 17 #[.int .i64 1, .int .i64 1] X fun v w' => v = .returned (.int .i64 1857) ∧ X = w' from LU 1 1 X)
 go_enter Tryz.func5, Tryz.ntmps5
 go_upto_region 2 with (first
  | (go_at_call 16; (with_reducible refine (HN.out _).mono ?_); rintro x w1 ⟨m, b, rfl, hm, hb1, _, _⟩)
  | (go_at_call 13; (with_reducible refine (HV.out _ _ _ hm).mono ?_); rintro x w2 ⟨⟨a2, c2, rfl⟩, hb2⟩))
 clear hm
 have Oh := hb1.trans (hb2.mono hb1.size)
 go_upto_region 3 with (first
  | (go_at_call 16; (with_reducible refine (HN.out _).mono ?_); rintro x w3 ⟨m3, b3, rfl, hm3, hb3, _, _⟩)
  | (go_at_call 8; (with_reducible refine (HF.out _ _ _ hm3).mono ?_); rintro x w4 ⟨⟨a4, c4, rfl⟩, hb4⟩))
 have Rt := Oh.trans (hb3.mono Oh.size)
 go_wp2_with (go_at_call 17; (with_reducible refine (HM.out _).mono ?_); rintro v w5 ⟨rfl, rfl⟩)
 go_ret
 exact ⟨rfl, Rt.trans (hb4.mono Rt.size)⟩
end Go.Proofs.YtdlmbflhbecggaaGreat
