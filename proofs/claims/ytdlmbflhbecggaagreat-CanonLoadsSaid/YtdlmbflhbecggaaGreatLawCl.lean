/- The law CanonLoads, walked. Conditions: none. -/
import Derived.Test.YtdlmbflhbecggaaGreatRefLo
import Derived.Test.YtdlmbflhbecggaaGreatForm
import Derived.Test.YtdlmbflhbecggaaGreatCanV
import Derived.Test.YtdlmbflhbecggaaGreatWinners
import Derived.Test.YtdlmbflhbecggaaGreatIs
set_option linter.unusedSimpArgs false
set_option linter.unusedVariables false
set_option linter.unnecessarySimpa false
set_option maxHeartbeats 16000000
set_option maxRecDepth 100000
namespace Go.Proofs.YtdlmbflhbecggaaGreat
open Go.RowKit
/-- what is read whole has the bytes that it is written by -/
theorem Ce {l : Bytes} {r : Rd} {c : List Dot} {K : List Ev} {d : List Dot} (hx : kV l = (r, c, K, d)) (he : gW r = 0) : l = jM c ++ bg K.length ++ mW K ++ bg d.length ++ dX d ∧ c.length ≤ 4096 ∧ d.length ≤ 65536 := by
 have hcl := rD ⟨l, 0⟩
 obtain ⟨r1, mk, h1⟩ : ∃ x y, dW ⟨l, 0⟩ = (x, y) := ⟨_, _, rfl⟩
 obtain ⟨r2, N, h2⟩ : ∃ x y, bu 2048 r1 = (x, y) := ⟨_, _, rfl⟩
 obtain ⟨r3, evs, h3⟩ : ∃ x y, jK N r2 = (x, y) := ⟨_, _, rfl⟩
 have f4 := bC 65536 r3
 obtain ⟨r4, D, h4⟩ : ∃ x y, bu 65536 r3 = (x, y) := ⟨_, _, rfl⟩
 obtain ⟨r5, ds, h5⟩ : ∃ x y, bQ D r4 = (x, y) := ⟨_, _, rfl⟩
 have hxx : kV l = (r5, mk, evs, ds) := by unfold kV; simp only [h1, h2, h3, h4, h5]
 rw [hxx] at hx
 simp only [Prod.mk.injEq] at hx
 obtain ⟨rfl, rfl, rfl, rfl⟩ := hx
 rw [h1] at hcl
 rw [h4] at f4
 simp only at hcl f4
 have h50 : r5.e = 0 ∧ r5.b = [] := by
  unfold gW at he
  by_cases h : r5.e = 0
  ·rw [if_pos h] at he
   by_cases hb : 0 < r5.b.length
   ·rw [if_pos hb] at he; cases he
   ·exact ⟨h, List.length_eq_zero_iff.1 (by omega)⟩
  ·rw [if_neg h] at he; exact absurd he h
 obtain ⟨e4, l5, b4⟩ := oM D h5 h50.1
 obtain ⟨e3, b3⟩ := fP h4 e4
 obtain ⟨e2, l3, b2⟩ := zX N h3 e3
 obtain ⟨e1, b1⟩ := fP h2 e2
 obtain ⟨_, b0⟩ := Df h1 e1
 refine ⟨?_, hcl, by rw [l5]; exact f4.2⟩
 show (⟨l, 0⟩ : Rd).b = _
 rw [b0, b1, b2, b3, b4, h50.2, l5, l3, List.append_nil]
 simp only [List.append_assoc]
theorem IM (a : Option Addr) (cap : Nat) (l : Bytes) (w : World) (h : BytesIn w a l) (hl : l.length ≤ maxLen) (hcap : l.length ≤ cap) :
 Calls Tryz.prog 3 #[.slice a l.length cap] w fun x w' => x = .returned (.bool true) ∧ Below w.heap.size w w' := by
 unfold maxLen at hl
 have HA := Lib.hid EE
 by_cases hlen : 5000 < l.length
 ·have d1 := decide_eq_true hlen
  have d2 : decide ((5000 : Int) < (l.length : Int)) = true := decide_eq_true (by omega)
  go_enter Tryz.func3, Tryz.ntmps3
  go_wp2_with (go_at_call 5; (with_reducible refine (HA.out _).mono ?_); rintro x w2 ⟨rfl, hb2⟩)
  go_ret
  exact ⟨rfl, hb2⟩
 ·have hl5 : l.length ≤ 5000 := by omega
  have d1 := decide_eq_false hlen
  have d2 : decide ((5000 : Int) < (l.length : Int)) = false := decide_eq_false (by omega)
  obtain ⟨r, c, K, d, hx⟩ : ∃ r c K d, kV l = (r, c, K, d) := ⟨_, _, _, _, rfl⟩
  have HL0 := Jl a cap l w (by omega) hcap h hx
  have HR0 := fun (X : World) (hX : BytesIn X a l) => Bv a cap l X (by omega) hcap hX hx
  obtain ⟨e, he⟩ : ∃ e, e = (if gW r = 0 then pM c K d else gW r) := ⟨_, rfl⟩
  by_cases h0 : e = 0
  ·obtain ⟨hr0, hld⟩ : gW r = 0 ∧ pM c K d = 0 := by
        by_cases hr : gW r = 0
        ·rw [if_pos hr] at he; exact ⟨hr, by rw [← he]; exact h0⟩
        ·rw [if_neg hr] at he; exact absurd (he.symm.trans h0) hr
   obtain ⟨hfm, hc4, hd6⟩ := Ce hx hr0
   have HFM := Lib.hid hfm
   clear hfm
   unfold kH at HL0
   simp only [if_pos hr0, if_pos hld] at HL0
   have HL := Lib.hid HL0
   have HR : Hid (∀ X, BytesIn X a l → Calls Tryz.prog 7 #[.slice a l.length cap] X fun x w' => ∃ y, x = .returned (.tuple #[pF y, .int .i64 0]) ∧ RMIn w' y ∧ Below X.heap.size X w' ∧ y.rm = ⟨c, K, d⟩) := fun X hX => (HR0 X hX).mono fun x w' h9 => by
        obtain ⟨y, e9, h1, h2, h3, _, h5, h6⟩ := h9
        have h7 : e9 = 0 := by rw [h2, ← he]; exact h0
        subst h7
        obtain ⟨g1, g2, g3⟩ := h6 rfl
        exact ⟨y, h1, h3, h5, by unfold RMIt.rm; rw [g1, g2, g3]⟩
   clear HL0 HR0 he h0 hr0 hld hx hlen
   go_enter Tryz.func3, Tryz.ntmps3
   go_upto_region 4 with (go_at_call 6; go_loud ((with_reducible refine HL.out.mono ?_); rintro x w1 ⟨n, bn, t, rfl, hn1, hti, htr, htd, htk, hb1⟩))
   have h1 := h.kept hb1
   go_upto_region 5 with (first
        | (go_at_call 7; (with_reducible refine (HR.out _ h1).mono ?_); rintro x w2 ⟨y, rfl, hI2, hb2, hyr⟩)
        | (refine aN 32 _ _ _ (sJ y) rfl rfl (by kernel_rfl) rfl (by kernel_rfl) ?_))
   have hbA := (Below.refl w2.heap.size w2).alloc (Nat.le_refl _) (.cells (sJ y) 32)
   have hAt : RMAt (w2.alloc (.cells (sJ y) 32)) w2.heap.size y := dK _ _
   have Mc := hb2.trans (hbA.mono hb2.size)
   have hmp := hn1.kept_w Mc
   have hry := hI2.keep hbA
   have hby := h1.kept Mc
   have hbw := hb1.trans (Mc.mono hb1.size)
   have hfb : tC t = l := by
        rw [HFM.out, show c = t.ctx from htr.ctx, show K = dA t from htr.kept, show d = sortD t.dead from htr.dead, iJ htr.nd]
        rfl
   have htc : t.ctx.length ≤ 4096 := by rw [← show c = t.ctx from htr.ctx]; exact hc4
   have HF0 := fun (X : World) (h : MpIn X n bn t) => y7 X h hti htr.nd htc (by omega) (by rw [hfb]; omega)
   rw [hfb] at HF0
   have HF := Lib.hid HF0
   have HIS := Lib.hid (fun (X : World) (hn : MpIn X n bn t) (hI : RMIn X y) => IZ (m := n) (b := bn) (s := t) (y := y) (OA hti (by rw [hyr]; exact htr) htc (by omega) (fun x hx => rY (hti.kept x hx).1)) X hn hI)
   have HSF := Lib.hid (fun (X : World) (p q : Option Addr) (c1 c2 : Nat) (h1 : BytesIn X p l) (h2 : BytesIn X q l) => xJ p q c1 c2 l l X (by omega) (by omega) h1 h2)
   simp only [decide_true] at HSF
   have HBW := Lib.hid hbw
   clear HF0 hfb htc HFM hti htr htd htk hyr hbw Mc hbA hb2 hb1 hn1 hI2 h1 h HL HR
   generalize w2.alloc (.cells (sJ y) 32) = W at *
   generalize w2.heap.size = B at *
   go_upto_region 8 with (go_at_call 8; have h9 := HF.out _ hmp; (with_reducible refine h9.mono ?_); rintro x w5 ⟨a5, c5, rfl, zB, hb5⟩)
   have hA5 := hAt.kept hb5
   have hI5 := hry.keep hb5
   have hn5 := hmp.kept_w hb5
   have Qa := BytesIn.kept hby hb5
   obtain ⟨d0, d1, d2⟩ := hA5.cells
   have HB5 := Lib.hid (HBW.out.trans (hb5.mono HBW.out.size))
   have hin5' := zB.1
   clear hAt hry hmp hby hb5 HBW HF zB
   go_wp2_with (first
        | (go_at_call 9; have h9 := HSF.out _ _ _ c5 cap hin5' Qa; (with_reducible refine h9.mono ?_); rintro x w12 ⟨rfl, F7⟩; have Qk := hI5.keep F7; have PY := hn5.kept_w F7; have Qo := hA5.kept F7; obtain ⟨g0, g1, g2⟩ := Qo.cells)
        | (go_at_call 10; have h9 := HIS.out _ PY Qk; (with_reducible refine h9.mono ?_); rintro x w13 ⟨rfl, Qe⟩)
        | (go_at_call 5; (with_reducible refine (HA.out _).mono ?_); rintro x w14 ⟨rfl, NU⟩))
   go_ret
   have q1 := HB5.out.trans (F7.mono HB5.out.size)
   have q2 := q1.trans (Qe.mono q1.size)
   exact ⟨rfl, q2.trans (NU.mono q2.size)⟩
  ·have HL : Hid (Calls Tryz.prog 6 #[.slice a l.length cap] w fun x w' => x = .returned (.tuple #[.pointer none, .int .i64 e]) ∧ Below w.heap.size w w') := HL0.mono fun x w' h9 => by
        unfold kH at h9
        by_cases hr : gW r = 0
        ·rw [if_pos hr] at h9 he
         rw [if_neg (fun h8 => h0 (he.trans h8)), ← he] at h9
         exact h9
        ·rw [if_neg hr] at h9 he
         rw [← he] at h9
         exact h9
   have HR : Hid (∀ X, BytesIn X a l → Calls Tryz.prog 7 #[.slice a l.length cap] X fun x w' => ∃ y, x = .returned (.tuple #[pF y, .int .i64 e]) ∧ Below X.heap.size X w') := fun X hX => (HR0 X hX).mono fun x w' h9 => by
        obtain ⟨y, e9, h1, h2, _, _, h5, _⟩ := h9
        exact ⟨y, by rw [h1, h2, he], h5⟩
   have q1 : (e == 0) = false := beq_eq_false_iff_ne.2 h0
   have q2 : (e != 0) = true := by rw [bne_iff_ne]; exact h0
   have q3 : (e == e) = true := beq_self_eq_true e
   clear HL0 HR0 he h0 hx hlen
   go_enter Tryz.func3, Tryz.ntmps3
   go_upto_region 4 with (go_at_call 6; (with_reducible refine HL.out.mono ?_); rintro x w1 ⟨rfl, hb1⟩)
   have h1 := h.kept hb1
   go_wp2_with (first
        | (go_at_call 7; (with_reducible refine (HR.out _ h1).mono ?_); rintro x w2 ⟨y, rfl, hb2⟩)
        | (refine aN 32 _ _ _ (sJ y) rfl rfl (by kernel_rfl) rfl (by kernel_rfl) ?_)
        | (go_at_call 5; (with_reducible refine (HA.out _).mono ?_); rintro x w14 ⟨rfl, NU⟩))
   go_ret
   have hbA := (Below.refl w2.heap.size w2).alloc (Nat.le_refl _) (.cells (sJ y) 32)
   have q4 := hb1.trans (hb2.mono hb1.size)
   have q5 := q4.trans (hbA.mono q4.size)
   exact ⟨rfl, q5.trans (NU.mono q5.size)⟩
end Go.Proofs.YtdlmbflhbecggaaGreat
