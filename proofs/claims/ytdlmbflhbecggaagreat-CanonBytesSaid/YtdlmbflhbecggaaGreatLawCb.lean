/- The law CanonBytes, walked. Conditions: none. -/
import Derived.Test.YtdlmbflhbecggaaGreatCanX
import Derived.Test.YtdlmbflhbecggaaGreatCanY
import Derived.Test.YtdlmbflhbecggaaGreatCanB
import Derived.Test.YtdlmbflhbecggaaGreatCanS
import Derived.Test.YtdlmbflhbecggaaGreatIs
import Derived.Test.YtdlmbflhbecggaaGreatRefR
set_option linter.unusedSimpArgs false
set_option linter.unusedVariables false
set_option linter.unnecessarySimpa false
set_option maxHeartbeats 16000000
set_option maxRecDepth 100000
namespace Go.Proofs.YtdlmbflhbecggaaGreat
open Go.RowKit
theorem MadeIn.sg26 {w : World} {m : Nat} {b : MB} {s : MS} {y : RMIt} {ls : List bg} {n1 : Nat} (h : MadeIn w m b s y (aQ ls) n1) (hsl : iq ls) : SGood s ls.length := by
 refine ⟨h.inv, h.rel.nd, by have := h.ctx; rwa [aJ] at this, by have := h.dead; rwa [aJ] at this, fun x hx => ?_⟩
 obtain ⟨n9, f9, hM9⟩ := h.merged
 rcases hM9.come x hx with ⟨z9, hz9, _⟩ | h9
 ·cases hz9
 ·obtain ⟨v, hv, e8⟩ := List.mem_map.1 h9
  rw [← e8]
  exact hsl v hv
theorem Gt {s : MS} {y : RMIt} (hi : MInv s) (hr : Rel s y.rm) : tV y.ctx (aQ (y.K.filter (dO y.dead))) = pM s := by
 rw [uN hi hr, show y.ctx = s.ctx from hr.ctx]
 unfold tV pM
 rw [List.append_assoc]
 rfl
theorem Gu {s : MS} {y : RMIt} (hr : Rel s y.rm) : tX y.ctx (aQ y.K) y.dead = jQ s := by
 rw [show aQ y.K = bP s from hr.kept, show y.ctx = s.ctx from hr.ctx, show y.dead = sortD s.dead from hr.dead]
 unfold tX jQ
 rw [fJ hr.nd]
 simp only [List.append_assoc]
theorem Hz {s : MS} (hg : SGood s 60) (hk : s.K.length ≤ 60) : (jQ s).length ≤ 1048576 := by
 have hcx := hg.ctx
 have hdd := hg.dead
 have hdl : (sortD s.dead).length ≤ s.dead.length := fG _
 have h1 := aV s.ctx.length (by omega)
 have h2 := eQ s.ctx
 have h3 := aV s.K.length (by omega)
 have h5 := oH (bP s) fun e he => by
  obtain ⟨z, hz, e9⟩ := (dU hg.nd).1 he
  rw [← e9]
  exact (hg.inv.kept z hz).1
 rw [fJ hg.nd] at h5
 have h6 := aV (sortD s.dead).length (by omega)
 have h7 := eQ (sortD s.dead)
 unfold jQ eX
 simp only [List.length_append]
 omega
theorem JS (a : Option Addr) (ca : Nat) (ls : List bg) (w : World) (hE : EvsArg w a ls) :
 Calls Tryz.prog 4 #[.slice a ls.length ca] w fun x w' => x = .returned (.bool true) ∧ Below w.heap.size w w' := by
 have HL0 : Calls Tryz.prog 11 #[.slice a ls.length ca, .int .i64 30] w fun x w' => x = .returned (.bool (ig 30 (aQ ls))) ∧ Below w.heap.size w w' := DZ a ca 30 ls w (by decide) hE.len hE.evs (fun x hx => ⟨(hE.each x hx).over, (hE.each x hx).name, (hE.each x hx).domain, (hE.each x hx).path, (hE.each x hx).value⟩)
 have HA := Lib.hid FV
 have hEi := hE.evs
 clear hE
 cases hli : ig 30 (aQ ls) with
 | false =>
   rw [hli] at HL0
   have HL := Lib.hid HL0
   clear HL0 hli
   go_enter Tryz.func4, Tryz.ntmps4
   go_wp2_with (first
    | (go_at_call 11; (with_reducible refine HL.out.mono ?_); rintro x w1 ⟨rfl, hb1⟩)
    | (go_at_call 5; (with_reducible refine (HA.out _).mono ?_); rintro x w2 ⟨rfl, hb2⟩))
   go_ret
   exact ⟨rfl, hb1.trans (hb2.mono hb1.size)⟩
 | true =>
   obtain ⟨hls, hsl⟩ := JR hli
   rw [hli] at HL0
   have HL := Lib.hid HL0
   have HM := Lib.hid (fun (X : World) (h : EvsIn X a ls) => GR a ca ls X (by omega) h hsl)
   have HSL := Lib.hid hsl
   clear HL0 hli hsl
   go_enter Tryz.func4, Tryz.ntmps4
   go_upto_region 3 with (go_at_call 11; (with_reducible refine HL.out.mono ?_); rintro x w1 ⟨rfl, hb1⟩)
   have hE1 := hEi.kept hb1
   go_upto_region 4 with (first
    | (go_at_call 12; (with_reducible refine (HM.out _ hE1).mono ?_); rintro x w3 ⟨m, b, s, y, rfl, hm3, hb3⟩)
    | (refine bQ 32 _ _ _ (wG y) rfl rfl (by kernel_rfl) rfl (by kernel_rfl) ?_))
   have AP := hb1.trans (hb3.mono hb1.size)
   have hbA := (Below.refl w3.heap.size w3).alloc (Nat.le_refl _) (.cells (wG y) 32)
   have hAt : RMAt (w3.alloc (.cells (wG y) 32)) w3.heap.size y := bV _ _
   have hmp := hm3.map.kept_w hbA
   have hry := hm3.ref.keep hbA
   have hrel := hm3.rel
   have hg : SGood s 60 := (hm3.sg26 HSL.out).mono (by omega)
   have hk : s.K.length ≤ 60 := by have := hm3.len; rw [aJ] at this; omega
   have hgood := hm3.good
   have Ku := AP.trans (hbA.mono AP.size)
   generalize w3.alloc (.cells (wG y) 32) = W at *
   generalize w3.heap.size = B at *
   have hyK : y.K.length = s.K.length := by
    have h3 := congrArg List.length hrel.kept
    rw [fJ hrel.nd] at h3
    rw [← h3]
    exact (aJ _).symm
   have hyd : y.dead.length ≤ 3840 := by
    have h1 : y.dead = sortD s.dead := hrel.dead
    rw [h1]
    exact Nat.le_trans (fG _) hg.dead
   have hyc : y.ctx = s.ctx := hrel.ctx
   have hme : bf y.ctx = 0 := by rw [hyc]; exact hg.inv.marks (by have := hg.ctx; omega)
   have PR : aQ y.K = bP s := hrel.kept
   have PH : ∀ z ∈ y.K, cu z.1 = true := fun z hz => by
    have h9 : z.1 ∈ bP s := by rw [← PR]; exact List.mem_map_of_mem hz
    obtain ⟨q, hq, e⟩ := (dU hg.nd).1 h9
    rw [← e]
    exact (hg.inv.kept q hq).1
   have QK : ∀ z ∈ y.K.filter (dO y.dead), cu z.1 = true ∧ z.1.kind = 1 := fun z hz => by
    refine ⟨PH z (List.mem_filter.1 hz).1, ?_⟩
    have h9 : z.1 ∈ dC s := by rw [← uN hg.inv hrel]; exact List.mem_map_of_mem hz
    exact ((iP hg.inv hg.nd).1 h9).2.1
   have HV := Lib.hid (KI W hmp hg hk)
   have HF := Lib.hid (fun (X : World) (h : MpIn X m b s) => BV X h hg hk)
   have hvl := Je hg hk
   have hfl := Hz hg hk
   have HB := Lib.hid (fun (X : World) (p : Option Addr) (c : Nat) (hc : (jQ s).length ≤ c) (h : BytesIn X p (jQ s)) => KL hg hk p c X hfl hc h)
   have Qh := fun (X : World) (h : RMIn X y) => Eh y X h hme (by omega) (by omega) QK
   have Qi := fun (X : World) (h : RMIn X y) => Ep y X h hme (by omega) (by omega) PH (fun d hd => hg.inv.dead d (by have h1 : y.dead = sortD s.dead := hrel.dead; rw [h1] at hd; exact df.1 hd))
   rw [Gt hg.inv hrel] at Qh
   rw [Gu hrel] at Qi
   have HIS := Lib.hid (fun (X : World) (n : Nat) (bn : MB) (t : MS) (ht : MInv t) (hr : Rel t ⟨s.ctx, bP s, sortD s.dead⟩) (hd : t.dead.length ≤ s.dead.length) (hs : ∀ x ∈ t.K, EvSmall x.1) (hn : MpIn X n bn t) (hI : RMIn X y) => J5 (m := n) (b := bn) (s := t) (y := y) (Qw ht (by
    have e : y.rm = ⟨s.ctx, bP s, sortD s.dead⟩ := by
        show (⟨y.ctx, aQ y.K, y.dead⟩ : RM) = _
        rw [hyc, PR, show y.dead = sortD s.dead from hrel.dead]
    rw [e]; exact hr) (by have h1 : t.ctx = s.ctx := hr.ctx.symm; rw [h1]; have := hg.ctx; omega) (by have := hg.dead; omega) hs) X hn hI)
   have HSV := Lib.hid (fun (X : World) (p q : Option Addr) (c1 c2 : Nat) (h1 : BytesIn X p (pM s)) (h2 : BytesIn X q (pM s)) => qc p q c1 c2 (pM s) (pM s) X (by omega) (by omega) h1 h2)
   have HSF := Lib.hid (fun (X : World) (p q : Option Addr) (c1 c2 : Nat) (h1 : BytesIn X p (jQ s)) (h2 : BytesIn X q (jQ s)) => qc p q c1 c2 (jQ s) (jQ s) X (by omega) (by omega) h1 h2)
   simp only [decide_true] at HSV HSF
   have HRV := Lib.hid Qh
   have HRF := Lib.hid Qi
   have HVN := Lib.hid DU
   have HFN := Lib.hid DV
   have HBW := Lib.hid Ku
   clear hm3 hrel hg hk hgood hyK hyd hyc hme PR PH QK hvl hfl Qh Qi hb1 hb3 AP Ku hbA hE1 HM HSL HL
   go_upto_region 5 with (go_at_call 13; (with_reducible refine HV.out.mono ?_); rintro x w4 ⟨a4, c4, rfl, DC, hb4⟩; have hm4 := hmp.kept_w hb4)
   go_upto_region 6 with (go_at_call 8; have h9 := HF.out _ hm4; (with_reducible refine h9.mono ?_); rintro x w5 ⟨a5, c5, rfl, AC, hb5⟩)
   go_upto_region 7 with (go_at_call 6; have h9 := HB.out _ a5 c5 AC.2 AC.1; (with_reducible refine h9.mono ?_); rintro x w6 ⟨n, bn, t, rfl, hn6, hti, htr, htd, hts, hb6⟩)
   have Og := (hb4.trans (hb5.mono hb4.size)).trans (hb6.mono (Nat.le_trans hb4.size hb5.size))
   have Ti := BytesIn.kept AC.1 hb6
   have S9 := BytesIn.kept (BytesIn.kept DC.1 hb5) hb6
   have hA6 := hAt.kept Og
   have hI6 := hry.keep Og
   have HB6 := Lib.hid (HBW.out.trans (Og.mono HBW.out.size))
   clear hb4 hb5 hb6 Og DC AC hAt hry hm4 hmp HV HF HB HBW
   obtain ⟨d0, d1, d2⟩ := hA6.cells
   generalize pM s = vb at *
   generalize jQ s = fb at *
   go_upto_region 9 with (first
    | (go_at_call 13; (with_reducible refine (HVN.out _).mono ?_); rintro x w7 ⟨rfl, rfl⟩)
    | (go_at_call 8; (with_reducible refine (HFN.out _).mono ?_); rintro x w8 ⟨rfl, rfl⟩))
   go_wp2_with (first
    | (go_at_call 14; (with_reducible refine (HRV.out _ hI6).mono ?_); rintro x w9 ⟨v9, rfl, BF, hb9⟩; obtain ⟨a9, c9, rfl, PK⟩ := dH BF; have SY := BytesIn.kept S9 hb9)
    | (go_at_call 9; have h9 := HSV.out _ _ _ c4 c9 SY PK; (with_reducible refine h9.mono ?_); rintro x w10 ⟨rfl, SV⟩; have Oc := hb9.trans (SV.mono hb9.size); have Tf := hI6.keep Oc; have hA10 := hA6.kept Oc; obtain ⟨f0, f1, f2⟩ := hA10.cells)
    | (go_at_call 15; (with_reducible refine (HRF.out _ Tf).mono ?_); rintro x w11 ⟨v11, rfl, PG, SS⟩; obtain ⟨a11, c11, rfl, QX⟩ := dH PG; have PU := Oc.trans (SS.mono Oc.size); have RI := BytesIn.kept Ti PU)
    | (go_at_call 9; have h9 := HSF.out _ _ _ c5 c11 RI QX; (with_reducible refine h9.mono ?_); rintro x w12 ⟨rfl, Oh⟩; have Ob := PU.trans (Oh.mono PU.size); have Td := hI6.keep Ob; have SC := hn6.kept_w Ob; have Tj := hA6.kept Ob; obtain ⟨g0, g1, g2⟩ := Tj.cells)
    | (go_at_call 10; have h9 := HIS.out _ n bn t hti htr htd hts SC Td; (with_reducible refine h9.mono ?_); rintro x w13 ⟨rfl, AP⟩)
    | (go_at_call 5; (with_reducible refine (HA.out _).mono ?_); rintro x w14 ⟨rfl, Ku⟩))
   go_ret
   have q1 := HB6.out.trans (Ob.mono HB6.out.size)
   have q2 := q1.trans (AP.mono q1.size)
   exact ⟨rfl, q2.trans (Ku.mono q2.size)⟩
end Go.Proofs.YtdlmbflhbecggaaGreat
