/- The law CanonSame, walked. Conditions: none. -/
import Derived.Test.YtpbobhfnglikmaaGreatCanQ
import Derived.Test.YtpbobhfnglikmaaGreatCanB
import Derived.Test.YtpbobhfnglikmaaGreatSpl
import Derived.Test.YtpbobhfnglikmaaGreatCompD
set_option linter.unusedSimpArgs false
set_option linter.unusedVariables false
set_option linter.unnecessarySimpa false
set_option maxHeartbeats 16000000
set_option maxRecDepth 100000
namespace Go.Proofs.YtpbobhfnglikmaaGreat
open Go.RowKit
theorem MadeIn.sg25 {w : World} {m : Nat} {b : MB} {s : MS} {y : RMIt} {ls : List EvIt} {n1 : Nat} (h : MadeIn w m b s y (evsOf ls) n1) (hsl : EvsSmall ls) : SGood s ls.length := by
 refine ⟨h.inv, h.rel.nd, by have := h.ctx; rwa [evsOf_length] at this, by have := h.dead; rwa [evsOf_length] at this, fun x hx => ?_⟩
 obtain ⟨n9, f9, hM9⟩ := h.merged
 rcases hM9.come x hx with ⟨z9, hz9, _⟩ | h9
 ·cases hz9
 ·obtain ⟨v, hv, e8⟩ := List.mem_map.1 h9
  rw [← e8]
  exact hsl v hv
theorem MadeIn.fold25 {w : World} {m : Nat} {b : MB} {s : MS} {y : RMIt} {l : List Ev} {n1 : Nat} (h : MadeIn w m b s y l n1) : y.rm = l.foldl rmAp RM.empty := by
 obtain ⟨n9, f9, hM9⟩ := h.merged
 exact h.rel.uniq (hM9.rel Rel.empty MInv.empty)
theorem cp_len {t t' : MS} {n n' : Nat} {v : List Dot} (ht : SGood t n) (ht' : SGood t' n') (h : Rel t' (cpDo v t.rm)) : t'.K.length ≤ t.K.length := by
 have h1 : (cpDo v t.rm).kept.length ≤ t.rm.kept.length := by
  have hi : RMInv t.rm := ht.rinv
  rw [cpDo_is hi.kind hi.srt.nd]
  exact List.length_filterMap_le _ _
 rw [h.kept, eventsOf_len ht'.nd] at h1
 have h2 : t.rm.kept.length = t.K.length := eventsOf_len ht.nd
 omega
theorem ap_len {t t' : MS} {e : Ev} (ha : if apOk t e = true then Applied t e t' else t' = t) : t'.K.length ≤ t.K.length + 1 := by
 split at ha
 ·obtain ⟨a, c', hk⟩ := ha.kept
  rw [hk.length_eq, List.length_cons]
  exact Nat.le_refl _
 ·rw [ha]; exact Nat.le_succ _
/-- two maps of the same events in memory: the one below lo, the other at lo and above -/
structure CwIn (W0 w : World) (m : Nat) (b : MB) (s : MS) (n : Nat) (bn : MB) (t : MS) (lo : Nat) : Prop where
 mp : MpIn w m b s
 np : MpIn w n bn t
 mlow : ∀ k, foot b s.A k → k < lo
 nlow : ∀ k, foot bn t.A k → lo ≤ k
 lo : W0.heap.size ≤ lo ∧ lo ≤ w.heap.size
 below : Below W0.heap.size W0 w
section
variable {W0 w w' : World} {m n lo : Nat} {b bn : MB} {s t t' : MS}
theorem CwIn.kept (h : CwIn W0 w m b s n bn t lo) (hb : Below w.heap.size w w') : CwIn W0 w' m b s n bn t lo :=
 ⟨h.mp.kept_w hb, h.np.kept_w hb, h.mlow, h.nlow, ⟨h.lo.1, Nat.le_trans h.lo.2 hb.size⟩, h.below.trans (hb.mono h.below.size)⟩
theorem CwIn.op (h : CwIn W0 w m b s n bn t lo) (hn : MpIn w' n bn t') (hf : Fr (foot bn t.A) w w') (hA : ∀ k, foot bn t'.A k → foot bn t.A k ∨ w.heap.size ≤ k) : CwIn W0 w' m b s n bn t' lo :=
 ⟨h.mp.other hf (h.np.keeps hf (fun _ h => h)) fun k h1 h2 => by have := h.nlow k h1; have := h.mlow k h2; omega, hn, h.mlow, fun k hk => by
  rcases hA k hk with h1 | h1
  ·exact h.nlow k h1
  ·exact Nat.le_trans h.lo.2 h1, ⟨h.lo.1, Nat.le_trans h.lo.2 hf.size⟩, h.below.trans (hf.below h.below.size fun k hk => Nat.le_trans h.lo.1 (h.nlow k hk))⟩
end
theorem lawCw_any (e : Ev) (ae a : Option Addr) (ce ca : Nat) (ls : List EvIt) (c : UInt8) (w : World) (hin : EvIn w ae ce e) (hE : EvsArg w a ls) :
 Calls Tryz.prog 10 #[.slice a ls.length ca, .int .u8 c.toNat, evVal e ae ce] w fun x w' => x = .returned (.bool true) ∧ Below w.heap.size w w' := by
 have HLe0 := fun (X : World) => Light_any e ae ce X hin.over hin.name hin.domain hin.path hin.value
 have HL0 : ∀ X, EvsIn X a ls → Calls Tryz.prog 26 #[.slice a ls.length ca, .int .i64 30] X fun x w' => x = .returned (.bool (lightAll 30 (evsOf ls))) ∧ Below X.heap.size X w' := fun X h => LightAll_any a ca 30 ls X (by decide) hE.len h (fun x hx => ⟨(hE.each x hx).over, (hE.each x hx).name, (hE.each x hx).domain, (hE.each x hx).path, (hE.each x hx).value⟩)
 have HA := Lib.hid awake24_any
 have hEi := hE.evs
 have hdots := hin.dots
 clear hE hin
 cases hli : lightAll 30 (evsOf ls) with
 | false =>
   rw [hli] at HL0
   have HL := Lib.hid HL0
   clear HL0 hli
   go_enter Tryz.func10, Tryz.ntmps10
   go_upto_region 1 with fail
   refine wp_name (fun W0 hW0 => ?_)
   have hb0 : Below w.heap.size w W0 := by rw [hW0.out]; go_grown
   have hR0 : W0.rangeAt w.heap.size 0 (evCells e ae ce) := by rw [hW0.out]; exact evCells_box e ae ce w _
   have hE0 := hEi.kept hb0
   clear hW0
   go_wp2_with (first
    | (go_at_call 26; (with_reducible refine (HL.out _ hE0).mono ?_); rintro x w1 ⟨rfl, hb1⟩; have hR1 := rangeAt_kept hR0 hb1; have hb01 := below2 hb0 hb1)
    | ((with_reducible refine wpList_load_ev _ w.heap.size e ae ce hR1 ?_ rfl ?_); exact rfl)
    | (go_at_call 41; (with_reducible refine (HLe.out _).mono ?_); rintro x w2 ⟨rfl, hb2⟩; have hb02 := below2 hb01 hb2)
    | (go_at_call 51; (with_reducible refine (HA.out _).mono ?_); rintro x w3 ⟨rfl, hb3⟩))
   go_ret
   exact ⟨rfl, below2 hb01 hb3⟩
 | true =>
   obtain ⟨hls, hsl⟩ := light_evs hli
   rw [hli] at HL0
   have HL := Lib.hid HL0
   clear HL0 hli
   cases hle : light e with
   | false =>
     rw [hle] at HLe0
     have HLe := Lib.hid HLe0
     clear HLe0 hle
     go_enter Tryz.func10, Tryz.ntmps10
     go_upto_region 1 with fail
     refine wp_name (fun W0 hW0 => ?_)
     have hb0 : Below w.heap.size w W0 := by rw [hW0.out]; go_grown
     have hR0 : W0.rangeAt w.heap.size 0 (evCells e ae ce) := by rw [hW0.out]; exact evCells_box e ae ce w _
     have hE0 := hEi.kept hb0
     clear hW0
     go_wp2_with (first
        | (go_at_call 26; (with_reducible refine (HL.out _ hE0).mono ?_); rintro x w1 ⟨rfl, hb1⟩; have hR1 := rangeAt_kept hR0 hb1; have hb01 := below2 hb0 hb1)
        | ((with_reducible refine wpList_load_ev _ w.heap.size e ae ce hR1 ?_ rfl ?_); exact rfl)
        | (go_at_call 41; (with_reducible refine (HLe.out _).mono ?_); rintro x w2 ⟨rfl, hb2⟩; have hb02 := below2 hb01 hb2)
        | (go_at_call 51; (with_reducible refine (HA.out _).mono ?_); rintro x w3 ⟨rfl, hb3⟩))
     go_ret
     exact ⟨rfl, below2 hb02 hb3⟩
   | true =>
     have hse := light_small hle
     rw [hle] at HLe0
     have HLe := Lib.hid HLe0
     clear HLe0 hle
     have hsp : ∀ (dv : Int) (X : World) (hE : EvsIn X a ls), Calls Tryz.prog 57 #[.slice a ls.length ca, .int .i64 dv, .bool true] X (RetTu ls X) := fun dv X hE => (rSpl24_any a ca ls dv true X (by omega) hE).mono fun e w' ⟨a, c, h1, h2, h3⟩ => ⟨a, _, c, h1, h2, ⟨spL_len dv true ls, fun x hx => spL_mem hx, spE dv true, fun x y h => by unfold spE; rw [h], spL_evs dv true ls⟩, h3⟩
     have HSp := Lib.hid hsp
     have HM1 := Lib.hid (fun (X : World) (h : EvsIn X a ls) => made24_any a ca ls X (by omega) h hsl)
     have HM2 := Lib.hid (fun (X : World) (aS : Option Addr) (cS : Nat) (ds : List EvIt) (hl : ds.length ≤ 4095) (h : EvsIn X aS ds) (hs : EvsSmall ds) => made24_any aS cS ds X hl h hs)
     have HSE := Lib.hid hse
     have HSL := Lib.hid hsl
     clear hsp hse hsl
     go_enter Tryz.func10, Tryz.ntmps10
     go_upto_region 1 with fail
     refine wp_name (fun W0 hW0 => ?_)
     have hb0 : Below w.heap.size w W0 := by rw [hW0.out]; go_grown
     have hR0 : W0.rangeAt w.heap.size 0 (evCells e ae ce) := by rw [hW0.out]; exact evCells_box e ae ce w _
     have hE0 := hEi.kept hb0
     clear hW0
     go_upto_region 3 with (first
        | (go_at_call 26; (with_reducible refine (HL.out _ hE0).mono ?_); rintro x w1 ⟨rfl, hb1⟩; have hR1 := rangeAt_kept hR0 hb1; have hb01 := below2 hb0 hb1)
        | ((with_reducible refine wpList_load_ev _ w.heap.size e ae ce hR1 ?_ rfl ?_); exact rfl)
        | (go_at_call 41; (with_reducible refine (HLe.out _).mono ?_); rintro x w2 ⟨rfl, hb2⟩; have hb02 := below2 hb01 hb2)
        | (go_at_call 51; (with_reducible refine (HA.out _).mono ?_); rintro x w3 ⟨rfl, hb3⟩))
     have hb12 := hb1.trans (hb2.mono hb1.size)
     have hE2 := hE0.kept hb12
     go_upto_region 4 with (first
        | (go_at_call 52; (with_reducible refine (HM1.out _ hE2).mono ?_); rintro x w3 ⟨m, b, s, y, rfl, hm3, hb3⟩)
        | (refine wpList_store_new 31 _ _ _ (rmRow y) rfl rfl (by kernel_rfl) rfl (by kernel_rfl) ?_))
     have hbA := (Below.refl w3.heap.size w3).alloc (Nat.le_refl _) (.cells (rmRow y) 31)
     have hb3A := hb3.trans (hbA.mono hb3.size)
     have hm4 := hm3.map.kept_w hbA
     have hml4 : ∀ k, foot b s.A k → k < (w3.alloc (.cells (rmRow y) 31)).heap.size := fun k hk => hm4.low hk
     have hgs : SGood s 30 := (hm3.sg25 HSL.out).mono hls
     have hks : s.K.length ≤ 30 := by have := hm3.len; rw [evsOf_length] at this; omega
     have HG1 := Lib.hid (And.intro hgs (And.intro hks (And.intro hm3.rel hm3.fold25)))
     have hb04 : Below W0.heap.size W0 (w3.alloc (.cells (rmRow y) 31)) := hb12.trans (hb3A.mono hb12.size)
     have hE4 := hE0.kept hb04
     obtain ⟨W4, hW4⟩ : ∃ W4, W4 = w3.alloc (.cells (rmRow y) 31) := ⟨_, rfl⟩
     rw [← hW4] at hm4 hml4 hb04 hE4 ⊢
     clear hW4 hm3 hbA hb3A hb12 hb1 hb2 hb3 hb01 hb02 hE2 hgs hks hR1 HL HLe HM1
     go_upto_region 5 with (first
        | (go_at_call 57; (with_reducible refine (HSp.out _ _ hE4).mono ?_); rintro x w5 ⟨aS, ds, cS, rfl, hES, hdd, hb5⟩; have HDD := Lib.hid hdd; clear hdd)
        | (go_at_call 52; have hm2 := HM2.out _ aS cS ds (by have := HDD.out.1; omega) hES (fun x hx => HSL.out x (HDD.out.2.1 x hx)); (with_reducible refine hm2.mono ?_); rintro x w6 ⟨n, bn, t, z, rfl, hm6, hb6⟩)
        | (refine wpList_store_new 31 _ _ _ (rmRow z) rfl rfl (by kernel_rfl) rfl (by kernel_rfl) ?_))
     have hdl : ds.length = ls.length := HDD.out.1
     have hgt : SGood t 30 := (hm6.sg25 (fun x hx => HSL.out x (HDD.out.2.1 x hx))).mono (by omega)
     have hkt : t.K.length ≤ 30 := by have := hm6.len; rw [evsOf_length] at this; omega
     have hfl : z.rm = y.rm := by
        obtain ⟨_, _, pp, hpp, hde⟩ := HDD.out
        rw [hm6.fold25, HG1.out.2.2.2, hde]
        exact fold_split pp hpp (evsOf ls) RInv.empty (by rw [evsOf_length]; show 0 + _ ≤ _; omega)
     have hrt : Rel t y.rm := by rw [← hfl]; exact hm6.rel
     have hbA := (Below.refl w6.heap.size w6).alloc (Nat.le_refl _) (.cells (rmRow z) 31)
     have hb56 := (hb5.trans (hb6.mono hb5.size)).trans (hbA.mono (Nat.le_trans hb5.size hb6.size))
     have hC : CwIn W0 (w6.alloc (.cells (rmRow z) 31)) m b s n bn t W4.heap.size := ⟨hm4.kept_w hb56, hm6.map.kept_w hbA, hml4, fun k hk => Nat.le_trans hb5.size (hm6.low k hk), ⟨hb04.size, hb56.size⟩, hb04.trans (hb56.mono hb04.size)⟩
     have HG2 := Lib.hid (And.intro hgt (And.intro hkt hrt))
     clear hm4 hm6 hbA hb56 hb5 hb6 hml4 hb04 hE4 hES hdl hfl hrt HDD HSp HM2
     generalize w6.alloc (.cells (rmRow z) 31) = W6 at *
     generalize W4.heap.size = lo at *
     have HC := Lib.hid (fun (X : World) (h : MpIn X n bn t) => callCtx X h hgt.inv (by have := hgt.ctx; omega))
     have HDo := Lib.hid (fun (X : World) (aC : Option Addr) (cC : Nat) (h : MpIn X n bn t) (hd : DotsIn X aC t.ctx) => cDo_any aC cC t.ctx X h hgt (by decide) hd (hgt.inv.marks (by have := hgt.ctx; omega)) (coversM_self9 hgt.inv.ctx))
     have hnp := hC.np
     clear hgt hkt
     go_upto_region 6 with (first
        | (go_at_call 32; (with_reducible refine (HC.out _ hnp).mono ?_); rintro x w7 ⟨aC, cC, rfl, hdC, hb7⟩; have hC7 := hC.kept hb7; have hnp7 := hC7.np)
        | (go_at_call 29; (with_reducible refine (HDo.out _ _ _ hnp7 hdC).mono ?_); rintro x w8 ⟨t2, rfl, hm8, hg8, hA8, hr8, hf8⟩))
     have hC8 := hC7.op hm8 hf8 (fun k hk => by rw [hA8] at hk; exact Or.inl hk)
     have hk8 : t2.K.length ≤ 30 := Nat.le_trans (cp_len HG2.out.1 hg8 hr8) HG2.out.2.1
     have hv8 : viewB s = viewB t2 := view_cp HG1.out.1 HG2.out.1 hg8 HG1.out.2.2.1 HG2.out.2.2 hr8
     have HS0 := cSame_any w8 hC8.mp hC8.np (HG1.out.1.mono (by decide)) (by have := HG1.out.2.1; omega) (hg8.mono (by decide)) (by omega)
     rw [decide_eq_true hv8] at HS0
     have HS := Lib.hid HS0
     have HG8 := Lib.hid (And.intro hg8 (And.intro hk8 hv8))
     clear hC hC7 hnp hnp7 hdC hb7 hm8 hA8 hr8 hf8 HC HDo HS0 hg8 hk8 hv8
     go_upto_region 8 with (go_at_call 58; (with_reducible refine HS.out.mono ?_); rintro x w9 ⟨rfl, hb9⟩)
     have hC9 := hC8.kept hb9
     have hR9 := rangeAt_kept hR0 hC9.below
     have hd9 := (hdots.kept hb0).kept hC9.below
     have hn0 : ae = none → e.over = [] := fun hn => by rcases hd9 with h | ⟨A, off, h3, _⟩; exact h; rw [hn] at h3; cases h3
     have HAp := Lib.hid (mApply_any e ae ce w9 hC9.np HG8.out.1.inv HSE.out hd9 hn0 (by have := HG8.out.1.ctx; omega) (by have := HG8.out.1.dead; omega))
     clear hC8 hb9 hd9 hn0 HS
     go_upto_region 9 with (first
        | ((with_reducible refine wpList_load_ev _ w.heap.size e ae ce hR9 ?_ rfl ?_); exact rfl)
        | (go_at_call 17; (with_reducible refine HAp.out.mono ?_); rintro x w10 ⟨t3, rfl, hm10, hf10, hA10, hap⟩))
     have hC10 := hC9.op hm10 hf10 hA10
     have hg10 : SGood t3 60 := (HG8.out.1.ap HSE.out hap).mono (by decide)
     have hk10 : t3.K.length ≤ 60 := by have := ap_len hap; have := HG8.out.2.1; omega
     have hv10 := view_ap HG1.out.1.inv HG8.out.1.inv hg10.inv HG8.out.2.2 hap
     have HS0 := cSame_any w10 hC10.mp hC10.np (HG1.out.1.mono (by decide)) (by have := HG1.out.2.1; omega) hg10 hk10
     rw [hv10] at HS0
     have HS := Lib.hid HS0
     have HSN := Lib.hid (fun (X : World) (h : MpIn X n bn t3) => cSameNil_any X h hg10 hk10)
     have hbF : Below w.heap.size w w10 := below2 hb0 hC10.below
     have hn10 := hC10.np
     clear hC9 hR9 hm10 hf10 hA10 hap hg10 hk10 hv10 HS0 hC10 HAp
     generalize apErr t2 e = er at *
     generalize apOk t2 e = ok at *
     have HBF := Lib.hid hbF
     clear hbF
     cases ok
     case false =>
        go_wp2_with (first
         | (go_at_call 58; (with_reducible refine HS.out.mono ?_); rintro x w11 ⟨rfl, hb11⟩; have hn11 := hn10.kept_w hb11)
         | (go_at_call 58; (with_reducible refine (HSN.out _ hn11).mono ?_); rintro x w12 ⟨rfl, hb12⟩)
         | (go_at_call 51; (with_reducible refine (HA.out _).mono ?_); rintro x w13 ⟨rfl, hb13⟩))
        go_ret
        exact ⟨rfl, ((HBF.out.trans (hb11.mono HBF.out.size)).trans (hb12.mono (Nat.le_trans HBF.out.size hb11.size))).trans (hb13.mono (Nat.le_trans (Nat.le_trans HBF.out.size hb11.size) hb12.size))⟩
     case true =>
        go_wp2_with (first
         | (go_at_call 58; (with_reducible refine HS.out.mono ?_); rintro x w11 ⟨rfl, hb11⟩; have hn11 := hn10.kept_w hb11)
         | (go_at_call 58; (with_reducible refine (HSN.out _ hn11).mono ?_); rintro x w12 ⟨rfl, hb12⟩)
         | (go_at_call 51; (with_reducible refine (HA.out _).mono ?_); rintro x w13 ⟨rfl, hb13⟩))
        go_ret
        exact ⟨rfl, ((HBF.out.trans (hb11.mono HBF.out.size)).trans (hb12.mono (Nat.le_trans HBF.out.size hb11.size))).trans (hb13.mono (Nat.le_trans (Nat.le_trans HBF.out.size hb11.size) hb12.size))⟩
end Go.Proofs.YtpbobhfnglikmaaGreat
