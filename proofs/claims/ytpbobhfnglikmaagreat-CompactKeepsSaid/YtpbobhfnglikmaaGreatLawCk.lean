/- The law CompactKeeps, walked. Conditions: none. -/
import Derived.Test.YtpbobhfnglikmaaGreatLawCa
set_option linter.unusedSimpArgs false
set_option linter.unusedVariables false
set_option linter.unnecessarySimpa false
set_option maxHeartbeats 16000000
set_option maxRecDepth 100000
namespace Go.Proofs.YtpbobhfnglikmaaGreat
open Go.RowKit
/-- what the law asks of a compacted map and of the reference's that was not -/
structure KpEnd (m : Nat) (b : MB) (s : MS) (y : RMIt) : Prop where
 ctx : ∀ X : World, MpIn X m b s → Calls Tryz.prog 32 #[.pointer (some ⟨m, 0, none⟩)] X fun e w' => ∃ a c, e = .returned (.slice a s.ctx.length c) ∧ DotsIn w' a s.ctx ∧ Below X.heap.size X w'
 sameM : ∀ (X : World) (a : Option Addr) (c : Nat), DotsIn X a s.ctx → RMIn X y → Calls Tryz.prog 31 #[.slice a s.ctx.length c, .slice y.ac y.ctx.length y.cc] X fun e w' => e = .returned (.bool true) ∧ Below X.heap.size X w'
 alive : ∀ X : World, MpIn X m b s → Calls Tryz.prog 35 #[.pointer (some ⟨m, 0, none⟩)] X fun e w' => ∃ a d c, e = .returned (.slice a d.length c) ∧ EvsIn w' a d ∧ (evsOf d = aliveOf s ∧ d.length ≤ 4096) ∧ Below X.heap.size X w'
 ralive : ∀ X : World, RMIn X y → Calls Tryz.prog 36 #[rmVal y] X fun e w' => ∃ a d c, e = .returned (.slice a d.length c) ∧ EvsIn w' a d ∧ (evsOf d = aliveR y.rm ∧ d.length ≤ 4096) ∧ Below X.heap.size X w'
 bare : ∀ (X : World) (a : Option Addr) (d : List EvIt) (c : Nat), EvsIn X a d → d.length ≤ 4096 → Calls Tryz.prog 34 #[.slice a d.length c] X fun e w' => ∃ a' c', e = .returned (.slice a' d.length c') ∧ EvsIn w' a' (d.map bareIt) ∧ Below X.heap.size X w'
 all : ∀ (X : World) (a1 a2 : Option Addr) (c1 c2 : Nat) (d1 d2 : List EvIt), EvsIn X a1 (d1.map bareIt) → EvsIn X a2 (d2.map bareIt) → (evsOf d1 = aliveOf s ∧ d1.length ≤ 4096) → (evsOf d2 = aliveR y.rm ∧ d2.length ≤ 4096) → Calls Tryz.prog 33 #[.slice a1 d1.length c1, .slice a2 d2.length c2] X fun e w' => e = .returned (.bool true) ∧ Below X.heap.size X w'
theorem kpEnd {m : Nat} {b : MB} {s : MS} {y : RMIt} {n : Nat} (hg : SGood s n) (hn : n ≤ 1000) (hctx : y.ctx = s.ctx) (hK : y.K.length ≤ 4096) (hdl : y.dead.length ≤ 1048576) (hal : (aliveR y.rm).map bareEv = (aliveOf s).map bareEv) : KpEnd m b s y := by
 have haL : (aliveOf s).length ≤ 4096 := by
  rw [← aliveR_eq hg.inv hg.rel]
  refine Nat.le_trans (List.length_filter_le _ _) ?_
  show (eventsOf s).length ≤ 4096
  rw [eventsOf_len hg.nd]
  exact Nat.le_trans hg.inv.len (by decide)
 refine ⟨fun X h => callCtx X h hg.inv (by have := hg.ctx; omega), fun X a c h hI => ?_, fun X h => ?_, fun X h => ?_, fun X a d c h hd => ?_, fun X a1 a2 c1 c2 d1 d2 h1 h2 e1 e2 => ?_⟩
 ·have h1 := rSameMarks_any a y.ac c y.cc s.ctx y.ctx X (by have := hg.ctx; omega) (by rw [hctx]; have := hg.ctx; omega) h hI.ctx
  rw [decide_eq_true hctx.symm] at h1
  exact h1
 ·refine (mAlive_any X h hg.inv hg.inv.dots hg.inv.overs).mono ?_
  rintro e w' ⟨a, d, c, rfl, h1, ⟨h2, _⟩, h3⟩
  exact ⟨a, d, c, rfl, h1, ⟨h2, by rw [← evsOf_length, h2]; exact haL⟩, h3⟩
 ·refine (rAlive21_any y X hK hdl h).mono ?_
  rintro e w' ⟨a, c, rfl, h1, _, h3⟩
  exact ⟨a, _, c, rfl, h1, ⟨evsOf_filter (fun e : Ev => decide (e.kind = 1) && !decide (e.dot ∈ y.dead)) y.K, Nat.le_trans (List.length_filter_le _ _) hK⟩, h3⟩
 ·refine (rBare23_any a c d X hd h).mono ?_
  rintro e w' ⟨a', c', rfl, h1, h2⟩
  exact ⟨a', c', by rw [List.length_map], h1, h2⟩
 ·have key : ∀ d : List EvIt, (∀ x ∈ d, ∃ z ∈ aliveOf s, bareEv z = bareEv x.1) → EvsSmall (d.map bareIt) := fun d hd x hx => by
   obtain ⟨q, hq, rfl⟩ := List.mem_map.1 hx
   obtain ⟨z, hz, ez⟩ := hd q hq
   obtain ⟨⟨v, hv, e9⟩, _⟩ := (aliveOf_mem hg.inv hg.nd).1 hz
   have h9 := small_bare (hg.small v hv)
   rw [show (bareIt v).1 = bareEv v.1 from rfl, e9, ez] at h9
   exact h9
  have hs1 : EvsSmall (d1.map bareIt) := key d1 fun x hx => ⟨x.1, by rw [← e1.1]; exact List.mem_map_of_mem hx, rfl⟩
  have hs2 : EvsSmall (d2.map bareIt) := key d2 fun x hx => by
   have h9 : bareEv x.1 ∈ (aliveOf s).map bareEv := by rw [← hal, ← e2.1]; exact List.mem_map_of_mem (List.mem_map_of_mem hx)
   obtain ⟨z, hz, ez⟩ := List.mem_map.1 h9
   exact ⟨z, hz, ez⟩
  have h3 := rSameEvs_any a1 a2 c1 c2 (d1.map bareIt) (d2.map bareIt) X (by rw [List.length_map]; omega) (by rw [List.length_map]; omega) hs1 hs2 h1 h2
  rw [decide_eq_true (by rw [evsOf_bare, evsOf_bare, e1.1, e2.1, hal]), List.length_map, List.length_map] at h3
  exact h3
theorem cpDo_len {r : RM} (h : RMInv r) (v : List Dot) : (cpDo v r).kept.length ≤ r.kept.length := by
 rw [cpDo_is h.kind h.srt.nd]
 exact List.length_filterMap_le _ _
/-- what holds of both behind j more events -/
structure KpAt (s : MS) (y : RMIt) (c : RM) (n : Nat) : Prop where
 good : SGood s n
 rel : Rel s c
 ck : CK c y.rm
 rm : RMGood y.rm n
 len : s.K.length ≤ n
theorem KpAt.end {m : Nat} {b : MB} {s : MS} {y : RMIt} {c : RM} {n : Nat} (h : KpAt s y c n) (hn : n ≤ 1000) : KpEnd m b s y := by
 have h1 := h.rm.kept
 rw [show y.rm.kept = evsOf y.K from rfl, evsOf_length] at h1
 have h2 : y.dead.length ≤ 64 * n := h.rm.dead
 refine kpEnd h.good hn ?_ (by omega) (by omega) ?_
 ·have h3 := h.ck.ctx
  have h4 := h.rel.ctx
  exact h3.symm.trans h4
 ·rw [← h.ck.alive, aliveR_eq h.good.inv h.rel]
theorem KpAt.ap {s s' : MS} {y z : RMIt} {c : RM} {n : Nat} {e : Ev} (h : KpAt s y c n) (hn : n ≤ 1000) (hs : EvSmall e) (ha : if apOk s e = true then Applied s e s' else s' = s) (hz : z.rm = rmAp y.rm e) : KpAt s' z (rmAp c e) (n + 1) := by
 have hc : c.kept.length = s.K.length := by rw [h.rel.kept, eventsOf_len h.good.nd]
 have h1 := h.len
 have h2 := h.rm.kept
 refine ⟨h.good.ap hs ha, h.rel.any h.good.inv ha, by rw [hz]; exact h.ck.ap (by omega) (by omega) e, by rw [hz]; exact h.rm.ap e, ?_⟩
 split at ha
 ·obtain ⟨a, c', hk⟩ := ha.kept
  rw [hk.length_eq, List.length_cons]
  omega
 ·subst ha
  omega
theorem KpAt.okErr {s : MS} {y : RMIt} {c : RM} {n : Nat} (h : KpAt s y c n) (hn : n ≤ 1000) (e : Ev) : rmOk y.rm e = apOk s e ∧ rmErr y.rm e = apErr s e := by
 have hc : c.kept.length = s.K.length := by rw [h.rel.kept, eventsOf_len h.good.nd]
 have h1 := h.len
 have h2 := h.rm.kept
 obtain ⟨q1, q2⟩ := h.ck.okErr (by omega) (by omega) e
 exact ⟨by rw [← q1]; exact h.rel.ok e, by rw [← q2]; exact h.rel.err e⟩
theorem lawCk_any (a ab am : Option Addr) (ca cb cm : Nat) (ls : List EvIt) (cut : Bytes) (os : List EvIt) (w : World) (hE : EvsArg w a ls) (hB : BytesIn w ab cut) (hbl : cut.length ≤ maxLen) (hO : EvsArg w am os) :
 Calls Tryz.prog 4 #[.slice a ls.length ca, .slice ab cut.length cb, .slice am os.length cm] w fun x w' => x = .returned (.bool true) ∧ Below w.heap.size w w' := by
 have HL0 : ∀ X, EvsIn X a ls → Calls Tryz.prog 26 #[.slice a ls.length ca, .int .i64 30] X fun x w' => x = .returned (.bool (lightAll 30 (evsOf ls))) ∧ Below X.heap.size X w' := fun X h => LightAll_any a ca 30 ls X (by decide) hE.len h (fun x hx => ⟨(hE.each x hx).over, (hE.each x hx).name, (hE.each x hx).domain, (hE.each x hx).path, (hE.each x hx).value⟩)
 have HO0 : ∀ X, EvsIn X am os → Calls Tryz.prog 26 #[.slice am os.length cm, .int .i64 30] X fun x w' => x = .returned (.bool (lightAll 30 (evsOf os))) ∧ Below X.heap.size X w' := fun X h => LightAll_any am cm 30 os X (by decide) hO.len h (fun x hx => ⟨(hO.each x hx).over, (hO.each x hx).name, (hO.each x hx).domain, (hO.each x hx).path, (hO.each x hx).value⟩)
 have HA := Lib.hid awake23_any
 have hEi := hE.evs
 have hOi := hO.evs
 clear hE hO
 cases hli : lightAll 30 (evsOf ls) with
 | false =>
   rw [hli] at HL0
   have HL := Lib.hid (HL0 w hEi)
   clear HL0 HO0 hli
   go_enter Tryz.func4, Tryz.ntmps4
   go_wp2_with (first
    | (go_at_call 26; (with_reducible refine HL.out.mono ?_); rintro x w1 ⟨rfl, hb1⟩)
    | (go_at_call 27; (with_reducible refine (HA.out _).mono ?_); rintro x w2 ⟨rfl, hb2⟩))
   go_ret
   exact ⟨rfl, hb1.trans (hb2.mono hb1.size)⟩
 | true =>
   obtain ⟨hls, hsl⟩ := light_evs hli
   rw [hli] at HL0
   have HL := Lib.hid (HL0 w hEi)
   clear HL0 hli
   cases hlo : lightAll 30 (evsOf os) with
   | false =>
     rw [hlo] at HO0
     have HO := Lib.hid HO0
     clear HO0 hlo
     go_enter Tryz.func4, Tryz.ntmps4
     go_wp2_with (first
        | (go_at_call 26; (with_reducible refine HL.out.mono ?_); rintro x w1 ⟨rfl, hb1⟩; have hO1 := hOi.kept hb1)
        | (go_at_call 26; (with_reducible refine (HO.out _ hO1).mono ?_); rintro x w2 ⟨rfl, hb2⟩)
        | (go_at_call 27; (with_reducible refine (HA.out _).mono ?_); rintro x w3 ⟨rfl, hb3⟩))
     go_ret
     exact ⟨rfl, (hb1.trans (hb2.mono hb1.size)).trans (hb3.mono (Nat.le_trans hb1.size hb2.size))⟩
   | true =>
     obtain ⟨hlo2, hso⟩ := light_evs hlo
     rw [hlo] at HO0
     have HO := Lib.hid HO0
     clear HO0 hlo
     have HM1 := Lib.hid (fun (X : World) (h : EvsIn X a ls) => made23_any a ca ls X (by omega) h hsl)
     go_enter Tryz.func4, Tryz.ntmps4
     go_upto_region 4 with (first
        | (go_at_call 26; (with_reducible refine HL.out.mono ?_); rintro x w1 ⟨rfl, hb1⟩; have hO1 := hOi.kept hb1)
        | (go_at_call 26; (with_reducible refine (HO.out _ hO1).mono ?_); rintro x w2 ⟨rfl, hb2⟩; have hb12 := hb1.trans (hb2.mono hb1.size); have hE2 := hEi.kept hb12)
        | (go_at_call 28; (with_reducible refine (HM1.out _ hE2).mono ?_); rintro x w3 ⟨m, b, s, y, rfl, hm3, hb3⟩)
        | (refine wpList_store_new 31 _ _ _ (rmRow y) rfl rfl (by kernel_rfl) rfl (by kernel_rfl) ?_))
     have hH0 := hm3.hd hb12.size (hb12.trans (hb3.mono hb12.size))
     have HG := Lib.hid (And.intro (hm3.sgood hsl) hm3.rel)
     have HRG : Hid (RMGood y.rm ls.length) := by have := hm3.good; rwa [evsOf_length] at this
     have HKL : Hid (s.K.length ≤ ls.length) := by have := hm3.len; rwa [evsOf_length] at this
     obtain ⟨W, hWe⟩ : ∃ W, W = w3.alloc (.cells (rmRow y) 31) := ⟨_, rfl⟩
     rw [← hWe] at hH0 ⊢
     clear hWe hb1 hb2 hb12 hb3 hE2 hO1 hEi hm3 HL HO HM1 hsl
     generalize w3.heap.size = B8 at *
     have hBw := hB.kept hH0.below
     have hctx : y.ctx = s.ctx := HG.out.2.ctx
     have hcl : s.ctx.length ≤ 30 := by have := HG.out.1.ctx; omega
     have HLo := Lib.hid (fun (X : World) (h1 : DotsIn X y.ac y.ctx) (h2 : BytesIn X ab cut) => lowM_any y.ac ab y.cc cb y.ctx cut X (by rw [hctx]; omega) h1 (by rw [hctx]; exact HG.out.1.inv.ctxOk) hbl h2)
     obtain ⟨hl1, hl2⟩ := low_ok HG.out.1.inv.ctx HG.out.1.inv.ctxOk (by omega) cut
     rw [← hctx] at hl1
     have hl3 : coversM s.ctx (lowFrom cut 0 y.ctx) = true := by rw [hctx]; exact hl2
     have HDo := Lib.hid (fun (X : World) (aD : Option Addr) (cD : Nat) (h1 : MpIn X m b s) (h : DotsIn X aD (lowFrom cut 0 y.ctx)) => cDo_any aD cD (lowFrom cut 0 y.ctx) X h1 HG.out.1 (by omega) h hl1 hl3)
     have hrc := hH0.ref.ctx
     obtain ⟨c0, c1, c2⟩ := hH0.row.cells
     clear hctx hl1 hl2 hl3 hB hbl
     generalize lowFrom cut 0 y.ctx = lo at *
     go_upto_region 5 with (first
        | (go_at_call 30; (with_reducible refine (HLo.out _ hrc hBw).mono ?_); rintro x w4 ⟨aD, cD, rfl, hdL, hb4⟩; have hH4 := hH0.kept hb4)
        | (go_at_call 29; (with_reducible refine (HDo.out _ aD cD hH4.map hdL).mono ?_); rintro x w5 ⟨s2, rfl, hm5, hg5, hA5, hr5, hf5⟩))
     have hH5 := hH4.op hm5 hf5 (fun _ h => h) (fun k hk => by rw [hA5] at hk; exact Or.inl hk)
     have hrm : y.rm = s.rm := HG.out.2.uniq HG.out.1.rel
     have HKp : Hid (KpAt s2 y (cpDo lo s.rm) ls.length) := by
        refine ⟨hg5, hr5, by rw [hrm]; exact CK.of HG.out.1.rinv lo, HRG.out, ?_⟩
        have h1 := cpDo_len HG.out.1.rinv lo
        have h2 : (cpDo lo s.rm).kept.length = s2.K.length := by rw [hr5.kept, eventsOf_len hg5.nd]
        have h4 : s2.K.length ≤ (eventsOf s).length := by rw [← h2]; exact h1
        rw [eventsOf_len HG.out.1.nd] at h4
        exact Nat.le_trans h4 HKL.out
     have HEn := Lib.hid (HKp.out.end (m := m) (b := b) (by omega))
     clear hH4 hdL hb4 hH0 hrc hBw c0 c1 c2 hm5 hg5 hA5 hr5 hf5 hrm HLo HDo
     refine wp_name (fun V hV => ?_)
     have hbV : Below w5.heap.size w5 V.drew := by rw [hV.out]; exact (Below.refl _ _).drew
     have vH := hH5.kept hbV
     obtain ⟨vC0, vC1, vC2⟩ := vH.row.cells
     clear hV hbV hH5
     refine wp_region_noPanic ?_
     refine wp_region_held_drew (S := fun W' => Below V.drew.heap.size V.drew W') (by kernel_rfl) (Below.refl _ _) (fun hHeld => ?_)
     refine tH (v := ?_) 0 40 rfl (Or.inl ⟨by rfl, ?_⟩) ?_
     case refine_2 => (intro w hSw; have sC0 := kept hSw vC0; have sC1 := kept hSw vC1; have sC2 := kept hSw vC2; go_simp; try with_reducible rfl)
     try simp only [pS]
     refine tH (v := ?_) 1 41 rfl (Or.inl ⟨by rfl, ?_⟩) ?_
     case refine_2 => (intro w hSw; have sC0 := kept hSw vC0; have sC1 := kept hSw vC1; have sC2 := kept hSw vC2; go_simp; try with_reducible rfl)
     try simp only [pS]
     refine tH (v := ?_) 2 42 rfl (Or.inl ⟨by rfl, ?_⟩) ?_
     case refine_2 => (intro w hSw; have sC0 := kept hSw vC0; have sC1 := kept hSw vC1; have sC2 := kept hSw vC2; go_simp; try with_reducible rfl)
     try simp only [pS]
     refine tH (v := ?_) 3 43 rfl (Or.inl ⟨by rfl, ?_⟩) ?_
     case refine_2 => (intro w hSw; have sC0 := kept hSw vC0; have sC1 := kept hSw vC1; have sC2 := kept hSw vC2; go_simp; try with_reducible rfl)
     try simp only [pS]
     refine tH (v := ?_) 5 45 rfl (Or.inl ⟨by rfl, ?_⟩) ?_
     case refine_2 => (intro w hSw; have sC0 := kept hSw vC0; have sC1 := kept hSw vC1; have sC2 := kept hSw vC2; go_simp; try with_reducible rfl)
     try simp only [pS]
     refine tH (v := ?_) 6 46 rfl (Or.inl ⟨by rfl, ?_⟩) ?_
     case refine_2 => (intro w hSw; have sC0 := kept hSw vC0; have sC1 := kept hSw vC1; have sC2 := kept hSw vC2; go_simp; try with_reducible rfl)
     try simp only [pS]
     refine rH 4 44 rfl fun K hK => ?_
     go_simp
     go_at_call 32
     (with_reducible refine (HEn.out.ctx _ (vH.map.kept_w hHeld)).mono ?_)
     rintro v x1 ⟨a1, c1, rfl, hd1, hb1⟩
     go_simp
     have hNext := hHeld.trans (hb1.mono hHeld.size)
     refine hK.out _ _ hNext (fun hHeld2 => ?_)
     clear hK K hHeld
     have hHeld := hNext
     clear hHeld2 hNext
     try simp only [pS]
     refine rH 7 47 rfl fun K hK => ?_
     go_simp
     go_at_call 31
     (with_reducible refine (HEn.out.sameM _ a1 c1 hd1 (vH.ref.keep hHeld)).mono ?_)
     rintro v x2 ⟨rfl, hb2⟩
     go_simp
     have hNext := hHeld.trans (hb2.mono hHeld.size)
     refine hK.out _ _ hNext (fun hHeld2 => ?_)
     clear hK K hHeld
     have hHeld := hNext
     clear hHeld2 hNext
     try simp only [pS]
     clear hd1 hb1 hb2
     refine tH (v := ?_) 8 48 rfl (Or.inl ⟨by rfl, ?_⟩) ?_
     case refine_2 => (intro w hSw; have sC0 := kept hSw vC0; have sC1 := kept hSw vC1; have sC2 := kept hSw vC2; go_simp; try with_reducible rfl)
     try simp only [pS]
     refine tH (v := ?_) 9 49 rfl (Or.inl ⟨by rfl, ?_⟩) ?_
     case refine_2 => (intro w hSw; have sC0 := kept hSw vC0; have sC1 := kept hSw vC1; have sC2 := kept hSw vC2; go_simp; try with_reducible rfl)
     try simp only [pS]
     refine tH (v := ?_) 10 50 rfl (Or.inl ⟨by rfl, ?_⟩) ?_
     case refine_2 => (intro w hSw; have sC0 := kept hSw vC0; have sC1 := kept hSw vC1; have sC2 := kept hSw vC2; go_simp; try with_reducible rfl)
     try simp only [pS]
     refine tH (v := ?_) 11 51 rfl (Or.inl ⟨by rfl, ?_⟩) ?_
     case refine_2 => (intro w hSw; have sC0 := kept hSw vC0; have sC1 := kept hSw vC1; have sC2 := kept hSw vC2; go_simp; try with_reducible rfl)
     try simp only [pS]
     refine tH 14 54 rfl (yieldsIf_load_mid (by rfl) 31 _ rfl B8 0 rfl (rmCells y) _ (fun X h => rangeAt_kept (vH.row.range) h) Tryz.underlying31 rfl (by kernel_rfl)) ?_
     try simp only [pS]
     refine rH 12 52 rfl fun K hK => ?_
     go_simp
     go_at_call 35
     (with_reducible refine (HEn.out.alive _ (vH.map.kept_w hHeld)).mono ?_)
     rintro v x1 ⟨a3, d3, c3, rfl, hE3, hv3, hb1⟩
     go_simp
     have hNext := hHeld.trans (hb1.mono hHeld.size)
     refine hK.out _ _ hNext (fun hHeld2 => ?_)
     clear hK K hHeld
     have hHeld := hNext
     clear hHeld2 hNext
     try simp only [pS]
     have HV3 := Lib.hid hv3
     clear hv3
     refine rH 13 53 rfl fun K hK => ?_
     go_simp
     go_at_call 34
     (with_reducible refine (HEn.out.bare _ a3 d3 c3 hE3 HV3.out.2).mono ?_)
     rintro v x2 ⟨a4, c4, rfl, hE4, hb2⟩
     go_simp
     have hNext := hHeld.trans (hb2.mono hHeld.size)
     refine hK.out _ _ hNext (fun hHeld2 => ?_)
     clear hK K hHeld
     have hHeld := hNext
     clear hHeld2 hNext
     try simp only [pS]
     clear hE3 hb1
     refine rH 15 55 rfl fun K hK => ?_
     go_simp
     go_at_call 36
     (with_reducible refine (HEn.out.ralive _ (vH.ref.keep hHeld)).mono ?_)
     rintro v x3 ⟨a5, d5, c5, rfl, hE5, hv5, hb3⟩
     go_simp
     have hNext := hHeld.trans (hb3.mono hHeld.size)
     refine hK.out _ _ hNext (fun hHeld2 => ?_)
     clear hK K hHeld
     have hHeld := hNext
     clear hHeld2 hNext
     try simp only [pS]
     have HV5 := Lib.hid hv5
     clear hv5
     refine rH 16 56 rfl fun K hK => ?_
     go_simp
     go_at_call 34
     (with_reducible refine (HEn.out.bare _ a5 d5 c5 hE5 HV5.out.2).mono ?_)
     rintro v x4 ⟨a6, c6, rfl, hE6, hb4⟩
     go_simp
     have hNext := hHeld.trans (hb4.mono hHeld.size)
     refine hK.out _ _ hNext (fun hHeld2 => ?_)
     clear hK K hHeld
     have hHeld := hNext
     clear hHeld2 hNext
     try simp only [pS]
     clear hE5
     refine rH 17 57 rfl fun K hK => ?_
     go_simp
     go_at_call 33
     (with_reducible refine (HEn.out.all _ a4 a6 c4 c6 d3 d5 ((hE4.kept hb3).kept hb4) hE6 HV3.out HV5.out).mono ?_)
     rintro v x5 ⟨rfl, hb5⟩
     go_simp
     have hNext := hHeld.trans (hb5.mono hHeld.size)
     refine hK.out _ _ hNext (fun hHeld2 => ?_)
     clear hK K hHeld
     have hHeld := hNext
     clear hHeld2 hNext
     try simp only [pS]
     clear hE4 hE6 hb2 hb3 hb4 hb5
     refine tH (v := ?_) 18 58 rfl (Or.inl ⟨by rfl, ?_⟩) ?_
     case refine_2 => (intro w hSw; have sC0 := kept hSw vC0; have sC1 := kept hSw vC1; have sC2 := kept hSw vC2; go_simp; try with_reducible rfl)
     try simp only [pS]
     refine tH (v := ?_) 19 59 rfl (Or.inl ⟨by rfl, ?_⟩) ?_
     case refine_2 => (intro w hSw; have sC0 := kept hSw vC0; have sC1 := kept hSw vC1; have sC2 := kept hSw vC2; go_simp; try with_reducible rfl)
     try simp only [pS]
     refine wpAnyH_done (by kernel_rfl) ?_ _
     refine NoPanic.normal ?_
     have HQ := Lib.hid (vH.kept hHeld)
     clear hHeld vH vC0 vC1 vC2
     have hOq := hOi.kept HQ.out.below
     have HSO := Lib.hid hso
     clear hOi hso
     go_wp2
     go_loopw [11] (fun i wr => ∃ (j : Nat) (s1 : MS) (z : RMIt) (c : RM), i = .int .i64 j ∧ j ≤ os.length ∧ Hd w B8 wr m b s1 z ∧ KpAt s1 z c (ls.length + j) ∧ EvsIn wr am os) (fun i _ => os.length - (intOf i).toNat)
     case atStart => exact ⟨0, s2, y, _, rfl, Nat.zero_le _, HQ.out, HKp.out, hOq⟩
     case round =>
        obtain ⟨j, s1, z, c, rfl, hj, hH, hKp, hOr⟩ := hrel
        have HK1 := Lib.hid hKp
        clear hKp
        by_cases hlt : j < os.length
        ·obtain ⟨A, off, rfl, hra, hda⟩ := hOr.at hlt
         have r1 := hra j hlt
         have hse := HSO.out _ (List.getElem_mem hlt)
         have HLT := Lib.hid hlt
         have hjl : ls.length + j ≤ 1000 := by omega
         have HOR := Lib.hid hOr
         clear hra hOr
         generalize os[j] = x at *
         obtain ⟨e, ax, cx⟩ := x
         simp only [itEv] at r1
         simp only at hda hse
         have hn0 : ax = none → e.over = [] := fun hn => by rcases hda with h | ⟨A, off, h3, _⟩; exact h; rw [hn] at h3; cases h3
         have HOE := Lib.hid (HK1.out.okErr hjl e)
         have HAp := Lib.hid (fun (X : World) (hIn : RMIn X z) (hd : DotsIn X ax e.over) => show Calls Tryz.prog 16 #[rmVal z, .agg (evCells e ax cx).toArray] X (fun x w' => ∃ y, x = .returned (.tuple #[rmVal y, .bool (apOk s1 e), .int .i64 (apErr s1 e)]) ∧ RMIn w' y ∧ y.rm = rmAp z.rm e ∧ Below X.heap.size X w') from by
          have h9 := rApply_any z e ax cx X hIn (HK1.out.rm.size (by omega)) hse hd
          unfold RetRA at h9
          rw [HOE.out.1, HOE.out.2] at h9
          exact h9)
         have hg1 := HK1.out.good
         have hgc := hg1.ctx
         have hgd := hg1.dead
         have HMa := Lib.hid (fun (X : World) (h : MpIn X m b s1) (hd : DotsIn X ax e.over) => mApply_any e ax cx X h hg1.inv hse hd hn0 (by omega) (by omega))
         have HSE := Lib.hid hse
         obtain ⟨c0, c1, c2⟩ := hH.row.cells
         clear hn0 hse hg1 hgc hgd
         go_upto_region 10 with fail
         refine wp_name (fun V hV => ?_)
         have hbV : Below wr.heap.size wr V.drew := by rw [hV.out]; go_grown
         have vH := hH.kept hbV
         have vC0 := kept hbV c0
         have vC1 := kept hbV c1
         have vC2 := kept hbV c2
         have vR := rangeAt_kept r1 hbV
         have vd := hda.kept hbV
         have vO := HOR.out.kept hbV
         clear hV hbV hH c0 c1 c2 r1 hda HOR
         have hlo : B8 < V.drew.heap.size := lt_of_block vH.row
         refine wp_region_noPanic ?_
         refine wp_region_held_drew (S := fun W' => Below V.drew.heap.size V.drew W') (by kernel_rfl) (Below.refl _ _) (fun hHeld => ?_)
         refine tH (v := ?_) 0 67 rfl (Or.inl ⟨by rfl, ?_⟩) ?_
         case refine_2 => (intro w hSw; have sC0 := kept hSw vC0; have sC1 := kept hSw vC1; have sC2 := kept hSw vC2; go_simp; try with_reducible rfl)
         try simp only [pS]
         refine tH (v := ?_) 1 68 rfl (Or.inl ⟨by rfl, ?_⟩) ?_
         case refine_2 => (intro w hSw; have sC0 := kept hSw vC0; have sC1 := kept hSw vC1; have sC2 := kept hSw vC2; go_simp; try with_reducible rfl)
         try simp only [pS]
         refine tH (v := ?_) 2 69 rfl (Or.inl ⟨by rfl, ?_⟩) ?_
         case refine_2 => (intro w hSw; have sC0 := kept hSw vC0; have sC1 := kept hSw vC1; have sC2 := kept hSw vC2; go_simp; try with_reducible rfl)
         try simp only [pS]
         refine tH (v := ?_) 3 70 rfl (Or.inl ⟨by rfl, ?_⟩) ?_
         case refine_2 => (intro w hSw; have sC0 := kept hSw vC0; have sC1 := kept hSw vC1; have sC2 := kept hSw vC2; go_simp; try with_reducible rfl)
         try simp only [pS]
         refine tH 4 71 rfl (yieldsIf_load_mid (by rfl) 43 _ rfl A (off + j * 19) rfl (evCells e ax cx) _ (fun X h => rangeAt_kept vR h) Tryz.underlying43 rfl (by kernel_rfl)) ?_
         try simp only [pS]
         refine wpAnyH_ready (rs := [5, 10]) (by kernel_rfl) (by simp) ?_
         refine AllReadyH.cons (o := ⟨some 72, _, _, _, _, _⟩) rfl (fun K hK => ?_) (AllReadyH.cons (o := ⟨some 12, _, _, _, _, _⟩) rfl (fun K hK => ?_) AllReadyH.nil)
         ·skip
          go_simp
          go_at_call 16
          (with_reducible refine (HAp.out _ (vH.ref.keep hHeld) (vd.kept hHeld)).mono ?_)
          rintro v w5 ⟨z2, rfl, hz5, hzr, hb5⟩
          go_simp
          have hNext := hHeld.trans (hb5.mono hHeld.size)
          refine hK.out _ _ hNext (fun hHeld2 => ?_)
          clear hK K hHeld
          have hHeld := hNext
          clear hHeld2 hNext
          try simp only [pS]
          refine tH (v := ?_) 6 66 rfl (Or.inl ⟨by rfl, ?_⟩) ?_
          case refine_2 => (intro w hSw; go_simp; try with_reducible rfl)
          try simp only [pS]
          refine tH (v := ?_) 7 73 rfl (Or.inl ⟨by rfl, ?_⟩) ?_
          case refine_2 => (intro w hSw; go_simp; try with_reducible rfl)
          try simp only [pS]
          refine tH (v := ?_) 8 74 rfl (Or.inl ⟨by rfl, ?_⟩) ?_
          case refine_2 => (intro w hSw; go_simp; try with_reducible rfl)
          try simp only [pS]
          refine tH (v := ?_) 9 75 rfl (Or.inl ⟨by rfl, ?_⟩) ?_
          case refine_2 => (intro w hSw; go_simp; try with_reducible rfl)
          try simp only [pS]
          refine rH 10 12 rfl fun K hK => ?_
          have hz59 := hHeld.size
          go_simp
          have hNext := hHeld.alloc hHeld.size (.cells #[.slice none 0 0, .slice none 0 0, .slice none 0 0] 31)
          refine hK.out _ _ hNext (fun hHeld2 => ?_)
          clear hK K hHeld
          have hHeld := hNext
          clear hHeld2 hNext
          try simp only [pS]
          refine wpAnyH_ready (rs := [11]) (by kernel_rfl) (by simp) ?_
          refine AllReadyH.cons (o := ⟨none, _, _, _, _, _⟩) rfl (fun K hK => ?_) AllReadyH.nil
          have hq0 : (w5.alloc (.cells #[.slice none 0 0, .slice none 0 0, .slice none 0 0] 31)).heap[w5.heap.size]? = some (.cells #[.slice none 0 0, .slice none 0 0, .slice none 0 0] 31 (0, 0)) := heap_last0 _ _
          refine step_store_row (by rfl) 31 _ _ rfl (w5.heap.size) #[.slice z2.ac z2.ctx.length z2.cc, .slice z2.aK z2.K.length z2.cK, .slice z2.ad z2.dead.length z2.cd] rfl rfl 31 _ hq0 (by kernel_rfl) rfl (by kernel_rfl) ?_
          have hNext : Below V.drew.heap.size V.drew ((w5.alloc (.cells #[.slice none 0 0, .slice none 0 0, .slice none 0 0] 31)).setRow (w5.heap.size) #[.slice z2.ac z2.ctx.length z2.cc, .slice z2.aK z2.K.length z2.cK, .slice z2.ad z2.dead.length z2.cd]) := below_setRow hHeld (by omega : V.drew.heap.size ≤ w5.heap.size) #[.slice z2.ac z2.ctx.length z2.cc, .slice z2.aK z2.K.length z2.cK, .slice z2.ad z2.dead.length z2.cd]
          refine hK.out _ _ hNext (fun hHeld2 => ?_)
          clear hK K hHeld
          have hHeld := hNext
          clear hHeld2 hNext
          try simp only [pS]
          refine tH (v := ?_) 12 13 rfl (Or.inl ⟨by rfl, ?_⟩) ?_
          case refine_2 => (intro w hSw; go_simp; try with_reducible rfl)
          try simp only [pS]
          refine tH (v := ?_) 13 14 rfl (Or.inl ⟨by rfl, ?_⟩) ?_
          case refine_2 => (intro w hSw; go_simp; try with_reducible rfl)
          try simp only [pS]
          refine wpAnyH_done (by kernel_rfl) ?_ _
          refine NoPanic.normal ?_
          obtain ⟨X, hX⟩ : ∃ X, X = (w5.alloc (.cells #[.slice none 0 0, .slice none 0 0, .slice none 0 0] 31)).setRow (w5.heap.size) #[.slice z2.ac z2.ctx.length z2.cc, .slice z2.aK z2.K.length z2.cK, .slice z2.ad z2.dead.length z2.cd] := ⟨_, rfl⟩
          rw [← hX] at hHeld ⊢
          have hqX : RMAt X (w5.heap.size) z2 := by rw [hX]; exact setRow_heap _ _ _ _ _ _ hq0
          have hzX : RMIn X z2 := by
           rw [hX]
           exact RMIn.not3 (R := w5.heap.size) (hz5.keep ((Below.refl _ _).alloc (Nat.le_refl _) _)) ⟨_, _, _, _, _, _, _, _, _, _, _, hq0⟩ (fun k9 hk9 => heap_setRow_other _ _ _ _ (fun e9 => hk9 e9.symm))
          generalize hqn : w5.heap.size = q at *
          clear hX hq0 hqn
          have hHX := vH.kept hHeld
          have hdX := vd.kept hHeld
          have hRX := rangeAt_kept vR hHeld
          have hOX := vO.kept hHeld
          clear vH vd vR vO vC0 vC1 vC2 hlo hHeld hb5 hz5
          have HQX := Lib.hid (And.intro hzX (And.intro hqX hOX))
          clear hzX hqX hOX
          go_upto_region 12 with (first
           | ((with_reducible refine wpList_load_evo _ A (off + j * 19) e ax cx hRX ?_ rfl ?_); exact rfl)
           | (go_at_call 17; (with_reducible refine (HMa.out _ hHX.map hdX).mono ?_); rintro v w6 ⟨s3, rfl, hm6, hf6, hft6, hap6⟩))
          have hk6 := hHX.keeps hf6 (fun _ h => h)
          have hH6 := hHX.op hm6 hf6 (fun _ h => h) hft6
          have hzw := HQX.out.1
          have hz6 : RMIn w6 z2 := ⟨hk6.dots hzw.ctx, hk6.evs hzw.kept, hk6.dots hzw.dead, hzw.cc, hzw.cK, hzw.cd⟩
          have hq6 : RMAt w6 q z2 := hk6 _ _ _ _ HQX.out.2.1
          have HO6 := Lib.hid (hk6.evs HQX.out.2.2)
          obtain ⟨d0, d1, d2⟩ := hq6.cells
          have hx3 := hH6.row
          have HS6 := Lib.hid (And.intro hH6 hz6)
          have HKN := Lib.hid (HK1.out.ap (z := z2) hjl HSE.out hap6 hzr)
          have hxk : (apOk s1 e != apOk s1 e) = false := bne_self_eq_false _
          have hxe : (apErr s1 e != apErr s1 e) = false := bne_self_eq_false _
          generalize apOk s1 e = ok at *
          generalize apErr s1 e = er at *
          clear hm6 hf6 hft6 hap6 hk6 hHX hH6 hzw hz6 hq6 hdX hRX
          unfold RMAt at hx3
          go_wp2_with (refine wpList_store_row rfl 31 _ _ rfl B8 #[.slice z2.ac z2.ctx.length z2.cc, .slice z2.aK z2.K.length z2.cK, .slice z2.ad z2.dead.length z2.cd] rfl rfl 31 _ hx3 (by kernel_rfl) rfl (by kernel_rfl) ?_)
          have HF := Lib.hid (And.intro (HS6.out.1.set HS6.out.2) (EvsIn.not3 HO6.out HS6.out.1.row.sl3 (fun k9 hk9 => heap_setRow_other w6 B8 (rmRow z2) k9 (fun e9 => hk9 e9.symm))))
          clear hx3 d0 d1 d2
          go_roundw
          case rel => exact ⟨j + 1, s3, z2, _, by go_num, HLT.out, HF.out.1, HKN.out, HF.out.2⟩
          case measure => have := HLT.out; simp [intOf] <;> omega
         ·skip
          go_simp
          have hNext := hHeld.alloc hHeld.size (.cells #[.slice none 0 0, .slice none 0 0, .slice none 0 0] 31)
          refine hK.out _ _ hNext (fun hHeld2 => ?_)
          clear hK K hHeld
          have hHeld := hNext
          clear hHeld2 hNext
          try simp only [pS]
          replace hHeld : Below V.drew.heap.size V.drew (V.alloc (.cells #[.slice none 0 0, .slice none 0 0, .slice none 0 0] 31)).drew := hHeld
          refine rH 5 72 rfl fun K hK => ?_
          go_simp
          go_at_call 16
          (with_reducible refine (HAp.out _ (vH.ref.keep hHeld) (vd.kept hHeld)).mono ?_)
          rintro v w5 ⟨z2, rfl, hz5, hzr, hb5⟩
          go_simp
          have hNext := hHeld.trans (hb5.mono hHeld.size)
          refine hK.out _ _ hNext (fun hHeld2 => ?_)
          clear hK K hHeld
          have hHeld := hNext
          clear hHeld2 hNext
          try simp only [pS]
          refine tH (v := ?_) 6 66 rfl (Or.inl ⟨by rfl, ?_⟩) ?_
          case refine_2 => (intro w hSw; go_simp; try with_reducible rfl)
          try simp only [pS]
          refine tH (v := ?_) 7 73 rfl (Or.inl ⟨by rfl, ?_⟩) ?_
          case refine_2 => (intro w hSw; go_simp; try with_reducible rfl)
          try simp only [pS]
          refine tH (v := ?_) 8 74 rfl (Or.inl ⟨by rfl, ?_⟩) ?_
          case refine_2 => (intro w hSw; go_simp; try with_reducible rfl)
          try simp only [pS]
          refine tH (v := ?_) 9 75 rfl (Or.inl ⟨by rfl, ?_⟩) ?_
          case refine_2 => (intro w hSw; go_simp; try with_reducible rfl)
          try simp only [pS]
          refine wpAnyH_ready (rs := [11]) (by kernel_rfl) (by simp) ?_
          refine AllReadyH.cons (o := ⟨none, _, _, _, _, _⟩) rfl (fun K hK => ?_) AllReadyH.nil
          have hq0 : w5.heap[V.heap.size]? = some (.cells #[.slice none 0 0, .slice none 0 0, .slice none 0 0] 31 (0, 0)) := (hb5.block V.drew.heap.size (by show V.heap.size < (V.heap.push _).size; simp)).trans (heap_last0 V _)
          refine step_store_row (by rfl) 31 _ _ rfl (V.heap.size) #[.slice z2.ac z2.ctx.length z2.cc, .slice z2.aK z2.K.length z2.cK, .slice z2.ad z2.dead.length z2.cd] rfl rfl 31 _ hq0 (by kernel_rfl) rfl (by kernel_rfl) ?_
          have hNext : Below V.drew.heap.size V.drew (w5.setRow (V.heap.size) #[.slice z2.ac z2.ctx.length z2.cc, .slice z2.aK z2.K.length z2.cK, .slice z2.ad z2.dead.length z2.cd]) := below_setRow hHeld (Nat.le_refl _ : V.drew.heap.size ≤ V.heap.size) #[.slice z2.ac z2.ctx.length z2.cc, .slice z2.aK z2.K.length z2.cK, .slice z2.ad z2.dead.length z2.cd]
          refine hK.out _ _ hNext (fun hHeld2 => ?_)
          clear hK K hHeld
          have hHeld := hNext
          clear hHeld2 hNext
          try simp only [pS]
          refine tH (v := ?_) 12 13 rfl (Or.inl ⟨by rfl, ?_⟩) ?_
          case refine_2 => (intro w hSw; go_simp; try with_reducible rfl)
          try simp only [pS]
          refine tH (v := ?_) 13 14 rfl (Or.inl ⟨by rfl, ?_⟩) ?_
          case refine_2 => (intro w hSw; go_simp; try with_reducible rfl)
          try simp only [pS]
          refine wpAnyH_done (by kernel_rfl) ?_ _
          refine NoPanic.normal ?_
          obtain ⟨X, hX⟩ : ∃ X, X = w5.setRow (V.heap.size) #[.slice z2.ac z2.ctx.length z2.cc, .slice z2.aK z2.K.length z2.cK, .slice z2.ad z2.dead.length z2.cd] := ⟨_, rfl⟩
          rw [← hX] at hHeld ⊢
          have hqX : RMAt X (V.heap.size) z2 := by rw [hX]; exact setRow_heap _ _ _ _ _ _ hq0
          have hzX : RMIn X z2 := by
           rw [hX]
           exact RMIn.not3 (R := V.heap.size) (hz5) ⟨_, _, _, _, _, _, _, _, _, _, _, hq0⟩ (fun k9 hk9 => heap_setRow_other _ _ _ _ (fun e9 => hk9 e9.symm))
          generalize hqn : V.heap.size = q at *
          clear hX hq0 hqn
          have hHX := vH.kept hHeld
          have hdX := vd.kept hHeld
          have hRX := rangeAt_kept vR hHeld
          have hOX := vO.kept hHeld
          clear vH vd vR vO vC0 vC1 vC2 hlo hHeld hb5 hz5
          have HQX := Lib.hid (And.intro hzX (And.intro hqX hOX))
          clear hzX hqX hOX
          go_upto_region 12 with (first
           | ((with_reducible refine wpList_load_evo _ A (off + j * 19) e ax cx hRX ?_ rfl ?_); exact rfl)
           | (go_at_call 17; (with_reducible refine (HMa.out _ hHX.map hdX).mono ?_); rintro v w6 ⟨s3, rfl, hm6, hf6, hft6, hap6⟩))
          have hk6 := hHX.keeps hf6 (fun _ h => h)
          have hH6 := hHX.op hm6 hf6 (fun _ h => h) hft6
          have hzw := HQX.out.1
          have hz6 : RMIn w6 z2 := ⟨hk6.dots hzw.ctx, hk6.evs hzw.kept, hk6.dots hzw.dead, hzw.cc, hzw.cK, hzw.cd⟩
          have hq6 : RMAt w6 q z2 := hk6 _ _ _ _ HQX.out.2.1
          have HO6 := Lib.hid (hk6.evs HQX.out.2.2)
          obtain ⟨d0, d1, d2⟩ := hq6.cells
          have hx3 := hH6.row
          have HS6 := Lib.hid (And.intro hH6 hz6)
          have HKN := Lib.hid (HK1.out.ap (z := z2) hjl HSE.out hap6 hzr)
          have hxk : (apOk s1 e != apOk s1 e) = false := bne_self_eq_false _
          have hxe : (apErr s1 e != apErr s1 e) = false := bne_self_eq_false _
          generalize apOk s1 e = ok at *
          generalize apErr s1 e = er at *
          clear hm6 hf6 hft6 hap6 hk6 hHX hH6 hzw hz6 hq6 hdX hRX
          unfold RMAt at hx3
          go_wp2_with (refine wpList_store_row rfl 31 _ _ rfl B8 #[.slice z2.ac z2.ctx.length z2.cc, .slice z2.aK z2.K.length z2.cK, .slice z2.ad z2.dead.length z2.cd] rfl rfl 31 _ hx3 (by kernel_rfl) rfl (by kernel_rfl) ?_)
          have HF := Lib.hid (And.intro (HS6.out.1.set HS6.out.2) (EvsIn.not3 HO6.out HS6.out.1.row.sl3 (fun k9 hk9 => heap_setRow_other w6 B8 (rmRow z2) k9 (fun e9 => hk9 e9.symm))))
          clear hx3 d0 d1 d2
          go_roundw
          case rel => exact ⟨j + 1, s3, z2, _, by go_num, HLT.out, HF.out.1, HKN.out, HF.out.2⟩
          case measure => have := HLT.out; simp [intOf] <;> omega
        ·obtain rfl : j = os.length := by omega
         have HEn := Lib.hid (HK1.out.end (m := m) (b := b) (by omega))
         have HHH := Lib.hid hH
         clear hH hOr
         go_upto_region 15 with fail
         refine wp_name (fun V hV => ?_)
         have hbV : Below wr.heap.size wr V.drew := by rw [hV.out]; exact (Below.refl _ _).drew
         have vH := HHH.out.kept hbV
         obtain ⟨vC0, vC1, vC2⟩ := vH.row.cells
         clear hV hbV
         refine wp_region_noPanic ?_
         refine wp_region_held_drew (S := fun W' => Below V.drew.heap.size V.drew W') (by kernel_rfl) (Below.refl _ _) (fun hHeld => ?_)
         refine tH (v := ?_) 0 94 rfl (Or.inl ⟨by rfl, ?_⟩) ?_
         case refine_2 => (intro w hSw; have sC0 := kept hSw vC0; have sC1 := kept hSw vC1; have sC2 := kept hSw vC2; go_simp; try with_reducible rfl)
         try simp only [pS]
         refine tH (v := ?_) 2 96 rfl (Or.inl ⟨by rfl, ?_⟩) ?_
         case refine_2 => (intro w hSw; have sC0 := kept hSw vC0; have sC1 := kept hSw vC1; have sC2 := kept hSw vC2; go_simp; try with_reducible rfl)
         try simp only [pS]
         refine tH (v := ?_) 3 97 rfl (Or.inl ⟨by rfl, ?_⟩) ?_
         case refine_2 => (intro w hSw; have sC0 := kept hSw vC0; have sC1 := kept hSw vC1; have sC2 := kept hSw vC2; go_simp; try with_reducible rfl)
         try simp only [pS]
         refine rH 1 95 rfl fun K hK => ?_
         go_simp
         go_at_call 32
         (with_reducible refine (HEn.out.ctx _ (vH.map.kept_w hHeld)).mono ?_)
         rintro v x1 ⟨a1, c1, rfl, hd1, hb1⟩
         go_simp
         have hNext := hHeld.trans (hb1.mono hHeld.size)
         refine hK.out _ _ hNext (fun hHeld2 => ?_)
         clear hK K hHeld
         have hHeld := hNext
         clear hHeld2 hNext
         try simp only [pS]
         refine rH 4 98 rfl fun K hK => ?_
         go_simp
         go_at_call 31
         (with_reducible refine (HEn.out.sameM _ a1 c1 hd1 (vH.ref.keep hHeld)).mono ?_)
         rintro v x2 ⟨rfl, hb2⟩
         go_simp
         have hNext := hHeld.trans (hb2.mono hHeld.size)
         refine hK.out _ _ hNext (fun hHeld2 => ?_)
         clear hK K hHeld
         have hHeld := hNext
         clear hHeld2 hNext
         try simp only [pS]
         clear hd1 hb1 hb2
         refine tH (v := ?_) 5 99 rfl (Or.inl ⟨by rfl, ?_⟩) ?_
         case refine_2 => (intro w hSw; have sC0 := kept hSw vC0; have sC1 := kept hSw vC1; have sC2 := kept hSw vC2; go_simp; try with_reducible rfl)
         try simp only [pS]
         refine tH (v := ?_) 6 100 rfl (Or.inl ⟨by rfl, ?_⟩) ?_
         case refine_2 => (intro w hSw; have sC0 := kept hSw vC0; have sC1 := kept hSw vC1; have sC2 := kept hSw vC2; go_simp; try with_reducible rfl)
         try simp only [pS]
         refine tH 9 103 rfl (yieldsIf_load_mid (by rfl) 31 _ rfl B8 0 rfl (rmCells z) _ (fun X h => rangeAt_kept (vH.row.range) h) Tryz.underlying31 rfl (by kernel_rfl)) ?_
         try simp only [pS]
         refine rH 7 101 rfl fun K hK => ?_
         go_simp
         go_at_call 35
         (with_reducible refine (HEn.out.alive _ (vH.map.kept_w hHeld)).mono ?_)
         rintro v x1 ⟨a3, d3, c3, rfl, hE3, hv3, hb1⟩
         go_simp
         have hNext := hHeld.trans (hb1.mono hHeld.size)
         refine hK.out _ _ hNext (fun hHeld2 => ?_)
         clear hK K hHeld
         have hHeld := hNext
         clear hHeld2 hNext
         try simp only [pS]
         have HV3 := Lib.hid hv3
         clear hv3
         refine rH 8 102 rfl fun K hK => ?_
         go_simp
         go_at_call 34
         (with_reducible refine (HEn.out.bare _ a3 d3 c3 hE3 HV3.out.2).mono ?_)
         rintro v x2 ⟨a4, c4, rfl, hE4, hb2⟩
         go_simp
         have hNext := hHeld.trans (hb2.mono hHeld.size)
         refine hK.out _ _ hNext (fun hHeld2 => ?_)
         clear hK K hHeld
         have hHeld := hNext
         clear hHeld2 hNext
         try simp only [pS]
         clear hE3 hb1
         refine rH 10 104 rfl fun K hK => ?_
         go_simp
         go_at_call 36
         (with_reducible refine (HEn.out.ralive _ (vH.ref.keep hHeld)).mono ?_)
         rintro v x3 ⟨a5, d5, c5, rfl, hE5, hv5, hb3⟩
         go_simp
         have hNext := hHeld.trans (hb3.mono hHeld.size)
         refine hK.out _ _ hNext (fun hHeld2 => ?_)
         clear hK K hHeld
         have hHeld := hNext
         clear hHeld2 hNext
         try simp only [pS]
         have HV5 := Lib.hid hv5
         clear hv5
         refine rH 11 105 rfl fun K hK => ?_
         go_simp
         go_at_call 34
         (with_reducible refine (HEn.out.bare _ a5 d5 c5 hE5 HV5.out.2).mono ?_)
         rintro v x4 ⟨a6, c6, rfl, hE6, hb4⟩
         go_simp
         have hNext := hHeld.trans (hb4.mono hHeld.size)
         refine hK.out _ _ hNext (fun hHeld2 => ?_)
         clear hK K hHeld
         have hHeld := hNext
         clear hHeld2 hNext
         try simp only [pS]
         clear hE5
         refine rH 12 106 rfl fun K hK => ?_
         go_simp
         go_at_call 33
         (with_reducible refine (HEn.out.all _ a4 a6 c4 c6 d3 d5 ((hE4.kept hb3).kept hb4) hE6 HV3.out HV5.out).mono ?_)
         rintro v x5 ⟨rfl, hb5⟩
         go_simp
         have hNext := hHeld.trans (hb5.mono hHeld.size)
         refine hK.out _ _ hNext (fun hHeld2 => ?_)
         clear hK K hHeld
         have hHeld := hNext
         clear hHeld2 hNext
         try simp only [pS]
         clear hE4 hE6 hb2 hb3 hb4 hb5
         refine tH (v := ?_) 13 107 rfl (Or.inl ⟨by rfl, ?_⟩) ?_
         case refine_2 => (intro w hSw; have sC0 := kept hSw vC0; have sC1 := kept hSw vC1; have sC2 := kept hSw vC2; go_simp; try with_reducible rfl)
         try simp only [pS]
         refine tH (v := ?_) 14 108 rfl (Or.inl ⟨by rfl, ?_⟩) ?_
         case refine_2 => (intro w hSw; have sC0 := kept hSw vC0; have sC1 := kept hSw vC1; have sC2 := kept hSw vC2; go_simp; try with_reducible rfl)
         try simp only [pS]
         refine rH 15 109 rfl fun K hK => ?_
         go_simp
         go_at_call 27
         (with_reducible refine (HA.out _).mono ?_)
         rintro v x6 ⟨rfl, hb6⟩
         go_simp
         have hNext := hHeld.trans (hb6.mono hHeld.size)
         refine hK.out _ _ hNext (fun hHeld2 => ?_)
         clear hK K hHeld
         have hHeld := hNext
         clear hHeld2 hNext
         try simp only [pS]
         refine tH (v := ?_) 16 110 rfl (Or.inl ⟨by rfl, ?_⟩) ?_
         case refine_2 => (intro w hSw; have sC0 := kept hSw vC0; have sC1 := kept hSw vC1; have sC2 := kept hSw vC2; go_simp; try with_reducible rfl)
         try simp only [pS]
         refine tH (v := ?_) 17 6 rfl (Or.inl ⟨by rfl, ?_⟩) ?_
         case refine_2 => (intro w hSw; have sC0 := kept hSw vC0; have sC1 := kept hSw vC1; have sC2 := kept hSw vC2; go_simp; try with_reducible rfl)
         try simp only [pS]
         refine wpAnyH_done (by kernel_rfl) ?_ _
         refine NoPanic.normal ?_
         have HZ := Lib.hid (vH.below.trans (hHeld.mono vH.below.size))
         clear hHeld vH vC0 vC1 vC2
         go_wp2
         go_ret
         exact ⟨rfl, HZ.out⟩
end Go.Proofs.YtpbobhfnglikmaaGreat
