/- compact's laws: the reference's Bare, lower. Conditions: as in the text. -/
import Derived.Test.YtpbobhfnglikmaaGreatComp
import Derived.Test.YtpbobhfnglikmaaGreatRefCo
import Derived.Test.YtpbobhfnglikmaaGreatIs
set_option linter.unusedSimpArgs false
set_option linter.unusedVariables false
set_option linter.unnecessarySimpa false
set_option maxHeartbeats 16000000
set_option maxRecDepth 100000
namespace Go.Proofs.YtpbobhfnglikmaaGreat
open Go.RowKit
theorem cWasteR_any {m : Nat} {b : MB} {s : MS} {r : RM} {n : Nat} (w : World) (h : MpIn w m b s) (hg : SGood s n) (hr : Rel s r) :
 Calls Tryz.prog 40 #[.pointer (some ⟨m, 0, none⟩)] w fun x w' => x = .returned (.int .i64 ((r.kept.length : Int) - ((aliveR r).filter fun e => decide (e.over.length = 0)).length)) ∧ Below w.heap.size w w' := by
 rw [aliveR_eq hg.inv hr, hr.kept, eventsOf_len hg.nd]
 exact cWaste_any w h hg
def evZ : Ev := ⟨⟨⟨0, 1⟩, 2⟩, stamp0, 2, key0, ck0, [dA]⟩
theorem evZ_small : EvSmall evZ := ⟨by decide, by decide, by decide, by decide, by decide⟩
def rZ : RM := ⟨[⟨⟨0, 1⟩, 2⟩], [evY, evZ], [dA]⟩
def rE : RM := ⟨[⟨⟨0, 1⟩, 2⟩], [], []⟩
theorem rZ_is : rmAp (rmAp RM.empty evY) evZ = rZ := by kernel_rfl
theorem rE_is : cpDo [⟨⟨0, 1⟩, 2⟩] rZ = rE := by kernel_rfl
theorem wZ : ((rZ.kept.length : Int) - ((aliveR rZ).filter fun e => decide (e.over.length = 0)).length) = 2 := by kernel_rfl
theorem wE : ((rE.kept.length : Int) - ((aliveR rE).filter fun e => decide (e.over.length = 0)).length) = 0 := by kernel_rfl
abbrev valZ (A : Nat) : Value := .agg #[.int .i64 0, .int .i64 1, .int .i64 2, .int .i64 0, .int .i64 0, .int .i64 0, .int .i64 2, .string ⟨#[]⟩, .string ⟨#[]⟩, .string ⟨#[]⟩, .string ⟨#[]⟩, .bool false, .bool false, .bool false, .bool false, .int .i64 0, .int .i64 0, .int .i64 0, .slice (some ⟨A, 0, none⟩) 1 1]
/-- behind an Apply -/
structure Ap2 (m : Nat) (b : MB) (s : MS) (e : Ev) (n : Nat) (r : RM) (w w' : World) (s' : MS) : Prop where
 map : MpIn w' m b s'
 good : SGood s' (n + 1)
 rel : Rel s' (rmAp r e)
 keeps : KeepsC w w'
 below : ∀ k0, k0 ≤ w.heap.size → (∀ k, foot b s.A k → k0 ≤ k) → Below k0 w w' ∧ ∀ k, foot b s'.A k → k0 ≤ k
theorem RetAp.ap2 {m : Nat} {b : MB} {s : MS} {e : Ev} {n : Nat} {r : RM} {w w' : World} {x : Ending} (h : RetAp m b s e w x w') (hm : MpIn w m b s) (hg : SGood s n) (hs : EvSmall e) (hr : Rel s r) : ∃ s' v, x = .returned v ∧ Ap2 m b s e n r w w' s' := by
 obtain ⟨s', rfl, h1, h2, h3, h4⟩ := h
 refine ⟨s', _, rfl, h1, hg.ap hs h4, hr.any hg.inv h4, hm.keeps h2 (fun _ h => h), fun k0 hn hf => ⟨h2.below hn hf, fun k hk => ?_⟩⟩
 rcases h3 k hk with h5 | h5
 ·exact hf k h5
 ·omega
theorem callY2 {m : Nat} {b : MB} (w : World) (h : MpIn w m b MS.empty) : Calls Tryz.prog 17 #[.pointer (some ⟨m, 0, none⟩), valY] w fun x w' => ∃ s' v, x = .returned v ∧ Ap2 m b MS.empty evY 0 RM.empty w w' s' := by
 have hc : Calls Tryz.prog 17 #[.pointer (some ⟨m, 0, none⟩), valY] w (RetAp m b MS.empty evY w) := mApply_any evY none 0 w h MInv.empty evY_small (Or.inl rfl) (fun _ => rfl) (by decide) (by decide)
 exact hc.mono fun x w' h2 => h2.ap2 h SGood.empty evY_small Rel.empty
theorem callZ2 {m : Nat} {b : MB} {s : MS} {r : RM} (A : Nat) (w : World) (h : MpIn w m b s) (hg : SGood s 1) (hr : Rel s r) (hd : DotsIn w (some ⟨A, 0, none⟩) [dA]) : Calls Tryz.prog 17 #[.pointer (some ⟨m, 0, none⟩), valZ A] w fun x w' => ∃ s' v, x = .returned v ∧ Ap2 m b s evZ 1 r w w' s' := by
 have hc : Calls Tryz.prog 17 #[.pointer (some ⟨m, 0, none⟩), valZ A] w (RetAp m b s evZ w) := mApply_any evZ (some ⟨A, 0, none⟩) 1 w h hg.inv evZ_small hd (fun h => by cases h) (by have := hg.ctx; omega) (by have := hg.dead; omega)
 exact hc.mono fun x w' h2 => h2.ap2 h hg evZ_small hr
theorem callDoZ {m : Nat} {b : MB} {s : MS} (w : World) (a : Option Addr) (cap : Nat) (h : MpIn w m b s) (hg : SGood s 2) (hr : Rel s rZ) (hd : DotsIn w a s.ctx) :
 Calls Tryz.prog 29 #[.pointer (some ⟨m, 0, none⟩), .slice a s.ctx.length cap] w fun x w' => ∃ s3, x = .returned (.tuple #[.int .i64 2, .int .i64 0]) ∧ MpIn w' m b s3 ∧ SGood s3 2 ∧ Rel s3 rE ∧ Fr (foot b s.A) w w' := by
 have hc : s.ctx = [⟨⟨0, 1⟩, 2⟩] := hr.ctx.symm
 refine (cDo_any a cap s.ctx w h hg (by decide) hd (hg.inv.marks (by rw [hc]; decide)) (by rw [hc]; decide +kernel)).mono ?_
 rintro x w' ⟨s3, rfl, h1, h2, _, h3, h4⟩
 have hrm : s.rm = rZ := hg.rel.uniq hr
 rw [hrm, hc, rE_is] at h3
 have hl : s3.K.length = 0 := by
  have := congrArg List.length h3.kept
  rw [eventsOf_len h2.nd] at this
  exact this.symm
 have hl2 : s.K.length = 2 := by
  have := congrArg List.length hr.kept
  rw [eventsOf_len hg.nd] at this
  exact this.symm
 exact ⟨s3, by rw [hl, hl2]; rfl, h1, h2, h3, h4⟩
theorem awake23_any (w : World) : Calls Tryz.prog 27 #[] w fun x w' => x = .returned (.bool true) ∧ Below w.heap.size w w' := by
 have HN := Lib.hid (fun X => mNew_any X)
 go_enter Tryz.func27, Tryz.ntmps27
 go_upto_region 3 with (go_at_call 15; (with_reducible refine (HN.out _).mono ?_); rintro x w1 ⟨m, b, rfl, hm, hb, hlo, hfo⟩)
 refine wp_name (fun W hW => ?_)
 have hbt : Below w1.heap.size w1 W := by rw [hW.out]; go_grown
 have hb2 : Below w.heap.size w W := hb.trans (hbt.mono hb.size)
 have hm2 := hm.kept_w hbt
 have x0 : W.cell? ⟨w1.heap.size, 0, none⟩ = some (.int .i64 0) := by rw [hW.out]; go_simp
 have x1 : W.cell? ⟨w1.heap.size, 1, none⟩ = some (.int .i64 1) := by rw [hW.out]; go_simp
 have x2 : W.cell? ⟨w1.heap.size, 2, none⟩ = some (.int .i64 1) := by rw [hW.out]; go_simp
 clear hW hm hbt hb
 generalize w1.heap.size = D at *
 have HY := Lib.hid (callY2 W hm2)
 go_upto_region 4 with (first
  | (refine Great.wpList_buildTo rfl 43 _ rfl _ rfl #[.int .i64 0, .int .i64 1, .int .i64 1, .int .i64 0, .int .i64 0, .int .i64 0, .int .i64 1, .string ⟨#[110]⟩, .string ⟨#[100]⟩, .string ⟨#[47]⟩, .string ⟨#[]⟩, .bool false, .bool false, .bool false, .bool false, .int .i64 1099511627776, .int .i64 0, .int .i64 0, .slice none 0 0] (by kernel_rfl) ?_)
  | (go_at_call 17; (with_reducible refine HY.out.mono ?_); rintro x w2 ⟨s1, v1, rfl, hd1⟩))
 obtain ⟨hb3, hfo3⟩ := hd1.below w.heap.size hb2.size hfo
 have hb4 := hb2.trans hb3
 replace x0 := hd1.keeps.cell x0
 replace x1 := hd1.keeps.cell x1
 replace x2 := hd1.keeps.cell x2
 have hm4 := hd1.map
 have HG1 := Lib.hid (And.intro hd1.good hd1.rel)
 clear hd1 hb3 hfo hb2 hm2 HY HN
 have HX := Lib.hid (fun t => callZ2 (m := m) (b := b) w2.heap.size (w2.alloc (.cells #[.int .i64 0, .int .i64 1, .int .i64 1] t)) (hm4.kept_w ((Below.refl _ w2).alloc (Nat.le_refl _) _)) HG1.out.1 HG1.out.2 (dots_new w2 dA t))
 go_upto_region 5 with (first
  | (refine Great.wpList_buildTo rfl 43 _ rfl _ rfl #[.int .i64 0, .int .i64 1, .int .i64 2, .int .i64 0, .int .i64 0, .int .i64 0, .int .i64 2, .string ⟨#[]⟩, .string ⟨#[]⟩, .string ⟨#[]⟩, .string ⟨#[]⟩, .bool false, .bool false, .bool false, .bool false, .int .i64 0, .int .i64 0, .int .i64 0, .slice (some ⟨w2.heap.size, 0, none⟩) 1 1] (by kernel_rfl) ?_)
  | (go_at_call 17; (with_reducible refine (HX.out _).mono ?_); rintro x w3 ⟨s2, v2, rfl, hd2⟩))
 have hba : Below w2.heap.size w2 (w2.alloc (.cells #[.int .i64 0, .int .i64 1, .int .i64 1] 35)) := (Below.refl _ w2).alloc (Nat.le_refl _) _
 obtain ⟨hb5, hfo5⟩ := hd2.below w.heap.size (Nat.le_trans hb4.size hba.size) hfo3
 have hb6 := (hb4.trans (hba.mono hb4.size)).trans hb5
 replace x0 := hd2.keeps.cell (kept hba x0)
 replace x1 := hd2.keeps.cell (kept hba x1)
 replace x2 := hd2.keeps.cell (kept hba x2)
 have hm6 := hd2.map
 have hg6 : SGood s2 2 := hd2.good
 have hr6 : Rel s2 rZ := by rw [← rZ_is]; exact hd2.rel
 clear hd2 hb5 hba hfo3 hb4 hm4 HX HG1
 have HW0 := cWasteR_any w3 hm6 hg6 hr6
 rw [wZ] at HW0
 have HW := Lib.hid HW0
 have HC := Lib.hid (fun (X : World) (h : MpIn X m b s2) => callCtx X h hg6.inv (by have := hg6.ctx; omega))
 have HD := Lib.hid (fun (X : World) (a : Option Addr) (c : Nat) (h : MpIn X m b s2) (hd : DotsIn X a s2.ctx) => callDoZ X a c h hg6 hr6 hd)
 clear HW0
 go_upto_region 7 with (first
  | (go_at_call 40; (with_reducible refine HW.out.mono ?_); rintro x w4 ⟨rfl, hb7⟩; have hm7 := hm6.kept_w hb7)
  | (go_at_call 32; (with_reducible refine (HC.out _ hm7).mono ?_); rintro x w5 ⟨aC, cC, rfl, hdC, hb8⟩; have hm8 := hm7.kept_w hb8)
  | (go_at_call 29; (with_reducible refine (HD.out _ _ _ hm8 hdC).mono ?_); rintro x w6 ⟨s3, rfl, hm9, hg9, hr9, hf9⟩))
 have hb78 := hb7.trans (hb8.mono hb7.size)
 have hK := hm8.keeps hf9 (fun _ h => h)
 have HB := Lib.hid ((hb6.trans (hb78.mono hb6.size)).trans (hf9.below (Nat.le_trans hb6.size hb78.size) hfo5))
 replace x0 := hK.cell (kept hb78 x0)
 replace x1 := hK.cell (kept hb78 x1)
 replace x2 := hK.cell (kept hb78 x2)
 have hl : s3.K.length = 0 := by
  have := congrArg List.length hr9.kept
  rw [eventsOf_len hg9.nd] at this
  exact this.symm
 have HL0 := mLen_any w6 hm9
 rw [hl] at HL0
 have HL := Lib.hid (show Calls Tryz.prog 65 #[.pointer (some ⟨m, 0, none⟩)] w6 fun e w' => e = .returned (.int .i64 0) ∧ w6 = w' from HL0)
 have HH0 := fun (X : World) (h : MpIn X m b s3) => mHas_any dA X h
 rw [show hasM s3.ctx dA = true by rw [← hr9.ctx]; decide +kernel] at HH0
 have HH := Lib.hid (fun (X : World) (h : MpIn X m b s3) => show Calls Tryz.prog 83 #[.pointer (some ⟨m, 0, none⟩), .agg #[.int .i64 0, .int .i64 1, .int .i64 1]] X _ from HH0 X h)
 have HW0 := fun (X : World) (h : MpIn X m b s3) => cWasteR_any X h hg9 hr9
 rw [wE] at HW0
 have HWE := Lib.hid HW0
 clear HW0 HH0 HL0 hl hK hb78 hb7 hb8 hm6 hm7 hm8 hdC hf9 hfo5 hb6 HW HC HD hg6 hr6
 go_wp2_with (first
  | (go_at_call 65; (with_reducible refine HL.out.mono ?_); rintro x w7 ⟨rfl, rfl⟩)
  | (go_at_call 83; (with_reducible refine (HH.out _ hm9).mono ?_); rintro x w8 ⟨rfl, hb9⟩; have hm10 := hm9.kept_w hb9)
  | (go_at_call 40; (with_reducible refine (HWE.out _ hm10).mono ?_); rintro x w9 ⟨rfl, hb10⟩))
 go_ret
 exact ⟨rfl, (HB.out.trans (hb9.mono HB.out.size)).trans (hb10.mono (Nat.le_trans HB.out.size hb9.size))⟩
/-- a map, and the reference's row in the block R -/
structure Hd (w0 : World) (R : Nat) (w : World) (m : Nat) (b : MB) (s : MS) (y : RMIt) : Prop where
 map : MpIn w m b s
 ref : RMIn w y
 row : RMAt w R y
 low : ∀ z, foot b s.A z → w0.heap.size ≤ z
 up : w0.heap.size ≤ R
 below : Below w0.heap.size w0 w
section
variable {R m : Nat} {w0 w w' : World} {b : MB} {s s' : MS} {y z : RMIt}
theorem Hd.size (h : Hd w0 R w m b s y) : w0.heap.size ≤ w.heap.size := h.below.size
theorem Hd.kept (h : Hd w0 R w m b s y) (hb : Below w.heap.size w w') : Hd w0 R w' m b s y :=
 ⟨h.map.kept_w hb, h.ref.keep hb, h.row.kept hb, h.low, h.up, h.below.trans (hb.mono h.size)⟩
theorem Hd.keeps (h : Hd w0 R w m b s y) {S : Nat → Prop} (hf : Fr S w w') (hS : ∀ k, S k → foot b s.A k) : KeepsC w w' := h.map.keeps hf hS
theorem Hd.op (h : Hd w0 R w m b s y) {S : Nat → Prop} (hm : MpIn w' m b s') (hf : Fr S w w') (hS : ∀ k, S k → foot b s.A k) (hA : ∀ k, foot b s'.A k → foot b s.A k ∨ w.heap.size ≤ k) : Hd w0 R w' m b s' y := by
 have hk := h.keeps hf hS
 refine ⟨hm, ⟨hk.dots h.ref.ctx, hk.evs h.ref.kept, hk.dots h.ref.dead, h.ref.cc, h.ref.cK, h.ref.cd⟩, hk _ _ _ _ h.row, fun z hz => ?_, h.up, h.below.trans (hf.below h.size fun k hk => h.low k (hS k hk))⟩
 rcases hA z hz with h1 | h1
 ·exact h.low z h1
 ·exact Nat.le_trans h.size h1
theorem Hd.notFoot (h : Hd w0 R w m b s y) : ¬ foot b s.A R := fun hf => by
 obtain ⟨es, cl, h1⟩ := h.map.maps hf
 have h2 := h.row
 unfold RMAt at h2
 rw [h2] at h1
 cases h1
theorem Hd.set (h : Hd w0 R w m b s y) (hz : RMIn w z) : Hd w0 R (w.setRow R (rmRow z)) m b s z :=
 ⟨h.map.set3 h.row.sl3 h.notFoot _, RMIn.not3 (R := R) hz h.row.sl3 (fun k9 hk9 => heap_setRow_other _ _ _ _ (fun e9 => hk9 e9.symm)), setRow_heap _ _ _ _ _ _ h.row, h.low, h.up, below_setRow h.below h.up _⟩
end
theorem MadeIn.hd {w0 w : World} {m : Nat} {b : MB} {s : MS} {y : RMIt} {l : List Ev} {n1 : Nat} (h : MadeIn w m b s y l n1) (hn : w0.heap.size ≤ n1) (hb : Below w0.heap.size w0 w) : Hd w0 w.heap.size (w.alloc (.cells (rmRow y) 31)) m b s y := by
 have hbA := (Below.refl w.heap.size w).alloc (Nat.le_refl _) (.cells (rmRow y) 31)
 exact ⟨h.map.kept_w hbA, h.ref.keep hbA, heap_last0 _ _, fun z hz => Nat.le_trans hn (h.low z hz), hb.size, hb.trans (hbA.mono hb.size)⟩
theorem MadeIn.sgood {w : World} {m : Nat} {b : MB} {s : MS} {y : RMIt} {ls : List EvIt} {n1 : Nat} (h : MadeIn w m b s y (evsOf ls) n1) (hsl : EvsSmall ls) : SGood s ls.length := by
 refine ⟨h.inv, h.rel.nd, by have := h.ctx; rwa [evsOf_length] at this, by have := h.dead; rwa [evsOf_length] at this, fun x hx => ?_⟩
 obtain ⟨n9, f9, hM9⟩ := h.merged
 rcases hM9.come x hx with ⟨z9, hz9, _⟩ | h9
 ·cases hz9
 ·obtain ⟨v, hv, e8⟩ := List.mem_map.1 h9
  rw [← e8]
  exact hsl v hv
theorem hdIs {m : Nat} {b : MB} {s : MS} {y : RMIt} {n : Nat} (hg : SGood s n) (hn : n ≤ 1000) (hr : Rel s y.rm) (X : World) (hm : MpIn X m b s) (hI : RMIn X y) :
 Calls Tryz.prog 25 #[.pointer (some ⟨m, 0, none⟩), rmVal y] X fun e w' => e = .returned (.bool true) ∧ Below X.heap.size X w' :=
 isMap_any (isEnd hg.inv hr (by have := hg.ctx; omega) (by have := hg.dead; omega) hg.small) X hm hI
theorem rmK_len {s : MS} {y : RMIt} (h : Rel s y.rm) : y.K.length = s.K.length := by
 have := congrArg List.length h.kept
 rw [eventsOf_len h.nd] at this
 rw [← this]
 exact (evsOf_length y.K).symm
theorem hdOk {s : MS} {y : RMIt} {n : Nat} (hg : SGood s n) (hn : n ≤ 1000) (hr : Rel s y.rm) : DoOk y.rm := by
 obtain ⟨h1, h2, h3⟩ := hg.sizes hr
 exact ⟨by omega, by omega, by omega, hr.rinv hg.inv |>.srt.nd⟩
theorem hdOv {s : MS} {y : RMIt} {n : Nat} (hg : SGood s n) (hr : Rel s y.rm) : ∀ e ∈ y.rm.kept, e.over.length ≤ 1073741824 ∧ (e.kind = 1 ∨ e.kind = 2) := fun e he => by
 have h1 : e ∈ eventsOf s := by rw [← hr.kept]; exact he
 obtain ⟨x, hx, rfl⟩ := (eventsOf_mem hg.nd).1 h1
 have h2 := (hg.inv.kept x hx).1
 exact ⟨Nat.le_trans (evOk_parts h2).2.2.1 (by decide), evOk_kind h2⟩
theorem lawCd_any (a am : Option Addr) (ca cm : Nat) (ls : List EvIt) (l : List Dot) (w : World) (hE : EvsArg w a ls) (hd : DotsIn w am l) (hl : l.length ≤ maxLen) :
 Calls Tryz.prog 9 #[.slice a ls.length ca, .slice am l.length cm] w fun x w' => x = .returned (.bool true) ∧ Below w.heap.size w w' := by
 unfold maxLen at hl
 have HL0 : Calls Tryz.prog 26 #[.slice a ls.length ca, .int .i64 30] w fun x w' => x = .returned (.bool (lightAll 30 (evsOf ls))) ∧ Below w.heap.size w w' := LightAll_any a ca 30 ls w (by decide) hE.len hE.evs (fun x hx => ⟨(hE.each x hx).over, (hE.each x hx).name, (hE.each x hx).domain, (hE.each x hx).path, (hE.each x hx).value⟩)
 have HA := Lib.hid awake23_any
 have hEi := hE.evs
 clear hE
 cases hli : lightAll 30 (evsOf ls) with
 | false =>
   rw [hli] at HL0
   have HL := Lib.hid HL0
   clear HL0 hli
   go_enter Tryz.func9, Tryz.ntmps9
   go_wp2_with (first
    | (go_at_call 26; (with_reducible refine HL.out.mono ?_); rintro x w1 ⟨rfl, hb1⟩)
    | (go_at_call 27; (with_reducible refine (HA.out _).mono ?_); rintro x w2 ⟨rfl, hb2⟩))
   go_ret
   exact ⟨rfl, hb1.trans (hb2.mono hb1.size)⟩
 | true =>
   obtain ⟨hls, hsl⟩ := light_evs hli
   rw [hli] at HL0
   have HL := Lib.hid HL0
   clear HL0 hli
   by_cases hm : l.length ≤ 100
   case neg =>
    have hdm : decide ((100 : Int) < (l.length : Int)) = true := decide_eq_true (by omega)
    clear hm
    go_enter Tryz.func9, Tryz.ntmps9
    go_wp2_with (first
        | (go_at_call 26; (with_reducible refine HL.out.mono ?_); rintro x w1 ⟨rfl, hb1⟩)
        | (go_at_call 27; (with_reducible refine (HA.out _).mono ?_); rintro x w2 ⟨rfl, hb2⟩))
    go_ret
    exact ⟨rfl, hb1.trans (hb2.mono hb1.size)⟩
   have hdm : decide ((100 : Int) < (l.length : Int)) = false := decide_eq_false (by omega)
   have HM1 := Lib.hid (fun (X : World) (h : EvsIn X a ls) => made23_any a ca ls X (by omega) h hsl)
   have HCk := Lib.hid (fun (X : World) (h : DotsIn X am l) => rCheck_any am cm l X (by omega) h)
   have HLM := Lib.hid hm
   clear hm hl
   go_enter Tryz.func9, Tryz.ntmps9
   go_upto_region 4 with (first
    | (go_at_call 26; (with_reducible refine HL.out.mono ?_); rintro x w1 ⟨rfl, hb1⟩; have hE1 := hEi.kept hb1)
    | (go_at_call 28; (with_reducible refine (HM1.out _ hE1).mono ?_); rintro x w3 ⟨m, b, s, y, rfl, hm3, hb3⟩)
    | (refine wpList_store_new 31 _ _ _ (rmRow y) rfl rfl (by kernel_rfl) rfl (by kernel_rfl) ?_))
   have hH0 := hm3.hd hb1.size (hb1.trans (hb3.mono hb1.size))
   have HG := Lib.hid (And.intro (hm3.sgood hsl) hm3.rel)
   obtain ⟨W, hWe⟩ : ∃ W, W = w3.alloc (.cells (rmRow y) 31) := ⟨_, rfl⟩
   rw [← hWe] at hH0 ⊢
   clear hWe hb1 hb3 hE1 hEi hm3 HL HM1 hsl
   generalize w3.heap.size = B8 at *
   have hdW := hd.kept hH0.below
   have hdl : l.length ≤ 100 := HLM.out
   clear hd
   by_cases hz : marksErr l = 0
   case neg =>
    have HDo := Lib.hid (fun (X : World) (h : DotsIn X am l) => cDo_bad (m := m) am l.length cm X hz (may_no am cm l X (by omega) h hz))
    have HIs := Lib.hid (fun (X : World) => hdIs (m := m) (b := b) HG.out.1 (by omega) HG.out.2 X)
    have hz1 : (marksErr l == 0) = false := beq_eq_false_iff_ne.2 hz
    have hz2 : (marksErr l != 0) = true := bne_iff_ne.2 hz
    generalize marksErr l = r at *
    have hrr : (r == r) = true := beq_self_eq_true _
    clear hz hdl
    go_upto_region 5 with (go_at_call 29; (with_reducible refine (HDo.out _ hdW).mono ?_); rintro x w4 ⟨rfl, hb4⟩)
    have hd4 := hdW.kept hb4
    have hH4 := hH0.kept hb4
    clear hdW hH0 hb4 HDo
    go_upto_region 9 with (go_at_call 42; (with_reducible refine (HCk.out _ hd4).mono ?_); rintro x w5 ⟨rfl, hb5⟩)
    have hH5 := hH4.kept hb5
    obtain ⟨c0, c1, c2⟩ := hH5.row.cells
    have hmp := hH5.map
    have hrf := hH5.ref
    have HB := Lib.hid hH5.below
    clear hd4 hH4 hb5 hH5
    go_wp2_with (first
        | (go_at_call 25; (with_reducible refine (HIs.out _ hmp hrf).mono ?_); rintro x w6 ⟨rfl, hb6⟩)
        | (go_at_call 27; (with_reducible refine (HA.out _).mono ?_); rintro x w7 ⟨rfl, hb7⟩))
    go_ret
    exact ⟨rfl, (HB.out.trans (hb6.mono HB.out.size)).trans (hb7.mono (Nat.le_trans HB.out.size hb6.size))⟩
   rw [hz] at HCk
   have hctx : y.ctx = s.ctx := HG.out.2.ctx
   have hcl : y.ctx.length ≤ 30 := by rw [hctx]; have := HG.out.1.ctx; omega
   have HCv0 := fun (X : World) (h1 : DotsIn X y.ac y.ctx) (h2 : DotsIn X am l) => rCovM_any y.ac am y.cc cm y.ctx l X (by omega) (by omega) h1 h2
   cases hcv : coversM s.ctx l with
   | false =>
     have HDo := Lib.hid (fun (X : World) (h1 : MpIn X m b s) (h : DotsIn X am l) => cDo_bad (m := m) (r := 4) am l.length cm X (by decide) ((may_range am cm l X h1 HG.out.1.inv (by have := HG.out.1.ctx; omega) h hz hcv).mono (by rintro x w' ⟨v, vb, rfl, _, h3, _, _⟩; exact ⟨rfl, h3⟩)))
     have HIs := Lib.hid (fun (X : World) => hdIs (m := m) (b := b) HG.out.1 (by omega) HG.out.2 X)
     rw [hctx, hcv] at HCv0
     rw [← hctx] at HCv0
     have HCv := Lib.hid HCv0
     clear hz hdl hcv HCv0 hctx hcl
     go_upto_region 5 with (go_at_call 29; (with_reducible refine (HDo.out _ hH0.map hdW).mono ?_); rintro x w4 ⟨rfl, hb4⟩)
     have hd4 := hdW.kept hb4
     have hH4 := hH0.kept hb4
     clear hdW hH0 hb4 HDo
     go_upto_region 6 with (go_at_call 42; (with_reducible refine (HCk.out _ hd4).mono ?_); rintro x w5 ⟨rfl, hb5⟩)
     have hH5 := hH4.kept hb5
     have hd5 := hd4.kept hb5
     obtain ⟨c0, c1, c2⟩ := hH5.row.cells
     have hrc := hH5.ref.ctx
     clear hd4 hH4 hb5
     go_upto_region 9 with (go_at_call 55; (with_reducible refine (HCv.out _ hrc hd5).mono ?_); rintro x w6 ⟨rfl, hb6⟩)
     have hH6 := hH5.kept hb6
     clear c0 c1 c2 hrc hd5 hH5 hb6
     obtain ⟨c0, c1, c2⟩ := hH6.row.cells
     have hmp := hH6.map
     have hrf := hH6.ref
     have HB := Lib.hid hH6.below
     clear hH6
     go_wp2_with (first
        | (go_at_call 25; (with_reducible refine (HIs.out _ hmp hrf).mono ?_); rintro x w7 ⟨rfl, hb7⟩)
        | (go_at_call 27; (with_reducible refine (HA.out _).mono ?_); rintro x w8 ⟨rfl, hb8⟩))
     go_ret
     exact ⟨rfl, (HB.out.trans (hb7.mono HB.out.size)).trans (hb8.mono (Nat.le_trans HB.out.size hb7.size))⟩
   | true =>
     have HDo := Lib.hid (fun (X : World) (h1 : MpIn X m b s) (h : DotsIn X am l) => cDo_any am cm l X h1 HG.out.1 (by omega) h hz hcv)
     have HRd := Lib.hid (fun (X : World) (h1 : RMIn X y) (h : DotsIn X am l) => rDo23_any y am cm l X (hdOk HG.out.1 (by omega) HG.out.2) (hdOv HG.out.1 HG.out.2) h1 h (by omega))
     rw [hctx, hcv] at HCv0
     rw [← hctx] at HCv0
     have HCv := Lib.hid HCv0
     clear hz hdl hcv HCv0 hctx hcl
     go_upto_region 5 with (go_at_call 29; (with_reducible refine (HDo.out _ hH0.map hdW).mono ?_); rintro x w4 ⟨s2, rfl, hm4, hg4, hA4, hr4, hf4⟩)
     have hk4 := hH0.keeps hf4 (fun _ h => h)
     have hd4 := hk4.dots hdW
     have hH4 := hH0.op hm4 hf4 (fun _ h => h) (fun k hk => by rw [hA4] at hk; exact Or.inl hk)
     have HG2 := Lib.hid (And.intro hg4 hr4)
     clear hdW hH0 HDo hm4 hg4 hA4 hr4 hf4 hk4
     go_upto_region 6 with (go_at_call 42; (with_reducible refine (HCk.out _ hd4).mono ?_); rintro x w5 ⟨rfl, hb5⟩)
     have hH5 := hH4.kept hb5
     have hd5 := hd4.kept hb5
     obtain ⟨c0, c1, c2⟩ := hH5.row.cells
     have hrc := hH5.ref.ctx
     clear hd4 hH4 hb5
     go_upto_region 10 with (go_at_call 55; (with_reducible refine (HCv.out _ hrc hd5).mono ?_); rintro x w6 ⟨rfl, hb6⟩)
     have hH6 := hH5.kept hb6
     have hd6 := hd5.kept hb6
     clear c0 c1 c2 hrc hd5 hH5 hb6
     obtain ⟨c0, c1, c2⟩ := hH6.row.cells
     have hrf := hH6.ref
     go_upto_region 11 with (first
        | (go_at_call 56; (with_reducible refine (HRd.out _ hrf hd6).mono ?_); rintro x w7 ⟨z, rfl, hz7, hzr, hb7⟩)
        | (refine wpList_store_new 31 _ _ _ (rmRow z) rfl rfl (by kernel_rfl) rfl (by kernel_rfl) ?_))
     have hbB := (Below.refl w7.heap.size w7).alloc (Nat.le_refl _) (.cells (rmRow z) 31)
     have hA7 : RMAt (w7.alloc (.cells (rmRow z) 31)) w7.heap.size z := heap_last0 _ _
     obtain ⟨W8, hWe⟩ : ∃ W8, W8 = w7.alloc (.cells (rmRow z) 31) := ⟨_, rfl⟩
     rw [← hWe] at hbB hA7 ⊢
     have hH8 := (hH6.kept hb7).kept hbB
     have hzW := hz7.keep hbB
     have HR2 := Lib.hid (show Rel s2 z.rm by rw [hzr, HG.out.1.rel.uniq HG.out.2 |>.symm]; exact HG2.out.2)
     have hk1 : y.K.length = s.K.length := rmK_len HG.out.2
     have hk2 : z.K.length = s2.K.length := rmK_len HR2.out
     have HIs := Lib.hid (fun (X : World) => hdIs (m := m) (b := b) HG2.out.1 (by omega) HR2.out X)
     clear c0 c1 c2 hrf hH6 hd6 hb7 hbB hz7 hWe hzr
     generalize w7.heap.size = B9 at *
     obtain ⟨c0, c1, c2⟩ := hH8.row.cells
     obtain ⟨d0, d1, d2⟩ := hA7.cells
     rw [hk1] at c1
     rw [hk2] at d1
     have hmp := hH8.map
     have HB := Lib.hid hH8.below
     have hq1 := HG.out.1.inv.len
     have hq2 := HG2.out.1.inv.len
     have hwr : IntKind.i64.wrap ((s.K.length : Int) - s2.K.length) = (s.K.length : Int) - s2.K.length := IntWalk.i64_in _ (by omega)
     have hrr : ((s.K.length : Int) - s2.K.length == (s.K.length : Int) - s2.K.length) = true := beq_self_eq_true _
     have hzv : Value.slice z.aK s2.K.length z.cK = .slice z.aK z.K.length z.cK := by rw [hk2]
     clear hH8 hA7 hq1 hq2 hk1
     have HIS2 := Lib.hid (show ∀ X, MpIn X m b s2 → RMIn X z → Calls Tryz.prog 25 #[.pointer (some ⟨m, 0, none⟩), .agg #[.slice z.ac z.ctx.length z.cc, .slice z.aK s2.K.length z.cK, .slice z.ad z.dead.length z.cd]] X fun e w' => e = .returned (.bool true) ∧ Below X.heap.size X w' by rw [← hk2]; exact HIs.out)
     clear hk2 hzv
     go_wp2_with (first
        | (go_at_call 25; (with_reducible refine (HIS2.out _ hmp hzW).mono ?_); rintro x w9 ⟨rfl, hb9⟩)
        | (go_at_call 27; (with_reducible refine (HA.out _).mono ?_); rintro x w10 ⟨rfl, hb10⟩))
     go_ret
     exact ⟨rfl, (HB.out.trans (hb9.mono HB.out.size)).trans (hb10.mono (Nat.le_trans HB.out.size hb9.size))⟩
end Go.Proofs.YtpbobhfnglikmaaGreat
