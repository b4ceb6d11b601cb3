/- The law OrmapPlays, walked. Conditions: none. -/
import Derived.Test.YtpbobhfnglikmaaGreatRelS
import Derived.Test.YtpbobhfnglikmaaGreatRefCl
import Derived.Test.YtpbobhfnglikmaaGreatCopy
import Derived.Test.YtpbobhfnglikmaaGreatOst
import Derived.Test.YtpbobhfnglikmaaGreatIs
set_option linter.unusedSimpArgs false
set_option linter.unusedVariables false
set_option linter.unnecessarySimpa false
namespace Go.Proofs.YtpbobhfnglikmaaGreat
open Go.RowKit
theorem PlKC.in {w w' : World} {y : RMIt} (h : RMIn w y) (hk : KeepsC w w') : RMIn w' y := ⟨hk.dots h.ctx, hk.evs h.kept, hk.dots h.dead, h.cc, h.cK, h.cd⟩
theorem PlKC.at {w w' : World} {R : Nat} {y : RMIt} (h : RMAt w R y) (hk : KeepsC w w') : RMAt w' R y := hk _ _ _ _ h
theorem RMAt.notFoot {w : World} {R m : Nat} {b : MB} {s : MS} {y : RMIt} (h : RMAt w R y) (hm : MpIn w m b s) : ¬ foot b s.A R := fun hf => by
 obtain ⟨es, cl, h1⟩ := hm.maps hf
 unfold RMAt at h
 rw [h] at h1
 cases h1
/-- a map, and the reference's row in the block R -/
structure PlIn (n0 R : Nat) (w9 w : World) (m : Nat) (b : MB) (s : MS) (y : RMIt) : Prop where
 map : MpIn w m b s
 ref : RMIn w y
 row : RMAt w R y
 low : ∀ z, foot b s.A z → n0 ≤ z
 up : n0 ≤ R
 below : Below n0 w9 w
section
variable {n0 R m : Nat} {w9 w w' : World} {b : MB} {s s' : MS} {y z : RMIt}
theorem PlIn.size (h : PlIn n0 R w9 w m b s y) : n0 ≤ w.heap.size := Nat.le_trans h.up (Nat.le_of_lt (lt_of_block h.row))
theorem PlIn.kept (h : PlIn n0 R w9 w m b s y) (hb : Below w.heap.size w w') : PlIn n0 R w9 w' m b s y :=
 ⟨h.map.kept_w hb, h.ref.keep hb, h.row.kept hb, h.low, h.up, h.below.trans (hb.mono h.size)⟩
theorem PlIn.set (h : PlIn n0 R w9 w m b s y) (hz : RMIn w z) : PlIn n0 R w9 (w.setRow R (rmRow z)) m b s z :=
 ⟨h.map.set3 h.row.sl3 (h.row.notFoot h.map) _, RMIn.not3 (R := R) hz h.row.sl3 (fun k9 hk9 => heap_setRow_other _ _ _ _ (fun e9 => hk9 e9.symm)), setRow_heap _ _ _ _ _ _ h.row, h.low, h.up, below_setRow h.below h.up _⟩
theorem PlIn.op (h : PlIn n0 R w9 w m b s y) {S : Nat → Prop} (hm : MpIn w' m b s') (hf : Fr S w w') (hS : ∀ k, S k → foot b s.A k) (hA : ∀ k, foot b s'.A k → foot b s.A k ∨ w.heap.size ≤ k) : PlIn n0 R w9 w' m b s' y := by
 have hk := h.map.keeps hf hS
 refine ⟨hm, PlKC.in h.ref hk, PlKC.at h.row hk, fun z hz => ?_, h.up, h.below.trans (hf.below h.size fun k hk => h.low k (hS k hk))⟩
 rcases hA z hz with h1 | h1
 ·exact h.low z h1
 ·exact Nat.le_trans h.size h1
/-- the copy goes on; the old one is applied to -/
theorem PlIn.copied (h : PlIn n0 R w9 w m b s y) {w1 : World} {m2 : Nat} {b2 : MB} {s2 : MS} {S : Nat → Prop} (hb : Below w.heap.size w w1) (hm1 : MpIn w1 m b s) (hm2 : MpIn w1 m2 b2 s2) (hl : ∀ k, foot b2 s2.A k → w.heap.size ≤ k) (hf : Fr S w1 w') (hS : ∀ k, S k → foot b s.A k) : PlIn n0 R w9 w' m2 b2 s2 y := by
 have hk := hm1.keeps hf hS
 have h1 := h.kept hb
 exact ⟨hm2.other hf hk fun k h2 h3 => by have := hl k h3; have := h.map.low (hS k h2); omega, PlKC.in h1.ref hk, PlKC.at h1.row hk, fun z hz => Nat.le_trans h.size (hl z hz), h.up, h1.below.trans (hf.below h1.size fun k hk => h.low k (hS k hk))⟩
end
theorem cell_setRow {w : World} {A R off : Nat} {v : Value} {cs : Array Value} (h : w.cell? ⟨A, off, none⟩ = some v) (hne : R ≠ A) : (w.setRow R cs).cell? ⟨A, off, none⟩ = some v := by
 unfold World.cell? at h ⊢
 simp only at h ⊢
 rw [heap_setRow_other _ _ _ _ hne]
 exact h
theorem nd_dots {s : MS} {r : RM} (h : Rel s r) : (r.kept.map (·.dot)).Nodup := by
 rw [h.kept, eventsOf_dots h.nd]
 exact (sortD_srt _).imp fun {a b} h e => by rw [e, dotLt_irrefl] at h; cases h
section
variable {s : MS} {y : RMIt} {n : Nat}
theorem callRA (hg : SGood s n) (hn : n ≤ 1000) (hr : Rel s y.rm) (e : Ev) (ax : Option Addr) (cx : Nat) (w : World) (h : RMIn w y) (hs : EvSmall e) (hd : DotsIn w ax e.over) :
 Calls Tryz.prog 16 #[rmVal y, evVal e ax cx] w fun x w' => ∃ z, x = .returned (.tuple #[rmVal z, .bool (apOk s e), .int .i64 (apErr s e)]) ∧ RMIn w' z ∧ z.rm = rmAp y.rm e ∧ Below w.heap.size w w' := by
 obtain ⟨h1, h2, h3⟩ := hg.sizes hr
 have h2' : y.K.length ≤ 2048 := by rw [← evsOf_length]; exact h2
 have h1' : y.ctx.length ≤ n := h1
 have h3' : y.dead.length ≤ 64 * n := h3
 have hc : y.ctx = s.ctx := hr.ctx
 refine (rApply_any y e ax cx w h ⟨by omega, by omega, by omega, fun d hd => hg.inv.ctxOk d (by rw [← hc]; exact hd)⟩ hs hd).mono ?_
 rintro x w' ⟨z, rfl, q1, q2, q3⟩
 exact ⟨z, by rw [hr.ok, hr.err], q1, q2, q3⟩
theorem callRF (hg : SGood s n) (hn : n ≤ 1000) (hr : Rel s y.rm) (d : Dot) (w : World) (h : RMIn w y) :
 Calls Tryz.prog 18 #[rmVal y, dotVal d] w fun x w' => ∃ z, x = .returned (.tuple #[rmVal z, .bool (fgOk s d)]) ∧ RMIn w' z ∧ z.rm = rmFg y.rm d ∧ Below w.heap.size w w' := by
 obtain ⟨h1, h2, h3⟩ := hg.sizes hr
 have h2' : y.K.length ≤ 2048 := by rw [← evsOf_length]; exact h2
 have h3' : y.dead.length ≤ 64 * n := h3
 refine (rForget21_any y d w (by omega) (by omega) (nd_dots hr) h).mono ?_
 rintro x w' ⟨z, rfl, q1, q2, q3⟩
 exact ⟨z, by rw [hr.okFg], q1, q2, q3⟩
theorem callRB (hg : SGood s n) (hr : Rel s y.rm) (d : Dot) (w : World) (h : RMIn w y) :
 Calls Tryz.prog 20 #[rmVal y, dotVal d] w fun x w' => ∃ z, x = .returned (.tuple #[rmVal z, .bool (brOk s d)]) ∧ RMIn w' z ∧ z.rm = rmBr y.rm d ∧ Below w.heap.size w w' := by
 obtain ⟨_, h2, _⟩ := hg.sizes hr
 have h2' : y.K.length ≤ 2048 := by rw [← evsOf_length]; exact h2
 refine (rBare21_any y d w (by omega) (nd_dots hr) h).mono ?_
 rintro x w' ⟨z, rfl, q1, q2, q3⟩
 exact ⟨z, by rw [hr.okBr], q1, q2, q3⟩
theorem callRC (hg : SGood s n) (hn : n ≤ 1000) (hr : Rel s y.rm) (d : Dot) (w : World) (h : RMIn w y) :
 Calls Tryz.prog 22 #[rmVal y, dotVal d] w fun x w' => ∃ z, x = .returned (.tuple #[rmVal z, .bool (clOk s d)]) ∧ RMIn w' z ∧ z.rm = rmCl y.rm d ∧ Below w.heap.size w w' := by
 obtain ⟨h1, h2, h3⟩ := hg.sizes hr
 have h1' : y.ctx.length ≤ n := h1
 have h2' : y.K.length ≤ 2048 := by rw [← evsOf_length]; exact h2
 have h3' : y.dead.length ≤ 64 * n := h3
 refine (rClear21_any y d w (by omega) (by omega) (by omega) h).mono ?_
 rintro x w' ⟨z, rfl, q1, q2, q3⟩
 exact ⟨z, by rw [hr.okCl], q1, q2, q3⟩
end
set_option maxRecDepth 100000 in
set_option maxHeartbeats 16000000 in
theorem lawPl_any (a : Option Addr) (ca : Nat) (ls : List OSt) (w : World) (hA : OstArg w a ls) :
 Calls Tryz.prog 3 #[.slice a ls.length ca] w fun x w' => x = .returned (.bool true) ∧ Below w.heap.size w w' := by
 have HL0 : ∀ X, OstIn X a ls → Calls Tryz.prog 13 #[.slice a ls.length ca, .int .i64 40] X fun x w' => x = .returned (.bool (lightO 40 ls)) ∧ Below X.heap.size X w' := fun X h => lightO_any a ca 40 ls X (by decide) hA.len h (fun x hx => ⟨(hA.each x hx).over, (hA.each x hx).name, (hA.each x hx).domain, (hA.each x hx).path, (hA.each x hx).value⟩)
 have HA := Lib.hid awake21_any
 have hEi := hA.sts
 have hdw0 := hA.dotw
 clear hA
 cases hli : lightO 40 ls with
 | false =>
   rw [hli] at HL0
   have HL := Lib.hid (HL0 w hEi)
   clear HL0 hli
   go_enter Tryz.func3, Tryz.ntmps3
   go_wp2_with (first
    | (go_at_call 13; (with_reducible refine HL.out.mono ?_); rintro x w1 ⟨rfl, hb1⟩)
    | (go_at_call 14; (with_reducible refine (HA.out _).mono ?_); rintro x w2 ⟨rfl, hb2⟩))
   go_ret
   exact ⟨rfl, hb1.trans (hb2.mono hb1.size)⟩
 | true =>
   have hls0 := hli
   unfold lightO at hls0
   simp only [Bool.and_eq_true, decide_eq_true_eq, List.all_eq_true] at hls0
   obtain ⟨hls, hsl0⟩ := hls0
   have HSS : Hid (∀ x ∈ ls, EvSmall x.2.1 ∧ DotW x.2.1.dot) := fun x hx => ⟨light_small (hsl0 x hx), hdw0 x hx⟩
   rw [hli] at HL0
   have HL := Lib.hid (HL0 w hEi)
   clear HL0 hli hsl0 hdw0
   have HN := Lib.hid (fun X => mNew_any X)
   go_enter Tryz.func3, Tryz.ntmps3
   go_upto_region 4 with (first
    | (go_at_call 13; (with_reducible refine HL.out.mono ?_); rintro x w9 ⟨rfl, hb9⟩)
    | (go_at_call 15; (with_reducible refine (HN.out _).mono ?_); rintro x w1 ⟨m, b, rfl, hm, hb1, hlo, hfo⟩))
   have hE9 := hEi.kept hb9
   clear HL HN hlo hEi
   go_upto_region 5 with fail
   refine wp_name (fun V hV => ?_)
   have hbM : Below w1.heap.size w1 V := by rw [hV.out]; exact (Below.refl _ _).alloc (Nat.le_refl _) _
   have hA0 : RMAt V w1.heap.size rm0 := by rw [hV.out]; exact heap_last0 _ _
   have hP0 : PlIn w9.heap.size w1.heap.size w9 V m b MS.empty rm0 := ⟨hm.kept_w hbM, rm0_in _, hA0, hfo, hb1.size, hb1.trans (hbM.mono hb1.size)⟩
   generalize w1.heap.size = R at *
   clear hV hbM hm hb1 hA0 hfo
   go_wp2
   go_loopw [3, 5] (fun u i wr => ∃ (j m : Nat) (b : MB) (s : MS) (y : RMIt), u = .pointer (some ⟨m, 0, none⟩) ∧ i = .int .i64 j ∧ j ≤ ls.length ∧ SGood s j ∧ Rel s y.rm ∧ PlIn w9.heap.size R w9 wr m b s y) (fun _ i _ => ls.length - (intOf i).toNat)
   case atStart => exact ⟨0, m, b, MS.empty, rm0, rfl, rfl, Nat.zero_le _, SGood.empty, Rel.empty, hP0⟩
   case round =>
    obtain ⟨j, m, b, s, y, rfl, rfl, hj, hg, hr, hP⟩ := hrel
    clear hP0
    have HG := Lib.hid hg
    have HR := Lib.hid hr
    have hcl := hg.ctx
    have hdl := hg.dead
    by_cases hlt : j < ls.length
    ·obtain ⟨A, off, rfl, k0, r1, hda⟩ := (hE9.kept hP.below).at hlt
     obtain ⟨hse, hdw⟩ := HSS.out _ (List.getElem_mem hlt)
     have HLT := Lib.hid hlt
     have hkl : j ≤ 40 := by omega
     generalize ls[j] = x at *
     obtain ⟨kd, e, ax, cx⟩ := x
     simp only [itEv] at r1
     simp only at hda hse hdw k0
     have hn0 : ax = none → e.over = [] := fun hn => by rcases hda with h | ⟨A, off, h3, _⟩; exact h; rw [hn] at h3; cases h3
     have HP := Lib.hid hP
     have HD := Lib.hid hda
     clear hP hda hg hr
     go_upto_region 9 with (first
      | ((with_reducible refine wpList_load_evo _ A (off + j * 20 + 1) e ax cx r1 ?_ rfl ?_); exact rfl)
      | (refine wpList_store_new 43 _ _ _ (evCells e ax cx).toArray rfl rfl (by kernel_rfl) rfl (by kernel_rfl) ?_))
     refine wp_name (fun V hV => ?_)
     have hbV : Below wr.heap.size wr V := by rw [hV.out]; exact (Below.refl _ _).alloc (Nat.le_refl _) _
     have hg6 : V.heap[wr.heap.size]? = some (.cells (evCells e ax cx).toArray 43 (0, 0)) := by rw [hV.out]; exact heap_last0 _ _
     have r6 : V.rangeAt wr.heap.size 0 (evCells e ax cx) := fun i v hv => by
      rw [Nat.zero_add]
      simp only [World.cell?, hg6]
      simpa using hv
     have hP := HP.out.kept hbV
     have hda := HD.out.kept hbV
     replace k0 := kept hbV k0
     have hR6 : R ≠ wr.heap.size := by have := lt_of_block HP.out.row; omega
     generalize wr.heap.size = B6 at *
     clear hV hbV HP HD r1 hg6
     go_upto_region 10 with fail
     refine wp_name (fun V9 hV9 => ?_)
     have hWe : V9 = V := hV9.out
     subst hWe
     clear hV9 k0
     have HP := Lib.hid hP
     have HD := Lib.hid hda
     obtain ⟨c0, c1, c2⟩ := hP.row.cells
     have p0 : V9.cell? ⟨B6, 0, none⟩ = some (.int .i64 e.dot.a.dev) := r6 0 _ rfl
     have p1 : V9.cell? ⟨B6, 1, none⟩ = some (.int .i64 e.dot.a.inc) := r6 1 _ rfl
     have p2 : V9.cell? ⟨B6, 2, none⟩ = some (.int .i64 e.dot.seq) := r6 2 _ rfl
     clear hP hda
     by_cases h1 : kd = 1
     ·subst h1
      have HRA := Lib.hid (callRA HG.out (by omega) HR.out e ax cx V9 HP.out.ref hse HD.out)
      have HSE := Lib.hid hse
      clear p0 p1 p2 hse hdw
      go_upto_region 12 with (first
       | ((with_reducible refine wpList_load_evo _ B6 0 e ax cx r6 ?_ rfl ?_); exact rfl)
       | (go_at_call 16; (with_reducible refine HRA.out.mono ?_); rintro v w1 ⟨z, rfl, hz1, hzr, hb1⟩)
       | (refine wpList_store_new 31 _ _ _ (rmRow z) rfl rfl (by kernel_rfl) rfl (by kernel_rfl) ?_))
      have hbB := (Below.refl w1.heap.size w1).alloc (Nat.le_refl _) (.cells (rmRow z) 31)
      have hA7 : RMAt (w1.alloc (.cells (rmRow z) 31)) w1.heap.size z := heap_last0 _ _
      obtain ⟨W1, hWe⟩ : ∃ W1, W1 = w1.alloc (.cells (rmRow z) 31) := ⟨_, rfl⟩
      rw [← hWe] at hbB hA7 ⊢
      have hbW := hb1.trans (hbB.mono hb1.size)
      have hP1 := HP.out.kept hbW
      have hzW := hz1.keep hbB
      have r7 := rangeAt_kept r6 hbW
      have hd7 := HD.out.kept hbW
      generalize w1.heap.size = B7 at *
      have HAp := Lib.hid (mApply_any e ax cx W1 hP1.map HG.out.inv HSE.out hd7 hn0 (by omega) (by omega))
      have HQ := Lib.hid (And.intro hP1 (And.intro hzW hA7))
      clear hWe hbB hb1 hz1 hbW r6 c0 c1 c2 hP1 hzW hd7 hA7 HRA
      go_upto_region 13 with (first
       | ((with_reducible refine wpList_load_evo _ B6 0 e ax cx r7 ?_ rfl ?_); exact rfl)
       | (go_at_call 17; (with_reducible refine HAp.out.mono ?_); rintro v w3 ⟨s2, rfl, hm3, hf3, hft3, hap3⟩))
      have hKC := HQ.out.1.map.keeps hf3 (fun _ h => h)
      have hP3 := HQ.out.1.op hm3 hf3 (fun _ h => h) hft3
      have hz3 := PlKC.in HQ.out.2.1 hKC
      obtain ⟨d0, d1, d2⟩ := (PlKC.at HQ.out.2.2 hKC).cells
      have hx3 := hP3.row
      have HS3 := Lib.hid (And.intro hP3 hz3)
      have HGR := Lib.hid (And.intro (HG.out.ap HSE.out hap3) (show Rel s2 z.rm by rw [hzr]; exact HR.out.any HG.out.inv hap3))
      have hxk : (apOk s e != apOk s e) = false := bne_self_eq_false _
      have hxe : (apErr s e != apErr s e) = false := bne_self_eq_false _
      have hXK := Lib.hid hxk
      generalize apOk s e = ok at *
      generalize apErr s e = er at *
      clear hm3 hf3 hft3 hap3 hKC hP3 hz3 HAp HQ r7
      unfold RMAt at hx3
      go_upto_region 35 with (refine wpList_store_row rfl 31 _ _ rfl R #[.slice z.ac z.ctx.length z.cc, .slice z.aK z.K.length z.cK, .slice z.ad z.dead.length z.cd] rfl rfl 31 _ hx3 (by kernel_rfl) rfl (by kernel_rfl) ?_)
      have hPZ := HS3.out.1.set HS3.out.2
      have hgZ : SGood s2 (j + 1) := HGR.out.1
      have hrZ : Rel s2 z.rm := HGR.out.2
      clear d0 d1 d2 hx3 HS3 HGR hzr
      have HIs := Lib.hid (fun (X : World) (h : MpIn X m b s2) (hI : RMIn X z) => isMap_any (isEnd (hgZ).inv (hrZ) (by have := (hgZ).ctx; omega) (by have := (hgZ).dead; omega) (hgZ).small) X h hI)
      have HGZ := Lib.hid (hgZ)
      have HRZ := Lib.hid (hrZ)
      have hmZ := hPZ.map
      have hIZ := hPZ.ref
      obtain ⟨e0, e1, e2⟩ := hPZ.row.cells
      have HPZ := Lib.hid hPZ
      clear hPZ
      go_wp2_with (go_at_call 25; (with_reducible refine (HIs.out _ hmZ hIZ).mono ?_); rintro v x9 ⟨rfl, hb9'⟩)
      have HF := Lib.hid (HPZ.out.kept hb9')
      clear hb9' hmZ hIZ e0 e1 e2 HPZ HIs
      go_roundw
      case rel => exact ⟨j + 1, m, b, s2, z, rfl, by go_num, HLT.out, HGZ.out, HRZ.out, HF.out⟩
      case measure => have := HLT.out; simp [intOf] <;> omega
     have hb1 : (kd == 1) = false := beq_eq_false_iff_ne.2 h1
     by_cases h2 : kd = 2
     ·subst h2
      have HRA := Lib.hid (callRF HG.out (by omega) HR.out e.dot V9 HP.out.ref)
      clear r6 hse hn0 h1 hb1
      go_upto_region 18 with (first
       | (go_at_call 18; (with_reducible refine HRA.out.mono ?_); rintro v w1 ⟨z, rfl, hz1, hzr, hb1'⟩)
       | (refine wpList_store_new 31 _ _ _ (rmRow z) rfl rfl (by kernel_rfl) rfl (by kernel_rfl) ?_))
      have hbB := (Below.refl w1.heap.size w1).alloc (Nat.le_refl _) (.cells (rmRow z) 31)
      have hA7 : RMAt (w1.alloc (.cells (rmRow z) 31)) w1.heap.size z := heap_last0 _ _
      obtain ⟨W1, hWe⟩ : ∃ W1, W1 = w1.alloc (.cells (rmRow z) 31) := ⟨_, rfl⟩
      rw [← hWe] at hbB hA7 ⊢
      have hbW := hb1'.trans (hbB.mono hb1'.size)
      have hP1 := HP.out.kept hbW
      have hzW := hz1.keep hbB
      replace p0 := kept hbW p0
      replace p1 := kept hbW p1
      replace p2 := kept hbW p2
      generalize w1.heap.size = B7 at *
      obtain ⟨d0, d1, d2⟩ := hA7.cells
      have hx3 := hP1.row
      have HQ := Lib.hid (And.intro hP1 hzW)
      clear hWe hbB hb1' hz1 hbW c0 c1 c2 hP1 hzW hA7 HRA
      unfold RMAt at hx3
      go_upto_region 19 with (refine wpList_store_row rfl 31 _ _ rfl R #[.slice z.ac z.ctx.length z.cc, .slice z.aK z.K.length z.cK, .slice z.ad z.dead.length z.cd] rfl rfl 31 _ hx3 (by kernel_rfl) rfl (by kernel_rfl) ?_)
      have hP2 := HQ.out.1.set HQ.out.2
      replace p0 := cell_setRow (cs := rmRow z) p0 hR6
      replace p1 := cell_setRow (cs := rmRow z) p1 hR6
      replace p2 := cell_setRow (cs := rmRow z) p2 hR6
      obtain ⟨W2, hWe⟩ : ∃ W2, W2 = W1.setRow R (rmRow z) := ⟨_, rfl⟩
      rw [← hWe] at hP2 p0 p1 p2 ⊢
      have HCa := Lib.hid (mForget_any e.dot hdw W2 hP2.map)
      have HP2 := Lib.hid hP2
      have hxk : (fgOk s e.dot != fgOk s e.dot) = false := bne_self_eq_false _
      clear hWe hx3 HQ d0 d1 d2 hP2
      go_upto_region 35 with (go_at_call 19; (with_reducible refine HCa.out.mono ?_); rintro v w3 ⟨rfl, hm3, hf3⟩)
      have hPZ := HP2.out.op hm3 hf3 (fun k hk => by rw [show k = b.kb from hk]; exact foot_kb b _) (fun k hk => Or.inl (by rw [fgMS_A s e.dot] at hk; exact hk))
      have hgZ : SGood (fgMS s e.dot) (j + 1) := HG.out.fg e.dot
      have hrZ : Rel (fgMS s e.dot) z.rm := by rw [hzr]; exact HR.out.fg e.dot
      clear hm3 hf3 HCa HP2 p0 p1 p2 hxk
      have HIs := Lib.hid (fun (X : World) (h : MpIn X m b (fgMS s e.dot)) (hI : RMIn X z) => isMap_any (isEnd (hgZ).inv (hrZ) (by have := (hgZ).ctx; omega) (by have := (hgZ).dead; omega) (hgZ).small) X h hI)
      have HGZ := Lib.hid (hgZ)
      have HRZ := Lib.hid (hrZ)
      have hmZ := hPZ.map
      have hIZ := hPZ.ref
      obtain ⟨e0, e1, e2⟩ := hPZ.row.cells
      have HPZ := Lib.hid hPZ
      clear hPZ
      go_wp2_with (go_at_call 25; (with_reducible refine (HIs.out _ hmZ hIZ).mono ?_); rintro v x9 ⟨rfl, hb9'⟩)
      have HF := Lib.hid (HPZ.out.kept hb9')
      clear hb9' hmZ hIZ e0 e1 e2 HPZ HIs
      go_roundw
      case rel => exact ⟨j + 1, m, b, (fgMS s e.dot), z, rfl, by go_num, HLT.out, HGZ.out, HRZ.out, HF.out⟩
      case measure => have := HLT.out; simp [intOf] <;> omega
     have hb2 : (kd == 2) = false := beq_eq_false_iff_ne.2 h2
     by_cases h3 : kd = 3
     ·subst h3
      have HRA := Lib.hid (callRB HG.out HR.out e.dot V9 HP.out.ref)
      clear r6 hse hn0 h1 hb1 h2 hb2
      go_upto_region 23 with (first
       | (go_at_call 20; (with_reducible refine HRA.out.mono ?_); rintro v w1 ⟨z, rfl, hz1, hzr, hb1'⟩)
       | (refine wpList_store_new 31 _ _ _ (rmRow z) rfl rfl (by kernel_rfl) rfl (by kernel_rfl) ?_))
      have hbB := (Below.refl w1.heap.size w1).alloc (Nat.le_refl _) (.cells (rmRow z) 31)
      have hA7 : RMAt (w1.alloc (.cells (rmRow z) 31)) w1.heap.size z := heap_last0 _ _
      obtain ⟨W1, hWe⟩ : ∃ W1, W1 = w1.alloc (.cells (rmRow z) 31) := ⟨_, rfl⟩
      rw [← hWe] at hbB hA7 ⊢
      have hbW := hb1'.trans (hbB.mono hb1'.size)
      have hP1 := HP.out.kept hbW
      have hzW := hz1.keep hbB
      replace p0 := kept hbW p0
      replace p1 := kept hbW p1
      replace p2 := kept hbW p2
      generalize w1.heap.size = B7 at *
      obtain ⟨d0, d1, d2⟩ := hA7.cells
      have hx3 := hP1.row
      have HQ := Lib.hid (And.intro hP1 hzW)
      clear hWe hbB hb1' hz1 hbW c0 c1 c2 hP1 hzW hA7 HRA
      unfold RMAt at hx3
      go_upto_region 24 with (refine wpList_store_row rfl 31 _ _ rfl R #[.slice z.ac z.ctx.length z.cc, .slice z.aK z.K.length z.cK, .slice z.ad z.dead.length z.cd] rfl rfl 31 _ hx3 (by kernel_rfl) rfl (by kernel_rfl) ?_)
      have hP2 := HQ.out.1.set HQ.out.2
      replace p0 := cell_setRow (cs := rmRow z) p0 hR6
      replace p1 := cell_setRow (cs := rmRow z) p1 hR6
      replace p2 := cell_setRow (cs := rmRow z) p2 hR6
      obtain ⟨W2, hWe⟩ : ∃ W2, W2 = W1.setRow R (rmRow z) := ⟨_, rfl⟩
      rw [← hWe] at hP2 p0 p1 p2 ⊢
      have HCa := Lib.hid (mBareG e.dot hdw W2 hP2.map HG.out)
      have HP2 := Lib.hid hP2
      have hxk : (brOk s e.dot != brOk s e.dot) = false := bne_self_eq_false _
      clear hWe hx3 HQ d0 d1 d2 hP2
      go_upto_region 35 with (go_at_call 21; (with_reducible refine HCa.out.mono ?_); rintro v w3 ⟨s3, rfl, hm3, hg3, hA3, hs3, hf3⟩)
      have hPZ := HP2.out.op hm3 hf3 (fun k hk => by rw [show k = b.kb from hk]; exact foot_kb b _) (fun k hk => Or.inl (by rw [hA3] at hk; exact hk))
      have hgZ : SGood s3 (j + 1) := hg3
      have hrZ : Rel s3 z.rm := by rw [hzr]; exact HR.out.br e.dot hg3.nd hs3
      clear hm3 hf3 HCa HP2 p0 p1 p2 hxk
      clear hg3 hA3 hs3
      have HIs := Lib.hid (fun (X : World) (h : MpIn X m b s3) (hI : RMIn X z) => isMap_any (isEnd (hgZ).inv (hrZ) (by have := (hgZ).ctx; omega) (by have := (hgZ).dead; omega) (hgZ).small) X h hI)
      have HGZ := Lib.hid (hgZ)
      have HRZ := Lib.hid (hrZ)
      have hmZ := hPZ.map
      have hIZ := hPZ.ref
      obtain ⟨e0, e1, e2⟩ := hPZ.row.cells
      have HPZ := Lib.hid hPZ
      clear hPZ
      go_wp2_with (go_at_call 25; (with_reducible refine (HIs.out _ hmZ hIZ).mono ?_); rintro v x9 ⟨rfl, hb9'⟩)
      have HF := Lib.hid (HPZ.out.kept hb9')
      clear hb9' hmZ hIZ e0 e1 e2 HPZ HIs
      go_roundw
      case rel => exact ⟨j + 1, m, b, s3, z, rfl, by go_num, HLT.out, HGZ.out, HRZ.out, HF.out⟩
      case measure => have := HLT.out; simp [intOf] <;> omega
     have hb3 : (kd == 3) = false := beq_eq_false_iff_ne.2 h3
     by_cases h4 : kd = 4
     ·subst h4
      have HRA := Lib.hid (callRC HG.out (by omega) HR.out e.dot V9 HP.out.ref)
      clear r6 hse hn0 h1 hb1 h2 hb2 h3 hb3
      go_upto_region 28 with (first
       | (go_at_call 22; (with_reducible refine HRA.out.mono ?_); rintro v w1 ⟨z, rfl, hz1, hzr, hb1'⟩)
       | (refine wpList_store_new 31 _ _ _ (rmRow z) rfl rfl (by kernel_rfl) rfl (by kernel_rfl) ?_))
      have hbB := (Below.refl w1.heap.size w1).alloc (Nat.le_refl _) (.cells (rmRow z) 31)
      have hA7 : RMAt (w1.alloc (.cells (rmRow z) 31)) w1.heap.size z := heap_last0 _ _
      obtain ⟨W1, hWe⟩ : ∃ W1, W1 = w1.alloc (.cells (rmRow z) 31) := ⟨_, rfl⟩
      rw [← hWe] at hbB hA7 ⊢
      have hbW := hb1'.trans (hbB.mono hb1'.size)
      have hP1 := HP.out.kept hbW
      have hzW := hz1.keep hbB
      replace p0 := kept hbW p0
      replace p1 := kept hbW p1
      replace p2 := kept hbW p2
      generalize w1.heap.size = B7 at *
      obtain ⟨d0, d1, d2⟩ := hA7.cells
      have hx3 := hP1.row
      have HQ := Lib.hid (And.intro hP1 hzW)
      clear hWe hbB hb1' hz1 hbW c0 c1 c2 hP1 hzW hA7 HRA
      unfold RMAt at hx3
      go_upto_region 29 with (refine wpList_store_row rfl 31 _ _ rfl R #[.slice z.ac z.ctx.length z.cc, .slice z.aK z.K.length z.cK, .slice z.ad z.dead.length z.cd] rfl rfl 31 _ hx3 (by kernel_rfl) rfl (by kernel_rfl) ?_)
      have hP2 := HQ.out.1.set HQ.out.2
      replace p0 := cell_setRow (cs := rmRow z) p0 hR6
      replace p1 := cell_setRow (cs := rmRow z) p1 hR6
      replace p2 := cell_setRow (cs := rmRow z) p2 hR6
      obtain ⟨W2, hWe⟩ : ∃ W2, W2 = W1.setRow R (rmRow z) := ⟨_, rfl⟩
      rw [← hWe] at hP2 p0 p1 p2 ⊢
      have HCa := Lib.hid (mClear_any e.dot hdw W2 hP2.map)
      have HP2 := Lib.hid hP2
      have hxk : (clOk s e.dot != clOk s e.dot) = false := bne_self_eq_false _
      clear hWe hx3 HQ d0 d1 d2 hP2
      go_upto_region 35 with (go_at_call 23; (with_reducible refine HCa.out.mono ?_); rintro v w3 ⟨rfl, hm3, hf3⟩)
      have hPZ := HP2.out.op hm3 hf3 (fun k hk => by rw [show k = b.db from hk]; exact foot_db b _) (fun k hk => Or.inl (by rw [clMS_A s e.dot] at hk; exact hk))
      have hgZ : SGood (clMS s e.dot) (j + 1) := HG.out.cl e.dot
      have hrZ : Rel (clMS s e.dot) z.rm := by rw [hzr]; exact HR.out.cl e.dot
      clear hm3 hf3 HCa HP2 p0 p1 p2 hxk
      have HIs := Lib.hid (fun (X : World) (h : MpIn X m b (clMS s e.dot)) (hI : RMIn X z) => isMap_any (isEnd (hgZ).inv (hrZ) (by have := (hgZ).ctx; omega) (by have := (hgZ).dead; omega) (hgZ).small) X h hI)
      have HGZ := Lib.hid (hgZ)
      have HRZ := Lib.hid (hrZ)
      have hmZ := hPZ.map
      have hIZ := hPZ.ref
      obtain ⟨e0, e1, e2⟩ := hPZ.row.cells
      have HPZ := Lib.hid hPZ
      clear hPZ
      go_wp2_with (go_at_call 25; (with_reducible refine (HIs.out _ hmZ hIZ).mono ?_); rintro v x9 ⟨rfl, hb9'⟩)
      have HF := Lib.hid (HPZ.out.kept hb9')
      clear hb9' hmZ hIZ e0 e1 e2 HPZ HIs
      go_roundw
      case rel => exact ⟨j + 1, m, b, (clMS s e.dot), z, rfl, by go_num, HLT.out, HGZ.out, HRZ.out, HF.out⟩
      case measure => have := HLT.out; simp [intOf] <;> omega
     have hb4 : (kd == 4) = false := beq_eq_false_iff_ne.2 h4
     by_cases h5 : kd = 5
     ·subst h5
      have HCp := Lib.hid (mCopy_any HG.out (by omega) V9 HP.out.map)
      have HSE := Lib.hid hse
      clear p0 p1 p2 hse hdw c0 c1 c2 h1 hb1 h2 hb2 h3 hb3 h4 hb4
      go_upto_region 34 with (go_at_call 24; (with_reducible refine HCp.out.mono ?_); rintro v w1 ⟨m2, b2, s2, rfl, hm1, hm2, hg2, hr2, hf2, hbW⟩)
      have r7 := rangeAt_kept r6 hbW
      have hd7 := HD.out.kept hbW
      have HAp := Lib.hid (mApply_any e ax cx w1 hm1 HG.out.inv HSE.out hd7 hn0 (by omega) (by omega))
      have HQ := Lib.hid (And.intro hm1 (And.intro hm2 (And.intro hf2 hbW)))
      clear hm1 hm2 hf2 hbW hd7 r6 HCp
      go_upto_region 35 with (first
       | ((with_reducible refine wpList_load_evo _ B6 0 e ax cx r7 ?_ rfl ?_); exact rfl)
       | (go_at_call 17; (with_reducible refine HAp.out.mono ?_); rintro v w3 ⟨s3, rfl, _, hf3, _, _⟩))
      have hPZ := HP.out.copied HQ.out.2.2.2 HQ.out.1 HQ.out.2.1 HQ.out.2.2.1 hf3 (fun _ h => h)
      have hgZ : SGood s2 (j + 1) := hg2.mono (Nat.le_succ j)
      have hrZ : Rel s2 y.rm := by rw [HR.out.uniq HG.out.rel]; exact hr2
      clear hg2 hr2 hf3 HAp HQ r7
      have HIs := Lib.hid (fun (X : World) (h : MpIn X m2 b2 s2) (hI : RMIn X y) => isMap_any (isEnd (hgZ).inv (hrZ) (by have := (hgZ).ctx; omega) (by have := (hgZ).dead; omega) (hgZ).small) X h hI)
      have HGZ := Lib.hid (hgZ)
      have HRZ := Lib.hid (hrZ)
      have hmZ := hPZ.map
      have hIZ := hPZ.ref
      obtain ⟨e0, e1, e2⟩ := hPZ.row.cells
      have HPZ := Lib.hid hPZ
      clear hPZ
      go_wp2_with (go_at_call 25; (with_reducible refine (HIs.out _ hmZ hIZ).mono ?_); rintro v x9 ⟨rfl, hb9'⟩)
      have HF := Lib.hid (HPZ.out.kept hb9')
      clear hb9' hmZ hIZ e0 e1 e2 HPZ HIs
      go_roundw
      case rel => exact ⟨j + 1, m2, b2, s2, y, rfl, by go_num, HLT.out, HGZ.out, HRZ.out, HF.out⟩
      case measure => have := HLT.out; simp [intOf] <;> omega
     have hb5 : (kd == 5) = false := beq_eq_false_iff_ne.2 h5
     clear p0 p1 p2 hse hdw c0 c1 c2 h1 h2 h3 h4 h5 r6
     go_upto_region 35 with fail
     have hPZ := HP.out
     have hgZ : SGood s (j + 1) := HG.out.mono (Nat.le_succ j)
     have hrZ := HR.out
     have HIs := Lib.hid (fun (X : World) (h : MpIn X m b s) (hI : RMIn X y) => isMap_any (isEnd (hgZ).inv (hrZ) (by have := (hgZ).ctx; omega) (by have := (hgZ).dead; omega) (hgZ).small) X h hI)
     have HGZ := Lib.hid (hgZ)
     have HRZ := Lib.hid (hrZ)
     have hmZ := hPZ.map
     have hIZ := hPZ.ref
     obtain ⟨e0, e1, e2⟩ := hPZ.row.cells
     have HPZ := Lib.hid hPZ
     clear hPZ
     go_wp2_with (go_at_call 25; (with_reducible refine (HIs.out _ hmZ hIZ).mono ?_); rintro v x9 ⟨rfl, hb9'⟩)
     have HF := Lib.hid (HPZ.out.kept hb9')
     clear hb9' hmZ hIZ e0 e1 e2 HPZ HIs
     go_roundw
     case rel => exact ⟨j + 1, m, b, s, y, rfl, by go_num, HLT.out, HGZ.out, HRZ.out, HF.out⟩
     case measure => have := HLT.out; simp [intOf] <;> omega
    ·obtain rfl : j = ls.length := by omega
     have hB := hb9.trans (hP.below.mono hb9.size)
     clear hg hr hP
     go_wp2_with (go_at_call 14; (with_reducible refine (HA.out _).mono ?_); rintro x w10 ⟨rfl, hb10⟩)
     go_ret
     exact ⟨rfl, hB.trans (hb10.mono hB.size)⟩
end Go.Proofs.YtpbobhfnglikmaaGreat
