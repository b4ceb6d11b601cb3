/- The law OrmapBack, walked. Conditions: none. -/
import Derived.Test.YtcijajjngmmbeaaGreatStepP
import Derived.Test.YtcijajjngmmbeaaGreatOst
import Derived.Test.YtcijajjngmmbeaaGreatIs
set_option linter.unusedSimpArgs false
set_option linter.unusedVariables false
set_option linter.unnecessarySimpa false
namespace Go.Proofs.YtcijajjngmmbeaaGreat
open Go.RowKit

theorem ctxCap {m : Nat} {b : MB} {s : MS} (w : World) (h : MpIn w m b s) (hi : MInv s) (hl : s.ctx.length ≤ 4096) :
    Calls Tryz.prog 37 #[.pointer (some ⟨m, 0, none⟩)] w fun e w' => ∃ a c, e = .returned (.slice a s.ctx.length c) ∧ DotsIn w' a s.ctx ∧ s.ctx.length ≤ c ∧ Below w.heap.size w w' := by
  refine (mContext_any w h hi.ctx (by omega)).mono ?_
  rintro e w' ⟨x, rfl, hown, hb⟩
  obtain ⟨a, c, rfl, hd⟩ := own_marks hown
  obtain ⟨a2, c2, he, _, hc⟩ := own_cellsIn hown
  obtain ⟨rfl, rfl⟩ := slice_inj he
  exact ⟨a, c, rfl, hd, hc, hb⟩
theorem evsCap {m : Nat} {b : MB} {s : MS} (w : World) (h : MpIn w m b s) (hi : MInv s) :
    Calls Tryz.prog 51 #[.pointer (some ⟨m, 0, none⟩)] w fun e w' => ∃ a d c, e = .returned (.slice a d.length c) ∧ EvsIn w' a d ∧ evsOf d = eventsOf s ∧ d.length ≤ c ∧ Below w.heap.size w w' := by
  refine (mEvents_any w h hi.len (fun x hx => (evOk_parts (hi.kept x hx).1).2.2.1) hi.dots).mono ?_
  rintro e w' ⟨a, d, c, rfl, h1, ⟨h2, h4, _⟩, h3⟩
  exact ⟨a, d, c, rfl, h1, h2, h4, h3⟩
theorem deadsCap {m : Nat} {b : MB} {s : MS} (w : World) (h : MpIn w m b s) (hi : MInv s) (hl : s.dead.length ≤ 65536) :
    Calls Tryz.prog 56 #[.pointer (some ⟨m, 0, none⟩)] w fun e w' => ∃ a c, e = .returned (.slice a (sortD s.dead).length c) ∧ DotsIn w' a (sortD s.dead) ∧ (sortD s.dead).length ≤ c ∧ Below w.heap.size w w' := by
  refine (mDeads_any w h (by omega) (fun d hd => dotOk_W (hi.dead d hd))).mono ?_
  rintro e w' ⟨v, rfl, h1, _, h3⟩
  obtain ⟨a, c, rfl, hd⟩ := own_dots h1
  obtain ⟨a2, c2, he, _, hc⟩ := own_cellsIn h1
  obtain ⟨rfl, rfl⟩ := slice_inj he
  exact ⟨a, c, rfl, hd, hc, h3⟩
/-- a step's dot, of a row of steps -/
theorem MpIn.fgKept {w w' : World} {m : Nat} {b : MB} {s s' : MS} {B : Nat} {S : Nat → Prop} (hf : Fr S w w') (hS : ∀ k, S k → foot b s.A k) (hA : s'.A = s.A) (hlow : ∀ k, foot b s.A k → B ≤ k) (hB : B ≤ w.heap.size) : (∀ k, foot b s'.A k → B ≤ k) ∧ Below B w w' :=
  ⟨fun k hk => hlow k (by rw [← hA]; exact hk), hf.below hB (fun k hk => hlow k (hS k hk))⟩
theorem fgMS_A (s : MS) (d : Dot) : (fgMS s d).A = s.A := by unfold fgMS; split <;> rfl
theorem clMS_A (s : MS) (d : Dot) : (clMS s d).A = s.A := by unfold clMS; split <;> rfl
theorem mBareG {m : Nat} {b : MB} {s : MS} {n : Nat} (d : Dot) (hd : DotW d) (w : World) (h : MpIn w m b s) (hg : SGood s n) :
    Calls Tryz.prog 46 #[.pointer (some ⟨m, 0, none⟩), dotVal d] w fun x w' => ∃ s', x = .returned (.bool (brOk s d)) ∧ MpIn w' m b s' ∧ SGood s' (n + 1) ∧ s'.A = s.A ∧ (if brOk s d = true then ∃ y ∈ s.K, y.1.dot = d ∧ s' = { s with K := bareIt y :: lessK s.K d } else s' = s) ∧ Fr (isR b.kb) w w' := by
  refine (mBare_any d hd w h hg.inv.len).mono ?_
  rintro x w' (⟨h1, rfl, h2, h3⟩ | ⟨h1, rfl, y, hy, hyd, h2, h3⟩)
  · exact ⟨s, by rw [h1], h2, hg.mono (Nat.le_succ n), rfl, by rw [h1]; rfl, h3⟩
  · exact ⟨_, by rw [h1], h2, hg.br hy hyd h1, rfl, by rw [h1, if_pos rfl]; exact ⟨y, hy, hyd, rfl⟩, h3⟩

set_option maxRecDepth 100000 in
set_option maxHeartbeats 16000000 in
theorem lawBk_any (a a2 : Option Addr) (ca c2 : Nat) (ls : List OSt) (os : List EvIt) (w : World) (hA : OstArg w a ls) (hO : EvsArg w a2 os) :
    Calls Tryz.prog 13 #[.slice a ls.length ca, .slice a2 os.length c2] w fun x w' => x = .returned (.bool true) ∧ Below w.heap.size w w' := by
  have HL0 : ∀ X, OstIn X a ls → Calls Tryz.prog 41 #[.slice a ls.length ca, .int .i64 40] X fun x w' => x = .returned (.bool (lightO 40 ls)) ∧ Below X.heap.size X w' := fun X h => lightO_any a ca 40 ls X (by decide) hA.len h (fun x hx => ⟨(hA.each x hx).over, (hA.each x hx).name, (hA.each x hx).domain, (hA.each x hx).path, (hA.each x hx).value⟩)
  have HO0 : ∀ X, EvsIn X a2 os → Calls Tryz.prog 14 #[.slice a2 os.length c2, .int .i64 20] X fun x w' => x = .returned (.bool (lightAll 20 (evsOf os))) ∧ Below X.heap.size X w' := fun X h => LightAll_any a2 c2 20 os X (by decide) hO.len h (fun x hx => ⟨(hO.each x hx).over, (hO.each x hx).name, (hO.each x hx).domain, (hO.each x hx).path, (hO.each x hx).value⟩)
  have HA := Lib.hid awake21_any
  have hEi := hA.sts
  have hOi := hO.evs
  have hdw0 := hA.dotw
  clear hA hO
  cases hli : lightO 40 ls with
  | false =>
    rw [hli] at HL0
    have HL := Lib.hid (HL0 w hEi)
    clear HL0 HO0 hli
    go_enter Tryz.func13, Tryz.ntmps13
    go_wp2_with (first
      | (go_at_call 41; (with_reducible refine HL.out.mono ?_); rintro x w1 ⟨rfl, hb1⟩)
      | (go_at_call 15; (with_reducible refine (HA.out _).mono ?_); rintro x w2 ⟨rfl, hb2⟩))
    go_ret
    exact ⟨rfl, hb1.trans (hb2.mono hb1.size)⟩
  | true =>
    have hls0 := hli
    unfold lightO at hls0
    simp only [Bool.and_eq_true, decide_eq_true_eq, List.all_eq_true] at hls0
    obtain ⟨hls, hsl0⟩ := hls0
    have HSS : Hid (∀ x ∈ ls, EvSmall x.2.1 ∧ DotW x.2.1.dot) := fun x hx => ⟨light_small (hsl0 x hx), hdw0 x hx⟩
    rw [hli] at HL0
    have HL := Lib.hid (HL0 w hEi)
    clear HL0 hli hsl0 hdw0
    cases hlo : lightAll 20 (evsOf os) with
    | false =>
      rw [hlo] at HO0
      have HO := Lib.hid HO0
      clear HO0 hlo
      go_enter Tryz.func13, Tryz.ntmps13
      go_wp2_with (first
        | (go_at_call 41; (with_reducible refine HL.out.mono ?_); rintro x w1 ⟨rfl, hb1⟩; have hO1 := hOi.kept hb1)
        | (go_at_call 14; (with_reducible refine (HO.out _ hO1).mono ?_); rintro x w2 ⟨rfl, hb2⟩)
        | (go_at_call 15; (with_reducible refine (HA.out _).mono ?_); rintro x w3 ⟨rfl, hb3⟩))
      go_ret
      exact ⟨rfl, (hb1.trans (hb2.mono hb1.size)).trans (hb3.mono (Nat.le_trans hb1.size hb2.size))⟩
    | true =>
      obtain ⟨hlo2, hso⟩ := light_evs hlo
      rw [hlo] at HO0
      have HO := Lib.hid HO0
      have HSO := Lib.hid hso
      have HN := Lib.hid (fun X => mNew_any X)
      clear HO0 hlo hso
      go_enter Tryz.func13, Tryz.ntmps13
      go_upto_region 4 with (first
        | (go_at_call 41; (with_reducible refine HL.out.mono ?_); rintro x w1 ⟨rfl, hb1⟩; have hO1 := hOi.kept hb1)
        | (go_at_call 14; (with_reducible refine (HO.out _ hO1).mono ?_); rintro x w9 ⟨rfl, hb9⟩)
        | (go_at_call 16; (with_reducible refine (HN.out _).mono ?_); rintro x w2 ⟨m, b, rfl, hm, hb2, hlm, hfo⟩))
      have hw9 := hb1.trans (hb9.mono hb1.size)
      have hE9 := hEi.kept hw9
      have hO9 := hOi.kept hw9
      clear hb1 hb9 hO1 HL HO HN hEi hOi hlm
      go_wp2
      go_loopw [6] (fun i wr => ∃ (j : Nat) (s : MS), i = .int .i64 j ∧ j ≤ ls.length ∧ MpIn wr m b s ∧ SGood s j ∧ (∀ z, foot b s.A z → w9.heap.size ≤ z) ∧ Below w9.heap.size w9 wr) (fun i _ => ls.length - (intOf i).toNat)
      case atStart => exact ⟨0, MS.empty, rfl, Nat.zero_le _, hm, SGood.empty, hfo, hb2⟩
      case round =>
        obtain ⟨j, s, rfl, hj, hmr, hg, hfr, hbr⟩ := hrel
        clear hm hfo hb2
        have HG := Lib.hid hg
        have hcl := hg.ctx
        have hdl := hg.dead
        by_cases hlt : j < ls.length
        · obtain ⟨A, off, rfl, k0, r1, hda⟩ := (hE9.kept hbr).at hlt
          obtain ⟨hse, hdw⟩ := HSS.out _ (List.getElem_mem hlt)
          have HLT := Lib.hid hlt
          have hkl : j ≤ 40 := by omega
          generalize ls[j] = x at *
          obtain ⟨kd, e, ax, cx⟩ := x
          simp only [itEv] at r1
          simp only at hda hse hdw k0
          have p0 : wr.cell? ⟨A, off + j * 20 + 1, none⟩ = some (.int .i64 e.dot.a.dev) := r1 0 _ rfl
          have p1 : wr.cell? ⟨A, off + j * 20 + 2, none⟩ = some (.int .i64 e.dot.a.inc) := r1 1 _ rfl
          have p2 : wr.cell? ⟨A, off + j * 20 + 3, none⟩ = some (.int .i64 e.dot.seq) := r1 2 _ rfl
          have hn0 : ax = none → e.over = [] := fun hn => by rcases hda with h | ⟨A, off, h3, _⟩; exact h; rw [hn] at h3; cases h3
          have HB := Lib.hid (And.intro hbr (And.intro hfr hmr))
          by_cases h1 : kd = 1
          · subst h1
            have HAp := Lib.hid (mApply_any e ax cx wr hmr hg.inv hse hda hn0 (by omega) (by omega))
            have HSE := Lib.hid hse
            clear hse hda hmr hfr hg hbr hn0 p0 p1 p2 hdw hcl hdl
            go_wp2_with (first
              | ((with_reducible refine wpList_load_evo _ A (off + j * 20 + 1) e ax cx r1 ?_ rfl ?_); exact rfl)
              | (go_at_call 17; (with_reducible refine HAp.out.mono ?_); rintro v w3 ⟨s2, rfl, hm3, hf3, hft3, hap3⟩))
            have HZ : Hid (MpIn w3 m b s2 ∧ SGood s2 (j + 1) ∧ (∀ z, foot b s2.A z → w9.heap.size ≤ z) ∧ Below w9.heap.size w9 w3) := by
              obtain ⟨hbr, hfr, hmr⟩ := HB.out
              refine ⟨hm3, HG.out.ap HSE.out hap3, fun z hz => ?_, hbr.trans (hf3.below hbr.size hfr)⟩
              rcases hft3 z hz with h3 | h3
              · exact hfr z h3
              · exact Nat.le_trans hbr.size h3
            clear hm3 hf3 hft3 hap3 HAp r1 k0
            go_roundw
            case rel => exact ⟨j + 1, s2, by go_num, HLT.out, HZ.out.1, HZ.out.2.1, HZ.out.2.2.1, HZ.out.2.2.2⟩
            case measure => have := HLT.out; simp [intOf] <;> omega
          have hb1 : (kd == 1) = false := beq_eq_false_iff_ne.2 h1
          by_cases h2 : kd = 2
          · subst h2
            have HCa := Lib.hid (mForget_any e.dot hdw wr hmr)
            clear hse hda hmr hfr hg hbr hn0 hcl hdl hdw r1 h1 hb1
            go_wp2_with (go_at_call 44; (with_reducible refine HCa.out.mono ?_); rintro v w3 ⟨rfl, hm3, hf3⟩)
            have HZ : Hid (MpIn w3 m b (fgMS s e.dot) ∧ SGood (fgMS s e.dot) (j + 1) ∧ (∀ z, foot b (fgMS s e.dot).A z → w9.heap.size ≤ z) ∧ Below w9.heap.size w9 w3) := by
              obtain ⟨hbr, hfr, hmr⟩ := HB.out
              obtain ⟨g1, g2⟩ := MpIn.fgKept (m := m) (s' := (fgMS s e.dot)) hf3 (fun k hk => by rw [show k = b.kb from hk]; exact foot_kb b _) (fgMS_A s e.dot) hfr hbr.size
              exact ⟨hm3, HG.out.fg e.dot, g1, hbr.trans g2⟩
            clear hm3 hf3 HCa k0 p0 p1 p2
            go_roundw
            case rel => exact ⟨j + 1, _, by go_num, HLT.out, HZ.out.1, HZ.out.2.1, HZ.out.2.2.1, HZ.out.2.2.2⟩
            case measure => have := HLT.out; simp [intOf] <;> omega
          have hb2 : (kd == 2) = false := beq_eq_false_iff_ne.2 h2
          by_cases h3 : kd = 3
          · subst h3
            have HCa := Lib.hid (mBareG e.dot hdw wr hmr hg)
            clear hse hda hmr hfr hg hbr hn0 hcl hdl hdw r1 h1 hb1 h2 hb2
            go_wp2_with (go_at_call 46; (with_reducible refine HCa.out.mono ?_); rintro v w3 ⟨s3, rfl, hm3, hg3, hA3, _, hf3⟩)
            have HZ : Hid (MpIn w3 m b s3 ∧ SGood s3 (j + 1) ∧ (∀ z, foot b s3.A z → w9.heap.size ≤ z) ∧ Below w9.heap.size w9 w3) := by
              obtain ⟨hbr, hfr, hmr⟩ := HB.out
              obtain ⟨g1, g2⟩ := MpIn.fgKept (m := m) (s' := s3) hf3 (fun k hk => by rw [show k = b.kb from hk]; exact foot_kb b _) (hA3) hfr hbr.size
              exact ⟨hm3, hg3, g1, hbr.trans g2⟩
            clear hm3 hf3 HCa k0 p0 p1 p2
            go_roundw
            case rel => exact ⟨j + 1, _, by go_num, HLT.out, HZ.out.1, HZ.out.2.1, HZ.out.2.2.1, HZ.out.2.2.2⟩
            case measure => have := HLT.out; simp [intOf] <;> omega
          have hb3 : (kd == 3) = false := beq_eq_false_iff_ne.2 h3
          by_cases h4 : kd = 4
          · subst h4
            have HCa := Lib.hid (mClear_any e.dot hdw wr hmr)
            clear hse hda hmr hfr hg hbr hn0 hcl hdl hdw r1 h1 hb1 h2 hb2 h3 hb3
            go_wp2_with (go_at_call 48; (with_reducible refine HCa.out.mono ?_); rintro v w3 ⟨rfl, hm3, hf3⟩)
            have HZ : Hid (MpIn w3 m b (clMS s e.dot) ∧ SGood (clMS s e.dot) (j + 1) ∧ (∀ z, foot b (clMS s e.dot).A z → w9.heap.size ≤ z) ∧ Below w9.heap.size w9 w3) := by
              obtain ⟨hbr, hfr, hmr⟩ := HB.out
              obtain ⟨g1, g2⟩ := MpIn.fgKept (m := m) (s' := (clMS s e.dot)) hf3 (fun k hk => by rw [show k = b.db from hk]; exact foot_db b _) (clMS_A s e.dot) hfr hbr.size
              exact ⟨hm3, HG.out.cl e.dot, g1, hbr.trans g2⟩
            clear hm3 hf3 HCa k0 p0 p1 p2
            go_roundw
            case rel => exact ⟨j + 1, _, by go_num, HLT.out, HZ.out.1, HZ.out.2.1, HZ.out.2.2.1, HZ.out.2.2.2⟩
            case measure => have := HLT.out; simp [intOf] <;> omega
          have hb4 : (kd == 4) = false := beq_eq_false_iff_ne.2 h4
          clear hse hda hmr hfr hg hbr hn0 hcl hdl hdw r1 p0 p1 p2 h1 h2 h3 h4
          go_wp2
          go_roundw
          case rel => exact ⟨j + 1, s, by go_num, HLT.out, HB.out.2.2, HG.out.mono (Nat.le_succ j), HB.out.2.1, HB.out.1⟩
          case measure => have := HLT.out; simp [intOf] <;> omega
        · obtain rfl : j = ls.length := by omega
          have hg40 : SGood s 40 := hg.mono hls
          have HFR := Lib.hid hfr
          have HG4 := Lib.hid hg40
          have HCx := Lib.hid (fun (X : World) (h : MpIn X m b s) => ctxCap X h hg.inv (by omega))
          have HEv := Lib.hid (fun (X : World) (h : MpIn X m b s) => evsCap X h hg.inv)
          have HDd := Lib.hid (fun (X : World) (h : MpIn X m b s) => deadsCap X h hg.inv (by omega))
          have HLo : Hid (∀ (X : World) (aC aE aD : Option Addr) (cC cE cD : Nat) (ds : List EvIt), RMIn X ⟨aC, s.ctx, cC, aE, ds, cE, aD, sortD s.dead, cD⟩ → evsOf ds = eventsOf s → Calls Tryz.prog 57 #[.slice aC s.ctx.length cC, .slice aE ds.length cE, .slice aD (sortD s.dead).length cD] X (RetLd ⟨aC, s.ctx, cC, aE, ds, cE, aD, sortD s.dead, cD⟩ X)) := fun X aC aE aD cC cE cD ds hI hev => mLoad_yes ⟨aC, s.ctx, cC, aE, ds, cE, aD, sortD s.dead, cD⟩ X (fun x hx => by
            have h1 : x.1 ∈ eventsOf s := by rw [← hev]; exact List.mem_map_of_mem hx
            obtain ⟨z, hz, e⟩ := (eventsOf_mem HG4.out.nd).1 h1
            rw [← e]
            exact HG4.out.small z hz) hI (HG4.out.loads (by decide) rfl hev rfl)
          clear hg hcl hdl
          go_upto_region 17 with (first
            | (go_at_call 37; (with_reducible refine (HCx.out _ hmr).mono ?_); rintro v w3 ⟨aC, cC, rfl, hdC, hcC, hb3⟩; have hm3 := hmr.kept_w hb3)
            | (go_at_call 51; (with_reducible refine (HEv.out _ hm3).mono ?_); rintro v w4 ⟨aE, ds, cE, rfl, hdE, hev, hcE, hb4⟩; have hm4 := hm3.kept_w hb4; have HEV := Lib.hid hev; clear hev)
            | (go_at_call 56; (with_reducible refine (HDd.out _ hm4).mono ?_); rintro v w5 ⟨aD, cD, rfl, hdD, hcD, hb5⟩; have hm5 := hm4.kept_w hb5; have hI5 : RMIn w5 ⟨aC, s.ctx, cC, aE, ds, cE, aD, sortD s.dead, cD⟩ := ⟨(hdC.kept hb4).kept hb5, hdE.kept hb5, hdD, hcC, hcE, hcD⟩)
            | (go_at_call 57; (with_reducible refine (HLo.out _ aC aE aD cC cE cD ds hI5 HEV.out).mono ?_); rintro v w6 ⟨n, bn, t, rfl, hn6, hi6, hr6, hdl6, hfn6, hme6, hb6⟩))
          have hm6 := hm5.kept_w hb6
          have hbw5 : Below w9.heap.size w9 w5 := ((hbr.trans (hb3.mono hbr.size)).trans (hb4.mono (Nat.le_trans hbr.size hb3.size))).trans (hb5.mono (Nat.le_trans (Nat.le_trans hbr.size hb3.size) hb4.size))
          have hbw6 : Below w9.heap.size w9 w6 := hbw5.trans (hb6.mono hbw5.size)
          have hdis : ∀ z, foot b s.A z → ¬ foot bn t.A z := fun z hz hz2 => by
            have h1 := hm5.low hz
            have h2 := hfn6 z hz2
            omega
          have hfn9 : ∀ z, foot bn t.A z → w9.heap.size ≤ z := fun z hz => Nat.le_trans hbw5.size (hfn6 z hz)
          have hgt : SGood t 40 := by
            obtain ⟨h1, h2⟩ : s.ctx = t.ctx ∧ True := ⟨hr6.ctx, trivial⟩
            refine ⟨hi6, hr6.nd, by rw [← h1]; exact HG4.out.ctx, ?_, fun x hx => ?_⟩
            · have h3 := sortD_length s.dead
              have h4 := HG4.out.dead
              have h5 : t.dead.length ≤ (sortD s.dead).length := hdl6
              omega
            · have h3 : x.1 ∈ evsOf ds := hme6 x hx
              rw [HEV.out] at h3
              obtain ⟨z, hz, e⟩ := (eventsOf_mem HG4.out.nd).1 h3
              rw [← e]
              exact HG4.out.small z hz
          have hrs : Rel s ⟨s.ctx, eventsOf s, sortD s.dead⟩ := HG4.out.rel
          have hrt : Rel t ⟨s.ctx, eventsOf s, sortD s.dead⟩ := by
            have h9 : Rel t ⟨s.ctx, evsOf ds, sortD s.dead⟩ := hr6
            rwa [HEV.out] at h9
          clear hmr hfr hbr hm3 hm4 hm5 hI5 hdC hcC hdE hcE hdD hcD hb3 hb4 hb5 hb6 hbw5 hi6 hr6 hdl6 hfn6 hme6 HCx HEv HDd HLo HG HEV hE9
          go_wp2
          go_loopw [9] (fun i wr => ∃ (j : Nat) (s t : MS) (r : RM), i = .int .i64 j ∧ j ≤ os.length ∧ MpIn wr m b s ∧ MpIn wr n bn t ∧ SGood s (40 + j) ∧ SGood t (40 + j) ∧ Rel s r ∧ Rel t r ∧ (∀ z, foot b s.A z → ¬ foot bn t.A z) ∧ (∀ z, foot b s.A z → w9.heap.size ≤ z) ∧ (∀ z, foot bn t.A z → w9.heap.size ≤ z) ∧ Below w9.heap.size w9 wr) (fun i _ => os.length - (intOf i).toNat)
          case atStart => exact ⟨0, s, t, _, rfl, Nat.zero_le _, hm6, hn6, hg40, hgt, hrs, hrt, hdis, HFR.out, hfn9, hbw6⟩
          case round =>
            obtain ⟨j, s, t, r, rfl, hj, hmr, hnr, hg, ht, hrs, hrt, hdis, hfm, hfn, hbr⟩ := hrel
            have HG := Lib.hid (And.intro hg (And.intro ht (And.intro hrs hrt)))
            have hcl := hg.ctx
            have hdl := hg.dead
            have hctl := ht.ctx
            have hdtl := ht.dead
            by_cases hlt : j < os.length
            · obtain ⟨A, off, rfl, hra, hda⟩ := (hO9.kept hbr).at hlt
              have r1 := hra j hlt
              have hse := HSO.out _ (List.getElem_mem hlt)
              have HLT := Lib.hid hlt
              have hkl : j ≤ 20 := by omega
              generalize os[j] = x at *
              obtain ⟨e, ax, cx⟩ := x
              simp only [itEv] at r1
              simp only at hda hse
              have hn0 : ax = none → e.over = [] := fun hn => by rcases hda with h | ⟨A, off, h3, _⟩; exact h; rw [hn] at h3; cases h3
              have hoke : apOk t e = apOk s e := by rw [← hrt.ok, ← hrs.ok]
              have here : apErr t e = apErr s e := by rw [← hrt.err, ← hrs.err]
              have HAp := Lib.hid (mApply_any e ax cx wr hmr hg.inv hse hda hn0 (by omega) (by omega))
              have HBp : Hid (∀ X, MpIn X n bn t → DotsIn X ax e.over → Calls Tryz.prog 17 #[.pointer (some ⟨n, 0, none⟩), evVal e ax cx] X fun x w' => ∃ t', x = .returned (.tuple #[.bool (apOk s e), .int .i64 (apErr s e)]) ∧ MpIn w' n bn t' ∧ Fr (foot bn t.A) X w' ∧ (∀ k, foot bn t'.A k → foot bn t.A k ∨ X.heap.size ≤ k) ∧ (if apOk t e = true then Applied t e t' else t' = t)) := fun X hX hdX => (mApply_any e ax cx X hX ht.inv hse hdX hn0 (by omega) (by omega)).mono (by
                rintro x w' ⟨t', rfl, h1, h2, h3, h4⟩
                exact ⟨t', by rw [hoke, here], h1, h2, h3, h4⟩)
              have HSE := Lib.hid hse
              have HB := Lib.hid (And.intro hbr (And.intro hfm (And.intro hfn (And.intro hmr (And.intro hnr hdis)))))
              have hx1 : (apOk s e != apOk s e) = false := bne_self_eq_false _
              have hx2 : (apErr s e != apErr s e) = false := bne_self_eq_false _
              have HOK : Hid (rmAp r e = rmAp r e) := rfl
              clear hra hse hmr hnr hg ht hrs hrt hdis hfm hfn hbr hn0 hoke here hcl hdl hctl hdtl
              go_upto_region 23 with (first
                | ((with_reducible refine wpList_load_evo _ A (off + j * 19) e ax cx r1 ?_ rfl ?_); exact rfl)
                | (go_at_call 17; (with_reducible refine HAp.out.mono ?_); rintro v w3 ⟨s2, rfl, hm3, hf3, hft3, hap3⟩))
              have HK3 : Hid (KeepsC wr w3) := HB.out.2.2.2.1.keeps hf3 (fun _ h => h)
              have hn3 : MpIn w3 n bn t := HB.out.2.2.2.2.1.other hf3 HK3.out (fun q hq hq2 => HB.out.2.2.2.2.2 q hq hq2)
              have r3 := HK3.out.range r1
              have hd3 := HK3.out.dots hda
              have HA3 := Lib.hid (And.intro hm3 (And.intro hf3 (And.intro hft3 hap3)))
              have HN3 := Lib.hid hn3
              have HB4 := Lib.hid (HBp.out w3 hn3 hd3)
              clear r1 hda hm3 hf3 hft3 hap3 hn3 hd3 HAp HBp
              generalize hok9 : apOk s e = ok9 at *
              generalize her9 : apErr s e = er9 at *
              have HOK9 := Lib.hid hok9
              clear hok9 her9
              go_wp2_with (first
                | ((with_reducible refine wpList_load_evo _ A (off + j * 19) e ax cx r3 ?_ rfl ?_); exact rfl)
                | (go_at_call 17; (with_reducible refine HB4.out.mono ?_); rintro v w4 ⟨t2, rfl, hn4, hf4, hft4, hap4⟩))
              have HZ : Hid (MpIn w4 m b s2 ∧ MpIn w4 n bn t2 ∧ SGood s2 (40 + (j + 1)) ∧ SGood t2 (40 + (j + 1)) ∧ Rel s2 (rmAp r e) ∧ Rel t2 (rmAp r e) ∧ (∀ z, foot b s2.A z → ¬ foot bn t2.A z) ∧ (∀ z, foot b s2.A z → w9.heap.size ≤ z) ∧ (∀ z, foot bn t2.A z → w9.heap.size ≤ z) ∧ Below w9.heap.size w9 w4) := by
                obtain ⟨hbr, hfm, hfn, hmr, hnr, hdis⟩ := HB.out
                obtain ⟨hm3, hf3, hft3, hap3⟩ := HA3.out
                obtain ⟨hg, ht, hrs, hrt⟩ := HG.out
                have hK4 := HN3.out.keeps hf4 (fun _ h => h)
                have hz3 := hf3.size
                have hz9 := hbr.size
                rw [← HOK9.out] at hap3
                have hd32 : ∀ z, foot b s2.A z → ¬ foot bn t.A z := fun z hz hz2 => by
                  rcases hft3 z hz with h3 | h3
                  · exact hdis z h3 hz2
                  · have := hnr.low hz2; omega
                refine ⟨hm3.other hf4 hK4 (fun q hq hq2 => hd32 q hq2 hq), hn4, hg.ap HSE.out hap3, ht.ap HSE.out hap4, hrs.any hg.inv hap3, hrt.any ht.inv hap4, fun z hz hz2 => ?_, fun z hz => ?_, fun z hz => ?_, (hbr.trans (hf3.below hbr.size hfm)).trans (hf4.below (Nat.le_trans hz9 hz3) hfn)⟩
                · rcases hft4 z hz2 with h3 | h3
                  · exact hd32 z hz h3
                  · have := hm3.low hz; omega
                · rcases hft3 z hz with h3 | h3
                  · exact hfm z h3
                  · omega
                · rcases hft4 z hz with h3 | h3
                  · exact hfn z h3
                  · omega
              clear hn4 hf4 hft4 hap4 r3 HB4
              go_roundw
              case rel => exact ⟨j + 1, s2, t2, _, by go_num, HLT.out, HZ.out.1, HZ.out.2.1, HZ.out.2.2.1, HZ.out.2.2.2.1, HZ.out.2.2.2.2.1, HZ.out.2.2.2.2.2.1, HZ.out.2.2.2.2.2.2.1, HZ.out.2.2.2.2.2.2.2.1, HZ.out.2.2.2.2.2.2.2.2.1, HZ.out.2.2.2.2.2.2.2.2.2⟩
              case measure => have := HLT.out; simp [intOf] <;> omega
            · obtain rfl : j = os.length := by omega
              have HCx := Lib.hid (fun (X : World) (h : MpIn X m b s) => ctxCap X h hg.inv (by omega))
              have HEv := Lib.hid (fun (X : World) (h : MpIn X m b s) => evsCap X h hg.inv)
              have HDd := Lib.hid (fun (X : World) (h : MpIn X m b s) => deadsCap X h hg.inv (by omega))
              have hct : t.ctx.length ≤ 4096 := by omega
              have hdt : t.dead.length ≤ 1048576 := by omega
              have HIs : Hid (∀ (X : World) (aC aE aD : Option Addr) (cC cE cD : Nat) (ds : List EvIt), evsOf ds = eventsOf s → MpIn X n bn t → RMIn X ⟨aC, s.ctx, cC, aE, ds, cE, aD, sortD s.dead, cD⟩ → Calls Tryz.prog 40 #[.pointer (some ⟨n, 0, none⟩), .agg #[.slice aC s.ctx.length cC, .slice aE ds.length cE, .slice aD (sortD s.dead).length cD]] X fun e w' => e = .returned (.bool true) ∧ Below X.heap.size X w') := fun X aC aE aD cC cE cD ds hev hX hI => isMap_any (y := ⟨aC, s.ctx, cC, aE, ds, cE, aD, sortD s.dead, cD⟩) (isEnd ht.inv (by
                have e1 : (⟨s.ctx, evsOf ds, sortD s.dead⟩ : RM) = r := by rw [hev]; exact hg.rel.uniq hrs
                show Rel t ⟨s.ctx, evsOf ds, sortD s.dead⟩
                rw [e1]; exact hrt) hct hdt ht.small) X hX hI
              have hal : aliveOf s = aliveOf t := by
                have e1 := hrs.uniq hg.rel
                have h1 := fun (y : RMIt) (hy : Rel s y.rm) => alive_eq hg.inv hy
                have h2 := fun (y : RMIt) (hy : Rel t y.rm) => alive_eq ht.inv hy
                let y : RMIt := ⟨none, s.ctx, 0, none, (eventsOf s).map (fun e => (e, none, 0)), 0, none, sortD s.dead, 0⟩
                have hyr : y.rm = ⟨s.ctx, eventsOf s, sortD s.dead⟩ := by
                  show (⟨s.ctx, evsOf ((eventsOf s).map (fun e => (e, none, 0))), sortD s.dead⟩ : RM) = _
                  unfold evsOf
                  rw [List.map_map]
                  show (⟨s.ctx, (eventsOf s).map (fun e => e), sortD s.dead⟩ : RM) = _
                  rw [List.map_id']
                rw [← h1 y (by rw [hyr]; exact hg.rel), h2 y (by rw [hyr, ← e1]; exact hrt)]
              have hov : ∀ {u : MS}, MInv u → ∀ x ∈ u.K, x.1.over.length ≤ 64 := fun hu x hx => (evOk_parts (hu.kept x hx).1).2.2.1
              have HAm := Lib.hid (fun (X : World) (h : MpIn X m b s) => mAlive_any X h hg.inv hg.inv.dots (hov hg.inv))
              have HAn := Lib.hid (fun (X : World) (h : MpIn X n bn t) => mAlive_any X h ht.inv ht.inv.dots (hov ht.inv))
              have HSA : Hid (∀ (X : World) (a1 a2 : Option Addr) (c1 c2 : Nat) (d1 d2 : List EvIt), EvsIn X a1 d1 → EvsIn X a2 d2 → evsOf d1 = aliveOf s → evsOf d2 = aliveOf t → Calls Tryz.prog 21 #[.slice a1 d1.length c1, .slice a2 d2.length c2] X fun e w' => e = .returned (.bool true) ∧ Below X.heap.size X w') := fun X a1 a2 c1 c2 d1 d2 h1 h2 e1 e2 => by
                have hsm : ∀ d : List EvIt, evsOf d = aliveOf s → EvsSmall d ∧ d.length ≤ 1073741824 := fun d hd => by
                  refine ⟨fun x hx => ?_, ?_⟩
                  · have h9 : x.1 ∈ aliveOf s := by rw [← hd]; exact List.mem_map_of_mem hx
                    obtain ⟨⟨z, hz, e⟩, _⟩ := (aliveOf_mem hg.inv hg.nd).1 h9
                    rw [← e]
                    exact hg.small z hz
                  · have h9 := nodup_len (l := (aliveOf s).map (·.dot)) (m := s.K.map (·.1.dot)) (List.pairwise_map.2 ((evAt_srt hg.nd (sortD_srt _) (fun d h => by
                      obtain ⟨q, hq, rfl⟩ := List.mem_map.1 (sortD_mem.1 h)
                      obtain ⟨x, hx, _, h3, _⟩ := (hg.inv.pairs q.1 q.2).1 hq
                      exact ⟨x, hx, h3⟩)).imp fun {a b} h e => by rw [e, dotLt_irrefl] at h; cases h)) (fun d hd => by
                      obtain ⟨e, he, rfl⟩ := List.mem_map.1 hd
                      obtain ⟨⟨z, hz, rfl⟩, _⟩ := (aliveOf_mem hg.inv hg.nd).1 he
                      exact List.mem_map_of_mem (f := fun x : EvIt => x.1.dot) hz)
                    rw [List.length_map, List.length_map] at h9
                    have := hg.inv.len
                    rw [← evsOf_length, hd]
                    omega
                obtain ⟨s1, l1⟩ := hsm d1 e1
                obtain ⟨s2, l2⟩ := hsm d2 (e2.trans hal.symm)
                have h3 := rSameEvs_any a1 a2 c1 c2 d1 d2 X l1 l2 s1 s2 h1 h2
                rw [decide_eq_true (e1.trans (hal.trans e2.symm))] at h3
                exact h3
              have HBw := Lib.hid (hw9.trans (hbr.mono hw9.size))
              clear hg ht hrs hrt hdis hfm hfn hcl hdl hctl hdtl hal hov hct hdt HG hbr
              go_wp2_with (first
                | (go_at_call 37; (with_reducible refine (HCx.out _ hmr).mono ?_); rintro v x3 ⟨aC, cC, rfl, hdC, hcC, hb3⟩; have hm3 := hmr.kept_w hb3; have hB3 := HBw.out.trans (hb3.mono HBw.out.size))
                | (go_at_call 51; (with_reducible refine (HEv.out _ hm3).mono ?_); rintro v x4 ⟨aE, ds, cE, rfl, hdE, hev, hcE, hb4⟩; have hm4 := hm3.kept_w hb4; have HEV := Lib.hid hev; clear hev; have hB4 := hB3.trans (hb4.mono hB3.size))
                | (go_at_call 56; (with_reducible refine (HDd.out _ hm4).mono ?_); rintro v x5 ⟨aD, cD, rfl, hdD, hcD, hb5⟩; have hm5 := hm4.kept_w hb5; have hn5 := ((hnr.kept_w hb3).kept_w hb4).kept_w hb5; have hI5 : RMIn x5 ⟨aC, s.ctx, cC, aE, ds, cE, aD, sortD s.dead, cD⟩ := ⟨(hdC.kept hb4).kept hb5, hdE.kept hb5, hdD, hcC, hcE, hcD⟩; have hB5 := hB4.trans (hb5.mono hB4.size))
                | (go_at_call 40; (with_reducible refine (HIs.out _ aC aE aD cC cE cD ds HEV.out hn5 hI5).mono ?_); rintro v x6 ⟨rfl, hb6⟩; have hm6 := hm5.kept_w hb6; have hn6 := hn5.kept_w hb6; have hB6 := hB5.trans (hb6.mono hB5.size))
                | (go_at_call 52; (with_reducible refine (HAm.out _ hm6).mono ?_); rintro v x7 ⟨aM, dM, cM, rfl, hdM, ⟨hvM, _⟩, hb7⟩; have HVM := Lib.hid hvM; clear hvM; have hn7 := hn6.kept_w hb7; have hB7 := hB6.trans (hb7.mono hB6.size))
                | (go_at_call 52; (with_reducible refine (HAn.out _ hn7).mono ?_); rintro v x8 ⟨aN, dN, cN, rfl, hdN, ⟨hvN, _⟩, hb8⟩; have HVN := Lib.hid hvN; clear hvN; have hdM8 := hdM.kept hb8; have hB8 := hB7.trans (hb8.mono hB7.size))
                | (go_at_call 21; (with_reducible refine (HSA.out _ aM aN cM cN dM dN hdM8 hdN HVM.out HVN.out).mono ?_); rintro v x9 ⟨rfl, hb9⟩; have hB9 := hB8.trans (hb9.mono hB8.size))
                | (go_at_call 15; (with_reducible refine (HA.out _).mono ?_); rintro v x10 ⟨rfl, hb10⟩))
              go_ret
              exact ⟨rfl, hB9.trans (hb10.mono hB9.size)⟩
end Go.Proofs.YtcijajjngmmbeaaGreat
