/- compact: settled, Settled, may. Conditions: as in the text. -/
import Derived.Test.YtpbobhfnglikmaaGreatCompP
import Derived.Test.YtpbobhfnglikmaaGreatIs
set_option linter.unusedSimpArgs false
set_option linter.unusedVariables false
set_option linter.unnecessarySimpa false
set_option maxHeartbeats 16000000
set_option maxRecDepth 100000
namespace Go.Proofs.YtpbobhfnglikmaaGreat
open Go.RowKit
theorem cSettled_any {v b : Nat} {l : List Dot} (e : Ev) (a : Option Addr) (cap : Nat) (w : World) (h : VecIn w v b l) (hd : DotsIn w a e.over) (hl : e.over.length ≤ 1073741824) :
 Calls Tryz.prog 90 #[evVal e a cap, .pointer (some ⟨v, 0, none⟩)] w fun x w' => x = .returned (.bool (setl l e)) ∧ Below w.heap.size w w' := by
 have HH0 := fun (d : Dot) (X : World) (h : VecIn X v b l) => vHas_any d X h
 go_enter Tryz.func90, Tryz.ntmps90
 go_upto_region 1 with fail
 refine wp_name (fun W0 hW0 => ?_)
 have hb0 : Below w.heap.size w W0 := by rw [hW0.out]; go_grown
 have hR0 : W0.rangeAt w.heap.size 0 (evCells e a cap) := by rw [hW0.out]; exact evCells_box e a cap w _
 have h0 := h.kept hb0
 have hd0 := hd.kept hb0
 clear hW0 h hd
 have v0 : W0.cell? ⟨w.heap.size, 0, none⟩ = some (.int .i64 e.dot.a.dev) := by have := hR0 0 _ rfl; rwa [Nat.zero_add] at this
 have v1 : W0.cell? ⟨w.heap.size, 1, none⟩ = some (.int .i64 e.dot.a.inc) := by have := hR0 1 _ rfl; rwa [Nat.zero_add] at this
 have v2 : W0.cell? ⟨w.heap.size, 2, none⟩ = some (.int .i64 e.dot.seq) := by have := hR0 2 _ rfl; rwa [Nat.zero_add] at this
 have v6 : W0.cell? ⟨w.heap.size, 6, none⟩ = some (.int .i64 e.kind) := by have := hR0 6 _ rfl; rwa [Nat.zero_add] at this
 have v7 : W0.cell? ⟨w.heap.size, 7, none⟩ = some (.string e.key.name) := by have := hR0 7 _ rfl; rwa [Nat.zero_add] at this
 have v8 : W0.cell? ⟨w.heap.size, 8, none⟩ = some (.string e.key.domain) := by have := hR0 8 _ rfl; rwa [Nat.zero_add] at this
 have v9 : W0.cell? ⟨w.heap.size, 9, none⟩ = some (.string e.key.path) := by have := hR0 9 _ rfl; rwa [Nat.zero_add] at this
 clear v6 v7 v8 v9
 have HHe0 := HH0 e.dot
 cases hh : hasM l e.dot with
 | false =>
   have HE : Hid (setl l e = false) := by unfold Hid setl; rw [hh]; rfl
   rw [hh] at HHe0
   have HHe := Lib.hid HHe0
   clear HHe0
   go_upto_region 2 with (go_at_call 74; (with_reducible refine (HHe.out _ h0).mono ?_); rintro x W1 ⟨rfl, hbW1⟩)
   clear hh HHe
   go_wp2
   go_ret
   exact ⟨ret_bool HE.out.symm, below2 hb0 hbW1⟩
 | true =>
   have HE : Hid (setl l e = e.over.all fun d => hasM l d) := by unfold Hid setl; rw [hh]; exact Bool.true_and _
   rw [hh] at HHe0
   have HHe := Lib.hid HHe0
   clear HHe0
   go_upto_region 3 with (go_at_call 74; (with_reducible refine (HHe.out _ h0).mono ?_); rintro x W1 ⟨rfl, hbW1⟩)
   have hbw1 := below2 hb0 hbW1
   have v18 : W1.cell? ⟨w.heap.size, 18, none⟩ = some (.slice a e.over.length cap) := by have := rangeAt_kept hR0 hbW1 18 _ rfl; rwa [Nat.zero_add] at this
   have h1 := h0.kept hbW1
   have hd1 := hd0.kept hbW1
   clear hh HHe v0 v1 v2 h0 hd0 hR0 hbW1 hb0
   generalize e.over = ov at *
   go_wp2
   go_loopw [15] (fun i wr => ∃ k : Nat, i = .int .i64 k ∧ k ≤ ov.length ∧ setl l e = (ov.drop k).all (fun d => hasM l d) ∧ Below w.heap.size w wr ∧ Below W1.heap.size W1 wr) (fun i _ => ov.length - (intOf i).toNat)
   case atStart => exact ⟨0, rfl, Nat.zero_le _, HE.out, hbw1, Below.refl _ _⟩
   case round =>
    obtain ⟨k, rfl, hk, hC0, hbw, hbr⟩ := hrel
    have HC := Lib.hid hC0
    clear hC0
    by_cases hlt : k < ov.length
    ·obtain ⟨A2, off, rfl, c0, c1, c2⟩ := (hd1.kept hbr).at hlt
     have hr := h1.kept hbr
     have HS : Hid ((ov.drop k).all (fun d => hasM l d) = (hasM l ov[k] && (ov.drop (k + 1)).all fun d => hasM l d)) := setl_drop l ov k hlt
     have HLT := Lib.hid hlt
     generalize ov[k] = d at *
     clear hlt
     go_upto_region 6 with fail
     refine wp_name (fun Wx hWx => ?_)
     have hbx : Below wr.heap.size wr Wx := by rw [hWx.out]; go_grown
     have v0 : Wx.cell? ⟨wr.heap.size, 0, none⟩ = some (.int .i64 d.a.dev) := by rw [hWx.out]; go_simp
     have v1 : Wx.cell? ⟨wr.heap.size, 1, none⟩ = some (.int .i64 d.a.inc) := by rw [hWx.out]; go_simp
     have v2 : Wx.cell? ⟨wr.heap.size, 2, none⟩ = some (.int .i64 d.seq) := by rw [hWx.out]; go_simp
     have hx := hr.kept hbx
     clear hWx c0 c1 c2 hr
     have HHd0 := HH0 d
     cases hh : hasM l d with
     | true =>
       rw [hh] at HHd0 HS
       have HHd := Lib.hid HHd0
       clear HHd0 hh
       go_upto_region 8 with (go_at_call 74; (with_reducible refine (HHd.out _ hx).mono ?_); rintro x W2 ⟨rfl, hbW2⟩)
       have hb2 := below2 hbx hbW2
       have hbY := hbw.trans (hb2.mono hbw.size)
       have hbZ := hbr.trans (hb2.mono hbr.size)
       clear hb2
       go_wp2
       go_roundw
       case rel => exact ⟨k + 1, by go_num, HLT.out, by rw [HC.out, HS.out]; exact Bool.true_and _, hbY, hbZ⟩
       case measure => have := HLT.out; simp [intOf] <;> omega
     | false =>
       rw [hh] at HHd0 HS
       have HHd := Lib.hid HHd0
       clear HHd0 hh
       go_upto_region 7 with (go_at_call 74; (with_reducible refine (HHd.out _ hx).mono ?_); rintro x W2 ⟨rfl, hbW2⟩)
       have hb2 := below2 hbx hbW2
       have hbY := hbw.trans (hb2.mono hbw.size)
       have hbZ := hbr.trans (hb2.mono hbr.size)
       clear hb2
       have HF : Hid (setl l e = false) := by unfold Hid; rw [HC.out, HS.out]; rfl
       go_wp2
       go_ret
       exact ⟨ret_bool HF.out.symm, hbY⟩
    ·obtain rfl : k = ov.length := by omega
     have HF : Hid (setl l e = true) := by unfold Hid; rw [HC.out, List.drop_length]; rfl
     go_wp2
     go_ret
     exact ⟨ret_bool HF.out.symm, hbw⟩
theorem cSettledM_any (e : Ev) (a am : Option Addr) (cap cm : Nat) (l : List Dot) (w : World) (hd : DotsIn w a e.over) (hol : e.over.length ≤ 1073741824) (hm : DotsIn w am l) (hl : l.length ≤ 1073741824) :
 Calls Tryz.prog 44 #[evVal e a cap, .slice am l.length cm] w fun x w' => x = .returned (.bool (decide (marksErr l = 0) && setl l e)) ∧ Below w.heap.size w w' := by
 by_cases hk : marksErr l = 0
 case neg =>
  rw [decide_eq_false hk, Bool.false_and]
  have hO := Lib.hid (fun (X : World) (h : DotsIn X am l) => vOf_no am cm l X hl h hk)
  have hne : (marksErr l == 0) = false := beq_eq_false_iff_ne.2 hk
  generalize marksErr l = r at *
  clear hk
  go_enter Tryz.func44, Tryz.ntmps44
  go_upto_region 1 with fail
  refine wp_name (fun W0 hW0 => ?_)
  have hb0 : Below w.heap.size w W0 := by rw [hW0.out]; go_grown
  have hm0 := hm.kept hb0
  clear hW0
  go_wp2_with (go_at_call 97; (with_reducible refine (hO.out _ hm0).mono ?_); rintro x w1 ⟨rfl, hb1⟩)
  go_ret
  exact ⟨rfl, below2 hb0 hb1⟩
 case pos =>
  rw [decide_eq_true hk, Bool.true_and]
  have hO := Lib.hid (fun (X : World) (h : DotsIn X am l) => vOf_yes am cm l X h hk)
  clear hk
  go_enter Tryz.func44, Tryz.ntmps44
  go_upto_region 1 with fail
  refine wp_name (fun W0 hW0 => ?_)
  have hb0 : Below w.heap.size w W0 := by rw [hW0.out]; go_grown
  have hm0 := hm.kept hb0
  have hR0 : W0.rangeAt w.heap.size 0 (evCells e a cap) := by rw [hW0.out]; exact evCells_box e a cap w _
  have hd0 := hd.kept hb0
  clear hW0 hm hd
  go_upto_region 2 with (go_at_call 97; (with_reducible refine (hO.out _ hm0).mono ?_); rintro x w1 ⟨v, vb, rfl, hv, hb1, _, _⟩)
  have hb01 := below2 hb0 hb1
  have hR1 := rangeAt_kept hR0 hb1
  have hd1 := hd0.kept hb1
  clear hR0 hd0 hm0 hb0 hb1 hO
  have HSt := Lib.hid (fun (X : World) (h1 : VecIn X v vb l) (h2 : DotsIn X a e.over) => cSettled_any e a cap X h1 h2 hol)
  go_wp2_with (first
   | ((with_reducible refine wpList_load_ev _ w.heap.size e a cap hR1 ?_ rfl ?_); exact rfl)
   | (go_at_call 90; (with_reducible refine (HSt.out _ hv hd1).mono ?_); rintro x W2 ⟨rfl, hbW2⟩))
  go_ret
  exact ⟨rfl, below2 hb01 hbW2⟩
theorem may_yes {m : Nat} {b : MB} {s : MS} (a : Option Addr) (cap : Nat) (l : List Dot) (w : World) (h : MpIn w m b s) (hi : MInv s) (hc : s.ctx.length ≤ 4096) (hd : DotsIn w a l) (hok : marksErr l = 0) (hcov : coversM s.ctx l = true) :
 Calls Tryz.prog 89 #[.pointer (some ⟨m, 0, none⟩), .slice a l.length cap] w fun x w' => ∃ v vb, x = .returned (.tuple #[.pointer (some ⟨v, 0, none⟩), .int .i64 0]) ∧ VecIn w' v vb l ∧ Below w.heap.size w w' ∧ w.heap.size ≤ v ∧ w.heap.size ≤ vb := by
 have HO := Lib.hid (vOf_yes a cap l w hd hok)
 have HC := Lib.hid (fun (X : World) (h : MpIn X m b s) => callCtx X h hi hc)
 have HS := Lib.hid (fun (X : World) (aC : Option Addr) (cC : Nat) (hd : DotsIn X aC s.ctx) => vOf_yes aC cC s.ctx X hd (hi.marks hc))
 obtain ⟨hll, hok2, hsr⟩ := marksErr_ok hok
 have HV := Lib.hid (fun (X : World) (v vb u ub : Nat) (hv : VecIn X v vb s.ctx) (hu : VecIn X u ub l) => by have := vCovers_any X hv hu hsr (by omega) hok2; rw [hcov] at this; exact this)
 clear hok hi hc hll hok2 hsr hcov
 go_enter Tryz.func89, Tryz.ntmps89
 go_upto_region 6 with (go_at_call 97; (with_reducible refine HO.out.mono ?_); rintro x w1 ⟨u, ub, rfl, hu, hb1, hz1, hz2⟩)
 have h1 := h.kept_w hb1
 clear HO h hd
 go_upto_region 7 with (first
  | (go_at_call 32; (with_reducible refine (HC.out _ h1).mono ?_); rintro x w2 ⟨aC, cC, rfl, hdC, hb2⟩)
  | (go_at_call 97; (with_reducible refine (HS.out _ _ _ hdC).mono ?_); rintro x w3 ⟨v, vb, rfl, hv, hb3, _, _⟩))
 have hb13 : Below w1.heap.size w1 w3 := hb2.trans (hb3.mono hb2.size)
 have hu3 := hu.kept hb13
 have HZ := Lib.hid (And.intro (hb1.trans (hb13.mono hb1.size)) (And.intro hz1 hz2))
 clear hu hb1 hb2 hb3 hb13 h1 hdC HC HS hz1 hz2
 go_wp2_with (go_at_call 144; (with_reducible refine (HV.out _ _ _ _ _ hv hu3).mono ?_); rintro x w4 ⟨rfl, hb4⟩)
 all_goals
  go_ret2
  exact ⟨u, ub, rfl, hu3.kept hb4, HZ.out.1.trans (hb4.mono HZ.out.1.size), HZ.out.2.1, HZ.out.2.2⟩
theorem may_nil (a : Option Addr) (n cap : Nat) (w : World) :
 Calls Tryz.prog 89 #[.pointer none, .slice a n cap] w fun x w' => x = .returned (.tuple #[.pointer none, .int .i64 17]) ∧ Below w.heap.size w w' := by
 go_enter Tryz.func89, Tryz.ntmps89
 go_wp2
 all_goals
  go_ret2
  exact ⟨rfl, by go_grown⟩
theorem cDo_nil {r : Int} (a : Option Addr) (n cap : Nat) (w : World) (hr : r ≠ 0) (hM : Calls Tryz.prog 89 #[.pointer (none), .slice a n cap] w fun x w' => x = .returned (.tuple #[.pointer none, .int .i64 r]) ∧ Below w.heap.size w w') :
 Calls Tryz.prog 29 #[.pointer (none), .slice a n cap] w fun x w' => x = .returned (.tuple #[.int .i64 0, .int .i64 r]) ∧ Below w.heap.size w w' := by
 have hO := Lib.hid hM
 have hne : (r != 0) = true := bne_iff_ne.2 hr
 clear hr hM
 go_enter Tryz.func29, Tryz.ntmps29
 go_wp2
 go_step3
 go_wp2_with (go_at_call 89; (with_reducible refine hO.out.mono ?_); rintro x w1 ⟨rfl, hb1⟩)
 all_goals
  try rw [Exit.noGoto_ret]
  go_ret2
  exact ⟨rfl, hb1⟩
/-- behind compact.Do -/
def RetDo (m : Nat) (b : MB) (s : MS) (n : Nat) (l : List Dot) (w : World) (e : Ending) (w' : World) : Prop :=
 ∃ s', e = .returned (.tuple #[.int .i64 ((s.K.length : Int) - s'.K.length), .int .i64 0]) ∧ MpIn w' m b s' ∧ SGood s' n ∧ s'.A = s.A ∧ Rel s' (cpDo l s.rm) ∧ Fr (foot b s.A) w w'
theorem cDo_any {m : Nat} {b : MB} {s : MS} {n : Nat} (a : Option Addr) (cap : Nat) (l : List Dot) (w : World) (h : MpIn w m b s) (hg : SGood s n) (hn : n ≤ 1000) (hd : DotsIn w a l) (hok : marksErr l = 0) (hcov : coversM s.ctx l = true) :
 Calls Tryz.prog 29 #[.pointer (some ⟨m, 0, none⟩), .slice a l.length cap] w (RetDo m b s n l w) := by
 have HM := Lib.hid (may_yes a cap l w h hg.inv (by have := hg.ctx; omega) hd hok hcov)
 have HE := Lib.hid (fun (X : World) (h : MpIn X m b s) => mEvents_any X h hg.inv.len hg.inv.overs hg.inv.dots)
 have HLn := Lib.hid (fun (X : World) (h : MpIn X m b s) => mLen_any X h)
 have HG := Lib.hid hg
 have hlow : ∀ k, foot b s.A k → k < w.heap.size := fun k hk => h.low hk
 have hKl := hg.inv.len
 clear hd hok hcov hg
 go_enter Tryz.func29, Tryz.ntmps29
 go_wp2
 go_step3
 go_wp2_with (first
  | (go_at_call 89; (with_reducible refine HM.out.mono ?_); rintro x w1 ⟨v, vb, rfl, hv, hb1, hz1, hz2⟩; have h1 := h.kept_w hb1)
  | (go_at_call 65; (with_reducible refine (HLn.out _ h1).mono ?_); rintro x w2 ⟨rfl, rfl⟩))
 go_step3
 go_wp2_with ((go_at_call 38; (with_reducible refine (HE.out _ h1).mono ?_); rintro x w3 ⟨aE, ls, cE, rfl, hE, ⟨hev, _, _⟩, hb3⟩))
 have hv3 := hv.kept hb3
 have h3 := h1.kept_w hb3
 have HB3 := Lib.hid (hb1.trans (hb3.mono hb1.size))
 have hnv : ¬ foot b s.A v := fun hf => by have := hlow v hf; omega
 have hnb : ¬ foot b s.A vb := fun hf => by have := hlow vb hf; omega
 have hlsl : ls.length ≤ 2048 := by rw [← evsOf_length, hev, eventsOf_len HG.out.nd]; exact hKl
 have HOK : Hid (∀ x ∈ ls, evOk x.1 = true) := fun x hx => by
  have h9 : x.1 ∈ eventsOf s := by rw [← hev]; exact List.mem_map_of_mem hx
  obtain ⟨z, hz, e⟩ := (eventsOf_mem HG.out.nd).1 h9
  rw [← e]
  exact (HG.out.inv.kept z hz).1
 have HEV := Lib.hid hev
 have HN3 := Lib.hid (And.intro hv3 (And.intro hnv (And.intro hnb hE)))
 have HM3 := Lib.hid h3
 clear h1 h hv hb1 hb3 hz1 hz2 hev HM HE hlow hv3 hnv hnb hE h3
 go_loopw [28] (fun i wr => ∃ (k : Nat) (s1 : MS), i = .int .i64 k ∧ k ≤ ls.length ∧ MpIn wr m b s1 ∧ SGood s1 n ∧ s1.A = s.A ∧ Rel s1 (((evsOf ls).take k).foldl (cpEv l) s.rm) ∧ Fr (foot b s.A) w3 wr) (fun i _ => ls.length - (intOf i).toNat)
 case atStart => exact ⟨0, s, rfl, Nat.zero_le _, HM3.out, HG.out, rfl, HG.out.rel, Fr.refl _ _⟩
 case round =>
  obtain ⟨k, s1, rfl, hk, hm1, hg1, hA1, hr1, hf1⟩ := hrel
  have hK1 := HM3.out.keeps hf1 (fun _ h => h)
  by_cases hlt : k < ls.length
  ·obtain ⟨A, off, rfl, hra, hdov⟩ := (hK1.evs HN3.out.2.2.2).at hlt
   have r1 := hra k hlt
   have hx := HOK.out _ (List.getElem_mem hlt)
   have HT : Hid (((evsOf ls).take (k + 1)).foldl (cpEv l) s.rm = cpEv l (((evsOf ls).take k).foldl (cpEv l) s.rm) ls[k].1) := by
        unfold Hid
        rw [cpEvs_snoc _ _ _ (by rw [evsOf_length]; exact hlt), evsOf_at hlt]
   obtain ⟨r, hr⟩ : ∃ r, r = ((evsOf ls).take k).foldl (cpEv l) s.rm := ⟨_, rfl⟩
   rw [← hr] at hr1 HT
   have HLT := Lib.hid hlt
   clear hr hra
   generalize ls[k] = x at *
   obtain ⟨e, ax, cx⟩ := x
   simp only [itEv] at r1
   simp only at hx hdov HT
   have hvr := HN3.out.1.fr hf1 HN3.out.2.1 HN3.out.2.2.1
   go_upto_region 8 with (first
        | ((with_reducible refine wpList_load_evo _ A (off + k * 19) e ax cx r1 ?_ rfl ?_); exact rfl)
        | (refine wpList_store_new 43 _ _ _ (evCells e ax cx).toArray rfl rfl (by kernel_rfl) rfl (by kernel_rfl) ?_))
   refine wp_name (fun Wx hWx => ?_)
   have hbx : Below wr.heap.size wr Wx := by rw [hWx.out]; exact (Below.refl _ _).alloc (Nat.le_refl _) _
   have hRx : Wx.rangeAt wr.heap.size 0 (evCells e ax cx) := by rw [hWx.out]; exact evCells_box e ax cx wr _
   have hmx := hm1.kept_w hbx
   have hvx := hvr.kept hbx
   have hdx := hdov.kept hbx
   have HFX := Lib.hid (hf1.again (Fr.of_below hbx))
   have hdo := (evOk_parts hx).1
   have hol := (evOk_parts hx).2.2.1
   have hkd := evOk_kind hx
   have hdw := dotOk_W hdo
   have HIS := Lib.hid (hr1.isDead e)
   have HR1 := Lib.hid (And.intro hr1 (And.intro hg1 hA1))
   have HD := Lib.hid (fun (X : World) (h : MpIn X m b s1) => mDead_any e.dot hdw X h)
   have HV0 := fun (X : World) (h : VecIn X v vb l) => vHas_any e.dot X h
   have HS0 := fun (X : World) (h1 : VecIn X v vb l) (h2 : DotsIn X ax e.over) => cSettled_any e ax cx X h1 h2 (by omega)
   have HFg := Lib.hid (fun (X : World) (h : MpIn X m b s1) => mForget_any e.dot hdw X h)
   have HBr := Lib.hid (fun (X : World) (h : MpIn X m b s1) => mBareG e.dot hdw X h hg1)
   have HBB := Lib.hid (foot_kb b s.A)
   clear hWx hbx r1 hdov hvr hm1 hg1 hA1 hr1 hf1 hK1 hx hdo hol
   generalize wr.heap.size = B8 at *
   have v0 : Wx.cell? ⟨B8, 0, none⟩ = some (.int .i64 e.dot.a.dev) := by have := hRx 0 _ rfl; rwa [Nat.zero_add] at this
   have v1 : Wx.cell? ⟨B8, 1, none⟩ = some (.int .i64 e.dot.a.inc) := by have := hRx 1 _ rfl; rwa [Nat.zero_add] at this
   have v2 : Wx.cell? ⟨B8, 2, none⟩ = some (.int .i64 e.dot.seq) := by have := hRx 2 _ rfl; rwa [Nat.zero_add] at this
   have v6 : Wx.cell? ⟨B8, 6, none⟩ = some (.int .i64 e.kind) := by have := hRx 6 _ rfl; rwa [Nat.zero_add] at this
   have v7 : Wx.cell? ⟨B8, 7, none⟩ = some (.string e.key.name) := by have := hRx 7 _ rfl; rwa [Nat.zero_add] at this
   have v8 : Wx.cell? ⟨B8, 8, none⟩ = some (.string e.key.domain) := by have := hRx 8 _ rfl; rwa [Nat.zero_add] at this
   have v9 : Wx.cell? ⟨B8, 9, none⟩ = some (.string e.key.path) := by have := hRx 9 _ rfl; rwa [Nat.zero_add] at this
   clear v7 v8 v9
   by_cases hk1 : e.kind = 1
   case neg =>
        have hk2 : e.kind = 2 := hkd.resolve_left hk1
        have hkb : (e.kind == 1) = false := beq_eq_false_iff_ne.2 hk1
        have hkc : (e.kind == 2) = true := beq_iff_eq.2 hk2
        have HKD : Hid ((decide (e.kind = 1) && decide (e.dot ∈ s1.dead)) = false) := by unfold Hid; rw [decide_eq_false hk1]; rfl
        have HK2 : Hid (decide (e.kind = 2) = true) := decide_eq_true hk2
        have HD1 := HD
        clear hk1 hk2
        cases hhv : hasM l e.dot with
        | false =>
          rw [hhv] at HV0
          have HHV := Lib.hid hhv
          have HV := Lib.hid HV0
          have HS := Lib.hid HS0
          clear hhv
          have HHS : Hid (setl l e = false) := by unfold Hid setl; rw [HHV.out]; rfl
          have HC : Hid (cpEv l r e = r) := by
           unfold Hid
           rw [cpEv_eq, ← HIS.out, HHV.out, HHS.out, HKD.out, HK2.out]
           rfl
          clear HV0 HS0 hkd
          go_upto_region 9 with (go_at_call 66; (with_reducible refine (HD1.out _ hmx).mono ?_); rintro y W8 ⟨rfl, hbW8⟩)
          have hbW8 := Below.refl Wx.heap.size Wx
          replace v0 := kept hbW8 v0
          replace v1 := kept hbW8 v1
          replace v2 := kept hbW8 v2
          replace v6 := kept hbW8 v6
          have hm8 := hmx.kept_w hbW8
          have hv8 := hvx.kept hbW8
          have hd8 := hdx.kept hbW8
          have hR8 := rangeAt_kept hRx hbW8
          have HF8 := Lib.hid (HFX.out.again (Fr.of_below hbW8))
          clear hmx hvx hdx hRx hbW8
          go_upto_region 13 with (first
           | (go_at_call 74; (with_reducible refine (HV.out _ hv8).mono ?_); rintro y W7 ⟨rfl, hbW7⟩; have hv7 := hv8.kept hbW7; have hd7 := hd8.kept hbW7; have hR7 := rangeAt_kept hR8 hbW7)
           | ((with_reducible refine wpList_load_evo _ B8 0 e ax cx hR7 ?_ rfl ?_); exact rfl)
           | (go_at_call 90; (with_reducible refine (HS.out _ hv7 hd7).mono ?_); rintro y W9 ⟨rfl, hbW9⟩))
          have hb89 := hbW7
          replace v0 := kept hb89 v0
          replace v1 := kept hb89 v1
          replace v2 := kept hb89 v2
          replace v6 := kept hb89 v6
          have hm9 := hm8.kept_w hb89
          have HF9 := Lib.hid (HF8.out.again (Fr.of_below hb89))
          clear hm8 hv8 hd8 hR8 hb89 hbW7 hv7 hd7 hR7 HV HS HD1
          go_wp2
          go_roundw
          case rel => exact ⟨k + 1, s1, by go_num, HLT.out, hm9, HR1.out.2.1, HR1.out.2.2, by rw [HT.out, HC.out]; exact HR1.out.1, HF9.out⟩
          case measure => have := HLT.out; simp [intOf] <;> omega
        | true =>
          rw [hhv] at HV0
          have HHV := Lib.hid hhv
          have HV := Lib.hid HV0
          clear hhv
          cases hst : setl l e with
          | false =>
            rw [hst] at HS0
            have HHS := Lib.hid hst
            have HS := Lib.hid HS0
            clear hst
            have HC : Hid (cpEv l r e = r) := by
             unfold Hid
             rw [cpEv_eq, ← HIS.out, HHV.out, HHS.out, HKD.out, HK2.out]
             rfl
            clear HV0 HS0 hkd
            go_upto_region 9 with (go_at_call 66; (with_reducible refine (HD1.out _ hmx).mono ?_); rintro y W8 ⟨rfl, hbW8⟩)
            have hbW8 := Below.refl Wx.heap.size Wx
            replace v0 := kept hbW8 v0
            replace v1 := kept hbW8 v1
            replace v2 := kept hbW8 v2
            replace v6 := kept hbW8 v6
            have hm8 := hmx.kept_w hbW8
            have hv8 := hvx.kept hbW8
            have hd8 := hdx.kept hbW8
            have hR8 := rangeAt_kept hRx hbW8
            have HF8 := Lib.hid (HFX.out.again (Fr.of_below hbW8))
            clear hmx hvx hdx hRx hbW8
            go_upto_region 13 with (first
             | (go_at_call 74; (with_reducible refine (HV.out _ hv8).mono ?_); rintro y W7 ⟨rfl, hbW7⟩; have hv7 := hv8.kept hbW7; have hd7 := hd8.kept hbW7; have hR7 := rangeAt_kept hR8 hbW7)
             | ((with_reducible refine wpList_load_evo _ B8 0 e ax cx hR7 ?_ rfl ?_); exact rfl)
             | (go_at_call 90; (with_reducible refine (HS.out _ hv7 hd7).mono ?_); rintro y W9 ⟨rfl, hbW9⟩))
            have hb89 := hbW7.trans (hbW9.mono hbW7.size)
            replace v0 := kept hb89 v0
            replace v1 := kept hb89 v1
            replace v2 := kept hb89 v2
            replace v6 := kept hb89 v6
            have hm9 := hm8.kept_w hb89
            have HF9 := Lib.hid (HF8.out.again (Fr.of_below hb89))
            clear hm8 hv8 hd8 hR8 hb89 hbW7 hv7 hd7 hR7 HV HS HD1
            go_wp2
            go_roundw
            case rel => exact ⟨k + 1, s1, by go_num, HLT.out, hm9, HR1.out.2.1, HR1.out.2.2, by rw [HT.out, HC.out]; exact HR1.out.1, HF9.out⟩
            case measure => have := HLT.out; simp [intOf] <;> omega
          | true =>
            rw [hst] at HS0
            have HHS := Lib.hid hst
            have HS := Lib.hid HS0
            clear hst
            have HC : Hid (cpEv l r e = rmFg r e.dot) := by
             unfold Hid
             rw [cpEv_eq, ← HIS.out, HHV.out, HHS.out, HKD.out, HK2.out]
             rfl
            clear HV0 HS0 hkd
            go_upto_region 9 with (go_at_call 66; (with_reducible refine (HD1.out _ hmx).mono ?_); rintro y W8 ⟨rfl, hbW8⟩)
            have hbW8 := Below.refl Wx.heap.size Wx
            replace v0 := kept hbW8 v0
            replace v1 := kept hbW8 v1
            replace v2 := kept hbW8 v2
            replace v6 := kept hbW8 v6
            have hm8 := hmx.kept_w hbW8
            have hv8 := hvx.kept hbW8
            have hd8 := hdx.kept hbW8
            have hR8 := rangeAt_kept hRx hbW8
            have HF8 := Lib.hid (HFX.out.again (Fr.of_below hbW8))
            clear hmx hvx hdx hRx hbW8
            go_upto_region 10 with (first
             | (go_at_call 74; (with_reducible refine (HV.out _ hv8).mono ?_); rintro y W7 ⟨rfl, hbW7⟩; have hv7 := hv8.kept hbW7; have hd7 := hd8.kept hbW7; have hR7 := rangeAt_kept hR8 hbW7)
             | ((with_reducible refine wpList_load_evo _ B8 0 e ax cx hR7 ?_ rfl ?_); exact rfl)
             | (go_at_call 90; (with_reducible refine (HS.out _ hv7 hd7).mono ?_); rintro y W9 ⟨rfl, hbW9⟩))
            have hb89 := hbW7.trans (hbW9.mono hbW7.size)
            replace v0 := kept hb89 v0
            replace v1 := kept hb89 v1
            replace v2 := kept hb89 v2
            replace v6 := kept hb89 v6
            have hm9 := hm8.kept_w hb89
            have HF9 := Lib.hid (HF8.out.again (Fr.of_below hb89))
            clear hm8 hv8 hd8 hR8 hb89 hbW7 hv7 hd7 hR7 HV HS HD1
            go_wp2_with (go_at_call 19; (with_reducible refine (HFg.out _ hm9).mono ?_); rintro x w10 ⟨rfl, hm10, hf10⟩)
            have HZ := Lib.hid (And.intro hm10 (HF9.out.again (hf10.mono fun k _ hk => by rw [show k = b.kb from hk]; exact HBB.out)))
            clear hm10 hf10 hm9
            go_roundw
            case rel => exact ⟨k + 1, fgMS s1 e.dot, by go_num, HLT.out, HZ.out.1, HR1.out.2.1.fgN _, by rw [fgMS_A]; exact HR1.out.2.2, by rw [HT.out, HC.out]; exact HR1.out.1.fg _, HZ.out.2⟩
            case measure => have := HLT.out; simp [intOf] <;> omega
   have hkb : (e.kind == 1) = true := beq_iff_eq.2 hk1
   have hkc : (e.kind == 2) = false := beq_eq_false_iff_ne.2 (by rw [hk1]; decide)
   have HK2 : Hid (decide (e.kind = 2) = false) := decide_eq_false (by rw [hk1]; decide)
   cases hdd : decide (e.dot ∈ s1.dead) with
   | true =>
     have HKD : Hid ((decide (e.kind = 1) && decide (e.dot ∈ s1.dead)) = true) := by unfold Hid; rw [decide_eq_true hk1, hdd]; rfl
     have HD1 := HD.out
     rw [hdd] at HD1
     replace HD1 := Lib.hid HD1
     clear hk1 hdd
     cases hhv : hasM l e.dot with
     | false =>
       rw [hhv] at HV0
       have HHV := Lib.hid hhv
       have HV := Lib.hid HV0
       have HS := Lib.hid HS0
       clear hhv
       have HC : Hid (cpEv l r e = r) := by
        unfold Hid
        rw [cpEv_eq, ← HIS.out, HHV.out, HKD.out, HK2.out]
        rfl
       clear HV0 HS0 hkd
       go_upto_region 9 with (go_at_call 66; (with_reducible refine (HD1.out _ hmx).mono ?_); rintro y W8 ⟨rfl, hbW8⟩)
       replace v0 := kept hbW8 v0
       replace v1 := kept hbW8 v1
       replace v2 := kept hbW8 v2
       replace v6 := kept hbW8 v6
       have hm8 := hmx.kept_w hbW8
       have hv8 := hvx.kept hbW8
       have hd8 := hdx.kept hbW8
       have hR8 := rangeAt_kept hRx hbW8
       have HF8 := Lib.hid (HFX.out.again (Fr.of_below hbW8))
       clear hmx hvx hdx hRx hbW8
       go_upto_region 13 with (first
        | (go_at_call 74; (with_reducible refine (HV.out _ hv8).mono ?_); rintro y W7 ⟨rfl, hbW7⟩; have hv7 := hv8.kept hbW7; have hd7 := hd8.kept hbW7; have hR7 := rangeAt_kept hR8 hbW7)
        | ((with_reducible refine wpList_load_evo _ B8 0 e ax cx hR7 ?_ rfl ?_); exact rfl)
        | (go_at_call 90; (with_reducible refine (HS.out _ hv7 hd7).mono ?_); rintro y W9 ⟨rfl, hbW9⟩))
       have hb89 := hbW7
       replace v0 := kept hb89 v0
       replace v1 := kept hb89 v1
       replace v2 := kept hb89 v2
       replace v6 := kept hb89 v6
       have hm9 := hm8.kept_w hb89
       have HF9 := Lib.hid (HF8.out.again (Fr.of_below hb89))
       clear hm8 hv8 hd8 hR8 hb89 hbW7 hv7 hd7 hR7 HV HS HD1
       go_wp2
       go_roundw
       case rel => exact ⟨k + 1, s1, by go_num, HLT.out, hm9, HR1.out.2.1, HR1.out.2.2, by rw [HT.out, HC.out]; exact HR1.out.1, HF9.out⟩
       case measure => have := HLT.out; simp [intOf] <;> omega
     | true =>
       rw [hhv] at HV0
       have HHV := Lib.hid hhv
       have HV := Lib.hid HV0
       clear hhv
       have HS := Lib.hid HS0
       have HC : Hid (cpEv l r e = rmFg r e.dot) := by
        unfold Hid
        rw [cpEv_eq, ← HIS.out, HHV.out, HKD.out, HK2.out]
        rfl
       clear HV0 HS0 hkd
       go_upto_region 9 with (go_at_call 66; (with_reducible refine (HD1.out _ hmx).mono ?_); rintro y W8 ⟨rfl, hbW8⟩)
       replace v0 := kept hbW8 v0
       replace v1 := kept hbW8 v1
       replace v2 := kept hbW8 v2
       replace v6 := kept hbW8 v6
       have hm8 := hmx.kept_w hbW8
       have hv8 := hvx.kept hbW8
       have hd8 := hdx.kept hbW8
       have hR8 := rangeAt_kept hRx hbW8
       have HF8 := Lib.hid (HFX.out.again (Fr.of_below hbW8))
       clear hmx hvx hdx hRx hbW8
       go_upto_region 10 with (first
        | (go_at_call 74; (with_reducible refine (HV.out _ hv8).mono ?_); rintro y W7 ⟨rfl, hbW7⟩; have hv7 := hv8.kept hbW7; have hd7 := hd8.kept hbW7; have hR7 := rangeAt_kept hR8 hbW7)
        | ((with_reducible refine wpList_load_evo _ B8 0 e ax cx hR7 ?_ rfl ?_); exact rfl)
        | (go_at_call 90; (with_reducible refine (HS.out _ hv7 hd7).mono ?_); rintro y W9 ⟨rfl, hbW9⟩))
       have hb89 := hbW7
       replace v0 := kept hb89 v0
       replace v1 := kept hb89 v1
       replace v2 := kept hb89 v2
       replace v6 := kept hb89 v6
       have hm9 := hm8.kept_w hb89
       have HF9 := Lib.hid (HF8.out.again (Fr.of_below hb89))
       clear hm8 hv8 hd8 hR8 hb89 hbW7 hv7 hd7 hR7 HV HS HD1
       go_wp2_with (go_at_call 19; (with_reducible refine (HFg.out _ hm9).mono ?_); rintro x w10 ⟨rfl, hm10, hf10⟩)
       have HZ := Lib.hid (And.intro hm10 (HF9.out.again (hf10.mono fun k _ hk => by rw [show k = b.kb from hk]; exact HBB.out)))
       clear hm10 hf10 hm9
       go_roundw
       case rel => exact ⟨k + 1, fgMS s1 e.dot, by go_num, HLT.out, HZ.out.1, HR1.out.2.1.fgN _, by rw [fgMS_A]; exact HR1.out.2.2, by rw [HT.out, HC.out]; exact HR1.out.1.fg _, HZ.out.2⟩
       case measure => have := HLT.out; simp [intOf] <;> omega
   | false =>
     have HKD : Hid ((decide (e.kind = 1) && decide (e.dot ∈ s1.dead)) = false) := by unfold Hid; rw [decide_eq_true hk1, hdd]; rfl
     have HD1 := HD.out
     rw [hdd] at HD1
     replace HD1 := Lib.hid HD1
     clear hk1 hdd
     cases hhv : hasM l e.dot with
     | false =>
       rw [hhv] at HV0
       have HHV := Lib.hid hhv
       have HV := Lib.hid HV0
       have HS := Lib.hid HS0
       clear hhv
       have HHS : Hid (setl l e = false) := by unfold Hid setl; rw [HHV.out]; rfl
       have HC : Hid (cpEv l r e = r) := by
        unfold Hid
        rw [cpEv_eq, ← HIS.out, HHV.out, HHS.out, HKD.out, HK2.out]
        rfl
       clear HV0 HS0 hkd
       go_upto_region 9 with (go_at_call 66; (with_reducible refine (HD1.out _ hmx).mono ?_); rintro y W8 ⟨rfl, hbW8⟩)
       replace v0 := kept hbW8 v0
       replace v1 := kept hbW8 v1
       replace v2 := kept hbW8 v2
       replace v6 := kept hbW8 v6
       have hm8 := hmx.kept_w hbW8
       have hv8 := hvx.kept hbW8
       have hd8 := hdx.kept hbW8
       have hR8 := rangeAt_kept hRx hbW8
       have HF8 := Lib.hid (HFX.out.again (Fr.of_below hbW8))
       clear hmx hvx hdx hRx hbW8
       go_upto_region 13 with (first
        | (go_at_call 74; (with_reducible refine (HV.out _ hv8).mono ?_); rintro y W7 ⟨rfl, hbW7⟩; have hv7 := hv8.kept hbW7; have hd7 := hd8.kept hbW7; have hR7 := rangeAt_kept hR8 hbW7)
        | ((with_reducible refine wpList_load_evo _ B8 0 e ax cx hR7 ?_ rfl ?_); exact rfl)
        | (go_at_call 90; (with_reducible refine (HS.out _ hv7 hd7).mono ?_); rintro y W9 ⟨rfl, hbW9⟩))
       have hb89 := hbW7
       replace v0 := kept hb89 v0
       replace v1 := kept hb89 v1
       replace v2 := kept hb89 v2
       replace v6 := kept hb89 v6
       have hm9 := hm8.kept_w hb89
       have HF9 := Lib.hid (HF8.out.again (Fr.of_below hb89))
       clear hm8 hv8 hd8 hR8 hb89 hbW7 hv7 hd7 hR7 HV HS HD1
       go_wp2
       go_roundw
       case rel => exact ⟨k + 1, s1, by go_num, HLT.out, hm9, HR1.out.2.1, HR1.out.2.2, by rw [HT.out, HC.out]; exact HR1.out.1, HF9.out⟩
       case measure => have := HLT.out; simp [intOf] <;> omega
     | true =>
       rw [hhv] at HV0
       have HHV := Lib.hid hhv
       have HV := Lib.hid HV0
       clear hhv
       cases hst : setl l e with
       | false =>
         rw [hst] at HS0
         have HHS := Lib.hid hst
         have HS := Lib.hid HS0
         clear hst
         have HC : Hid (cpEv l r e = r) := by
           unfold Hid
           rw [cpEv_eq, ← HIS.out, HHV.out, HHS.out, HKD.out, HK2.out]
           rfl
         clear HV0 HS0 hkd
         go_upto_region 9 with (go_at_call 66; (with_reducible refine (HD1.out _ hmx).mono ?_); rintro y W8 ⟨rfl, hbW8⟩)
         replace v0 := kept hbW8 v0
         replace v1 := kept hbW8 v1
         replace v2 := kept hbW8 v2
         replace v6 := kept hbW8 v6
         have hm8 := hmx.kept_w hbW8
         have hv8 := hvx.kept hbW8
         have hd8 := hdx.kept hbW8
         have hR8 := rangeAt_kept hRx hbW8
         have HF8 := Lib.hid (HFX.out.again (Fr.of_below hbW8))
         clear hmx hvx hdx hRx hbW8
         go_upto_region 13 with (first
           | (go_at_call 74; (with_reducible refine (HV.out _ hv8).mono ?_); rintro y W7 ⟨rfl, hbW7⟩; have hv7 := hv8.kept hbW7; have hd7 := hd8.kept hbW7; have hR7 := rangeAt_kept hR8 hbW7)
           | ((with_reducible refine wpList_load_evo _ B8 0 e ax cx hR7 ?_ rfl ?_); exact rfl)
           | (go_at_call 90; (with_reducible refine (HS.out _ hv7 hd7).mono ?_); rintro y W9 ⟨rfl, hbW9⟩))
         have hb89 := hbW7.trans (hbW9.mono hbW7.size)
         replace v0 := kept hb89 v0
         replace v1 := kept hb89 v1
         replace v2 := kept hb89 v2
         replace v6 := kept hb89 v6
         have hm9 := hm8.kept_w hb89
         have HF9 := Lib.hid (HF8.out.again (Fr.of_below hb89))
         clear hm8 hv8 hd8 hR8 hb89 hbW7 hv7 hd7 hR7 HV HS HD1
         go_wp2
         go_roundw
         case rel => exact ⟨k + 1, s1, by go_num, HLT.out, hm9, HR1.out.2.1, HR1.out.2.2, by rw [HT.out, HC.out]; exact HR1.out.1, HF9.out⟩
         case measure => have := HLT.out; simp [intOf] <;> omega
       | true =>
         rw [hst] at HS0
         have HHS := Lib.hid hst
         have HS := Lib.hid HS0
         clear hst
         have HC : Hid (cpEv l r e = rmBr r e.dot) := by
           unfold Hid
           rw [cpEv_eq, ← HIS.out, HHV.out, HHS.out, HKD.out, HK2.out]
           rfl
         clear HV0 HS0 hkd
         go_upto_region 9 with (go_at_call 66; (with_reducible refine (HD1.out _ hmx).mono ?_); rintro y W8 ⟨rfl, hbW8⟩)
         replace v0 := kept hbW8 v0
         replace v1 := kept hbW8 v1
         replace v2 := kept hbW8 v2
         replace v6 := kept hbW8 v6
         have hm8 := hmx.kept_w hbW8
         have hv8 := hvx.kept hbW8
         have hd8 := hdx.kept hbW8
         have hR8 := rangeAt_kept hRx hbW8
         have HF8 := Lib.hid (HFX.out.again (Fr.of_below hbW8))
         clear hmx hvx hdx hRx hbW8
         go_upto_region 10 with (first
           | (go_at_call 74; (with_reducible refine (HV.out _ hv8).mono ?_); rintro y W7 ⟨rfl, hbW7⟩; have hv7 := hv8.kept hbW7; have hd7 := hd8.kept hbW7; have hR7 := rangeAt_kept hR8 hbW7)
           | ((with_reducible refine wpList_load_evo _ B8 0 e ax cx hR7 ?_ rfl ?_); exact rfl)
           | (go_at_call 90; (with_reducible refine (HS.out _ hv7 hd7).mono ?_); rintro y W9 ⟨rfl, hbW9⟩))
         have hb89 := hbW7.trans (hbW9.mono hbW7.size)
         replace v0 := kept hb89 v0
         replace v1 := kept hb89 v1
         replace v2 := kept hb89 v2
         replace v6 := kept hb89 v6
         have hm9 := hm8.kept_w hb89
         have HF9 := Lib.hid (HF8.out.again (Fr.of_below hb89))
         clear hm8 hv8 hd8 hR8 hb89 hbW7 hv7 hd7 hR7 HV HS HD1
         go_wp2_with (go_at_call 21; (with_reducible refine (HBr.out _ hm9).mono ?_); rintro x w10 ⟨s2, rfl, hm10, hg2, hA2, hs2, hf10⟩)
         have HZ := Lib.hid (And.intro hm10 (And.intro (HF9.out.again (hf10.mono fun k _ hk => by rw [show k = b.kb from hk]; exact HBB.out)) (And.intro (HR1.out.2.1.brN hg2 hs2) (And.intro (hA2.trans HR1.out.2.2) (HR1.out.1.br e.dot hg2.nd hs2)))))
         clear hm10 hf10 hm9 hg2 hA2 hs2
         go_roundw
         case rel => exact ⟨k + 1, s2, by go_num, HLT.out, HZ.out.1, HZ.out.2.2.1, HZ.out.2.2.2.1, by rw [HT.out, HC.out]; exact HZ.out.2.2.2.2, HZ.out.2.1⟩
         case measure => have := HLT.out; simp [intOf] <;> omega
  ·obtain rfl : k = ls.length := by omega
   have hr1' : Rel s1 (cpEvs l s.rm) := by
        rw [List.take_of_length_le (by rw [evsOf_length]; exact Nat.le_refl _), HEV.out] at hr1
        exact hr1
   have hdl := hg1.dead
   have HDs := Lib.hid (fun (X : World) (h : MpIn X m b s1) => mDeads_any X h (by omega) (fun d hd => dotOk_W (hg1.inv.dead d hd)))
   have hD0 : (cpEvs l s.rm).dead = sortD s1.dead := hr1'.dead
   have HCP : Hid (cpDo l s.rm = (sortD s1.dead).foldl (cpCl l) (cpEvs l s.rm)) := by unfold Hid cpDo; rw [hD0]
   have HR1 := Lib.hid (And.intro hr1' (And.intro hg1 (And.intro hA1 hf1)))
   clear hr1 hr1' hg1 hA1 hK1 hD0
   go_wp2_with (go_at_call 39; (with_reducible refine (HDs.out _ hm1).mono ?_); rintro x w4 ⟨xv, rfl, hown, _, hb4⟩; obtain ⟨aD, cD, rfl, hinD⟩ := own_dots hown)
   have HM4 := Lib.hid (hm1.kept_w hb4)
   have HF4 := Lib.hid (HR1.out.2.2.2.again (Fr.of_below hb4))
   have HDW : Hid (∀ d ∈ sortD s1.dead, DotW d) := fun d hd => dotOk_W (HR1.out.2.1.inv.dead d (sortD_mem.1 hd))
   have hdl2 : (sortD s1.dead).length ≤ 1048576 := Nat.le_trans (sortD_length _) (by omega)
   clear hown hm1 hf1 hb4 HDs
   generalize sortD s1.dead = ds at *
   go_loopw [74] (fun i wr => ∃ (j : Nat) (s2 : MS), i = .int .i64 j ∧ j ≤ ds.length ∧ MpIn wr m b s2 ∧ SGood s2 n ∧ s2.A = s.A ∧ Rel s2 ((ds.take j).foldl (cpCl l) (cpEvs l s.rm)) ∧ Fr (foot b s.A) w4 wr) (fun i _ => ds.length - (intOf i).toNat)
   case atStart => exact ⟨0, s1, rfl, Nat.zero_le _, HM4.out, HR1.out.2.1, HR1.out.2.2.1, HR1.out.1, Fr.refl _ _⟩
   case round =>
        obtain ⟨j, s2, rfl, hj, hm2, hg2, hA2, hr2, hf2⟩ := hrel
        have hK2 := HM4.out.keeps hf2 (fun q hq => by rw [HR1.out.2.2.1]; exact hq)
        by_cases hlt : j < ds.length
        ·obtain ⟨A2, off, rfl, c0, c1, c2⟩ := (hK2.dots hinD).at hlt
         have hvq := (HN3.out.1.fr (HF4.out.again hf2) HN3.out.2.1 HN3.out.2.2.1)
         have hdw := HDW.out _ (List.getElem_mem hlt)
         have HT : Hid ((ds.take (j + 1)).foldl (cpCl l) (cpEvs l s.rm) = cpCl l ((ds.take j).foldl (cpCl l) (cpEvs l s.rm)) ds[j]) := cpCls_snoc _ _ _ hlt _
         obtain ⟨r, hr⟩ : ∃ r, r = (ds.take j).foldl (cpCl l) (cpEvs l s.rm) := ⟨_, rfl⟩
         rw [← hr] at hr2 HT
         have HLT := Lib.hid hlt
         clear hr
         generalize ds[j] = d at *
         clear hlt
         have HR2 := Lib.hid (And.intro hr2 (And.intro hg2 hA2))
         go_upto_region 17 with fail
         refine wp_name (fun Wx hWx => ?_)
         have hbx : Below wr.heap.size wr Wx := by rw [hWx.out]; go_grown
         have v0 : Wx.cell? ⟨wr.heap.size, 0, none⟩ = some (.int .i64 d.a.dev) := by rw [hWx.out]; go_simp
         have v1 : Wx.cell? ⟨wr.heap.size, 1, none⟩ = some (.int .i64 d.a.inc) := by rw [hWx.out]; go_simp
         have v2 : Wx.cell? ⟨wr.heap.size, 2, none⟩ = some (.int .i64 d.seq) := by rw [hWx.out]; go_simp
         have hmx := hm2.kept_w hbx
         have hvx := hvq.kept hbx
         have HFX := Lib.hid (hf2.again (Fr.of_below hbx))
         have HV0 := fun (X : World) (h : VecIn X v vb l) => vHas_any d X h
         have HCl := Lib.hid (fun (X : World) (h : MpIn X m b s2) => mClear_any d hdw X h)
         have HBB := Lib.hid (foot_db b s.A)
         clear hWx c0 c1 c2 hm2 hvq hf2 hr2 hg2 hA2 hK2 hbx hdw
         generalize wr.heap.size = B8 at *
         cases hhv : hasM l d with
         | false =>
           rw [hhv] at HV0
           have HV := Lib.hid HV0
           have HC : Hid (cpCl l r d = r) := by unfold Hid cpCl; rw [hhv]; rfl
           clear HV0 hhv
           go_upto_region 19 with (go_at_call 74; (with_reducible refine (HV.out _ hvx).mono ?_); rintro y W9 ⟨rfl, hbW9⟩)
           have hm9 := hmx.kept_w hbW9
           have HF9 := Lib.hid (HFX.out.again (Fr.of_below hbW9))
           replace v0 := kept hbW9 v0
           replace v1 := kept hbW9 v1
           replace v2 := kept hbW9 v2
           clear hmx hvx hbW9 HV
           go_wp2
           go_roundw
           case rel => exact ⟨j + 1, s2, by go_num, HLT.out, hm9, HR2.out.2.1, HR2.out.2.2, by rw [HT.out, HC.out]; exact HR2.out.1, HF9.out⟩
           case measure => have := HLT.out; simp [intOf] <;> omega
         | true =>
           rw [hhv] at HV0
           have HV := Lib.hid HV0
           have HC : Hid (cpCl l r d = rmCl r d) := by unfold Hid cpCl; rw [hhv]; rfl
           clear HV0 hhv
           go_upto_region 18 with (go_at_call 74; (with_reducible refine (HV.out _ hvx).mono ?_); rintro y W9 ⟨rfl, hbW9⟩)
           have hm9 := hmx.kept_w hbW9
           have HF9 := Lib.hid (HFX.out.again (Fr.of_below hbW9))
           replace v0 := kept hbW9 v0
           replace v1 := kept hbW9 v1
           replace v2 := kept hbW9 v2
           clear hmx hvx hbW9 HV
           go_wp2_with (go_at_call 23; (with_reducible refine (HCl.out _ hm9).mono ?_); rintro x w10 ⟨rfl, hm10, hf10⟩)
           have HZ := Lib.hid (And.intro hm10 (HF9.out.again (hf10.mono fun k _ hk => by rw [show k = b.db from hk]; exact HBB.out)))
           clear hm10 hf10 hm9
           go_roundw
           case rel => exact ⟨j + 1, clMS s2 d, by go_num, HLT.out, HZ.out.1, HR2.out.2.1.clN _, by rw [clMS_A]; exact HR2.out.2.2, by rw [HT.out, HC.out]; exact HR2.out.1.cl _, HZ.out.2⟩
           case measure => have := HLT.out; simp [intOf] <;> omega
        ·obtain rfl : j = ds.length := by omega
         have hr3 : Rel s2 (cpDo l s.rm) := by
          rw [List.take_of_length_le (Nat.le_refl _), ← HCP.out] at hr2
          exact hr2
         have hkl2 := hg2.inv.len
         have hwr : IntKind.i64.wrap ((s.K.length : Int) - s2.K.length) = (s.K.length : Int) - s2.K.length := IntWalk.i64_in _ (by omega)
         have HL2 := Lib.hid (mLen_any wr hm2)
         have HZ := Lib.hid (And.intro hm2 (And.intro hg2 (And.intro hA2 (And.intro hr3 (((Fr.of_below HB3.out).again HF4.out).again hf2)))))
         clear hr2 hr3 hm2 hg2 hA2 hf2 hK2
         go_wp2_with (go_at_call 65; (with_reducible refine HL2.out.mono ?_); rintro x w6 ⟨rfl, rfl⟩)
         try rw [Exit.noGoto_ret]
         go_ret2
         exact ⟨s2, rfl, HZ.out⟩
theorem cWaste_any {m : Nat} {b : MB} {s : MS} (w : World) (h : MpIn w m b s) {n : Nat} (hg : SGood s n) :
 Calls Tryz.prog 40 #[.pointer (some ⟨m, 0, none⟩)] w fun x w' => x = .returned (.int .i64 ((s.K.length : Int) - ((aliveOf s).filter fun e => decide (e.over.length = 0)).length)) ∧ Below w.heap.size w w' := by
 have HLn := Lib.hid (mLen_any w h)
 have HAl := Lib.hid (mAlive_any w h hg.inv hg.inv.dots hg.inv.overs)
 have hKl := hg.inv.len
 have hAl : (aliveOf s).length ≤ 2048 := by
  rw [← aliveR_eq hg.inv hg.rel]
  refine Nat.le_trans (List.length_filter_le _ _) ?_
  show (eventsOf s).length ≤ 2048
  rw [eventsOf_len hg.nd]
  exact hKl
 clear hg
 go_enter Tryz.func40, Tryz.ntmps40
 go_wp2_with (first
  | (go_at_call 65; (with_reducible refine HLn.out.mono ?_); rintro x w2 ⟨rfl, rfl⟩)
  | (go_at_call 35; (with_reducible refine HAl.out.mono ?_); rintro x w3 ⟨aE, ls, cE, rfl, hE, ⟨hev, hlc, _⟩, hb3⟩))
 have hll : ls.length ≤ 2048 := by rw [← evsOf_length, hev]; exact hAl
 have HEV := Lib.hid hev
 clear hev h HLn HAl hAl
 generalize hkn : s.K.length = kn at *
 have HKN := Lib.hid hkn
 clear hkn
 go_loopw [11, 3] (fun i u wr => ∃ k : Nat, i = .int .i64 k ∧ k ≤ ls.length ∧ u = .int .i64 ((kn : Int) - (((evsOf ls).take k).filter fun e => decide (e.over.length = 0)).length) ∧ Below w3.heap.size w3 wr) (fun i _ _ => ls.length - (intOf i).toNat)
 case atStart => exact ⟨0, rfl, Nat.zero_le _, by simp, Below.refl _ _⟩
 case round =>
  obtain ⟨k, rfl, hk, rfl, hbr⟩ := hrel
  by_cases hlt : k < ls.length
  ·obtain ⟨A, off, rfl, hra, _⟩ := (hE.kept hbr).at hlt
   have r1 := hra k hlt
   have HT : Hid ((((evsOf ls).take (k + 1)).filter fun e => decide (e.over.length = 0)).length = (((evsOf ls).take k).filter fun e => decide (e.over.length = 0)).length + if ls[k].1.over.length = 0 then 1 else 0) := by
        unfold Hid
        rw [waste_step _ _ (by rw [evsOf_length]; exact hlt), evsOf_at hlt]
   have hq : (((evsOf ls).take k).filter fun e => decide (e.over.length = 0)).length ≤ k := by
        refine Nat.le_trans (List.length_filter_le _ _) ?_
        rw [List.length_take]
        exact Nat.min_le_left _ _
   have HLT := Lib.hid hlt
   generalize (((evsOf ls).take k).filter fun e => decide (e.over.length = 0)).length = q at *
   clear hra
   generalize ls[k] = x at *
   obtain ⟨e, ax, cx⟩ := x
   simp only [itEv] at r1
   simp only at HT
   go_upto_region 5 with (first
        | ((with_reducible refine wpList_load_evo _ A (off + k * 19) e ax cx r1 ?_ rfl ?_); exact rfl)
        | (refine wpList_store_new 43 _ _ _ (evCells e ax cx).toArray rfl rfl (by kernel_rfl) rfl (by kernel_rfl) ?_))
   refine wp_name (fun Wx hWx => ?_)
   have hbx : Below wr.heap.size wr Wx := by rw [hWx.out]; exact (Below.refl _ _).alloc (Nat.le_refl _) _
   have v18 : Wx.cell? ⟨wr.heap.size, 18, none⟩ = some (.slice ax e.over.length cx) := by
        have hRx : Wx.rangeAt wr.heap.size 0 (evCells e ax cx) := by rw [hWx.out]; exact evCells_box e ax cx wr _
        have := hRx 18 _ rfl
        rwa [Nat.zero_add] at this
   have HBZ := Lib.hid (hbr.trans (hbx.mono hbr.size))
   clear hWx hbx r1 hbr
   by_cases h0 : e.over.length = 0
   ·have hb0 : (((e.over.length : Nat) : Int) == 0) = true := beq_iff_eq.2 (by omega)
    rw [if_pos h0] at HT
    have hwr : IntKind.i64.wrap ((kn : Int) - q - 1) = (kn : Int) - q - 1 := IntWalk.i64_in _ (by omega)
    clear h0
    go_wp2
    go_roundw
    case rel => exact ⟨k + 1, by go_num, HLT.out, by rw [HT.out]; congr 1; omega, HBZ.out⟩
    case measure => have := HLT.out; simp [intOf] <;> omega
   ·have hb0 : (((e.over.length : Nat) : Int) == 0) = false := beq_eq_false_iff_ne.2 (by omega)
    rw [if_neg h0] at HT
    clear h0
    go_wp2
    go_roundw
    case rel => exact ⟨k + 1, by go_num, HLT.out, by rw [HT.out]; rfl, HBZ.out⟩
    case measure => have := HLT.out; simp [intOf] <;> omega
  ·obtain rfl : k = ls.length := by omega
   have HE : Hid (((evsOf ls).take ls.length) = evsOf ls) := List.take_of_length_le (by rw [evsOf_length]; exact Nat.le_refl _)
   go_wp2
   go_ret
   exact ⟨ret_int (by rw [← HEV.out, HE.out, HKN.out]), hb3.trans (hbr.mono hb3.size)⟩
theorem cWaste_nil (w : World) : Calls Tryz.prog 40 #[.pointer none] w fun x w' => x = .returned (.int .i64 0) ∧ Below w.heap.size w w' := by
 have HLn := Lib.hid (mLen_nil w)
 have HAl := Lib.hid (mAlive_nil w)
 go_enter Tryz.func40, Tryz.ntmps40
 go_wp2_with (first
  | (go_at_call 65; (with_reducible refine HLn.out.mono ?_); rintro x w2 ⟨rfl, rfl⟩)
  | (go_at_call 35; (with_reducible refine HAl.out.mono ?_); rintro x w3 ⟨rfl, hb3⟩))
 go_rounds 1
 go_ret
 exact ⟨rfl, hb3⟩
end Go.Proofs.YtpbobhfnglikmaaGreat
