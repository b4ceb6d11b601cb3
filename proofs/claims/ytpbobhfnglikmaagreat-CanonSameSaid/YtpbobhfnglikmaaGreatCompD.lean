/- compact.Do and Waste, walked. Conditions: as in the text. -/
import Derived.Test.YtpbobhfnglikmaaGreatComp
set_option linter.unusedSimpArgs false
set_option linter.unusedVariables false
set_option linter.unnecessarySimpa false
set_option maxHeartbeats 16000000
set_option maxRecDepth 100000
namespace Go.Proofs.YtpbobhfnglikmaaGreat
open Go.RowKit
/-- behind compact.Do -/
def RetDo (m : Nat) (b : MB) (s : MS) (n : Nat) (l : List Dot) (w : World) (e : Ending) (w' : World) : Prop :=
 ∃ s', e = .returned (.tuple #[.int .i64 ((s.K.length : Int) - s'.K.length), .int .i64 0]) ∧ MpIn w' m b s' ∧ SGood s' n ∧ s'.A = s.A ∧ Rel s' (cpDo l s.rm) ∧ Fr (foot b s.A) w w'
theorem cDo_any {m : Nat} {b : MB} {s : MS} {n : Nat} (a : Option Addr) (cap : Nat) (l : List Dot) (w : World) (h : MpIn w m b s) (hg : SGood s n) (hn : n ≤ 1000) (hd : DotsIn w a l) (hok : marksErr l = 0) (hcov : coversM s.ctx l = true) :
 Calls Tryz.prog 29 #[.pointer (some ⟨m, 0, none⟩), .slice a l.length cap] w (RetDo m b s n l w) := by
 have HM := Lib.hid (may_yes a cap l w h hg.inv (by have := hg.ctx; omega) hd hok hcov)
 have HE := Lib.hid (fun (X : World) (h : MpIn X m b s) => mEvents_any X h hg.inv.len hg.inv.overs hg.inv.dots)
 have HLn := Lib.hid (fun (X : World) (h : MpIn X m b s) => mLen_any X h)
 have HG := Lib.hid hg
 have hlow : ∀ k, foot b s.A k → k < w.heap.size := fun k hk => h.low hk
 have hKl := hg.inv.len
 clear hd hok hcov hg
 go_enter Tryz.func29, Tryz.ntmps29
 go_wp2
 go_step3
 go_wp2_with (first
  | (go_at_call 89; (with_reducible refine HM.out.mono ?_); rintro x w1 ⟨v, vb, rfl, hv, hb1, hz1, hz2⟩; have h1 := h.kept_w hb1)
  | (go_at_call 65; (with_reducible refine (HLn.out _ h1).mono ?_); rintro x w2 ⟨rfl, rfl⟩))
 go_step3
 go_wp2_with ((go_at_call 38; (with_reducible refine (HE.out _ h1).mono ?_); rintro x w3 ⟨aE, ls, cE, rfl, hE, ⟨hev, _, _⟩, hb3⟩))
 have hv3 := hv.kept hb3
 have h3 := h1.kept_w hb3
 have HB3 := Lib.hid (hb1.trans (hb3.mono hb1.size))
 have hnv : ¬ foot b s.A v := fun hf => by have := hlow v hf; omega
 have hnb : ¬ foot b s.A vb := fun hf => by have := hlow vb hf; omega
 have hlsl : ls.length ≤ 2048 := by rw [← evsOf_length, hev, eventsOf_len HG.out.nd]; exact hKl
 have HOK : Hid (∀ x ∈ ls, evOk x.1 = true) := fun x hx => by
  have h9 : x.1 ∈ eventsOf s := by rw [← hev]; exact List.mem_map_of_mem hx
  obtain ⟨z, hz, e⟩ := (eventsOf_mem HG.out.nd).1 h9
  rw [← e]
  exact (HG.out.inv.kept z hz).1
 have HEV := Lib.hid hev
 have HN3 := Lib.hid (And.intro hv3 (And.intro hnv (And.intro hnb hE)))
 have HM3 := Lib.hid h3
 clear h1 h hv hb1 hb3 hz1 hz2 hev HM HE hlow hv3 hnv hnb hE h3
 go_loopw [28] (fun i wr => ∃ (k : Nat) (s1 : MS), i = .int .i64 k ∧ k ≤ ls.length ∧ MpIn wr m b s1 ∧ SGood s1 n ∧ s1.A = s.A ∧ Rel s1 (((evsOf ls).take k).foldl (cpEv l) s.rm) ∧ Fr (foot b s.A) w3 wr) (fun i _ => ls.length - (intOf i).toNat)
 case atStart => exact ⟨0, s, rfl, Nat.zero_le _, HM3.out, HG.out, rfl, HG.out.rel, Fr.refl _ _⟩
 case round =>
  obtain ⟨k, s1, rfl, hk, hm1, hg1, hA1, hr1, hf1⟩ := hrel
  have hK1 := HM3.out.keeps hf1 (fun _ h => h)
  by_cases hlt : k < ls.length
  ·obtain ⟨A, off, rfl, hra, hdov⟩ := (hK1.evs HN3.out.2.2.2).at hlt
   have r1 := hra k hlt
   have hx := HOK.out _ (List.getElem_mem hlt)
   have HT : Hid (((evsOf ls).take (k + 1)).foldl (cpEv l) s.rm = cpEv l (((evsOf ls).take k).foldl (cpEv l) s.rm) ls[k].1) := by
        unfold Hid
        rw [cpEvs_snoc _ _ _ (by rw [evsOf_length]; exact hlt), evsOf_at hlt]
   obtain ⟨r, hr⟩ : ∃ r, r = ((evsOf ls).take k).foldl (cpEv l) s.rm := ⟨_, rfl⟩
   rw [← hr] at hr1 HT
   have HLT := Lib.hid hlt
   clear hr hra
   generalize ls[k] = x at *
   obtain ⟨e, ax, cx⟩ := x
   simp only [itEv] at r1
   simp only at hx hdov HT
   have hvr := HN3.out.1.fr hf1 HN3.out.2.1 HN3.out.2.2.1
   go_upto_region 8 with (first
        | ((with_reducible refine wpList_load_evo _ A (off + k * 19) e ax cx r1 ?_ rfl ?_); exact rfl)
        | (refine wpList_store_new 43 _ _ _ (evCells e ax cx).toArray rfl rfl (by kernel_rfl) rfl (by kernel_rfl) ?_))
   refine wp_name (fun Wx hWx => ?_)
   have hbx : Below wr.heap.size wr Wx := by rw [hWx.out]; exact (Below.refl _ _).alloc (Nat.le_refl _) _
   have hRx : Wx.rangeAt wr.heap.size 0 (evCells e ax cx) := by rw [hWx.out]; exact evCells_box e ax cx wr _
   have hmx := hm1.kept_w hbx
   have hvx := hvr.kept hbx
   have hdx := hdov.kept hbx
   have HFX := Lib.hid (hf1.again (Fr.of_below hbx))
   have hdo := (evOk_parts hx).1
   have hol := (evOk_parts hx).2.2.1
   have hkd := evOk_kind hx
   have hdw := dotOk_W hdo
   have HIS := Lib.hid (hr1.isDead e)
   have HR1 := Lib.hid (And.intro hr1 (And.intro hg1 hA1))
   have HD := Lib.hid (fun (X : World) (h : MpIn X m b s1) => mDead_any e.dot hdw X h)
   have HV0 := fun (X : World) (h : VecIn X v vb l) => vHas_any e.dot X h
   have HS0 := fun (X : World) (h1 : VecIn X v vb l) (h2 : DotsIn X ax e.over) => cSettled_any e ax cx X h1 h2 (by omega)
   have HFg := Lib.hid (fun (X : World) (h : MpIn X m b s1) => mForget_any e.dot hdw X h)
   have HBr := Lib.hid (fun (X : World) (h : MpIn X m b s1) => mBareG e.dot hdw X h hg1)
   have HBB := Lib.hid (foot_kb b s.A)
   clear hWx hbx r1 hdov hvr hm1 hg1 hA1 hr1 hf1 hK1 hx hdo hol
   generalize wr.heap.size = B8 at *
   have v0 : Wx.cell? ⟨B8, 0, none⟩ = some (.int .i64 e.dot.a.dev) := by have := hRx 0 _ rfl; rwa [Nat.zero_add] at this
   have v1 : Wx.cell? ⟨B8, 1, none⟩ = some (.int .i64 e.dot.a.inc) := by have := hRx 1 _ rfl; rwa [Nat.zero_add] at this
   have v2 : Wx.cell? ⟨B8, 2, none⟩ = some (.int .i64 e.dot.seq) := by have := hRx 2 _ rfl; rwa [Nat.zero_add] at this
   have v6 : Wx.cell? ⟨B8, 6, none⟩ = some (.int .i64 e.kind) := by have := hRx 6 _ rfl; rwa [Nat.zero_add] at this
   have v7 : Wx.cell? ⟨B8, 7, none⟩ = some (.string e.key.name) := by have := hRx 7 _ rfl; rwa [Nat.zero_add] at this
   have v8 : Wx.cell? ⟨B8, 8, none⟩ = some (.string e.key.domain) := by have := hRx 8 _ rfl; rwa [Nat.zero_add] at this
   have v9 : Wx.cell? ⟨B8, 9, none⟩ = some (.string e.key.path) := by have := hRx 9 _ rfl; rwa [Nat.zero_add] at this
   clear v7 v8 v9
   by_cases hk1 : e.kind = 1
   case neg =>
        have hk2 : e.kind = 2 := hkd.resolve_left hk1
        have hkb : (e.kind == 1) = false := beq_eq_false_iff_ne.2 hk1
        have hkc : (e.kind == 2) = true := beq_iff_eq.2 hk2
        have HKD : Hid ((decide (e.kind = 1) && decide (e.dot ∈ s1.dead)) = false) := by unfold Hid; rw [decide_eq_false hk1]; rfl
        have HK2 : Hid (decide (e.kind = 2) = true) := decide_eq_true hk2
        have HD1 := HD
        clear hk1 hk2
        cases hhv : hasM l e.dot with
        | false =>
          rw [hhv] at HV0
          have HHV := Lib.hid hhv
          have HV := Lib.hid HV0
          have HS := Lib.hid HS0
          clear hhv
          have HHS : Hid (setl l e = false) := by unfold Hid setl; rw [HHV.out]; rfl
          have HC : Hid (cpEv l r e = r) := by
           unfold Hid
           rw [cpEv_eq, ← HIS.out, HHV.out, HHS.out, HKD.out, HK2.out]
           rfl
          clear HV0 HS0 hkd
          go_upto_region 9 with (go_at_call 66; (with_reducible refine (HD1.out _ hmx).mono ?_); rintro y W8 ⟨rfl, hbW8⟩)
          have hbW8 := Below.refl Wx.heap.size Wx
          replace v0 := kept hbW8 v0
          replace v1 := kept hbW8 v1
          replace v2 := kept hbW8 v2
          replace v6 := kept hbW8 v6
          have hm8 := hmx.kept_w hbW8
          have hv8 := hvx.kept hbW8
          have hd8 := hdx.kept hbW8
          have hR8 := rangeAt_kept hRx hbW8
          have HF8 := Lib.hid (HFX.out.again (Fr.of_below hbW8))
          clear hmx hvx hdx hRx hbW8
          go_upto_region 13 with (first
           | (go_at_call 74; (with_reducible refine (HV.out _ hv8).mono ?_); rintro y W7 ⟨rfl, hbW7⟩; have hv7 := hv8.kept hbW7; have hd7 := hd8.kept hbW7; have hR7 := rangeAt_kept hR8 hbW7)
           | ((with_reducible refine wpList_load_evo _ B8 0 e ax cx hR7 ?_ rfl ?_); exact rfl)
           | (go_at_call 90; (with_reducible refine (HS.out _ hv7 hd7).mono ?_); rintro y W9 ⟨rfl, hbW9⟩))
          have hb89 := hbW7
          replace v0 := kept hb89 v0
          replace v1 := kept hb89 v1
          replace v2 := kept hb89 v2
          replace v6 := kept hb89 v6
          have hm9 := hm8.kept_w hb89
          have HF9 := Lib.hid (HF8.out.again (Fr.of_below hb89))
          clear hm8 hv8 hd8 hR8 hb89 hbW7 hv7 hd7 hR7 HV HS HD1
          go_wp2
          go_roundw
          case rel => exact ⟨k + 1, s1, by go_num, HLT.out, hm9, HR1.out.2.1, HR1.out.2.2, by rw [HT.out, HC.out]; exact HR1.out.1, HF9.out⟩
          case measure => have := HLT.out; simp [intOf] <;> omega
        | true =>
          rw [hhv] at HV0
          have HHV := Lib.hid hhv
          have HV := Lib.hid HV0
          clear hhv
          cases hst : setl l e with
          | false =>
            rw [hst] at HS0
            have HHS := Lib.hid hst
            have HS := Lib.hid HS0
            clear hst
            have HC : Hid (cpEv l r e = r) := by
             unfold Hid
             rw [cpEv_eq, ← HIS.out, HHV.out, HHS.out, HKD.out, HK2.out]
             rfl
            clear HV0 HS0 hkd
            go_upto_region 9 with (go_at_call 66; (with_reducible refine (HD1.out _ hmx).mono ?_); rintro y W8 ⟨rfl, hbW8⟩)
            have hbW8 := Below.refl Wx.heap.size Wx
            replace v0 := kept hbW8 v0
            replace v1 := kept hbW8 v1
            replace v2 := kept hbW8 v2
            replace v6 := kept hbW8 v6
            have hm8 := hmx.kept_w hbW8
            have hv8 := hvx.kept hbW8
            have hd8 := hdx.kept hbW8
            have hR8 := rangeAt_kept hRx hbW8
            have HF8 := Lib.hid (HFX.out.again (Fr.of_below hbW8))
            clear hmx hvx hdx hRx hbW8
            go_upto_region 13 with (first
             | (go_at_call 74; (with_reducible refine (HV.out _ hv8).mono ?_); rintro y W7 ⟨rfl, hbW7⟩; have hv7 := hv8.kept hbW7; have hd7 := hd8.kept hbW7; have hR7 := rangeAt_kept hR8 hbW7)
             | ((with_reducible refine wpList_load_evo _ B8 0 e ax cx hR7 ?_ rfl ?_); exact rfl)
             | (go_at_call 90; (with_reducible refine (HS.out _ hv7 hd7).mono ?_); rintro y W9 ⟨rfl, hbW9⟩))
            have hb89 := hbW7.trans (hbW9.mono hbW7.size)
            replace v0 := kept hb89 v0
            replace v1 := kept hb89 v1
            replace v2 := kept hb89 v2
            replace v6 := kept hb89 v6
            have hm9 := hm8.kept_w hb89
            have HF9 := Lib.hid (HF8.out.again (Fr.of_below hb89))
            clear hm8 hv8 hd8 hR8 hb89 hbW7 hv7 hd7 hR7 HV HS HD1
            go_wp2
            go_roundw
            case rel => exact ⟨k + 1, s1, by go_num, HLT.out, hm9, HR1.out.2.1, HR1.out.2.2, by rw [HT.out, HC.out]; exact HR1.out.1, HF9.out⟩
            case measure => have := HLT.out; simp [intOf] <;> omega
          | true =>
            rw [hst] at HS0
            have HHS := Lib.hid hst
            have HS := Lib.hid HS0
            clear hst
            have HC : Hid (cpEv l r e = rmFg r e.dot) := by
             unfold Hid
             rw [cpEv_eq, ← HIS.out, HHV.out, HHS.out, HKD.out, HK2.out]
             rfl
            clear HV0 HS0 hkd
            go_upto_region 9 with (go_at_call 66; (with_reducible refine (HD1.out _ hmx).mono ?_); rintro y W8 ⟨rfl, hbW8⟩)
            have hbW8 := Below.refl Wx.heap.size Wx
            replace v0 := kept hbW8 v0
            replace v1 := kept hbW8 v1
            replace v2 := kept hbW8 v2
            replace v6 := kept hbW8 v6
            have hm8 := hmx.kept_w hbW8
            have hv8 := hvx.kept hbW8
            have hd8 := hdx.kept hbW8
            have hR8 := rangeAt_kept hRx hbW8
            have HF8 := Lib.hid (HFX.out.again (Fr.of_below hbW8))
            clear hmx hvx hdx hRx hbW8
            go_upto_region 10 with (first
             | (go_at_call 74; (with_reducible refine (HV.out _ hv8).mono ?_); rintro y W7 ⟨rfl, hbW7⟩; have hv7 := hv8.kept hbW7; have hd7 := hd8.kept hbW7; have hR7 := rangeAt_kept hR8 hbW7)
             | ((with_reducible refine wpList_load_evo _ B8 0 e ax cx hR7 ?_ rfl ?_); exact rfl)
             | (go_at_call 90; (with_reducible refine (HS.out _ hv7 hd7).mono ?_); rintro y W9 ⟨rfl, hbW9⟩))
            have hb89 := hbW7.trans (hbW9.mono hbW7.size)
            replace v0 := kept hb89 v0
            replace v1 := kept hb89 v1
            replace v2 := kept hb89 v2
            replace v6 := kept hb89 v6
            have hm9 := hm8.kept_w hb89
            have HF9 := Lib.hid (HF8.out.again (Fr.of_below hb89))
            clear hm8 hv8 hd8 hR8 hb89 hbW7 hv7 hd7 hR7 HV HS HD1
            go_wp2_with (go_at_call 19; (with_reducible refine (HFg.out _ hm9).mono ?_); rintro x w10 ⟨rfl, hm10, hf10⟩)
            have HZ := Lib.hid (And.intro hm10 (HF9.out.again (hf10.mono fun k _ hk => by rw [show k = b.kb from hk]; exact HBB.out)))
            clear hm10 hf10 hm9
            go_roundw
            case rel => exact ⟨k + 1, fgMS s1 e.dot, by go_num, HLT.out, HZ.out.1, HR1.out.2.1.fgN _, by rw [fgMS_A]; exact HR1.out.2.2, by rw [HT.out, HC.out]; exact HR1.out.1.fg _, HZ.out.2⟩
            case measure => have := HLT.out; simp [intOf] <;> omega
   have hkb : (e.kind == 1) = true := beq_iff_eq.2 hk1
   have hkc : (e.kind == 2) = false := beq_eq_false_iff_ne.2 (by rw [hk1]; decide)
   have HK2 : Hid (decide (e.kind = 2) = false) := decide_eq_false (by rw [hk1]; decide)
   cases hdd : decide (e.dot ∈ s1.dead) with
   | true =>
     have HKD : Hid ((decide (e.kind = 1) && decide (e.dot ∈ s1.dead)) = true) := by unfold Hid; rw [decide_eq_true hk1, hdd]; rfl
     have HD1 := HD.out
     rw [hdd] at HD1
     replace HD1 := Lib.hid HD1
     clear hk1 hdd
     cases hhv : hasM l e.dot with
     | false =>
       rw [hhv] at HV0
       have HHV := Lib.hid hhv
       have HV := Lib.hid HV0
       have HS := Lib.hid HS0
       clear hhv
       have HC : Hid (cpEv l r e = r) := by
        unfold Hid
        rw [cpEv_eq, ← HIS.out, HHV.out, HKD.out, HK2.out]
        rfl
       clear HV0 HS0 hkd
       go_upto_region 9 with (go_at_call 66; (with_reducible refine (HD1.out _ hmx).mono ?_); rintro y W8 ⟨rfl, hbW8⟩)
       replace v0 := kept hbW8 v0
       replace v1 := kept hbW8 v1
       replace v2 := kept hbW8 v2
       replace v6 := kept hbW8 v6
       have hm8 := hmx.kept_w hbW8
       have hv8 := hvx.kept hbW8
       have hd8 := hdx.kept hbW8
       have hR8 := rangeAt_kept hRx hbW8
       have HF8 := Lib.hid (HFX.out.again (Fr.of_below hbW8))
       clear hmx hvx hdx hRx hbW8
       go_upto_region 13 with (first
        | (go_at_call 74; (with_reducible refine (HV.out _ hv8).mono ?_); rintro y W7 ⟨rfl, hbW7⟩; have hv7 := hv8.kept hbW7; have hd7 := hd8.kept hbW7; have hR7 := rangeAt_kept hR8 hbW7)
        | ((with_reducible refine wpList_load_evo _ B8 0 e ax cx hR7 ?_ rfl ?_); exact rfl)
        | (go_at_call 90; (with_reducible refine (HS.out _ hv7 hd7).mono ?_); rintro y W9 ⟨rfl, hbW9⟩))
       have hb89 := hbW7
       replace v0 := kept hb89 v0
       replace v1 := kept hb89 v1
       replace v2 := kept hb89 v2
       replace v6 := kept hb89 v6
       have hm9 := hm8.kept_w hb89
       have HF9 := Lib.hid (HF8.out.again (Fr.of_below hb89))
       clear hm8 hv8 hd8 hR8 hb89 hbW7 hv7 hd7 hR7 HV HS HD1
       go_wp2
       go_roundw
       case rel => exact ⟨k + 1, s1, by go_num, HLT.out, hm9, HR1.out.2.1, HR1.out.2.2, by rw [HT.out, HC.out]; exact HR1.out.1, HF9.out⟩
       case measure => have := HLT.out; simp [intOf] <;> omega
     | true =>
       rw [hhv] at HV0
       have HHV := Lib.hid hhv
       have HV := Lib.hid HV0
       clear hhv
       have HS := Lib.hid HS0
       have HC : Hid (cpEv l r e = rmFg r e.dot) := by
        unfold Hid
        rw [cpEv_eq, ← HIS.out, HHV.out, HKD.out, HK2.out]
        rfl
       clear HV0 HS0 hkd
       go_upto_region 9 with (go_at_call 66; (with_reducible refine (HD1.out _ hmx).mono ?_); rintro y W8 ⟨rfl, hbW8⟩)
       replace v0 := kept hbW8 v0
       replace v1 := kept hbW8 v1
       replace v2 := kept hbW8 v2
       replace v6 := kept hbW8 v6
       have hm8 := hmx.kept_w hbW8
       have hv8 := hvx.kept hbW8
       have hd8 := hdx.kept hbW8
       have hR8 := rangeAt_kept hRx hbW8
       have HF8 := Lib.hid (HFX.out.again (Fr.of_below hbW8))
       clear hmx hvx hdx hRx hbW8
       go_upto_region 10 with (first
        | (go_at_call 74; (with_reducible refine (HV.out _ hv8).mono ?_); rintro y W7 ⟨rfl, hbW7⟩; have hv7 := hv8.kept hbW7; have hd7 := hd8.kept hbW7; have hR7 := rangeAt_kept hR8 hbW7)
        | ((with_reducible refine wpList_load_evo _ B8 0 e ax cx hR7 ?_ rfl ?_); exact rfl)
        | (go_at_call 90; (with_reducible refine (HS.out _ hv7 hd7).mono ?_); rintro y W9 ⟨rfl, hbW9⟩))
       have hb89 := hbW7
       replace v0 := kept hb89 v0
       replace v1 := kept hb89 v1
       replace v2 := kept hb89 v2
       replace v6 := kept hb89 v6
       have hm9 := hm8.kept_w hb89
       have HF9 := Lib.hid (HF8.out.again (Fr.of_below hb89))
       clear hm8 hv8 hd8 hR8 hb89 hbW7 hv7 hd7 hR7 HV HS HD1
       go_wp2_with (go_at_call 19; (with_reducible refine (HFg.out _ hm9).mono ?_); rintro x w10 ⟨rfl, hm10, hf10⟩)
       have HZ := Lib.hid (And.intro hm10 (HF9.out.again (hf10.mono fun k _ hk => by rw [show k = b.kb from hk]; exact HBB.out)))
       clear hm10 hf10 hm9
       go_roundw
       case rel => exact ⟨k + 1, fgMS s1 e.dot, by go_num, HLT.out, HZ.out.1, HR1.out.2.1.fgN _, by rw [fgMS_A]; exact HR1.out.2.2, by rw [HT.out, HC.out]; exact HR1.out.1.fg _, HZ.out.2⟩
       case measure => have := HLT.out; simp [intOf] <;> omega
   | false =>
     have HKD : Hid ((decide (e.kind = 1) && decide (e.dot ∈ s1.dead)) = false) := by unfold Hid; rw [decide_eq_true hk1, hdd]; rfl
     have HD1 := HD.out
     rw [hdd] at HD1
     replace HD1 := Lib.hid HD1
     clear hk1 hdd
     cases hhv : hasM l e.dot with
     | false =>
       rw [hhv] at HV0
       have HHV := Lib.hid hhv
       have HV := Lib.hid HV0
       have HS := Lib.hid HS0
       clear hhv
       have HHS : Hid (setl l e = false) := by unfold Hid setl; rw [HHV.out]; rfl
       have HC : Hid (cpEv l r e = r) := by
        unfold Hid
        rw [cpEv_eq, ← HIS.out, HHV.out, HHS.out, HKD.out, HK2.out]
        rfl
       clear HV0 HS0 hkd
       go_upto_region 9 with (go_at_call 66; (with_reducible refine (HD1.out _ hmx).mono ?_); rintro y W8 ⟨rfl, hbW8⟩)
       replace v0 := kept hbW8 v0
       replace v1 := kept hbW8 v1
       replace v2 := kept hbW8 v2
       replace v6 := kept hbW8 v6
       have hm8 := hmx.kept_w hbW8
       have hv8 := hvx.kept hbW8
       have hd8 := hdx.kept hbW8
       have hR8 := rangeAt_kept hRx hbW8
       have HF8 := Lib.hid (HFX.out.again (Fr.of_below hbW8))
       clear hmx hvx hdx hRx hbW8
       go_upto_region 13 with (first
        | (go_at_call 74; (with_reducible refine (HV.out _ hv8).mono ?_); rintro y W7 ⟨rfl, hbW7⟩; have hv7 := hv8.kept hbW7; have hd7 := hd8.kept hbW7; have hR7 := rangeAt_kept hR8 hbW7)
        | ((with_reducible refine wpList_load_evo _ B8 0 e ax cx hR7 ?_ rfl ?_); exact rfl)
        | (go_at_call 90; (with_reducible refine (HS.out _ hv7 hd7).mono ?_); rintro y W9 ⟨rfl, hbW9⟩))
       have hb89 := hbW7
       replace v0 := kept hb89 v0
       replace v1 := kept hb89 v1
       replace v2 := kept hb89 v2
       replace v6 := kept hb89 v6
       have hm9 := hm8.kept_w hb89
       have HF9 := Lib.hid (HF8.out.again (Fr.of_below hb89))
       clear hm8 hv8 hd8 hR8 hb89 hbW7 hv7 hd7 hR7 HV HS HD1
       go_wp2
       go_roundw
       case rel => exact ⟨k + 1, s1, by go_num, HLT.out, hm9, HR1.out.2.1, HR1.out.2.2, by rw [HT.out, HC.out]; exact HR1.out.1, HF9.out⟩
       case measure => have := HLT.out; simp [intOf] <;> omega
     | true =>
       rw [hhv] at HV0
       have HHV := Lib.hid hhv
       have HV := Lib.hid HV0
       clear hhv
       cases hst : setl l e with
       | false =>
         rw [hst] at HS0
         have HHS := Lib.hid hst
         have HS := Lib.hid HS0
         clear hst
         have HC : Hid (cpEv l r e = r) := by
           unfold Hid
           rw [cpEv_eq, ← HIS.out, HHV.out, HHS.out, HKD.out, HK2.out]
           rfl
         clear HV0 HS0 hkd
         go_upto_region 9 with (go_at_call 66; (with_reducible refine (HD1.out _ hmx).mono ?_); rintro y W8 ⟨rfl, hbW8⟩)
         replace v0 := kept hbW8 v0
         replace v1 := kept hbW8 v1
         replace v2 := kept hbW8 v2
         replace v6 := kept hbW8 v6
         have hm8 := hmx.kept_w hbW8
         have hv8 := hvx.kept hbW8
         have hd8 := hdx.kept hbW8
         have hR8 := rangeAt_kept hRx hbW8
         have HF8 := Lib.hid (HFX.out.again (Fr.of_below hbW8))
         clear hmx hvx hdx hRx hbW8
         go_upto_region 13 with (first
           | (go_at_call 74; (with_reducible refine (HV.out _ hv8).mono ?_); rintro y W7 ⟨rfl, hbW7⟩; have hv7 := hv8.kept hbW7; have hd7 := hd8.kept hbW7; have hR7 := rangeAt_kept hR8 hbW7)
           | ((with_reducible refine wpList_load_evo _ B8 0 e ax cx hR7 ?_ rfl ?_); exact rfl)
           | (go_at_call 90; (with_reducible refine (HS.out _ hv7 hd7).mono ?_); rintro y W9 ⟨rfl, hbW9⟩))
         have hb89 := hbW7.trans (hbW9.mono hbW7.size)
         replace v0 := kept hb89 v0
         replace v1 := kept hb89 v1
         replace v2 := kept hb89 v2
         replace v6 := kept hb89 v6
         have hm9 := hm8.kept_w hb89
         have HF9 := Lib.hid (HF8.out.again (Fr.of_below hb89))
         clear hm8 hv8 hd8 hR8 hb89 hbW7 hv7 hd7 hR7 HV HS HD1
         go_wp2
         go_roundw
         case rel => exact ⟨k + 1, s1, by go_num, HLT.out, hm9, HR1.out.2.1, HR1.out.2.2, by rw [HT.out, HC.out]; exact HR1.out.1, HF9.out⟩
         case measure => have := HLT.out; simp [intOf] <;> omega
       | true =>
         rw [hst] at HS0
         have HHS := Lib.hid hst
         have HS := Lib.hid HS0
         clear hst
         have HC : Hid (cpEv l r e = rmBr r e.dot) := by
           unfold Hid
           rw [cpEv_eq, ← HIS.out, HHV.out, HHS.out, HKD.out, HK2.out]
           rfl
         clear HV0 HS0 hkd
         go_upto_region 9 with (go_at_call 66; (with_reducible refine (HD1.out _ hmx).mono ?_); rintro y W8 ⟨rfl, hbW8⟩)
         replace v0 := kept hbW8 v0
         replace v1 := kept hbW8 v1
         replace v2 := kept hbW8 v2
         replace v6 := kept hbW8 v6
         have hm8 := hmx.kept_w hbW8
         have hv8 := hvx.kept hbW8
         have hd8 := hdx.kept hbW8
         have hR8 := rangeAt_kept hRx hbW8
         have HF8 := Lib.hid (HFX.out.again (Fr.of_below hbW8))
         clear hmx hvx hdx hRx hbW8
         go_upto_region 10 with (first
           | (go_at_call 74; (with_reducible refine (HV.out _ hv8).mono ?_); rintro y W7 ⟨rfl, hbW7⟩; have hv7 := hv8.kept hbW7; have hd7 := hd8.kept hbW7; have hR7 := rangeAt_kept hR8 hbW7)
           | ((with_reducible refine wpList_load_evo _ B8 0 e ax cx hR7 ?_ rfl ?_); exact rfl)
           | (go_at_call 90; (with_reducible refine (HS.out _ hv7 hd7).mono ?_); rintro y W9 ⟨rfl, hbW9⟩))
         have hb89 := hbW7.trans (hbW9.mono hbW7.size)
         replace v0 := kept hb89 v0
         replace v1 := kept hb89 v1
         replace v2 := kept hb89 v2
         replace v6 := kept hb89 v6
         have hm9 := hm8.kept_w hb89
         have HF9 := Lib.hid (HF8.out.again (Fr.of_below hb89))
         clear hm8 hv8 hd8 hR8 hb89 hbW7 hv7 hd7 hR7 HV HS HD1
         go_wp2_with (go_at_call 21; (with_reducible refine (HBr.out _ hm9).mono ?_); rintro x w10 ⟨s2, rfl, hm10, hg2, hA2, hs2, hf10⟩)
         have HZ := Lib.hid (And.intro hm10 (And.intro (HF9.out.again (hf10.mono fun k _ hk => by rw [show k = b.kb from hk]; exact HBB.out)) (And.intro (HR1.out.2.1.brN hg2 hs2) (And.intro (hA2.trans HR1.out.2.2) (HR1.out.1.br e.dot hg2.nd hs2)))))
         clear hm10 hf10 hm9 hg2 hA2 hs2
         go_roundw
         case rel => exact ⟨k + 1, s2, by go_num, HLT.out, HZ.out.1, HZ.out.2.2.1, HZ.out.2.2.2.1, by rw [HT.out, HC.out]; exact HZ.out.2.2.2.2, HZ.out.2.1⟩
         case measure => have := HLT.out; simp [intOf] <;> omega
  ·obtain rfl : k = ls.length := by omega
   have hr1' : Rel s1 (cpEvs l s.rm) := by
        rw [List.take_of_length_le (by rw [evsOf_length]; exact Nat.le_refl _), HEV.out] at hr1
        exact hr1
   have hdl := hg1.dead
   have HDs := Lib.hid (fun (X : World) (h : MpIn X m b s1) => mDeads_any X h (by omega) (fun d hd => dotOk_W (hg1.inv.dead d hd)))
   have hD0 : (cpEvs l s.rm).dead = sortD s1.dead := hr1'.dead
   have HCP : Hid (cpDo l s.rm = (sortD s1.dead).foldl (cpCl l) (cpEvs l s.rm)) := by unfold Hid cpDo; rw [hD0]
   have HR1 := Lib.hid (And.intro hr1' (And.intro hg1 (And.intro hA1 hf1)))
   clear hr1 hr1' hg1 hA1 hK1 hD0
   go_wp2_with (go_at_call 39; (with_reducible refine (HDs.out _ hm1).mono ?_); rintro x w4 ⟨xv, rfl, hown, _, hb4⟩; obtain ⟨aD, cD, rfl, hinD⟩ := own_dots hown)
   have HM4 := Lib.hid (hm1.kept_w hb4)
   have HF4 := Lib.hid (HR1.out.2.2.2.again (Fr.of_below hb4))
   have HDW : Hid (∀ d ∈ sortD s1.dead, DotW d) := fun d hd => dotOk_W (HR1.out.2.1.inv.dead d (sortD_mem.1 hd))
   have hdl2 : (sortD s1.dead).length ≤ 1048576 := Nat.le_trans (sortD_length _) (by omega)
   clear hown hm1 hf1 hb4 HDs
   generalize sortD s1.dead = ds at *
   go_loopw [74] (fun i wr => ∃ (j : Nat) (s2 : MS), i = .int .i64 j ∧ j ≤ ds.length ∧ MpIn wr m b s2 ∧ SGood s2 n ∧ s2.A = s.A ∧ Rel s2 ((ds.take j).foldl (cpCl l) (cpEvs l s.rm)) ∧ Fr (foot b s.A) w4 wr) (fun i _ => ds.length - (intOf i).toNat)
   case atStart => exact ⟨0, s1, rfl, Nat.zero_le _, HM4.out, HR1.out.2.1, HR1.out.2.2.1, HR1.out.1, Fr.refl _ _⟩
   case round =>
        obtain ⟨j, s2, rfl, hj, hm2, hg2, hA2, hr2, hf2⟩ := hrel
        have hK2 := HM4.out.keeps hf2 (fun q hq => by rw [HR1.out.2.2.1]; exact hq)
        by_cases hlt : j < ds.length
        ·obtain ⟨A2, off, rfl, c0, c1, c2⟩ := (hK2.dots hinD).at hlt
         have hvq := (HN3.out.1.fr (HF4.out.again hf2) HN3.out.2.1 HN3.out.2.2.1)
         have hdw := HDW.out _ (List.getElem_mem hlt)
         have HT : Hid ((ds.take (j + 1)).foldl (cpCl l) (cpEvs l s.rm) = cpCl l ((ds.take j).foldl (cpCl l) (cpEvs l s.rm)) ds[j]) := cpCls_snoc _ _ _ hlt _
         obtain ⟨r, hr⟩ : ∃ r, r = (ds.take j).foldl (cpCl l) (cpEvs l s.rm) := ⟨_, rfl⟩
         rw [← hr] at hr2 HT
         have HLT := Lib.hid hlt
         clear hr
         generalize ds[j] = d at *
         clear hlt
         have HR2 := Lib.hid (And.intro hr2 (And.intro hg2 hA2))
         go_upto_region 17 with fail
         refine wp_name (fun Wx hWx => ?_)
         have hbx : Below wr.heap.size wr Wx := by rw [hWx.out]; go_grown
         have v0 : Wx.cell? ⟨wr.heap.size, 0, none⟩ = some (.int .i64 d.a.dev) := by rw [hWx.out]; go_simp
         have v1 : Wx.cell? ⟨wr.heap.size, 1, none⟩ = some (.int .i64 d.a.inc) := by rw [hWx.out]; go_simp
         have v2 : Wx.cell? ⟨wr.heap.size, 2, none⟩ = some (.int .i64 d.seq) := by rw [hWx.out]; go_simp
         have hmx := hm2.kept_w hbx
         have hvx := hvq.kept hbx
         have HFX := Lib.hid (hf2.again (Fr.of_below hbx))
         have HV0 := fun (X : World) (h : VecIn X v vb l) => vHas_any d X h
         have HCl := Lib.hid (fun (X : World) (h : MpIn X m b s2) => mClear_any d hdw X h)
         have HBB := Lib.hid (foot_db b s.A)
         clear hWx c0 c1 c2 hm2 hvq hf2 hr2 hg2 hA2 hK2 hbx hdw
         generalize wr.heap.size = B8 at *
         cases hhv : hasM l d with
         | false =>
           rw [hhv] at HV0
           have HV := Lib.hid HV0
           have HC : Hid (cpCl l r d = r) := by unfold Hid cpCl; rw [hhv]; rfl
           clear HV0 hhv
           go_upto_region 19 with (go_at_call 74; (with_reducible refine (HV.out _ hvx).mono ?_); rintro y W9 ⟨rfl, hbW9⟩)
           have hm9 := hmx.kept_w hbW9
           have HF9 := Lib.hid (HFX.out.again (Fr.of_below hbW9))
           replace v0 := kept hbW9 v0
           replace v1 := kept hbW9 v1
           replace v2 := kept hbW9 v2
           clear hmx hvx hbW9 HV
           go_wp2
           go_roundw
           case rel => exact ⟨j + 1, s2, by go_num, HLT.out, hm9, HR2.out.2.1, HR2.out.2.2, by rw [HT.out, HC.out]; exact HR2.out.1, HF9.out⟩
           case measure => have := HLT.out; simp [intOf] <;> omega
         | true =>
           rw [hhv] at HV0
           have HV := Lib.hid HV0
           have HC : Hid (cpCl l r d = rmCl r d) := by unfold Hid cpCl; rw [hhv]; rfl
           clear HV0 hhv
           go_upto_region 18 with (go_at_call 74; (with_reducible refine (HV.out _ hvx).mono ?_); rintro y W9 ⟨rfl, hbW9⟩)
           have hm9 := hmx.kept_w hbW9
           have HF9 := Lib.hid (HFX.out.again (Fr.of_below hbW9))
           replace v0 := kept hbW9 v0
           replace v1 := kept hbW9 v1
           replace v2 := kept hbW9 v2
           clear hmx hvx hbW9 HV
           go_wp2_with (go_at_call 23; (with_reducible refine (HCl.out _ hm9).mono ?_); rintro x w10 ⟨rfl, hm10, hf10⟩)
           have HZ := Lib.hid (And.intro hm10 (HF9.out.again (hf10.mono fun k _ hk => by rw [show k = b.db from hk]; exact HBB.out)))
           clear hm10 hf10 hm9
           go_roundw
           case rel => exact ⟨j + 1, clMS s2 d, by go_num, HLT.out, HZ.out.1, HR2.out.2.1.clN _, by rw [clMS_A]; exact HR2.out.2.2, by rw [HT.out, HC.out]; exact HR2.out.1.cl _, HZ.out.2⟩
           case measure => have := HLT.out; simp [intOf] <;> omega
        ·obtain rfl : j = ds.length := by omega
         have hr3 : Rel s2 (cpDo l s.rm) := by
          rw [List.take_of_length_le (Nat.le_refl _), ← HCP.out] at hr2
          exact hr2
         have hkl2 := hg2.inv.len
         have hwr : IntKind.i64.wrap ((s.K.length : Int) - s2.K.length) = (s.K.length : Int) - s2.K.length := IntWalk.i64_in _ (by omega)
         have HL2 := Lib.hid (mLen_any wr hm2)
         have HZ := Lib.hid (And.intro hm2 (And.intro hg2 (And.intro hA2 (And.intro hr3 (((Fr.of_below HB3.out).again HF4.out).again hf2)))))
         clear hr2 hr3 hm2 hg2 hA2 hf2 hK2
         go_wp2_with (go_at_call 65; (with_reducible refine HL2.out.mono ?_); rintro x w6 ⟨rfl, rfl⟩)
         try rw [Exit.noGoto_ret]
         go_ret2
         exact ⟨s2, rfl, HZ.out⟩
end Go.Proofs.YtpbobhfnglikmaaGreat
