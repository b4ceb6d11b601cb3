/- The law CompactAll, walked. Conditions: none. -/
import Derived.Test.YtpbobhfnglikmaaGreatCoA
set_option linter.unusedSimpArgs false
set_option linter.unusedVariables false
set_option linter.unnecessarySimpa false
set_option maxHeartbeats 16000000
set_option maxRecDepth 100000
namespace Go.Proofs.YtpbobhfnglikmaaGreat
open Go.RowKit
theorem OverR.ap {r : RM} (h : OverR r) (e : Ev) : OverR (rmAp r e) := by
 unfold rmAp
 split
 ·intro x hx d hd
  show d ∈ sortD (r.dead ++ e.over)
  rw [sortD_mem, List.mem_append]
  rcases insE_mem.1 hx with rfl | hx
  ·exact Or.inr hd
  ·exact Or.inl (h x hx d hd)
 ·exact h
theorem OverR.fold {r : RM} (h : OverR r) : ∀ l : List Ev, OverR (l.foldl rmAp r)
 | [] => h
 | e :: l => OverR.fold (h.ap e) l
theorem coversM_self {l : List Dot} (h : SrtM l) : coversM l l = true := by
 unfold coversM
 rw [List.all_eq_true]
 intro d hd
 rw [decide_eq_true_eq, getM_mem h hd]
 exact Int.le_refl _
theorem waste_bare (c : List Dot) (r : RM) : (((aliveR r).map bareEv).length : Int) - ((aliveR ⟨c, (aliveR r).map bareEv, []⟩).filter fun e => decide (e.over.length = 0)).length = 0 := by
 have h3 : aliveR ⟨c, (aliveR r).map bareEv, []⟩ = (aliveR r).map bareEv := List.filter_eq_self.2 fun x hx => by
  obtain ⟨z, hz, rfl⟩ := List.mem_map.1 hx
  exact alvB_iff.2 ⟨(aliveR_mem.1 hz).2.1, by simp⟩
 have h4 : ((aliveR r).map bareEv).filter (fun e => decide (e.over.length = 0)) = (aliveR r).map bareEv := List.filter_eq_self.2 fun x hx => by
  obtain ⟨z, hz, rfl⟩ := List.mem_map.1 hx
  rfl
 rw [h3, h4]
 omega
theorem small_bare {x : EvIt} (h : EvSmall x.1) : EvSmall (bareIt x).1 := ⟨h.name, h.domain, h.path, h.value, Nat.zero_le _⟩
/-- what is compacted by its own context, and again -/
theorem all_twice {s s2 s3 : MS} {n : Nat} (hg : SGood s n) (hg2 : SGood s2 n) (ho : OverR s.rm) (hd : ∀ d ∈ s.rm.dead, hasM s.ctx d = true) (h2 : Rel s2 (cpDo s.ctx s.rm)) (h3 : Rel s3 (cpDo s.ctx s2.rm)) :
 Rel s2 ⟨s.ctx, (aliveR s.rm).map bareEv, []⟩ ∧ Rel s3 ⟨s.ctx, (aliveR s.rm).map bareEv, []⟩ := by
 have h4 : cpDo s.ctx s.rm = ⟨s.ctx, (aliveR s.rm).map bareEv, []⟩ := cpDo_all hg.rinv ho hd
 rw [h4] at h2
 have h5 : s2.rm = ⟨s.ctx, (aliveR s.rm).map bareEv, []⟩ := hg2.rel.uniq h2
 have h6 : cpDo s.ctx ⟨s.ctx, (aliveR s.rm).map bareEv, []⟩ = ⟨s.ctx, (aliveR s.rm).map bareEv, []⟩ := cpDo_again hg.rinv
 rw [h5, h6] at h3
 exact ⟨h2, h3⟩
theorem lawCa_any (a : Option Addr) (ca : Nat) (ls : List EvIt) (w : World) (hE : EvsArg w a ls) :
 Calls Tryz.prog 5 #[.slice a ls.length ca] w fun x w' => x = .returned (.bool true) ∧ Below w.heap.size w w' := by
 have HL0 : Calls Tryz.prog 26 #[.slice a ls.length ca, .int .i64 30] w fun x w' => x = .returned (.bool (lightAll 30 (evsOf ls))) ∧ Below w.heap.size w w' := LightAll_any a ca 30 ls w (by decide) hE.len hE.evs (fun x hx => ⟨(hE.each x hx).over, (hE.each x hx).name, (hE.each x hx).domain, (hE.each x hx).path, (hE.each x hx).value⟩)
 have HA := Lib.hid awake23_any
 have hEi := hE.evs
 clear hE
 cases hli : lightAll 30 (evsOf ls) with
 | false =>
   rw [hli] at HL0
   have HL := Lib.hid HL0
   clear HL0 hli
   go_enter Tryz.func5, Tryz.ntmps5
   go_wp2_with (first
    | (go_at_call 26; (with_reducible refine HL.out.mono ?_); rintro x w1 ⟨rfl, hb1⟩)
    | (go_at_call 27; (with_reducible refine (HA.out _).mono ?_); rintro x w2 ⟨rfl, hb2⟩))
   go_ret
   exact ⟨rfl, hb1.trans (hb2.mono hb1.size)⟩
 | true =>
   obtain ⟨hls, hsl⟩ := light_evs hli
   rw [hli] at HL0
   have HL := Lib.hid HL0
   clear HL0 hli
   have HM1 := Lib.hid (fun (X : World) (h : EvsIn X a ls) => made23_any a ca ls X (by omega) h hsl)
   go_enter Tryz.func5, Tryz.ntmps5
   go_upto_region 4 with (first
    | (go_at_call 26; (with_reducible refine HL.out.mono ?_); rintro x w1 ⟨rfl, hb1⟩; have hE1 := hEi.kept hb1)
    | (go_at_call 28; (with_reducible refine (HM1.out _ hE1).mono ?_); rintro x w3 ⟨m, b, s, y, rfl, hm3, hb3⟩)
    | (refine wpList_store_new 31 _ _ _ (rmRow y) rfl rfl (by kernel_rfl) rfl (by kernel_rfl) ?_))
   have hH0 := hm3.hd hb1.size (hb1.trans (hb3.mono hb1.size))
   have HG := Lib.hid (And.intro (hm3.sgood hsl) hm3.rel)
   have HOv : Hid (OverR s.rm) := by
    obtain ⟨n9, f9, hM9⟩ := hm3.merged
    have h1 := hM9.rel Rel.empty MInv.empty
    have h2 : s.rm = (evsOf ls).foldl rmAp RM.empty := HG.out.1.rel.uniq h1
    unfold Hid
    rw [h2]
    exact OverR.fold (show OverR RM.empty from fun x hx => absurd hx List.not_mem_nil) _
   obtain ⟨W, hWe⟩ : ∃ W, W = w3.alloc (.cells (rmRow y) 31) := ⟨_, rfl⟩
   rw [← hWe] at hH0 ⊢
   clear hWe hb1 hb3 hE1 hEi hm3 HL HM1 hsl
   generalize w3.heap.size = B8 at *
   have hctx : y.ctx = s.ctx := HG.out.2.ctx
   have hcl : s.ctx.length ≤ 30 := by have := HG.out.1.ctx; omega
   have hcl2 : y.ctx.length ≤ 30 := by rw [hctx]; exact hcl
   have hdl : y.dead.length ≤ 1920 := by have := (HG.out.1.sizes HG.out.2).2.2; have h9 : y.dead.length ≤ 64 * ls.length := this; omega
   have HH := Lib.hid (fun (d : Dot) (X : World) (h : DotsIn X y.ac y.ctx) => rHasM_any y.ac y.cc y.ctx d X (by omega) h)
   have HCX := Lib.hid hctx
   clear hctx hcl2
   go_wp2
   go_loopw [5] (fun i wr => ∃ k : Nat, i = .int .i64 k ∧ k ≤ y.dead.length ∧ (y.dead.all fun d => hasM y.ctx d) = (y.dead.drop k).all (fun d => hasM y.ctx d) ∧ Below W.heap.size W wr) (fun i _ => y.dead.length - (intOf i).toNat)
   case atStart => exact ⟨0, rfl, Nat.zero_le _, rfl, Below.refl _ _⟩
   case round =>
    obtain ⟨k, rfl, hk, hC0, hbr⟩ := hrel
    have HC := Lib.hid hC0
    clear hC0
    have hH := hH0.kept hbr
    obtain ⟨c0, c1, c2⟩ := hH.row.cells
    by_cases hlt : k < y.dead.length
    ·obtain ⟨A, off, haD, d0, d1, d2⟩ := hH.ref.dead.at hlt
     have HS := Lib.hid (setl_drop y.ctx y.dead k hlt)
     have HLT := Lib.hid hlt
     have HHd0 := HH.out y.dead[k]
     have hrc := hH.ref.ctx
     generalize y.dead[k] = d at *
     rw [haD] at c2
     have HB := Lib.hid hH.below
     clear haD
     cases hh : hasM y.ctx d with
     | true =>
       rw [hh] at HHd0 HS
       have HHd := Lib.hid HHd0
       clear HHd0 hh
       go_upto_region 7 with fail
       refine wp_region_after (by kernel_rfl) (by kernel_rfl) (fun WA hWA => ?_)
       have hbA : Below wr.heap.size wr WA := by rw [hWA.out]; go_grown
       have pc0 : ∀ i : After WA, i.w.cell? ⟨B8, 0, none⟩ = some (.slice y.ac y.ctx.length y.cc) := fun i => i.cell (kept hbA c0)
       have pc2 : ∀ i : After WA, i.w.cell? ⟨B8, 2, none⟩ = some (.slice (some ⟨A, off, none⟩) y.dead.length y.cd) := fun i => i.cell (kept hbA c2)
       have pd0 : ∀ i : After WA, i.w.cell? ⟨A, off + k * 3, none⟩ = some (.int .i64 d.a.dev) := fun i => i.cell (kept hbA d0)
       have pd1 : ∀ i : After WA, i.w.cell? ⟨A, off + k * 3 + 1, none⟩ = some (.int .i64 d.a.inc) := fun i => i.cell (kept hbA d1)
       have pd2 : ∀ i : After WA, i.w.cell? ⟨A, off + k * 3 + 2, none⟩ = some (.int .i64 d.seq) := fun i => i.cell (kept hbA d2)
       have hcA := hrc.kept hbA
       clear hWA
       iterate 7 go_big_quiet_step (fail)
       go_big_quiet_step (exact Calls.after (HHd.out _ (hcA.kept (After.h _))))
       go_big_quiet_step (fail)
       refine wpQuiet_nil ?_
       first
        | rintro _ ⟨i, rfl⟩
        | intro i
       have hiA := i.h
       generalize i.w = W2 at hiA ⊢
       have hbW2 : Below wr.heap.size wr W2 := below2 hbA hiA
       clear hbA hiA pc0 pc2 pd0 pd1 pd2
       have hbZ := hbr.trans (hbW2.mono hbr.size)
       go_wp2
       go_roundw
       case rel => exact ⟨k + 1, by go_num, HLT.out, by rw [HC.out, HS.out]; exact Bool.true_and _, hbZ⟩
       case measure => have := HLT.out; simp [intOf] <;> omega
     | false =>
       rw [hh] at HHd0 HS
       have HHd := Lib.hid HHd0
       clear HHd0 hh
       go_upto_region 7 with fail
       refine wp_region_after (by kernel_rfl) (by kernel_rfl) (fun WA hWA => ?_)
       have hbA : Below wr.heap.size wr WA := by rw [hWA.out]; go_grown
       have pc0 : ∀ i : After WA, i.w.cell? ⟨B8, 0, none⟩ = some (.slice y.ac y.ctx.length y.cc) := fun i => i.cell (kept hbA c0)
       have pc2 : ∀ i : After WA, i.w.cell? ⟨B8, 2, none⟩ = some (.slice (some ⟨A, off, none⟩) y.dead.length y.cd) := fun i => i.cell (kept hbA c2)
       have pd0 : ∀ i : After WA, i.w.cell? ⟨A, off + k * 3, none⟩ = some (.int .i64 d.a.dev) := fun i => i.cell (kept hbA d0)
       have pd1 : ∀ i : After WA, i.w.cell? ⟨A, off + k * 3 + 1, none⟩ = some (.int .i64 d.a.inc) := fun i => i.cell (kept hbA d1)
       have pd2 : ∀ i : After WA, i.w.cell? ⟨A, off + k * 3 + 2, none⟩ = some (.int .i64 d.seq) := fun i => i.cell (kept hbA d2)
       have hcA := hrc.kept hbA
       clear hWA
       iterate 7 go_big_quiet_step (fail)
       go_big_quiet_step (exact Calls.after (HHd.out _ (hcA.kept (After.h _))))
       go_big_quiet_step (fail)
       refine wpQuiet_nil ?_
       first
        | rintro _ ⟨i, rfl⟩
        | intro i
       have hiA := i.h
       generalize i.w = W2 at hiA ⊢
       have hbW2 : Below wr.heap.size wr W2 := below2 hbA hiA
       clear hbA hiA pc0 pc2 pd0 pd1 pd2
       go_wp2_with (go_at_call 27; (with_reducible refine (HA.out _).mono ?_); rintro x w12 ⟨rfl, hb12⟩)
       go_ret
       exact ⟨rfl, (HB.out.trans (hbW2.mono HB.out.size)).trans (hb12.mono (Nat.le_trans HB.out.size hbW2.size))⟩
    ·obtain rfl : k = y.dead.length := by omega
     have hall : ∀ d ∈ s.rm.dead, hasM s.ctx d = true := by
      have h1 : (y.dead.all fun d => hasM y.ctx d) = true := by rw [HC.out, List.drop_length]; rfl
      have h2 : s.rm = y.rm := HG.out.1.rel.uniq HG.out.2
      rw [h2, ← HCX.out]
      exact List.all_eq_true.1 h1
     have hcov : coversM s.ctx y.ctx = true := by rw [HCX.out]; exact coversM_self HG.out.1.inv.ctx
     have hme : marksErr y.ctx = 0 := by rw [HCX.out]; exact HG.out.1.inv.marks (by omega)
     have HDo := Lib.hid (fun (X : World) (h1 : MpIn X m b s) (h : DotsIn X y.ac y.ctx) => cDo_any y.ac y.cc y.ctx X h1 HG.out.1 (by omega) h hme hcov)
     have HDo2 := Lib.hid (fun (X : World) (s2 : MS) (h1 : MpIn X m b s2) (hg2 : SGood s2 ls.length) (hc2 : coversM s2.ctx y.ctx = true) (h : DotsIn X y.ac y.ctx) => cDo_any y.ac y.cc y.ctx X h1 hg2 (by omega) h hme hc2)
     have HRA := Lib.hid (fun (X : World) (h : RMIn X y) => callRAl HG.out.1 (by omega) HG.out.2 X h)
     have HALL := Lib.hid hall
     have HCOV := Lib.hid hcov
     have hrc := hH.ref.ctx
     clear hk hlt hbr hH0 hall hcov hme HC
     go_upto_region 10 with (go_at_call 29; (with_reducible refine (HDo.out _ hH.map hrc).mono ?_); rintro x w4 ⟨s2, rfl, hm4, hg4, hA4, hr4, hf4⟩)
     have hH4 := hH.op hm4 hf4 (fun _ h => h) (fun k hk => by rw [hA4] at hk; exact Or.inl hk)
     have HR4 := Lib.hid hr4
     have HG4 := Lib.hid hg4
     have HA4 := Lib.hid hA4
     clear hH hm4 hg4 hA4 hr4 hf4 c0 c1 c2 hrc HDo
     obtain ⟨c0, c1, c2⟩ := hH4.row.cells
     have hrf := hH4.ref
     have HBa := Lib.hid (fun (X : World) (aA : Option Addr) (cA : Nat) (ds : List EvIt) (hl : ds.length ≤ 4096) (hE : EvsIn X aA ds) => rBare23_any aA cA ds X hl hE)
     have HALn : Hid (∀ ds : List EvIt, evsOf ds = aliveOf s → ds.length ≤ 2048) := fun ds h => by
      rw [← evsOf_length, h, ← aliveR_eq HG.out.1.inv HG.out.1.rel]
      refine Nat.le_trans (List.length_filter_le _ _) ?_
      show (eventsOf s).length ≤ 2048
      rw [eventsOf_len HG.out.1.nd]
      exact HG.out.1.inv.len
     go_upto_region 11 with (first
      | (go_at_call 36; (with_reducible refine (HRA.out _ hrf).mono ?_); rintro x w5 ⟨aA, ds, cA, rfl, hEA, hevA, hb5⟩; have hdsl : ds.length ≤ 4096 := Nat.le_trans (HALn.out ds hevA) (by decide))
      | (go_at_call 34; (with_reducible refine (HBa.out _ _ _ _ hdsl hEA).mono ?_); rintro x w6 ⟨aB, cB, rfl, hEB, hb6⟩))
     have hb56 := hb5.trans (hb6.mono hb5.size)
     have hH6 := hH4.kept hb56
     have HEV := Lib.hid (show evsOf (ds.map bareIt) = (aliveR s.rm).map bareEv by rw [evsOf_bare, hevA, aliveR_eq HG.out.1.inv HG.out.1.rel])
     have HSB : Hid (EvsSmall (ds.map bareIt) ∧ (ds.map bareIt).length ≤ 1073741824) := ⟨fun x hx => by
      obtain ⟨z, hz, rfl⟩ := List.mem_map.1 hx
      refine small_bare ?_
      have h9 : z.1 ∈ aliveOf s := by rw [← hevA]; exact List.mem_map_of_mem hz
      obtain ⟨⟨q, hq, e9⟩, _⟩ := (aliveOf_mem HG.out.1.inv HG.out.1.nd).1 h9
      rw [← e9]
      exact HG.out.1.small q hq, by rw [List.length_map]; omega⟩
     clear hb5 hb6 hb56 hEA hevA hH4 c0 c1 c2 hrf hdsl HRA HBa
     have HDB : Hid ((ds.map bareIt).length = ds.length) := List.length_map _
     generalize ds.map bareIt = db at *
     rw [← HDB.out]
     obtain ⟨c0, c1, c2⟩ := hH6.row.cells
     have hrc := hH6.ref.ctx
     have hc2 : s2.ctx = s.ctx := by
      have h1 := HR4.out.ctx
      rw [HCX.out, cpDo_all HG.out.1.rinv HOv.out HALL.out] at h1
      exact h1.symm
     have HD2 := Lib.hid (HDo2.out w6 s2 hH6.map HG4.out (by rw [hc2]; exact HCOV.out) hrc)
     clear hc2
     go_upto_region 12 with (go_at_call 29; (with_reducible refine HD2.out.mono ?_); rintro x w7 ⟨s3, rfl, hm7, hg7, hA7, hr7, hf7⟩)
     have hk7 := hH6.keeps hf7 (fun _ h => h)
     have hH7 := hH6.op hm7 hf7 (fun _ h => h) (fun k hk => by rw [hA7] at hk; exact Or.inl hk)
     have hEB7 := hk7.evs hEB
     have h4 := HR4.out
     rw [HCX.out] at h4 hr7
     obtain ⟨q2, q3⟩ := all_twice HG.out.1 HG4.out HOv.out HALL.out h4 hr7
     have hl2 : s2.K.length = ((aliveR s.rm).map bareEv).length := by
      rw [← eventsOf_len HG4.out.nd, ← q2.kept]
     have hl3 : s3.K.length = ((aliveR s.rm).map bareEv).length := by
      rw [← eventsOf_len hg7.nd, ← q3.kept]
     have hsub : ((s2.K.length : Int) - s3.K.length) = 0 := by omega
     rw [hsub]
     clear hsub
     have HWs : Hid (∀ X, MpIn X m b s3 → Calls Tryz.prog 40 #[.pointer (some ⟨m, 0, none⟩)] X fun x w' => x = .returned (.int .i64 0) ∧ Below X.heap.size X w') := fun X h => by
      have h9 := cWasteR_any (m := m) (b := b) (s := s3) X h hg7 q3
      rw [show (((⟨s.ctx, (aliveR s.rm).map bareEv, []⟩ : RM).kept.length : Int) - ((aliveR ⟨s.ctx, (aliveR s.rm).map bareEv, []⟩).filter fun e => decide (e.over.length = 0)).length) = 0 from waste_bare _ _] at h9
      exact h9
     have HEs := Lib.hid (fun (X : World) (h : MpIn X m b s3) => mEvents_any X h hg7.inv.len hg7.inv.overs hg7.inv.dots)
     have hev3 : eventsOf s3 = (aliveR s.rm).map bareEv := q3.kept.symm
     have HSA : Hid (∀ (X : World) (a1 : Option Addr) (c1 : Nat) (d1 : List EvIt), EvsIn X a1 d1 → evsOf d1 = eventsOf s3 → EvsIn X aB db → Calls Tryz.prog 33 #[.slice a1 d1.length c1, .slice aB db.length cB] X fun x w' => x = .returned (.bool true) ∧ Below X.heap.size X w') := fun X a1 c1 d1 h1 e1 h2 => by
      have h9 := rSameEvs_any a1 aB c1 cB d1 db X (by rw [← evsOf_length, e1, eventsOf_len hg7.nd]; have := hg7.inv.len; omega) HSB.out.2 (fun x hx => by
       have h8 : x.1 ∈ eventsOf s3 := by rw [← e1]; exact List.mem_map_of_mem hx
       obtain ⟨z, hz, e⟩ := (eventsOf_mem hg7.nd).1 h8
       rw [← e]
       exact hg7.small z hz) HSB.out.1 h1 h2
      rw [decide_eq_true (by rw [e1, hev3, HEV.out])] at h9
      exact h9
     have HDs : Hid (∀ X, MpIn X m b s3 → Calls Tryz.prog 39 #[.pointer (some ⟨m, 0, none⟩)] X fun x w' => ∃ a c, x = .returned (.slice a 0 c) ∧ Below X.heap.size X w') := fun X h => by
      have hd3 : sortD s3.dead = [] := q3.dead.symm
      refine (mDeads_any X h (by have := hg7.dead; omega) (fun d hd => dotOk_W (hg7.inv.dead d hd))).mono ?_
      rintro x w' ⟨v, rfl, h1, h2, h3⟩
      rw [hd3] at h2
      exact ⟨none, 0, by rw [h2.2 rfl], h3⟩
     have hmp := hH7.map
     have HB := Lib.hid hH7.below
     clear hm7 hg7 hA7 hr7 hf7 hk7 hH6 hEB c0 c1 c2 hrc h4 q2 q3 hl2 hl3 hev3 hH7 HD2
     go_wp2_with (first
      | (go_at_call 38; (with_reducible refine (HEs.out _ hmp).mono ?_); rintro x w8 ⟨aE, d8, c8, rfl, hE8, ⟨hev8, _, _⟩, hb8⟩; replace hmp := hmp.kept_w hb8; replace hEB7 := hEB7.kept hb8; have hb8w := HB.out.trans (hb8.mono HB.out.size); clear hb8)
      | (go_at_call 33; (with_reducible refine (HSA.out _ _ _ _ hE8 hev8 hEB7).mono ?_); rintro x w9 ⟨rfl, hb9⟩; replace hmp := hmp.kept_w hb9; have hb9w := hb8w.trans (hb9.mono hb8w.size); clear hb9)
      | (go_at_call 39; (with_reducible refine (HDs.out _ hmp).mono ?_); rintro x w10 ⟨aD, cD, rfl, hb10⟩; replace hmp := hmp.kept_w hb10; have hb10w := hb9w.trans (hb10.mono hb9w.size); clear hb10)
      | (go_at_call 40; (with_reducible refine (HWs.out _ hmp).mono ?_); rintro x w11 ⟨rfl, hb11⟩)
      | (go_at_call 27; (with_reducible refine (HA.out _).mono ?_); rintro x w12 ⟨rfl, hb12⟩))
     go_ret
     exact ⟨rfl, (hb10w.trans (hb11.mono hb10w.size)).trans (hb12.mono (Nat.le_trans hb10w.size hb11.size))⟩
end Go.Proofs.YtpbobhfnglikmaaGreat
