/- canon: Load. Conditions: at most 2^30 bytes. -/
import Derived.Test.YtdlmbflhbecggaaGreatVGet
import Derived.Test.YtdlmbflhbecggaaGreatLdM
import Derived.Test.YtdlmbflhbecggaaGreatCanS
import Derived.Test.YtdlmbflhbecggaaGreatReadK
set_option linter.unusedSimpArgs false
set_option linter.unusedVariables false
set_option linter.unnecessarySimpa false
set_option maxHeartbeats 16000000
set_option maxRecDepth 100000
namespace Go.Proofs.YtdlmbflhbecggaaGreat
open Go.RowKit
/-- the parts of a map's full bytes, read -/
def qZ (l : Bytes) : Rd × List Dot × List Ev × List Dot :=
 let m := jU ⟨l, 0⟩
 let n := bW 2048 m.1
 let E := ng n.2 n.1
 let k := bW 65536 E.1
 let D := dP k.2 k.1
 (D.1, m.2, E.2, D.2)
def EO (c : List Dot) (K : List Ev) (d : List Dot) : Int := fD c (K.map fun e => (e, none, 0)) d
theorem wZ (ctx : List Dot) : ∀ (K : List bg) (p : Option Dot), bI ctx p ((aQ K).map fun e => (e, none, 0)) = bI ctx p K
 | [], p => by cases p <;> rfl
 | x :: K, p => by
   have ih := wZ ctx K
   show bI ctx p ((x.1, none, 0) :: (aQ K).map fun e => (e, none, 0)) = bI ctx p (x :: K)
   unfold bI
   rw [ih]
theorem zo (c : List Dot) (K : List bg) (d : List Dot) : EO c (aQ K) d = fD c K d := by
 unfold EO fD
 rw [wZ, List.length_map, aJ]
/-- events that were made in the loop: w0 the world ahead of it -/
structure QInv (W wr : World) (R : Nat) (rr : Rd) (ls : List bg) (v : Value) : Prop where
 rd : RdAt wr R rr
 own : wr.ownsRow W.heap.size 64 19 v ls.length (aU ls)
 dots : ∀ x ∈ ls, DotsIn wr x.2.1 x.1.over
 ne : ∀ x ∈ ls, ∀ A off, x.2.1 = some ⟨A, off, none⟩ → x.1.over ≠ [] → W.heap.size ≤ A ∧ v.ownBlock ≠ some A
 fr : Fr (isR R) W wr
theorem QInv.next {W wr wd wf : World} {R : Nat} {rr r2 : Rd} {ls : List bg} {v v' : Value} {ev : Ev} {ae : Option Addr} {ce : Nat} (h : QInv W wr R rr ls v) (hR : R < W.heap.size)
 (hRd : RdAt wd R r2) (hF : Fr (isR R) wr wd) (hde : DotsIn wd ae ev.over) (hae : ∀ A off, ae = some ⟨A, off, none⟩ → wr.heap.size ≤ A)
 (hO : wf.ownsRow W.heap.size 64 19 v' (ls.length + 1) (aU ls ++ ah ev ae ce)) (hg : (wd.alloc (Obj.cells (ah ev ae ce).toArray 64)).grownBy wf v.ownBlock)
 (hat : v'.ownBlock = v.ownBlock ∨ v'.ownBlock = some (wd.alloc (Obj.cells (ah ev ae ce).toArray 64)).heap.size) :
 QInv W wf R r2 (ls ++ [(ev, ae, ce)]) v' := by
 obtain ⟨iRd, MC, OL, iNe, iFr⟩ := h
 have hzw := iFr.size
 have hzd : wr.heap.size ≤ wd.heap.size := hF.size
 have Nq := yT MC hF (by omega)
 have hal : Below wd.heap.size wd (wd.alloc (Obj.cells (ah ev ae ce).toArray 64)) := (Below.refl _ _).alloc (Nat.le_refl _) _
 have OY : ∀ x ∈ ls ++ [(ev, ae, ce)], DotsIn wd x.2.1 x.1.over ∧ ∀ A off, x.2.1 = some ⟨A, off, none⟩ → x.1.over ≠ [] → W.heap.size ≤ A ∧ v.ownBlock ≠ some A := by
  intro x hx
  rcases List.mem_append.1 hx with hx | hx
  ·refine ⟨(OL x hx).keep (fun A off hA hne => hF.block A ?_ ?_), iNe x hx⟩
   ·have h1 := OL x hx; rw [hA] at h1; exact (show A < wr.heap.size from oJ h1 hne)
   ·have := (iNe x hx A off hA hne).1; simp only [isR]; omega
  ·simp only [List.mem_singleton] at hx
   subst hx
   refine ⟨hde, fun A off hA hne => ⟨by have : wr.heap.size ≤ A := hae A off hA; omega, fun e => ?_⟩⟩
   have h1 : wr.heap.size ≤ A := hae A off hA
   have h2 := (MC.lt A e).2
   omega
 refine ⟨?_, ?_, fun x hx => ?_, fun x hx A off hA hne => ?_, ?_⟩
 ·exact (hRd.below hal).grown hg (fun g hgg => by have := (Nq.lt g hgg).1; omega)
 ·rw [kQ, List.length_append]
  exact hO
 ·obtain ⟨h1, h2⟩ := OY x hx
  refine (h1.kept hal).keep (fun A off hA hne => ?_)
  obtain ⟨h3, h4⟩ := h2 A off hA hne
  refine hg.block A ?_ (fun e => h4 e.symm)
  rw [hA] at h1
  have := oJ h1 hne
  have := hal.size
  omega
 ·obtain ⟨h1, h2⟩ := OY x hx
  obtain ⟨h3, h4⟩ := h2 A off hA hne
  refine ⟨h3, ?_⟩
  rcases hat with hat | hat
  ·rw [hat]; exact h4
  ·rw [hat]
   intro e
   injection e with e
   rw [hA] at h1
   have := oJ h1 hne
   have := hal.size
   omega
 ·exact ((iFr.again hF).alloc (Obj.cells (ah ev ae ce).toArray 64)).grown2 hg (fun k hk => (Nq.lt k hk).1)
/-- events that lie in blocks from lo on -/
structure EvsNew (w : World) (lo : Nat) (a : Option Addr) (ls : List bg) : Prop where
 evs : EvsIn w a ls
 row : ∀ A off, a = some ⟨A, off, none⟩ → ls ≠ [] → lo ≤ A
 over : ∀ x ∈ ls, ∀ A off, x.2.1 = some ⟨A, off, none⟩ → x.1.over ≠ [] → lo ≤ A
theorem EvsNew.fr {w w' : World} {lo R : Nat} {a : Option Addr} {ls : List bg} (h : EvsNew w lo a ls) (hf : Fr (isR R) w w') (hR : R < lo) : EvsNew w' lo a ls := by
 refine ⟨⟨?_, fun x hx => ?_⟩, h.row, h.over⟩
 ·rcases h.evs.rows with h0 | ⟨A, off, hA, hr⟩
  ·exact Or.inl h0
  ·by_cases hne : ls = []
   ·exact Or.inl hne
   ·refine Or.inr ⟨A, off, hA, fun i hi j v hv => ?_⟩
    have h1 := h.row A off hA hne
    have h2 := World.block_lt_of_cell? w _ (hr 0 (List.length_pos_iff.2 hne) 0 _ rfl)
    exact (World.cell?_of_block (hf.block A h2 (by simp only [isR]; omega))).trans (hr i hi j v hv)
 ·refine (h.evs.dots x hx).keep (fun A off hA hne => ?_)
  have h1 := h.over x hx A off hA hne
  have h2 := h.evs.dots x hx
  rw [hA] at h2
  exact hf.block A (oJ h2 hne) (by simp only [isR]; omega)
theorem EvsNew.of {W wr : World} {R : Nat} {rr : Rd} {ls : List bg} {v : Value} (h : QInv W wr R rr ls v) : ∃ a c, v = .slice a ls.length c ∧ EvsNew wr W.heap.size a ls := by
 obtain ⟨ax, cx, hvx, hin⟩ := iK h.own h.dots
 refine ⟨ax, cx, hvx, hin, fun A off h1 h2 => ?_, fun x hx A off h1 h2 => (h.ne x hx A off h1 h2).1⟩
 rcases h.own.2 with ⟨_, hn⟩ | ⟨g, cap, cur, hv, hg, _⟩
 ·exact absurd (List.length_eq_zero_iff.1 hn) h2
 ·rw [hvx] at hv
  simp only [Value.slice.injEq] at hv
  rw [h1] at hv
  have : A = g := by have h5 := hv.1; simp at h5; exact h5.1
  omega
/-- dots that lie in blocks from lo on -/
def DotsNew (w : World) (lo : Nat) (a : Option Addr) (l : List Dot) : Prop := DotsIn w a l ∧ ∀ A off, a = some ⟨A, off, none⟩ → lo ≤ A
theorem DotsNew.fr {w w' : World} {lo R : Nat} {a : Option Addr} {l : List Dot} (h : DotsNew w lo a l) (hf : Fr (isR R) w w') (hR : R < lo) : DotsNew w' lo a l :=
 ⟨h.1.keep (fun A off hA hne => hf.block A (by have := h.1; rw [hA] at this; exact oJ this hne) (by simp only [isR]; have := h.2 A off hA; omega)), h.2⟩
/-- behind Load -/
def xu (r : Rd) (c : List Dot) (K : List Ev) (d : List Dot) (w : World) (x : Ending) (w' : World) : Prop :=
 if pV r = 0 then (if EO c K d = 0 then ∃ m b s, x = .returned (.tuple #[.pointer (some ⟨m, 0, none⟩), .int .i64 0]) ∧ MpIn w' m b s ∧ MInv s ∧ Rel s ⟨c, K, d⟩ ∧ s.dead.length ≤ d.length ∧ (∀ x ∈ s.K, x.1 ∈ K) ∧ Below w.heap.size w w' else x = .returned (.tuple #[.pointer none, .int .i64 (EO c K d)]) ∧ Below w.heap.size w w')
 else x = .returned (.tuple #[.pointer none, .int .i64 (pV r)]) ∧ Below w.heap.size w w'
theorem y58 {p q : Prop} (k : q) (h : PLift q → p := by
 intro kk
 have q2 : (pV rr2 != 0) = true := by rw [bne_iff_ne]; exact hre
 have HR : Hid (∀ x w', x = .returned (.tuple #[.pointer none, .int .i64 (pV rr2)]) → Below w.heap.size w w' → xu rr2 mk evs dl w x w') := fun x w' h1 h2 => by unfold xu; rw [if_neg hre]; exact ⟨h1, h2⟩
 revert q2 HR
 exact kk.down) : p := h ⟨k⟩
theorem z1 {p : Prop} (h : p := by
 go_upto_region 10 with (first
  | (go_at_call 21; (with_reducible refine (HE.out _ hrd).mono ?_); rintro x w11 ⟨rfl, rfl⟩)
  | (go_at_call 20; (with_reducible refine (N4.out _ _ hrd).mono ?_); rintro x W5 ⟨rfl, hR4, hF4⟩))
 clear d1 d2
 have QQ := hnE.fr hF4 PZ
 have RH := hDm.fr hF4 (Nat.lt_succ_self R)
 have hb5 := hbr.trans (hF4.below (B := w.heap.size) hbr.size (fun k hk => by simp only [isR] at hk; have := HRE.out; omega))
 have HD5 := Lib.hid (And.intro QQ (And.intro RH hb5))
 have TV : R < W5.heap.size := hR4.lt
 clear QQ RH hb5 hnE hDm hbr hF4 hrd
 go_wp2
 go_loopw [8, 9] (fun u n wr => ∃ (m2 : Nat) (rr2 : Rd) (dl : List Dot), n = .int .u64 m2 ∧ m2 + dl.length ≤ 65536 ∧ rr2.b.length ≤ 1048576 ∧ wr.ownsRow W5.heap.size 56 3 u dl.length (aI dl) ∧ RdAt wr R rr2 ∧ Fr (isR R) W5 wr ∧ dP M r4 = ((dP m2 rr2).1, dl ++ (dP m2 rr2).2)) (fun _ n _ => (intOf n).toNat)
 case atStart => exact ⟨M, r4, [], rfl, by simp; omega, l4, World.ownsRow_nil _ _ _ _, hR4, Fr.refl _ _, by simp⟩
 case round =>
  obtain ⟨m2, rr2, dl, rfl, PI, hrl2, hown2, zI, Kv, OT⟩ := hrel
  have HP2 := Lib.hid OT
  clear OT hR4
  have TE := Kv.size
  have HE2 := Lib.hid (fun (Y : World) (h : RdAt Y R rr2) => hEr.out rr2 Y h)
  obtain ⟨u2, hu2⟩ : ∃ u2, u2 = u8 := ⟨_, rfl⟩
  rw [← hu2] at hown2 ⊢
  clear hu2
  by_cases hgo2 : 0 < m2 ∧ rr2.e = 0
  ·obtain ⟨hm0, he0⟩ := hgo2
   obtain ⟨j, rfl⟩ : ∃ j, m2 = j + 1 := ⟨m2 - 1, by omega⟩
   have hq : (rr2.e == 0) = true := beq_iff_eq.2 he0
   have SL : decide (0 < j + 1) = true := by simp
   refine y34 ?_
   intro hdi hwr
   have hf := og rr2
   have HS : Hid (dP M r4 = ((dP j (iL rr2).1).1, (dl ++ [(iL rr2).2]) ++ (dP j (iL rr2).1).2)) := by rw [Hid, HP2.out, yN he0]; simp
   have HG0 := hDg.out rr2
   obtain ⟨r6, d6, QH⟩ : ∃ r2 d, iL rr2 = (r2, d) := ⟨_, _, rfl⟩
   rw [QH] at HG0 HS hf
   simp only at HG0 HS hf
   have HG := Lib.hid (fun (Y : World) (h : RdAt Y R rr2) => HG0 Y (by omega) h)
   clear QH HG0 HP2 he0 hm0
   go_upto_region 12 with (go_at_call 21; (with_reducible refine (HE2.out _ zI).mono ?_); rintro x w20 ⟨rfl, rfl⟩)
   go_wp2_with (first
    | (go_at_call 23; (with_reducible refine (HG.out _ zI).mono ?_); rintro x wd ⟨rfl, Rx, hF6⟩; have hown6 := yT hown2 hF6 (by omega); have hzd := hF6.size)
    | (at_builtin; go_loud (refine wpList_append_own _ rfl _ _ 30 rfl W5.heap.size 56 j0 (.agg #[.int .i64 0, .int .i64 0, .int .i64 0]) 3 24 Tryz.underlying30 hj hy0 hy1 hy2 rfl (by decide) _ _ _ rfl (hown6.alloc _) ⟨wd.heap.size, 0, none⟩ 1 1 [.int .i64 d6.a.dev, .int .i64 d6.a.inc, .int .i64 d6.seq] rfl rfl (Po wd d6 _) (by simp [Value.oneCell']) (by unfold maxLen; omega) (by omega) (by simp; omega) ?_)))
   intro v' w25 G7 PL _
   rw [rW] at G7
   have Ry := (Rx.below ((Below.refl _ _).alloc (Nat.le_refl _) _)).grown PL (fun g hg => by have := (hown6.lt g hg).1; omega)
   have RD := ((Kv.again hF6).alloc (Obj.cells #[.int .i64 d6.a.dev, .int .i64 d6.a.inc, .int .i64 d6.seq] 56)).grown PL (fun g hg => (hown6.lt g hg).1)
   have HZ := Lib.hid (And.intro G7 (And.intro Ry RD))
   clear G7 Ry RD PL hown6 hF6 Rx hown2 zI Kv
   go_wp2
   go_roundw
   case rel => exact ⟨j, r6, dl ++ [d6], by go_num, by simp; omega, by omega, by rw [List.length_append]; exact HZ.out.1, HZ.out.2.1, HZ.out.2.2, HS.out⟩
   case measure => simp [intOf]
  ·have OW : dP m2 rr2 = (rr2, []) := by
    by_cases h0 : m2 = 0
    ·subst h0; rfl
    ·exact Bl (fun e => hgo2 ⟨by omega, e⟩)
   have hq2 : rr2 = r5 ∧ dl = ds := by
    have h1 := H5.out
    rw [HP2.out, OW] at h1
    simp only [List.append_nil, Prod.mk.injEq] at h1
    exact h1
   obtain ⟨rfl, rfl⟩ := hq2
   obtain ⟨ad, cd, hvd, hdd, _⟩ := zY hown2
   have QP := HD5.out.1.fr Kv PZ
   have RG := HD5.out.2.1.fr Kv (Nat.lt_succ_self R)
   have hb6 := HD5.out.2.2.trans (Kv.below (B := w.heap.size) HD5.out.2.2.size (fun k hk => by simp only [isR] at hk; have := HRE.out; omega))
   have HEn := Lib.hid (fun (Y : World) (h : RdAt Y R rr2) => Ol.out rr2 Y h (by omega))
   subst hvd
   clear hown2 OW HP2
   by_cases hc2 : 0 < m2
   ·have he2 : rr2.e ≠ 0 := fun e => hgo2 ⟨hc2, e⟩
    have q1 : (rr2.e == 0) = false := beq_eq_false_iff_ne.2 he2
    have d1 := decide_eq_true hc2
    have d2 : decide ((0 : Int) < (m2 : Int)) = true := decide_eq_true (by omega)
    have hre : pV rr2 ≠ 0 := by unfold pV; rw [if_neg he2]; exact he2
    refine y58 ?_
    intro q2 HR
    clear hgo2 hre he2 hc2
    generalize pV rr2 = er at *
    go_wp2_with (first
         | (go_at_call 21; (with_reducible refine (HE2.out _ zI).mono ?_); rintro x w21 ⟨rfl, rfl⟩)
         | (go_at_call 24; (with_reducible refine (HEn.out _ zI).mono ?_); rintro x w22 ⟨rfl, rfl⟩))
    go_ret2
    exact HR.out _ _ rfl hb6
   ·have d1 := decide_eq_false hc2
    have d2 : decide ((0 : Int) < (m2 : Int)) = false := decide_eq_false (by omega)
    by_cases hre : pV rr2 = 0
    ·have q2 : (pV rr2 != 0) = false := by rw [bne_eq_false_iff_eq]; exact hre
     rw [hre] at HEn q2
     have hly : ls.length ≤ 2048 := by omega
     have hdy : dl.length ≤ 65536 := by omega
     by_cases hld : fD mk ls dl = 0
     ·have HLo := Lib.hid (fun (Y : World) (h1 : DotsIn Y am mk) (h2 : EvsIn Y ax ls) (h3 : DotsIn Y ad dl) => show Calls Tryz.prog 25 #[.slice am mk.length cm, .slice ax ls.length cx, .slice ad dl.length cd] Y (O4 ⟨am, mk, cm, ax, ls, cx, ad, dl, cd⟩ Y) from GV ⟨am, mk, cm, ax, ls, cx, ad, dl, cd⟩ Y hsm h1 h2 h3 hld)
      have HR : Hid (∀ x w', (∃ m b s, x = .returned (.tuple #[.pointer (some ⟨m, 0, none⟩), .int .i64 0]) ∧ MpIn w' m b s ∧ MInv s ∧ Rel s ⟨mk, evs, dl⟩ ∧ s.dead.length ≤ dl.length ∧ (∀ x ∈ s.K, x.1 ∈ evs) ∧ Below w.heap.size w w') → xu rr2 mk evs dl w x w') := fun x w' h1 => by unfold xu; rw [if_pos hre, if_pos (by rw [hevs, zo]; exact hld)]; exact h1
      clear hgo2 hre hc2 hld
      go_wp2_with (first
       | (go_at_call 24; (with_reducible refine (HEn.out _ zI).mono ?_); rintro x w22 ⟨rfl, rfl⟩)
       | (go_at_call 25; have h9 := HLo.out _ RG.1 QP.evs hdd; (with_reducible refine h9.mono ?_); rintro x w23 ⟨m9, b9, s9, rfl, hm9, hi9, hr9, hd9, _, hk9, hb9⟩))
      go_ret2
      exact HR.out _ _ ⟨m9, b9, s9, rfl, hm9, hi9, by rw [hevs]; exact hr9, hd9, fun x hx => by rw [hevs]; exact hk9 x hx, hb6.trans (hb9.mono hb6.size)⟩
     ·have HLo := Lib.hid (fun (Y : World) (h1 : DotsIn Y am mk) (h2 : EvsIn Y ax ls) (h3 : DotsIn Y ad dl) => show Calls Tryz.prog 25 #[.slice am mk.length cm, .slice ax ls.length cx, .slice ad dl.length cd] Y (fun x w' => x = .returned (.tuple #[.pointer none, .int .i64 (fD mk ls dl)]) ∧ Below Y.heap.size Y w') from JL ⟨am, mk, cm, ax, ls, cx, ad, dl, cd⟩ Y (by simp only; omega) (by simp only; omega) (by simp only; omega) hsm h1 h2 h3 hld)
      have HR : Hid (∀ x w', x = .returned (.tuple #[.pointer none, .int .i64 (fD mk ls dl)]) → Below w.heap.size w w' → xu rr2 mk evs dl w x w') := fun x w' h1 h2 => by unfold xu; rw [if_pos hre, if_neg (by rw [hevs, zo]; exact hld), hevs, zo]; exact ⟨h1, h2⟩
      clear hgo2 hre hc2 hld
      generalize fD mk ls dl = er at *
      go_wp2_with (first
       | (go_at_call 24; (with_reducible refine (HEn.out _ zI).mono ?_); rintro x w22 ⟨rfl, rfl⟩)
       | (go_at_call 25; have h9 := HLo.out _ RG.1 QP.evs hdd; (with_reducible refine h9.mono ?_); rintro x w23 ⟨rfl, hb9⟩))
      go_ret2
      exact HR.out _ _ rfl (hb6.trans (hb9.mono hb6.size))
    ·refine y58 ?_
     intro q2 HR
     clear hgo2 hre hc2
     generalize pV rr2 = er at *
     go_wp2_with (go_at_call 24; (with_reducible refine (HEn.out _ zI).mono ?_); rintro x w22 ⟨rfl, rfl⟩)
     go_ret2
     exact HR.out _ _ rfl hb6) : p := h
theorem KJ (a : Option Addr) (cap : Nat) (l : Bytes) (w : World) (hl : l.length ≤ 1048576) (hcap : l.length ≤ cap) (h : BytesIn w a l) {r : Rd} {c : List Dot} {K : List Ev} {d : List Dot} (hx : qZ l = (r, c, K, d)) :
 Calls Tryz.prog 6 #[.slice a l.length cap] w (xu r c K d w) := by
 obtain ⟨i0, hi, hz0, hz1, hz2⟩ := info_parts Tryz.infoEv
 obtain ⟨j0, hj, hy0, hy1, hy2⟩ := info_parts Tryz.infoDot
 have hRP := Lib.hid (Di a cap l w h hcap)
 have f1 := Gy ⟨l, 0⟩
 have f1l := Gx ⟨l, 0⟩
 have N1' := fun (R : Nat) (W : World) (h : RdAt W R ⟨l, 0⟩) => Lj R ⟨l, 0⟩ W (by simp only; omega) h
 obtain ⟨r1, mk, h1⟩ : ∃ x y, jU ⟨l, 0⟩ = (x, y) := ⟨_, _, rfl⟩
 rw [h1] at f1 N1' f1l
 unfold FY at N1'
 simp only at f1 N1' f1l
 have f2 := dE 2048 r1
 have N2' : ∀ (R : Nat) (W : World), RdAt W R r1 → Calls Tryz.prog 20 #[.pointer (some ⟨R, 0, none⟩), .int .u64 2048] W (iQ R (bW 2048 r1).1 (.int .u64 (bW 2048 r1).2) W) := fun (R : Nat) (W : World) (h : RdAt W R r1) => oL R r1 2048 W (by omega) (by omega) h
 obtain ⟨r2, N, h2⟩ : ∃ x y, bW 2048 r1 = (x, y) := ⟨_, _, rfl⟩
 rw [h2] at f2 N2'
 simp only at f2 N2'
 have f3 := Eu N r2
 obtain ⟨r3, evs, h3⟩ : ∃ x y, ng N r2 = (x, y) := ⟨_, _, rfl⟩
 rw [h3] at f3
 simp only at f3
 have f4 := dE 65536 r3
 have N4' : ∀ (R : Nat) (W : World), RdAt W R r3 → Calls Tryz.prog 20 #[.pointer (some ⟨R, 0, none⟩), .int .u64 65536] W (iQ R (bW 65536 r3).1 (.int .u64 (bW 65536 r3).2) W) := fun (R : Nat) (W : World) (h : RdAt W R r3) => oL R r3 65536 W (by omega) (by omega) h
 obtain ⟨r4, M, h4⟩ : ∃ x y, bW 65536 r3 = (x, y) := ⟨_, _, rfl⟩
 rw [h4] at f4 N4'
 simp only at f4 N4'
 obtain ⟨r5, ds, h5⟩ : ∃ x y, dP M r4 = (x, y) := ⟨_, _, rfl⟩
 have hxx : qZ l = (r5, mk, evs, ds) := by unfold qZ; simp only [h1, h2, h3, h4, h5]
 rw [hxx] at hx
 simp only [Prod.mk.injEq] at hx
 obtain ⟨rfl, rfl, rfl, rfl⟩ := hx
 have N1 := Lib.hid N1'
 have N2 := Lib.hid N2'
 have N4 := Lib.hid N4'
 have H3 := Lib.hid h3
 have H4 := Lib.hid h4
 have H5 := Lib.hid h5
 have bN := f2.2
 have bM := f4.2
 have l2 : r2.b.length ≤ 1048576 := by omega
 have l4 : r4.b.length ≤ 1048576 := by omega
 clear N1' N2' N4' h1 h2 h3 h4 h5 f1 f2 f3 f4 hxx h
 go_enter Tryz.func6, Tryz.ntmps6
 go_upto_region 2 with (go_at_call 18; (with_reducible refine hRP.out.mono ?_); rintro x w1 ⟨rfl, hR1, hb1⟩)
 have hRl := hR1.lt
 obtain ⟨R, hRR⟩ : ∃ R, R = w.heap.size := ⟨_, rfl⟩
 rw [← hRR] at hR1 hRl ⊢
 have HRE := Lib.hid hRR
 clear hRP hRR
 go_upto_region 3 with (go_at_call 19; (with_reducible refine (N1.out _ _ hR1).mono ?_); rintro x w2 ⟨am, cm, rfl, hdm, hR2, hF2, hAm⟩)
 have hD2 : DotsNew w2 (R + 1) am mk := ⟨hdm, fun A off h => by have := hAm A off h; omega⟩
 have hz2' := hF2.size
 go_upto_region 5 with (go_at_call 20; (with_reducible refine (N2.out _ _ hR2).mono ?_); rintro x W ⟨rfl, hRW, hFW⟩)
 have hzW := hFW.size
 have hDW := hD2.fr hFW (Nat.lt_succ_self R)
 have RF := hF2.again hFW
 have hbW : Below w.heap.size w W := hb1.trans (RF.below (B := w.heap.size) hb1.size (fun k hk => by simp only [isR] at hk; have := HRE.out; omega))
 have PZ : R < W.heap.size := by omega
 have HD := Lib.hid (And.intro hDW hbW)
 have hEr := Lib.hid (fun (rr : Rd) (W : World) (h : RdAt W R rr) => Ce R rr W h)
 have hEg := Lib.hid (fun (rr : Rd) (W : World) (hl : rr.b.length ≤ 1073741824) (h : RdAt W R rr) => Oo R rr W hl h)
 have hI0 : QInv W W R r2 [] (.slice none 0 0) := ⟨hRW, World.ownsRow_nil _ _ _ _, fun x hx => by simp at hx, fun x hx => by simp at hx, Fr.refl _ _⟩
 clear hdm hR2 hF2 hAm hD2 hz2' hFW hzW hDW RF hbW hR1 hb1 N1 N2 hRl
 go_wp2
 go_loopw [6, 7] (fun u n wr => ∃ (m : Nat) (rr : Rd) (ls : List bg), n = .int .u64 m ∧ m + ls.length ≤ 2048 ∧ rr.b.length ≤ 1048576 ∧ iq ls ∧ QInv W wr R rr ls u ∧ ng N r2 = ((ng m rr).1, aQ ls ++ (ng m rr).2)) (fun _ n _ => (intOf n).toNat)
 case atStart => exact ⟨N, r2, [], rfl, by simp; omega, l2, fun x hx => by simp at hx, hI0, by simp [aQ]⟩
 case round =>
  obtain ⟨m, rr, ls, rfl, hmn, hrl, hsm, hI, hpre⟩ := hrel
  have HP := Lib.hid hpre
  clear hpre hI0
  have hzw := hI.fr.size
  have HE := Lib.hid (fun (Y : World) (h : RdAt Y R rr) => hEr.out rr Y h)
  obtain ⟨u, hu⟩ : ∃ u, u = u6 := ⟨_, rfl⟩
  rw [← hu] at hI ⊢
  clear hu
  by_cases hgo : 0 < m ∧ rr.e = 0
  ·obtain ⟨hm0, he0⟩ := hgo
   obtain ⟨j, rfl⟩ : ∃ j, m = j + 1 := ⟨m - 1, by omega⟩
   have hq : (rr.e == 0) = true := beq_iff_eq.2 he0
   have SL : decide (0 < j + 1) = true := by simp
   refine y34 ?_
   intro hdi hwr
   have hf := II rr
   have hsv := JC rr
   have HS : Hid (ng N r2 = ((ng j (rEv rr).1).1, (aQ ls ++ [(rEv rr).2]) ++ (ng j (rEv rr).1).2)) := by rw [Hid, HP.out, JB he0]; simp
   have HG0 := hEg.out rr
   obtain ⟨r2', ev, hrd⟩ : ∃ r2 d, rEv rr = (r2, d) := ⟨_, _, rfl⟩
   rw [hrd] at HG0 HS hf hsv
   simp only at HG0 HS hf hsv
   have HG := Lib.hid (fun (Y : World) (h : RdAt Y R rr) => HG0 Y (by omega) h)
   clear hrd HG0 HP he0 hm0
   have iRd := hI.rd
   have MC := hI.own
   have HI := Lib.hid hI
   have HSM := Lib.hid hsm
   have HSV := Lib.hid hsv
   clear hI hsm hsv
   go_upto_region 7 with (go_at_call 21; (with_reducible refine (HE.out _ iRd).mono ?_); rintro x w10 ⟨rfl, rfl⟩)
   go_wp2_with (first
        | (go_at_call 22; (with_reducible refine (HG.out _ iRd).mono ?_); rintro x wd ⟨ae, ce, rfl, hde, zI, hFd, hae⟩; have Nq := yT MC hFd (by omega); have hzd := hFd.size)
        | (refine wpList_buildOne rfl 29 64 _ rfl (ah ev ae ce).toArray 19 rfl rfl (by decide) (by decide) Tryz.underlying29 (by kernel_rfl) (by kernel_rfl) ?_)
        | (at_builtin; go_loud (refine wpList_append_own_at _ rfl _ _ 29 rfl W.heap.size 64 i0 (.agg (ah ev0 none 0).toArray) 19 176 Tryz.underlying29 hi hz0 hz1 hz2 rfl (by decide) _ _ _ rfl (Nq.alloc _) ⟨wd.heap.size, 0, none⟩ 1 1 (ah ev ae ce) rfl rfl (uw wd ev ae ce _) (dn _ _ _) (by unfold maxLen; omega) (by omega) (by simp; omega) ?_)))
   intro v' wf lM hgrow _ hat
   have hQ := HI.out.next PZ zI hFd hde hae lM hgrow (hat.imp id fun h => h.trans (by simp))
   have hs2 : iq (ls ++ [(ev, ae, ce)]) := by
        intro x hx
        rcases List.mem_append.1 hx with hx | hx
        ·exact HSM.out x hx
        ·simp only [List.mem_singleton] at hx; subst hx; exact HSV.out
   have hev2 : aQ (ls ++ [(ev, ae, ce)]) = aQ ls ++ [ev] := by simp [aQ]
   have HZ := Lib.hid (And.intro hQ (And.intro hs2 hev2))
   clear hQ hs2 hev2 lM hgrow hat Nq MC iRd zI hFd hde hae
   go_wp2
   go_roundw
   case rel => exact ⟨j, r2', ls ++ [(ev, ae, ce)], by go_num, by simp; omega, by omega, HZ.out.2.1, HZ.out.1, by rw [HZ.out.2.2]; exact HS.out⟩
   case measure => simp [intOf]
  ·have hend : ng m rr = (rr, []) := by
        by_cases h0 : m = 0
        ·subst h0; rfl
        ·exact LD (fun e => hgo ⟨by omega, e⟩)
   have hq : r3 = rr ∧ evs = aQ ls := by
        have h1 := H3.out
        rw [HP.out, hend] at h1
        simp only [List.append_nil, Prod.mk.injEq] at h1
        exact ⟨h1.1.symm, h1.2.symm⟩
   obtain ⟨rfl, hevs⟩ := hq
   have Ol := Lib.hid (fun (rr : Rd) (W : World) (h : RdAt W R rr) (hl : rr.b.length ≤ 1073741824) => Si R rr W h hl)
   obtain ⟨ax, cx, hvx, hnE⟩ := EvsNew.of hI
   have hrd := hI.rd
   have hFr := hI.fr
   have hDm := HD.out.1.fr hFr (Nat.lt_succ_self R)
   have hbr := HD.out.2.trans (hFr.below (B := w.heap.size) HD.out.2.size (fun k hk => by simp only [isR] at hk; have := HRE.out; omega))
   have hDg := Lib.hid (fun (rr : Rd) (W : World) (hl : rr.b.length ≤ 1073741824) (h : RdAt W R rr) => uF R rr W hl h)
   clear hend HP H3
   subst hvx
   clear hI hEg hFr
   by_cases hcase : 0 < m
   ·have he : r3.e ≠ 0 := fun e => hgo ⟨hcase, e⟩
    have q1 : (r3.e == 0) = false := beq_eq_false_iff_ne.2 he
    have d1 := decide_eq_true hcase
    have d2 : decide ((0 : Int) < (m : Int)) = true := decide_eq_true (by omega)
    clear hgo hcase he
    exact z1
   ·have d1 := decide_eq_false hcase
    have d2 : decide ((0 : Int) < (m : Int)) = false := decide_eq_false (by omega)
    clear hgo hcase
    exact z1
theorem Aq {mk : List Dot} (h : bf mk = 0) (s : Bytes) : jU ⟨eX mk ++ s, 0⟩ = (⟨s, 0⟩, mk) := by
 obtain ⟨h1, h2⟩ := lZ h
 unfold jU eX
 rw [List.append_assoc, fF 4096 mk.length _ (by omega) h1]
 simp only
 rw [oZ mk s h2]
 unfold kw
 simp [h]
theorem Bi : ∀ (l : List Ev) (s : Bytes), (∀ e ∈ l, cu e = true) → ng l.length ⟨dZ l ++ s, 0⟩ = (⟨s, 0⟩, l)
 | [], s, _ => by simp [ng, dZ]
 | e :: l, s, h => by
   have h1 : dZ (e :: l) ++ s = evB e ++ (dZ l ++ s) := by simp [dZ]
   rw [h1, List.length_cons, ng, if_pos rfl, Ph (h e (by simp))]
   simp only [Bi l s (fun x hx => h x (by simp [hx]))]
theorem DT {c : List Dot} {K : List Ev} {d : List Dot} (hc : bf c = 0) (hk : K.length ≤ 2048) (hK : ∀ e ∈ K, cu e = true) (hd : d.length ≤ 65536) (hD : ∀ x ∈ d, bu x = true) :
 qZ (eX c ++ aN K.length ++ dZ K ++ aN d.length ++ bU d) = (⟨[], 0⟩, c, K, d) := by
 have e1 := Aq hc (aN K.length ++ (dZ K ++ (aN d.length ++ bU d)))
 have e2 := fF 2048 K.length (dZ K ++ (aN d.length ++ bU d)) (by omega) hk
 have e3 := Bi K (aN d.length ++ bU d) hK
 have e4 := fF 65536 d.length (bU d) (by omega) hd
 have e5 := oZ d [] hD
 rw [List.append_nil] at e5
 unfold qZ
 simp only [List.append_assoc, e1, e2, e3, e4, e5]
theorem DV (w : World) : Calls Tryz.prog 8 #[.pointer none] w fun x w' => x = .returned (.tuple #[.slice none 0 0, .int .i64 17]) ∧ w = w' := by
 go_enter Tryz.func8, Tryz.ntmps8
 go_wp2
 go_ret2
 exact ⟨rfl, rfl⟩
/-- what Full has packed, Load has again -/
def OG (s : MS) (w : World) (x : Ending) (w' : World) : Prop := ∃ m b t, x = .returned (.tuple #[.pointer (some ⟨m, 0, none⟩), .int .i64 0]) ∧ MpIn w' m b t ∧ MInv t ∧ Rel t ⟨s.ctx, bP s, sortD s.dead⟩ ∧ t.dead.length ≤ s.dead.length ∧ (∀ x ∈ t.K, EvSmall x.1) ∧ Below w.heap.size w w'
theorem KL {s : MS} (hg : SGood s 60) (hk : s.K.length ≤ 60) (a : Option Addr) (cap : Nat) (w : World) (hl : (jQ s).length ≤ 1048576) (hcap : (jQ s).length ≤ cap) (h : BytesIn w a (jQ s)) :
 Calls Tryz.prog 6 #[.slice a (jQ s).length cap] w (OG s w) := by
 have hcx := hg.ctx
 have hdd := hg.dead
 have hdl : (sortD s.dead).length ≤ s.dead.length := fG _
 have hK : ∀ e ∈ bP s, cu e = true := fun e he => by
  obtain ⟨z, hz, e9⟩ := (dU hg.nd).1 he
  rw [← e9]
  exact (hg.inv.kept z hz).1
 have hlen : (bP s).length = s.K.length := fJ hg.nd
 have hp := DT (c := s.ctx) (K := bP s) (d := sortD s.dead) (hg.inv.marks (by omega)) (by omega) hK (by omega) (fun x hx => hg.inv.dead x (df.1 hx))
 have hp2 : qZ (jQ s) = (⟨[], 0⟩, s.ctx, bP s, sortD s.dead) := by
  rw [hlen] at hp
  exact hp
 have hld : EO s.ctx (bP s) (sortD s.dead) = 0 := hg.loads (by decide) rfl (by unfold aQ; rw [List.map_map]; exact List.map_id _) rfl
 refine (KJ a cap (jQ s) w hl hcap h hp2).mono fun x w' hr => ?_
 unfold xu at hr
 rw [if_pos (show pV ⟨[], 0⟩ = 0 from rfl), if_pos hld] at hr
 obtain ⟨m, b, t, rfl, h1, h2, h3, h4, h5, h6⟩ := hr
 exact ⟨m, b, t, rfl, h1, h2, h3, Nat.le_trans h4 hdl, fun x hx => sS (hK _ (h5 x hx)), h6⟩
end Go.Proofs.YtdlmbflhbecggaaGreat
