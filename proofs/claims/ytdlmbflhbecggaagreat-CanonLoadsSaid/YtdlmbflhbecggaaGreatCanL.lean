/- canon: Load. Conditions: at most 2^30 bytes. -/
import Derived.Test.YtdlmbflhbecggaaGreatEvOwn
import Derived.Test.YtdlmbflhbecggaaGreatLdM
set_option linter.unusedSimpArgs false
set_option linter.unusedVariables false
set_option linter.unnecessarySimpa false
set_option maxHeartbeats 16000000
set_option maxRecDepth 100000
namespace Go.Proofs.YtdlmbflhbecggaaGreat
open Go.RowKit
/-- the parts of a map's full bytes, read -/
def kV (l : Bytes) : Rd × List Dot × List Ev × List Dot :=
 let m := dW ⟨l, 0⟩
 let n := bu 2048 m.1
 let E := jK n.2 n.1
 let k := bu 65536 E.1
 let D := bQ k.2 k.1
 (D.1, m.2, E.2, D.2)
def pM (c : List Dot) (K : List Ev) (d : List Dot) : Int := cu c (K.map fun e => (e, none, 0)) d
theorem vU (ctx : List Dot) : ∀ (K : List bJ) (p : Option Dot), bF ctx p ((aQ K).map fun e => (e, none, 0)) = bF ctx p K
 | [], p => by cases p <;> rfl
 | x :: K, p => by
   have ih := vU ctx K
   show bF ctx p ((x.1, none, 0) :: (aQ K).map fun e => (e, none, 0)) = bF ctx p (x :: K)
   unfold bF
   rw [ih]
theorem l9 (c : List Dot) (K : List bJ) (d : List Dot) : pM c (aQ K) d = cu c K d := by
 unfold pM cu
 rw [vU, List.length_map, aV]
/-- events that were made in the loop: w0 the world ahead of it -/
structure QInv (W wr : World) (R : Nat) (rr : Rd) (ls : List bJ) (v : Value) : Prop where
 rd : RdAt wr R rr
 own : wr.ownsRow W.heap.size 64 19 v ls.length (aS ls)
 dots : ∀ x ∈ ls, DotsIn wr x.2.1 x.1.over
 ne : ∀ x ∈ ls, ∀ A off, x.2.1 = some ⟨A, off, none⟩ → x.1.over ≠ [] → W.heap.size ≤ A ∧ v.ownBlock ≠ some A
 fr : Fr (isR R) W wr
theorem QInv.next {W wr wd wf : World} {R : Nat} {rr r2 : Rd} {ls : List bJ} {v v' : Value} {ev : Ev} {ae : Option Addr} {ce : Nat} (h : QInv W wr R rr ls v) (hR : R < W.heap.size)
 (hRd : RdAt wd R r2) (hF : Fr (isR R) wr wd) (hde : DotsIn wd ae ev.over) (hae : ∀ A off, ae = some ⟨A, off, none⟩ → wr.heap.size ≤ A)
 (hO : wf.ownsRow W.heap.size 64 19 v' (ls.length + 1) (aS ls ++ ag ev ae ce)) (hg : (wd.alloc (Obj.cells (ag ev ae ce).toArray 64)).grownBy wf v.ownBlock)
 (hat : v'.ownBlock = v.ownBlock ∨ v'.ownBlock = some (wd.alloc (Obj.cells (ag ev ae ce).toArray 64)).heap.size) :
 QInv W wf R r2 (ls ++ [(ev, ae, ce)]) v' := by
 obtain ⟨iRd, J5, Na, iNe, iFr⟩ := h
 have hzw := iFr.size
 have hzd : wr.heap.size ≤ wd.heap.size := hF.size
 have KX := uF J5 hF (by omega)
 have hal : Below wd.heap.size wd (wd.alloc (Obj.cells (ag ev ae ce).toArray 64)) := (Below.refl _ _).alloc (Nat.le_refl _) _
 have Nl : ∀ x ∈ ls ++ [(ev, ae, ce)], DotsIn wd x.2.1 x.1.over ∧ ∀ A off, x.2.1 = some ⟨A, off, none⟩ → x.1.over ≠ [] → W.heap.size ≤ A ∧ v.ownBlock ≠ some A := by
  intro x hx
  rcases List.mem_append.1 hx with hx | hx
  ·refine ⟨(Na x hx).keep (fun A off hA hne => hF.block A ?_ ?_), iNe x hx⟩
   ·have h1 := Na x hx; rw [hA] at h1; exact (show A < wr.heap.size from jq h1 hne)
   ·have := (iNe x hx A off hA hne).1; simp only [isR]; omega
  ·simp only [List.mem_singleton] at hx
   subst hx
   refine ⟨hde, fun A off hA hne => ⟨by have : wr.heap.size ≤ A := hae A off hA; omega, fun e => ?_⟩⟩
   have h1 : wr.heap.size ≤ A := hae A off hA
   have h2 := (J5.lt A e).2
   omega
 refine ⟨?_, ?_, fun x hx => ?_, fun x hx A off hA hne => ?_, ?_⟩
 ·exact (hRd.below hal).grown hg (fun g hgg => by have := (KX.lt g hgg).1; omega)
 ·rw [jg, List.length_append]
  exact hO
 ·obtain ⟨h1, h2⟩ := Nl x hx
  refine (h1.kept hal).keep (fun A off hA hne => ?_)
  obtain ⟨h3, h4⟩ := h2 A off hA hne
  refine hg.block A ?_ (fun e => h4 e.symm)
  rw [hA] at h1
  have := jq h1 hne
  have := hal.size
  omega
 ·obtain ⟨h1, h2⟩ := Nl x hx
  obtain ⟨h3, h4⟩ := h2 A off hA hne
  refine ⟨h3, ?_⟩
  rcases hat with hat | hat
  ·rw [hat]; exact h4
  ·rw [hat]
   intro e
   injection e with e
   rw [hA] at h1
   have := jq h1 hne
   have := hal.size
   omega
 ·exact ((iFr.again hF).alloc (Obj.cells (ag ev ae ce).toArray 64)).grown2 hg (fun k hk => (KX.lt k hk).1)
/-- events that lie in blocks from lo on -/
structure EvsNew (w : World) (lo : Nat) (a : Option Addr) (ls : List bJ) : Prop where
 evs : EvsIn w a ls
 row : ∀ A off, a = some ⟨A, off, none⟩ → ls ≠ [] → lo ≤ A
 over : ∀ x ∈ ls, ∀ A off, x.2.1 = some ⟨A, off, none⟩ → x.1.over ≠ [] → lo ≤ A
theorem EvsNew.fr {w w' : World} {lo R : Nat} {a : Option Addr} {ls : List bJ} (h : EvsNew w lo a ls) (hf : Fr (isR R) w w') (hR : R < lo) : EvsNew w' lo a ls := by
 refine ⟨⟨?_, fun x hx => ?_⟩, h.row, h.over⟩
 ·rcases h.evs.rows with h0 | ⟨A, off, hA, hr⟩
  ·exact Or.inl h0
  ·by_cases hne : ls = []
   ·exact Or.inl hne
   ·refine Or.inr ⟨A, off, hA, fun i hi j v hv => ?_⟩
    have h1 := h.row A off hA hne
    have h2 := World.block_lt_of_cell? w _ (hr 0 (List.length_pos_iff.2 hne) 0 _ rfl)
    exact (World.cell?_of_block (hf.block A h2 (by simp only [isR]; omega))).trans (hr i hi j v hv)
 ·refine (h.evs.dots x hx).keep (fun A off hA hne => ?_)
  have h1 := h.over x hx A off hA hne
  have h2 := h.evs.dots x hx
  rw [hA] at h2
  exact hf.block A (jq h2 hne) (by simp only [isR]; omega)
theorem EvsNew.of {W wr : World} {R : Nat} {rr : Rd} {ls : List bJ} {v : Value} (h : QInv W wr R rr ls v) : ∃ a c, v = .slice a ls.length c ∧ EvsNew wr W.heap.size a ls := by
 obtain ⟨ax, cx, hvx, hin⟩ := jV h.own h.dots
 refine ⟨ax, cx, hvx, hin, fun A off h1 h2 => ?_, fun x hx A off h1 h2 => (h.ne x hx A off h1 h2).1⟩
 rcases h.own.2 with ⟨_, hn⟩ | ⟨g, cap, cur, hv, hg, _⟩
 ·exact absurd (List.length_eq_zero_iff.1 hn) h2
 ·rw [hvx] at hv
  simp only [Value.slice.injEq] at hv
  rw [h1] at hv
  have : A = g := by have h5 := hv.1; simp at h5; exact h5.1
  omega
/-- dots that lie in blocks from lo on -/
def DotsNew (w : World) (lo : Nat) (a : Option Addr) (l : List Dot) : Prop := DotsIn w a l ∧ ∀ A off, a = some ⟨A, off, none⟩ → lo ≤ A
theorem DotsNew.fr {w w' : World} {lo R : Nat} {a : Option Addr} {l : List Dot} (h : DotsNew w lo a l) (hf : Fr (isR R) w w') (hR : R < lo) : DotsNew w' lo a l :=
 ⟨h.1.keep (fun A off hA hne => hf.block A (by have := h.1; rw [hA] at this; exact jq this hne) (by simp only [isR]; have := h.2 A off hA; omega)), h.2⟩
/-- behind Load -/
def kH (r : Rd) (c : List Dot) (K : List Ev) (d : List Dot) (w : World) (x : Ending) (w' : World) : Prop :=
 if gW r = 0 then (if pM c K d = 0 then ∃ m b s, x = .returned (.tuple #[.pointer (some ⟨m, 0, none⟩), .int .i64 0]) ∧ MpIn w' m b s ∧ MInv s ∧ Rel s ⟨c, K, d⟩ ∧ s.dead.length ≤ d.length ∧ (∀ x ∈ s.K, x.1 ∈ K) ∧ Below w.heap.size w w' else x = .returned (.tuple #[.pointer none, .int .i64 (pM c K d)]) ∧ Below w.heap.size w w')
 else x = .returned (.tuple #[.pointer none, .int .i64 (gW r)]) ∧ Below w.heap.size w w'
theorem Jl (a : Option Addr) (cap : Nat) (l : Bytes) (w : World) (hl : l.length ≤ 1048576) (hcap : l.length ≤ cap) (h : BytesIn w a l) {r : Rd} {c : List Dot} {K : List Ev} {d : List Dot} (hx : kV l = (r, c, K, d)) :
 Calls Tryz.prog 6 #[.slice a l.length cap] w (kH r c K d w) := by
 obtain ⟨i0, hi, hz0, hz1, hz2⟩ := info_parts Tryz.infoEv
 obtain ⟨j0, hj, hy0, hy1, hy2⟩ := info_parts Tryz.infoDot
 have hRP := Lib.hid (BC a cap l w h hcap)
 have f1 := xM ⟨l, 0⟩
 have f1l := rD ⟨l, 0⟩
 have N1' := fun (R : Nat) (W : World) (h : RdAt W R ⟨l, 0⟩) => JB R ⟨l, 0⟩ W (by simp only; omega) h
 obtain ⟨r1, mk, h1⟩ : ∃ x y, dW ⟨l, 0⟩ = (x, y) := ⟨_, _, rfl⟩
 rw [h1] at f1 N1' f1l
 unfold EI at N1'
 simp only at f1 N1' f1l
 have f2 := bC 2048 r1
 have N2' : ∀ (R : Nat) (W : World), RdAt W R r1 → Calls Tryz.prog 20 #[.pointer (some ⟨R, 0, none⟩), .int .u64 2048] W (iG R (bu 2048 r1).1 (.int .u64 (bu 2048 r1).2) W) := fun (R : Nat) (W : World) (h : RdAt W R r1) => oz R r1 2048 W (by omega) (by omega) h
 obtain ⟨r2, N, h2⟩ : ∃ x y, bu 2048 r1 = (x, y) := ⟨_, _, rfl⟩
 rw [h2] at f2 N2'
 simp only at f2 N2'
 have f3 := xP N r2
 obtain ⟨r3, evs, h3⟩ : ∃ x y, jK N r2 = (x, y) := ⟨_, _, rfl⟩
 rw [h3] at f3
 simp only at f3
 have f4 := bC 65536 r3
 have N4' : ∀ (R : Nat) (W : World), RdAt W R r3 → Calls Tryz.prog 20 #[.pointer (some ⟨R, 0, none⟩), .int .u64 65536] W (iG R (bu 65536 r3).1 (.int .u64 (bu 65536 r3).2) W) := fun (R : Nat) (W : World) (h : RdAt W R r3) => oz R r3 65536 W (by omega) (by omega) h
 obtain ⟨r4, M, h4⟩ : ∃ x y, bu 65536 r3 = (x, y) := ⟨_, _, rfl⟩
 rw [h4] at f4 N4'
 simp only at f4 N4'
 obtain ⟨r5, ds, h5⟩ : ∃ x y, bQ M r4 = (x, y) := ⟨_, _, rfl⟩
 have hxx : kV l = (r5, mk, evs, ds) := by unfold kV; simp only [h1, h2, h3, h4, h5]
 rw [hxx] at hx
 simp only [Prod.mk.injEq] at hx
 obtain ⟨rfl, rfl, rfl, rfl⟩ := hx
 have N1 := Lib.hid N1'
 have N2 := Lib.hid N2'
 have N4 := Lib.hid N4'
 have H3 := Lib.hid h3
 have H4 := Lib.hid h4
 have H5 := Lib.hid h5
 have bN := f2.2
 have bM := f4.2
 have l2 : r2.b.length ≤ 1048576 := by omega
 have l4 : r4.b.length ≤ 1048576 := by omega
 clear N1' N2' N4' h1 h2 h3 h4 h5 f1 f2 f3 f4 hxx h
 go_enter Tryz.func6, Tryz.ntmps6
 go_upto_region 2 with (go_at_call 18; (with_reducible refine hRP.out.mono ?_); rintro x w1 ⟨rfl, hR1, hb1⟩)
 have hRl := hR1.lt
 obtain ⟨R, hRR⟩ : ∃ R, R = w.heap.size := ⟨_, rfl⟩
 rw [← hRR] at hR1 hRl ⊢
 have HRE := Lib.hid hRR
 clear hRP hRR
 go_upto_region 3 with (go_at_call 19; (with_reducible refine (N1.out _ _ hR1).mono ?_); rintro x w2 ⟨am, cm, rfl, hdm, hR2, hF2, hAm⟩)
 have hD2 : DotsNew w2 (R + 1) am mk := ⟨hdm, fun A off h => by have := hAm A off h; omega⟩
 have hz2' := hF2.size
 go_upto_region 5 with (go_at_call 20; (with_reducible refine (N2.out _ _ hR2).mono ?_); rintro x W ⟨rfl, hRW, hFW⟩)
 have hzW := hFW.size
 have hDW := hD2.fr hFW (Nat.lt_succ_self R)
 have Pm := hF2.again hFW
 have hbW : Below w.heap.size w W := hb1.trans (Pm.below (B := w.heap.size) hb1.size (fun k hk => by simp only [isR] at hk; have := HRE.out; omega))
 have KF : R < W.heap.size := by omega
 have HD := Lib.hid (And.intro hDW hbW)
 have hEr := Lib.hid (fun (rr : Rd) (W : World) (h : RdAt W R rr) => AU R rr W h)
 have hEg := Lib.hid (fun (rr : Rd) (W : World) (hl : rr.b.length ≤ 1073741824) (h : RdAt W R rr) => MI R rr W hl h)
 have hI0 : QInv W W R r2 [] (.slice none 0 0) := ⟨hRW, World.ownsRow_nil _ _ _ _, fun x hx => by simp at hx, fun x hx => by simp at hx, Fr.refl _ _⟩
 clear hdm hR2 hF2 hAm hD2 hz2' hFW hzW hDW Pm hbW hR1 hb1 N1 N2 hRl
 go_wp2
 go_loopw [6, 7] (fun u n wr => ∃ (m : Nat) (rr : Rd) (ls : List bJ), n = .int .u64 m ∧ m + ls.length ≤ 2048 ∧ rr.b.length ≤ 1048576 ∧ fC ls ∧ QInv W wr R rr ls u ∧ jK N r2 = ((jK m rr).1, aQ ls ++ (jK m rr).2)) (fun _ n _ => (intOf n).toNat)
 case atStart => exact ⟨N, r2, [], rfl, by simp; omega, l2, fun x hx => by simp at hx, hI0, by simp [aQ]⟩
 case round =>
  obtain ⟨m, rr, ls, rfl, hmn, hrl, hsm, hI, hpre⟩ := hrel
  have HP := Lib.hid hpre
  clear hpre hI0
  have hzw := hI.fr.size
  have HE := Lib.hid (fun (Y : World) (h : RdAt Y R rr) => hEr.out rr Y h)
  obtain ⟨u, hu⟩ : ∃ u, u = u6 := ⟨_, rfl⟩
  rw [← hu] at hI ⊢
  clear hu
  by_cases hgo : 0 < m ∧ rr.e = 0
  ·obtain ⟨hm0, he0⟩ := hgo
   obtain ⟨j, rfl⟩ : ∃ j, m = j + 1 := ⟨m - 1, by omega⟩
   have hq : (rr.e == 0) = true := beq_iff_eq.2 he0
   have O5 : decide (0 < j + 1) = true := by simp
   have hdi : decide ((0 : Int) < ((j : Nat) : Int) + 1) = true := decide_eq_true (by omega)
   have hwr : IntKind.u64.wrap (((j : Nat) : Int) + 1 - 1) = ((j : Nat) : Int) := by rw [show ((j : Nat) : Int) + 1 - 1 = j by omega]; exact IntWalk.u64_in _ (by omega)
   have hf := Bl rr
   have hsv := zY rr
   have HS : Hid (jK N r2 = ((jK j (rEv rr).1).1, (aQ ls ++ [(rEv rr).2]) ++ (jK j (rEv rr).1).2)) := by rw [Hid, HP.out, uC he0]; simp
   have HG0 := hEg.out rr
   obtain ⟨r2', ev, hrd⟩ : ∃ r2 d, rEv rr = (r2, d) := ⟨_, _, rfl⟩
   rw [hrd] at HG0 HS hf hsv
   simp only at HG0 HS hf hsv
   have HG := Lib.hid (fun (Y : World) (h : RdAt Y R rr) => HG0 Y (by omega) h)
   clear hrd HG0 HP he0 hm0
   have iRd := hI.rd
   have J5 := hI.own
   have HI := Lib.hid hI
   have HSM := Lib.hid hsm
   have HSV := Lib.hid hsv
   clear hI hsm hsv
   go_upto_region 7 with (go_at_call 21; (with_reducible refine (HE.out _ iRd).mono ?_); rintro x w10 ⟨rfl, rfl⟩)
   go_wp2_with (first
        | (go_at_call 22; (with_reducible refine (HG.out _ iRd).mono ?_); rintro x wd ⟨ae, ce, rfl, hde, nY, hFd, hae⟩; have KX := uF J5 hFd (by omega); have hzd := hFd.size)
        | (refine wpList_buildOne rfl 29 64 _ rfl (ag ev ae ce).toArray 19 rfl rfl (by decide) (by decide) Tryz.underlying29 (by kernel_rfl) (by kernel_rfl) ?_)
        | (at_builtin; go_loud (refine wpList_append_own_at _ rfl _ _ 29 rfl W.heap.size 64 i0 (.agg (ag ev0 none 0).toArray) 19 176 Tryz.underlying29 hi hz0 hz1 hz2 rfl (by decide) _ _ _ rfl (KX.alloc _) ⟨wd.heap.size, 0, none⟩ 1 1 (ag ev ae ce) rfl rfl (qG wd ev ae ce _) (dO _ _ _) (by unfold maxLen; omega) (by omega) (by simp; omega) ?_)))
   intro v' wf gy hgrow _ hat
   have hQ := HI.out.next KF nY hFd hde hae gy hgrow (hat.imp id fun h => h.trans (by simp))
   have hs2 : fC (ls ++ [(ev, ae, ce)]) := by
        intro x hx
        rcases List.mem_append.1 hx with hx | hx
        ·exact HSM.out x hx
        ·simp only [List.mem_singleton] at hx; subst hx; exact HSV.out
   have hev2 : aQ (ls ++ [(ev, ae, ce)]) = aQ ls ++ [ev] := by simp [aQ]
   have HZ := Lib.hid (And.intro hQ (And.intro hs2 hev2))
   clear hQ hs2 hev2 gy hgrow hat KX J5 iRd nY hFd hde hae
   go_wp2
   go_roundw
   case rel => exact ⟨j, r2', ls ++ [(ev, ae, ce)], by go_num, by simp; omega, by omega, HZ.out.2.1, HZ.out.1, by rw [HZ.out.2.2]; exact HS.out⟩
   case measure => simp [intOf]
  ·have hend : jK m rr = (rr, []) := by
        by_cases h0 : m = 0
        ·subst h0; rfl
        ·exact xQ (fun e => hgo ⟨by omega, e⟩)
   have hq : r3 = rr ∧ evs = aQ ls := by
        have h1 := H3.out
        rw [HP.out, hend] at h1
        simp only [List.append_nil, Prod.mk.injEq] at h1
        exact ⟨h1.1.symm, h1.2.symm⟩
   obtain ⟨rfl, hevs⟩ := hq
   have KI := Lib.hid (fun (rr : Rd) (W : World) (h : RdAt W R rr) (hl : rr.b.length ≤ 1073741824) => PN R rr W h hl)
   obtain ⟨ax, cx, hvx, hnE⟩ := EvsNew.of hI
   have hrd := hI.rd
   have hFr := hI.fr
   have hDm := HD.out.1.fr hFr (Nat.lt_succ_self R)
   have hbr := HD.out.2.trans (hFr.below (B := w.heap.size) HD.out.2.size (fun k hk => by simp only [isR] at hk; have := HRE.out; omega))
   have hDg := Lib.hid (fun (rr : Rd) (W : World) (hl : rr.b.length ≤ 1073741824) (h : RdAt W R rr) => ui R rr W hl h)
   clear hend HP H3
   subst hvx
   clear hI hEg hFr
   by_cases hcase : 0 < m
   ·have he : r3.e ≠ 0 := fun e => hgo ⟨hcase, e⟩
    have q1 : (r3.e == 0) = false := beq_eq_false_iff_ne.2 he
    have d1 := decide_eq_true hcase
    have d2 : decide ((0 : Int) < (m : Int)) = true := decide_eq_true (by omega)
    clear hgo hcase he
    go_upto_region 10 with (first
     | (go_at_call 21; (with_reducible refine (HE.out _ hrd).mono ?_); rintro x w11 ⟨rfl, rfl⟩)
     | (go_at_call 20; (with_reducible refine (N4.out _ _ hrd).mono ?_); rintro x W5 ⟨rfl, hR4, hF4⟩))
    clear d1 d2
    have Kv := hnE.fr hF4 KF
    have DY := hDm.fr hF4 (Nat.lt_succ_self R)
    have hb5 := hbr.trans (hF4.below (B := w.heap.size) hbr.size (fun k hk => by simp only [isR] at hk; have := HRE.out; omega))
    have HD5 := Lib.hid (And.intro Kv (And.intro DY hb5))
    have Qj : R < W5.heap.size := hR4.lt
    clear Kv DY hb5 hnE hDm hbr hF4 hrd
    go_wp2
    go_loopw [8, 9] (fun u n wr => ∃ (m2 : Nat) (rr2 : Rd) (dl : List Dot), n = .int .u64 m2 ∧ m2 + dl.length ≤ 65536 ∧ rr2.b.length ≤ 1048576 ∧ wr.ownsRow W5.heap.size 56 3 u dl.length (aW dl) ∧ RdAt wr R rr2 ∧ Fr (isR R) W5 wr ∧ bQ M r4 = ((bQ m2 rr2).1, dl ++ (bQ m2 rr2).2)) (fun _ n _ => (intOf n).toNat)
    case atStart => exact ⟨M, r4, [], rfl, by simp; omega, l4, World.ownsRow_nil _ _ _ _, hR4, Fr.refl _ _, by simp⟩
    case round =>
     obtain ⟨m2, rr2, dl, rfl, LV, hrl2, hown2, nY, uN, DI⟩ := hrel
     have HP2 := Lib.hid DI
     clear DI hR4
     have PO := uN.size
     have HE2 := Lib.hid (fun (Y : World) (h : RdAt Y R rr2) => hEr.out rr2 Y h)
     obtain ⟨u2, hu2⟩ : ∃ u2, u2 = u8 := ⟨_, rfl⟩
     rw [← hu2] at hown2 ⊢
     clear hu2
     by_cases hgo2 : 0 < m2 ∧ rr2.e = 0
     ·obtain ⟨hm0, he0⟩ := hgo2
      obtain ⟨j, rfl⟩ : ∃ j, m2 = j + 1 := ⟨m2 - 1, by omega⟩
      have hq : (rr2.e == 0) = true := beq_iff_eq.2 he0
      have O5 : decide (0 < j + 1) = true := by simp
      have hdi : decide ((0 : Int) < ((j : Nat) : Int) + 1) = true := decide_eq_true (by omega)
      have hwr : IntKind.u64.wrap (((j : Nat) : Int) + 1 - 1) = ((j : Nat) : Int) := by rw [show ((j : Nat) : Int) + 1 - 1 = j by omega]; exact IntWalk.u64_in _ (by omega)
      have hf := iZ rr2
      have HS : Hid (bQ M r4 = ((bQ j (dS rr2).1).1, (dl ++ [(dS rr2).2]) ++ (bQ j (dS rr2).1).2)) := by rw [Hid, HP2.out, jL he0]; simp
      have HG0 := hDg.out rr2
      obtain ⟨r6, d6, J7⟩ : ∃ r2 d, dS rr2 = (r2, d) := ⟨_, _, rfl⟩
      rw [J7] at HG0 HS hf
      simp only at HG0 HS hf
      have HG := Lib.hid (fun (Y : World) (h : RdAt Y R rr2) => HG0 Y (by omega) h)
      clear J7 HG0 HP2 he0 hm0
      go_upto_region 12 with (go_at_call 21; (with_reducible refine (HE2.out _ nY).mono ?_); rintro x w20 ⟨rfl, rfl⟩)
      go_wp2_with (first
       | (go_at_call 23; (with_reducible refine (HG.out _ nY).mono ?_); rintro x wd ⟨rfl, KE, hF6⟩; have hown6 := uF hown2 hF6 (by omega); have hzd := hF6.size)
       | (at_builtin; go_loud (refine wpList_append_own _ rfl _ _ 30 rfl W5.heap.size 56 j0 (.agg #[.int .i64 0, .int .i64 0, .int .i64 0]) 3 24 Tryz.underlying30 hj hy0 hy1 hy2 rfl (by decide) _ _ _ rfl (hown6.alloc _) ⟨wd.heap.size, 0, none⟩ 1 1 [.int .i64 d6.a.dev, .int .i64 d6.a.inc, .int .i64 d6.seq] rfl rfl (FD wd d6 _) (by simp [Value.oneCell']) (by unfold maxLen; omega) (by omega) (by simp; omega) ?_)))
      intro v' w25 rP FX _
      rw [kT] at rP
      have KG := (KE.below ((Below.refl _ _).alloc (Nat.le_refl _) _)).grown FX (fun g hg => by have := (hown6.lt g hg).1; omega)
      have KH := ((uN.again hF6).alloc (Obj.cells #[.int .i64 d6.a.dev, .int .i64 d6.a.inc, .int .i64 d6.seq] 56)).grown FX (fun g hg => (hown6.lt g hg).1)
      have HZ := Lib.hid (And.intro rP (And.intro KG KH))
      clear rP KG KH FX hown6 hF6 KE hown2 nY uN
      go_wp2
      go_roundw
      case rel => exact ⟨j, r6, dl ++ [d6], by go_num, by simp; omega, by omega, by rw [List.length_append]; exact HZ.out.1, HZ.out.2.1, HZ.out.2.2, HS.out⟩
      case measure => simp [intOf]
     ·have DN : bQ m2 rr2 = (rr2, []) := by
       by_cases h0 : m2 = 0
       ·subst h0; rfl
       ·exact jS (fun e => hgo2 ⟨by omega, e⟩)
      have hq2 : rr2 = r5 ∧ dl = ds := by
       have h1 := H5.out
       rw [HP2.out, DN] at h1
       simp only [List.append_nil, Prod.mk.injEq] at h1
       exact h1
      obtain ⟨rfl, rfl⟩ := hq2
      obtain ⟨ad, cd, hvd, hdd, _⟩ := mG hown2
      have Ku := HD5.out.1.fr uN KF
      have zD := HD5.out.2.1.fr uN (Nat.lt_succ_self R)
      have hb6 := HD5.out.2.2.trans (uN.below (B := w.heap.size) HD5.out.2.2.size (fun k hk => by simp only [isR] at hk; have := HRE.out; omega))
      have HEn := Lib.hid (fun (Y : World) (h : RdAt Y R rr2) => KI.out rr2 Y h (by omega))
      subst hvd
      clear hown2 DN HP2
      by_cases hc2 : 0 < m2
      ·have he2 : rr2.e ≠ 0 := fun e => hgo2 ⟨hc2, e⟩
       have q1 : (rr2.e == 0) = false := beq_eq_false_iff_ne.2 he2
       have d1 := decide_eq_true hc2
       have d2 : decide ((0 : Int) < (m2 : Int)) = true := decide_eq_true (by omega)
       have hre : gW rr2 ≠ 0 := by unfold gW; rw [if_neg he2]; exact he2
       have q2 : (gW rr2 != 0) = true := by rw [bne_iff_ne]; exact hre
       have HR : Hid (∀ x w', x = .returned (.tuple #[.pointer none, .int .i64 (gW rr2)]) → Below w.heap.size w w' → kH rr2 mk evs dl w x w') := fun x w' h1 h2 => by unfold kH; rw [if_neg hre]; exact ⟨h1, h2⟩
       clear hgo2 hre he2 hc2
       generalize gW rr2 = er at *
       go_wp2_with (first
            | (go_at_call 21; (with_reducible refine (HE2.out _ nY).mono ?_); rintro x w21 ⟨rfl, rfl⟩)
            | (go_at_call 24; (with_reducible refine (HEn.out _ nY).mono ?_); rintro x w22 ⟨rfl, rfl⟩))
       go_ret2
       exact HR.out _ _ rfl hb6
      ·have d1 := decide_eq_false hc2
       have d2 : decide ((0 : Int) < (m2 : Int)) = false := decide_eq_false (by omega)
       by_cases hre : gW rr2 = 0
       ·have q2 : (gW rr2 != 0) = false := by rw [bne_eq_false_iff_eq]; exact hre
        rw [hre] at HEn q2
        have hly : ls.length ≤ 2048 := by omega
        have hdy : dl.length ≤ 65536 := by omega
        by_cases hld : cu mk ls dl = 0
        ·have HLo := Lib.hid (fun (Y : World) (h1 : DotsIn Y am mk) (h2 : EvsIn Y ax ls) (h3 : DotsIn Y ad dl) => show Calls Tryz.prog 25 #[.slice am mk.length cm, .slice ax ls.length cx, .slice ad dl.length cd] Y (Le ⟨am, mk, cm, ax, ls, cx, ad, dl, cd⟩ Y) from yl ⟨am, mk, cm, ax, ls, cx, ad, dl, cd⟩ Y hsm h1 h2 h3 hld)
         have HR : Hid (∀ x w', (∃ m b s, x = .returned (.tuple #[.pointer (some ⟨m, 0, none⟩), .int .i64 0]) ∧ MpIn w' m b s ∧ MInv s ∧ Rel s ⟨mk, evs, dl⟩ ∧ s.dead.length ≤ dl.length ∧ (∀ x ∈ s.K, x.1 ∈ evs) ∧ Below w.heap.size w w') → kH rr2 mk evs dl w x w') := fun x w' h1 => by unfold kH; rw [if_pos hre, if_pos (by rw [hevs, l9]; exact hld)]; exact h1
         clear hgo2 hre hc2 hld
         go_wp2_with (first
          | (go_at_call 24; (with_reducible refine (HEn.out _ nY).mono ?_); rintro x w22 ⟨rfl, rfl⟩)
          | (go_at_call 25; have h9 := HLo.out _ zD.1 Ku.evs hdd; (with_reducible refine h9.mono ?_); rintro x w23 ⟨m9, b9, s9, rfl, hm9, hi9, hr9, hd9, _, hk9, hb9⟩))
         go_ret2
         exact HR.out _ _ ⟨m9, b9, s9, rfl, hm9, hi9, by rw [hevs]; exact hr9, hd9, fun x hx => by rw [hevs]; exact hk9 x hx, hb6.trans (hb9.mono hb6.size)⟩
        ·have HLo := Lib.hid (fun (Y : World) (h1 : DotsIn Y am mk) (h2 : EvsIn Y ax ls) (h3 : DotsIn Y ad dl) => show Calls Tryz.prog 25 #[.slice am mk.length cm, .slice ax ls.length cx, .slice ad dl.length cd] Y (fun x w' => x = .returned (.tuple #[.pointer none, .int .i64 (cu mk ls dl)]) ∧ Below Y.heap.size Y w') from Ad ⟨am, mk, cm, ax, ls, cx, ad, dl, cd⟩ Y (by simp only; omega) (by simp only; omega) (by simp only; omega) hsm h1 h2 h3 hld)
         have HR : Hid (∀ x w', x = .returned (.tuple #[.pointer none, .int .i64 (cu mk ls dl)]) → Below w.heap.size w w' → kH rr2 mk evs dl w x w') := fun x w' h1 h2 => by unfold kH; rw [if_pos hre, if_neg (by rw [hevs, l9]; exact hld), hevs, l9]; exact ⟨h1, h2⟩
         clear hgo2 hre hc2 hld
         generalize cu mk ls dl = er at *
         go_wp2_with (first
          | (go_at_call 24; (with_reducible refine (HEn.out _ nY).mono ?_); rintro x w22 ⟨rfl, rfl⟩)
          | (go_at_call 25; have h9 := HLo.out _ zD.1 Ku.evs hdd; (with_reducible refine h9.mono ?_); rintro x w23 ⟨rfl, hb9⟩))
         go_ret2
         exact HR.out _ _ rfl (hb6.trans (hb9.mono hb6.size))
       ·have q2 : (gW rr2 != 0) = true := by rw [bne_iff_ne]; exact hre
        have HR : Hid (∀ x w', x = .returned (.tuple #[.pointer none, .int .i64 (gW rr2)]) → Below w.heap.size w w' → kH rr2 mk evs dl w x w') := fun x w' h1 h2 => by unfold kH; rw [if_neg hre]; exact ⟨h1, h2⟩
        clear hgo2 hre hc2
        generalize gW rr2 = er at *
        go_wp2_with (go_at_call 24; (with_reducible refine (HEn.out _ nY).mono ?_); rintro x w22 ⟨rfl, rfl⟩)
        go_ret2
        exact HR.out _ _ rfl hb6
   ·have d1 := decide_eq_false hcase
    have d2 : decide ((0 : Int) < (m : Int)) = false := decide_eq_false (by omega)
    clear hgo hcase
    go_upto_region 10 with (first
     | (go_at_call 21; (with_reducible refine (HE.out _ hrd).mono ?_); rintro x w11 ⟨rfl, rfl⟩)
     | (go_at_call 20; (with_reducible refine (N4.out _ _ hrd).mono ?_); rintro x W5 ⟨rfl, hR4, hF4⟩))
    clear d1 d2
    have Kv := hnE.fr hF4 KF
    have DY := hDm.fr hF4 (Nat.lt_succ_self R)
    have hb5 := hbr.trans (hF4.below (B := w.heap.size) hbr.size (fun k hk => by simp only [isR] at hk; have := HRE.out; omega))
    have HD5 := Lib.hid (And.intro Kv (And.intro DY hb5))
    have Qj : R < W5.heap.size := hR4.lt
    clear Kv DY hb5 hnE hDm hbr hF4 hrd
    go_wp2
    go_loopw [8, 9] (fun u n wr => ∃ (m2 : Nat) (rr2 : Rd) (dl : List Dot), n = .int .u64 m2 ∧ m2 + dl.length ≤ 65536 ∧ rr2.b.length ≤ 1048576 ∧ wr.ownsRow W5.heap.size 56 3 u dl.length (aW dl) ∧ RdAt wr R rr2 ∧ Fr (isR R) W5 wr ∧ bQ M r4 = ((bQ m2 rr2).1, dl ++ (bQ m2 rr2).2)) (fun _ n _ => (intOf n).toNat)
    case atStart => exact ⟨M, r4, [], rfl, by simp; omega, l4, World.ownsRow_nil _ _ _ _, hR4, Fr.refl _ _, by simp⟩
    case round =>
     obtain ⟨m2, rr2, dl, rfl, LV, hrl2, hown2, nY, uN, DI⟩ := hrel
     have HP2 := Lib.hid DI
     clear DI hR4
     have PO := uN.size
     have HE2 := Lib.hid (fun (Y : World) (h : RdAt Y R rr2) => hEr.out rr2 Y h)
     obtain ⟨u2, hu2⟩ : ∃ u2, u2 = u8 := ⟨_, rfl⟩
     rw [← hu2] at hown2 ⊢
     clear hu2
     by_cases hgo2 : 0 < m2 ∧ rr2.e = 0
     ·obtain ⟨hm0, he0⟩ := hgo2
      obtain ⟨j, rfl⟩ : ∃ j, m2 = j + 1 := ⟨m2 - 1, by omega⟩
      have hq : (rr2.e == 0) = true := beq_iff_eq.2 he0
      have O5 : decide (0 < j + 1) = true := by simp
      have hdi : decide ((0 : Int) < ((j : Nat) : Int) + 1) = true := decide_eq_true (by omega)
      have hwr : IntKind.u64.wrap (((j : Nat) : Int) + 1 - 1) = ((j : Nat) : Int) := by rw [show ((j : Nat) : Int) + 1 - 1 = j by omega]; exact IntWalk.u64_in _ (by omega)
      have hf := iZ rr2
      have HS : Hid (bQ M r4 = ((bQ j (dS rr2).1).1, (dl ++ [(dS rr2).2]) ++ (bQ j (dS rr2).1).2)) := by rw [Hid, HP2.out, jL he0]; simp
      have HG0 := hDg.out rr2
      obtain ⟨r6, d6, J7⟩ : ∃ r2 d, dS rr2 = (r2, d) := ⟨_, _, rfl⟩
      rw [J7] at HG0 HS hf
      simp only at HG0 HS hf
      have HG := Lib.hid (fun (Y : World) (h : RdAt Y R rr2) => HG0 Y (by omega) h)
      clear J7 HG0 HP2 he0 hm0
      go_upto_region 12 with (go_at_call 21; (with_reducible refine (HE2.out _ nY).mono ?_); rintro x w20 ⟨rfl, rfl⟩)
      go_wp2_with (first
       | (go_at_call 23; (with_reducible refine (HG.out _ nY).mono ?_); rintro x wd ⟨rfl, KE, hF6⟩; have hown6 := uF hown2 hF6 (by omega); have hzd := hF6.size)
       | (at_builtin; go_loud (refine wpList_append_own _ rfl _ _ 30 rfl W5.heap.size 56 j0 (.agg #[.int .i64 0, .int .i64 0, .int .i64 0]) 3 24 Tryz.underlying30 hj hy0 hy1 hy2 rfl (by decide) _ _ _ rfl (hown6.alloc _) ⟨wd.heap.size, 0, none⟩ 1 1 [.int .i64 d6.a.dev, .int .i64 d6.a.inc, .int .i64 d6.seq] rfl rfl (FD wd d6 _) (by simp [Value.oneCell']) (by unfold maxLen; omega) (by omega) (by simp; omega) ?_)))
      intro v' w25 rP FX _
      rw [kT] at rP
      have KG := (KE.below ((Below.refl _ _).alloc (Nat.le_refl _) _)).grown FX (fun g hg => by have := (hown6.lt g hg).1; omega)
      have KH := ((uN.again hF6).alloc (Obj.cells #[.int .i64 d6.a.dev, .int .i64 d6.a.inc, .int .i64 d6.seq] 56)).grown FX (fun g hg => (hown6.lt g hg).1)
      have HZ := Lib.hid (And.intro rP (And.intro KG KH))
      clear rP KG KH FX hown6 hF6 KE hown2 nY uN
      go_wp2
      go_roundw
      case rel => exact ⟨j, r6, dl ++ [d6], by go_num, by simp; omega, by omega, by rw [List.length_append]; exact HZ.out.1, HZ.out.2.1, HZ.out.2.2, HS.out⟩
      case measure => simp [intOf]
     ·have DN : bQ m2 rr2 = (rr2, []) := by
       by_cases h0 : m2 = 0
       ·subst h0; rfl
       ·exact jS (fun e => hgo2 ⟨by omega, e⟩)
      have hq2 : rr2 = r5 ∧ dl = ds := by
       have h1 := H5.out
       rw [HP2.out, DN] at h1
       simp only [List.append_nil, Prod.mk.injEq] at h1
       exact h1
      obtain ⟨rfl, rfl⟩ := hq2
      obtain ⟨ad, cd, hvd, hdd, _⟩ := mG hown2
      have Ku := HD5.out.1.fr uN KF
      have zD := HD5.out.2.1.fr uN (Nat.lt_succ_self R)
      have hb6 := HD5.out.2.2.trans (uN.below (B := w.heap.size) HD5.out.2.2.size (fun k hk => by simp only [isR] at hk; have := HRE.out; omega))
      have HEn := Lib.hid (fun (Y : World) (h : RdAt Y R rr2) => KI.out rr2 Y h (by omega))
      subst hvd
      clear hown2 DN HP2
      by_cases hc2 : 0 < m2
      ·have he2 : rr2.e ≠ 0 := fun e => hgo2 ⟨hc2, e⟩
       have q1 : (rr2.e == 0) = false := beq_eq_false_iff_ne.2 he2
       have d1 := decide_eq_true hc2
       have d2 : decide ((0 : Int) < (m2 : Int)) = true := decide_eq_true (by omega)
       have hre : gW rr2 ≠ 0 := by unfold gW; rw [if_neg he2]; exact he2
       have q2 : (gW rr2 != 0) = true := by rw [bne_iff_ne]; exact hre
       have HR : Hid (∀ x w', x = .returned (.tuple #[.pointer none, .int .i64 (gW rr2)]) → Below w.heap.size w w' → kH rr2 mk evs dl w x w') := fun x w' h1 h2 => by unfold kH; rw [if_neg hre]; exact ⟨h1, h2⟩
       clear hgo2 hre he2 hc2
       generalize gW rr2 = er at *
       go_wp2_with (first
            | (go_at_call 21; (with_reducible refine (HE2.out _ nY).mono ?_); rintro x w21 ⟨rfl, rfl⟩)
            | (go_at_call 24; (with_reducible refine (HEn.out _ nY).mono ?_); rintro x w22 ⟨rfl, rfl⟩))
       go_ret2
       exact HR.out _ _ rfl hb6
      ·have d1 := decide_eq_false hc2
       have d2 : decide ((0 : Int) < (m2 : Int)) = false := decide_eq_false (by omega)
       by_cases hre : gW rr2 = 0
       ·have q2 : (gW rr2 != 0) = false := by rw [bne_eq_false_iff_eq]; exact hre
        rw [hre] at HEn q2
        have hly : ls.length ≤ 2048 := by omega
        have hdy : dl.length ≤ 65536 := by omega
        by_cases hld : cu mk ls dl = 0
        ·have HLo := Lib.hid (fun (Y : World) (h1 : DotsIn Y am mk) (h2 : EvsIn Y ax ls) (h3 : DotsIn Y ad dl) => show Calls Tryz.prog 25 #[.slice am mk.length cm, .slice ax ls.length cx, .slice ad dl.length cd] Y (Le ⟨am, mk, cm, ax, ls, cx, ad, dl, cd⟩ Y) from yl ⟨am, mk, cm, ax, ls, cx, ad, dl, cd⟩ Y hsm h1 h2 h3 hld)
         have HR : Hid (∀ x w', (∃ m b s, x = .returned (.tuple #[.pointer (some ⟨m, 0, none⟩), .int .i64 0]) ∧ MpIn w' m b s ∧ MInv s ∧ Rel s ⟨mk, evs, dl⟩ ∧ s.dead.length ≤ dl.length ∧ (∀ x ∈ s.K, x.1 ∈ evs) ∧ Below w.heap.size w w') → kH rr2 mk evs dl w x w') := fun x w' h1 => by unfold kH; rw [if_pos hre, if_pos (by rw [hevs, l9]; exact hld)]; exact h1
         clear hgo2 hre hc2 hld
         go_wp2_with (first
          | (go_at_call 24; (with_reducible refine (HEn.out _ nY).mono ?_); rintro x w22 ⟨rfl, rfl⟩)
          | (go_at_call 25; have h9 := HLo.out _ zD.1 Ku.evs hdd; (with_reducible refine h9.mono ?_); rintro x w23 ⟨m9, b9, s9, rfl, hm9, hi9, hr9, hd9, _, hk9, hb9⟩))
         go_ret2
         exact HR.out _ _ ⟨m9, b9, s9, rfl, hm9, hi9, by rw [hevs]; exact hr9, hd9, fun x hx => by rw [hevs]; exact hk9 x hx, hb6.trans (hb9.mono hb6.size)⟩
        ·have HLo := Lib.hid (fun (Y : World) (h1 : DotsIn Y am mk) (h2 : EvsIn Y ax ls) (h3 : DotsIn Y ad dl) => show Calls Tryz.prog 25 #[.slice am mk.length cm, .slice ax ls.length cx, .slice ad dl.length cd] Y (fun x w' => x = .returned (.tuple #[.pointer none, .int .i64 (cu mk ls dl)]) ∧ Below Y.heap.size Y w') from Ad ⟨am, mk, cm, ax, ls, cx, ad, dl, cd⟩ Y (by simp only; omega) (by simp only; omega) (by simp only; omega) hsm h1 h2 h3 hld)
         have HR : Hid (∀ x w', x = .returned (.tuple #[.pointer none, .int .i64 (cu mk ls dl)]) → Below w.heap.size w w' → kH rr2 mk evs dl w x w') := fun x w' h1 h2 => by unfold kH; rw [if_pos hre, if_neg (by rw [hevs, l9]; exact hld), hevs, l9]; exact ⟨h1, h2⟩
         clear hgo2 hre hc2 hld
         generalize cu mk ls dl = er at *
         go_wp2_with (first
          | (go_at_call 24; (with_reducible refine (HEn.out _ nY).mono ?_); rintro x w22 ⟨rfl, rfl⟩)
          | (go_at_call 25; have h9 := HLo.out _ zD.1 Ku.evs hdd; (with_reducible refine h9.mono ?_); rintro x w23 ⟨rfl, hb9⟩))
         go_ret2
         exact HR.out _ _ rfl (hb6.trans (hb9.mono hb6.size))
       ·have q2 : (gW rr2 != 0) = true := by rw [bne_iff_ne]; exact hre
        have HR : Hid (∀ x w', x = .returned (.tuple #[.pointer none, .int .i64 (gW rr2)]) → Below w.heap.size w w' → kH rr2 mk evs dl w x w') := fun x w' h1 h2 => by unfold kH; rw [if_neg hre]; exact ⟨h1, h2⟩
        clear hgo2 hre hc2
        generalize gW rr2 = er at *
        go_wp2_with (go_at_call 24; (with_reducible refine (HEn.out _ nY).mono ?_); rintro x w22 ⟨rfl, rfl⟩)
        go_ret2
        exact HR.out _ _ rfl hb6
end Go.Proofs.YtdlmbflhbecggaaGreat
