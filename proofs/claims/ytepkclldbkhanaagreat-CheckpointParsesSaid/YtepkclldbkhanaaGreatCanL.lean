/- canon: Load. Conditions: at most 2^30 bytes. -/
import Derived.Test.YtepkclldbkhanaaGreatVGet
import Derived.Test.YtepkclldbkhanaaGreatLdM
set_option linter.unusedSimpArgs false
set_option linter.unusedVariables false
set_option linter.unnecessarySimpa false
set_option maxHeartbeats 16000000
set_option maxRecDepth 100000
open Go.Proofs.Tryz
namespace Go.Proofs.YtepkclldbkhanaaGreat
open Go.RowKit
/-- the parts of a map's full bytes, read -/
def jL (l:Bytes):Rd×List Dot×List Ev×List Dot :=
 let m:=fC ⟨l,0⟩
 let n:=bg 2048 m.1
 let E:=kz n.2 n.1
 let k:=bg 65536 E.1
 let D:=bT k.2 k.1
 (D.1,m.2,E.2,D.2)
def gu (c:List Dot) (K:List Ev) (d:List Dot):Int:=dA c (K.map fun e=>(e,none,0)) d
theorem yC (ctx:List Dot):∀ (K:List bH) (p:Option Dot),bz ctx p ((aU K).map fun e=>(e,none,0))=bz ctx p K
 | [],p=>by cases p <;> rfl
 | x :: K,p=>by
   have ih:=yC ctx K;show bz ctx p ((x.1,none,0) :: (aU K).map fun e=>(e,none,0))=bz ctx p (x :: K);unfold bz;rw [ih]
theorem vH (c:List Dot) (K:List bH) (d:List Dot):gu c (aU K) d=dA c K d:=by
 unfold gu dA;rw [yC,List.length_map,bi]
/-- events that were made in the loop: w0 the world ahead of it -/
structure QInv (W wr:World) (R:Nat) (rr:Rd) (ls:List bH) (v:Value):Prop where
 rd:RdAt wr R rr
 own:wr.ownsRow W.heap.size 127 19 v ls.length (aV ls)
 dots:∀ x∈ls,DotsIn wr x.2.1 x.1.over
 ne:∀ x∈ls,∀ A off,x.2.1=some ⟨A,off,none⟩→x.1.over≠[]→W.heap.size≤A∧v.ownBlock≠some A
 fr:Fr (isR R) W wr
theorem QInv.next {W wr wd wf:World} {R:Nat} {rr r2:Rd} {ls:List bH} {v v':Value} {ev:Ev} {ae:Option Addr} {ce:Nat} (h:QInv W wr R rr ls v) (hR:R<W.heap.size)
 (hRd:RdAt wd R r2) (hF:Fr (isR R) wr wd) (hde:DotsIn wd ae ev.over) (hae:∀ A off,ae=some ⟨A,off,none⟩→wr.heap.size≤A)
 (hO:wf.ownsRow W.heap.size 127 19 v' (ls.length+1) (aV ls++ag ev ae ce)) (hg:(wd.alloc (Obj.cells (ag ev ae ce).toArray 127)).grownBy wf v.ownBlock)
 (hat:v'.ownBlock=v.ownBlock∨v'.ownBlock=some (wd.alloc (Obj.cells (ag ev ae ce).toArray 127)).heap.size) :
 QInv W wf R r2 (ls++[(ev,ae,ce)]) v':=by
 obtain ⟨iRd,PX,S9,iNe,iFr⟩:=h;have hzw:=iFr.size;have hzd:wr.heap.size≤wd.heap.size:=hF.size;have Qz:=Au PX hF (by omega);have hal:Below wd.heap.size wd (wd.alloc (Obj.cells (ag ev ae ce).toArray 127)):=(Below.refl _ _).alloc (Nat.le_refl _) _;have Tq:∀ x∈ls++[(ev,ae,ce)],DotsIn wd x.2.1 x.1.over∧∀ A off,x.2.1=some ⟨A,off,none⟩→x.1.over≠[]→W.heap.size≤A∧v.ownBlock≠some A:=by
  intro x hx;rcases List.mem_append.1 hx with hx | hx
  ·refine ⟨(S9 x hx).keep (fun A off hA hne=>hF.block A ?_ ?_),iNe x hx⟩
   ·have h1:=S9 x hx;rw [hA] at h1;exact (show A<wr.heap.size from jK h1 hne)
   ·have:=(iNe x hx A off hA hne).1;simp only [isR];omega
  ·simp only [List.mem_singleton] at hx
   subst hx;refine ⟨hde,fun A off hA hne=>⟨by have:wr.heap.size≤A:=hae A off hA;omega,fun e=>?_⟩⟩;have h1:wr.heap.size≤A:=hae A off hA;have h2:=(PX.lt A e).2;omega
 refine ⟨?_,?_,fun x hx=>?_,fun x hx A off hA hne=>?_,?_⟩
 ·exact (hRd.below hal).grown hg (fun g hgg=>by have:=(Qz.lt g hgg).1;omega)
 ·rw [jy,List.length_append]
  exact hO
 ·obtain ⟨h1,h2⟩:=Tq x hx
  refine (h1.kept hal).keep (fun A off hA hne=>?_);obtain ⟨h3,h4⟩:=h2 A off hA hne;refine hg.block A ?_ (fun e=>h4 e.symm);rw [hA] at h1;have:=jK h1 hne;have:=hal.size;omega
 ·obtain ⟨h1,h2⟩:=Tq x hx
  obtain ⟨h3,h4⟩:=h2 A off hA hne;refine ⟨h3,?_⟩;rcases hat with hat | hat
  ·rw [hat];exact h4
  ·rw [hat]
   intro e;injection e with e
   rw [hA] at h1;have:=jK h1 hne;have:=hal.size;omega
 ·exact ((iFr.again hF).alloc (Obj.cells (ag ev ae ce).toArray 127)).grown2 hg (fun k hk=>(Qz.lt k hk).1)
/-- events that lie in blocks from lo on -/
structure EvsNew (w:World) (lo:Nat) (a:Option Addr) (ls:List bH):Prop where
 evs:EvsIn w a ls
 row:∀ A off,a=some ⟨A,off,none⟩→ls≠[]→lo≤A
 over:∀ x∈ls,∀ A off,x.2.1=some ⟨A,off,none⟩→x.1.over≠[]→lo≤A
theorem EvsNew.fr {w w':World} {lo R:Nat} {a:Option Addr} {ls:List bH} (h:EvsNew w lo a ls) (hf:Fr (isR R) w w') (hR:R<lo):EvsNew w' lo a ls:=by
 refine ⟨⟨?_,fun x hx=>?_⟩,h.row,h.over⟩
 ·rcases h.evs.rows with h0 | ⟨A,off,hA,hr⟩
  ·exact Or.inl h0
  ·by_cases hne:ls=[]
   ·exact Or.inl hne
   ·refine Or.inr ⟨A,off,hA,fun i hi j v hv=>?_⟩
    have h1:=h.row A off hA hne;have h2:=World.block_lt_of_cell? w _ (hr 0 (List.length_pos_iff.2 hne) 0 _ rfl);exact (World.cell?_of_block (hf.block A h2 (by simp only [isR];omega))).trans (hr i hi j v hv)
 ·refine (h.evs.dots x hx).keep (fun A off hA hne=>?_)
  have h1:=h.over x hx A off hA hne;have h2:=h.evs.dots x hx;rw [hA] at h2;exact hf.block A (jK h2 hne) (by simp only [isR];omega)
theorem EvsNew.of {W wr:World} {R:Nat} {rr:Rd} {ls:List bH} {v:Value} (h:QInv W wr R rr ls v):∃ a c,v=.slice a ls.length c∧EvsNew wr W.heap.size a ls:=by
 obtain ⟨ax,cx,hvx,hin⟩:=kK h.own h.dots;refine ⟨ax,cx,hvx,hin,fun A off h1 h2=>?_,fun x hx A off h1 h2=>(h.ne x hx A off h1 h2).1⟩;rcases h.own.2 with ⟨_,hn⟩ | ⟨g,cap,cur,hv,hg,_⟩
 ·exact absurd (List.length_eq_zero_iff.1 hn) h2
 ·rw [hvx] at hv
  simp only [Value.slice.injEq] at hv;rw [h1] at hv;have:A=g:=by have h5:=hv.1;simp at h5;exact h5.1
  omega
/-- dots that lie in blocks from lo on -/
def DotsNew (w:World) (lo:Nat) (a:Option Addr) (l:List Dot):Prop:=DotsIn w a l∧∀ A off,a=some ⟨A,off,none⟩→lo≤A
theorem DotsNew.fr {w w':World} {lo R:Nat} {a:Option Addr} {l:List Dot} (h:DotsNew w lo a l) (hf:Fr (isR R) w w') (hR:R<lo):DotsNew w' lo a l :=
 ⟨h.1.keep (fun A off hA hne=>hf.block A (by have:=h.1;rw [hA] at this;exact jK this hne) (by simp only [isR];have:=h.2 A off hA;omega)),h.2⟩
/-- behind Load, with where the map lies -/
def RetCLZ (r:Rd) (c:List Dot) (K:List Ev) (d:List Dot) (w:World) (x:Ending) (w':World):Prop :=
 if eX r=0 then (if gu c K d=0 then ∃ m b s,x=.returned (.tuple #[.pointer (some ⟨m,0,none⟩),.int .i64 0])∧MpIn w' m b s∧MInv s∧Rel s ⟨c,K,d⟩∧s.dead.length≤d.length∧(∀ x∈s.K,x.1∈K)∧Below w.heap.size w w'∧(∀ k,foot b s.A k→w.heap.size≤k)∧∀ x∈s.K,I9 w.heap.size x else x=.returned (.tuple #[.pointer none,.int .i64 (gu c K d)])∧Below w.heap.size w w')
 else x=.returned (.tuple #[.pointer none,.int .i64 (eX r)])∧Below w.heap.size w w'
/-- behind Load -/
def TB (r:Rd) (c:List Dot) (K:List Ev) (d:List Dot) (w:World) (x:Ending) (w':World):Prop :=
 if eX r=0 then (if gu c K d=0 then ∃ m b s,x=.returned (.tuple #[.pointer (some ⟨m,0,none⟩),.int .i64 0])∧MpIn w' m b s∧MInv s∧Rel s ⟨c,K,d⟩∧s.dead.length≤d.length∧(∀ x∈s.K,x.1∈K)∧Below w.heap.size w w' else x=.returned (.tuple #[.pointer none,.int .i64 (gu c K d)])∧Below w.heap.size w w')
 else x=.returned (.tuple #[.pointer none,.int .i64 (eX r)])∧Below w.heap.size w w'
theorem RetCLZ.ret {r:Rd} {c:List Dot} {K:List Ev} {d:List Dot} {w:World} {x:Ending} {w':World} (h:RetCLZ r c K d w x w'):TB r c K d w x w':=by
 unfold RetCLZ at h;unfold TB;split
 ·rename_i h1
  rw [if_pos h1] at h;split
  ·rename_i h2
   rw [if_pos h2] at h;obtain ⟨m,b,s,g1,g2,g3,g4,g5,g6,g7,_⟩:=h;exact ⟨m,b,s,g1,g2,g3,g4,g5,g6,g7⟩
  ·rename_i h2
   rwa [if_neg h2] at h
 ·rename_i h1
  rwa [if_neg h1] at h
theorem y43 {p q : Prop} (k : q) (h : PLift q → p := by
 intro kk
 have q2 : (eX rr2 != 0) = true := by rw [bne_iff_ne]; exact hre
 have HR : Hid (∀ x w', x = .returned (.tuple #[.pointer none, .int .i64 (eX rr2)]) → Below w.heap.size w w' → RetCLZ rr2 mk evs dl w x w') := fun x w' h1 h2 => by unfold RetCLZ; rw [if_neg hre]; exact ⟨h1, h2⟩
 revert q2 HR
 exact kk.down) : p := h ⟨k⟩
theorem z1 {p : Prop} (h : p := by
 go_upto_region 10 with (first
  | (go_at_call 51; (with_reducible refine (HE.out _ hrd).mono ?_); rintro x w11 ⟨rfl, rfl⟩)
  | (go_at_call 18; (with_reducible refine (N4.out _ _ hrd).mono ?_); rintro x W5 ⟨rfl, hR4, hF4⟩))
 clear d1 d2
 have Vs := hnE.fr hF4 Um
 have Qk := hDm.fr hF4 (Nat.lt_succ_self R)
 have hb5 := hbr.trans (hF4.below (B := w.heap.size) hbr.size (fun k hk => by simp only [isR] at hk; have := HRE.out; omega))
 have HD5 := Lib.hid (And.intro Vs (And.intro Qk hb5))
 have XW : R < W5.heap.size := hR4.lt
 clear Vs Qk hb5 hnE hDm hbr hF4 hrd
 go_wp2
 go_loopw [8, 9] (fun u n wr => ∃ (m2 : Nat) (rr2 : Rd) (dl : List Dot), n = .int .u64 m2 ∧ m2 + dl.length ≤ 65536 ∧ rr2.b.length ≤ 1048576 ∧ wr.ownsRow W5.heap.size 121 3 u dl.length (aY dl) ∧ RdAt wr R rr2 ∧ Fr (isR R) W5 wr ∧ bT M r4 = ((bT m2 rr2).1, dl ++ (bT m2 rr2).2)) (fun _ n _ => (intOf n).toNat)
 case atStart => exact ⟨M, r4, [], rfl, by simp; omega, l4, World.ownsRow_nil _ _ _ _, hR4, Fr.refl _ _, by simp⟩
 case round =>
  obtain ⟨m2, rr2, dl, rfl, TV, hrl2, hown2, BA, Ot, Tj⟩ := hrel
  have HP2 := Lib.hid Tj
  clear Tj hR4
  have XA := Ot.size
  have HE2 := Lib.hid (fun (Y : World) (h : RdAt Y R rr2) => hEr.out rr2 Y h)
  obtain ⟨u2, hu2⟩ : ∃ u2, u2 = u8 := ⟨_, rfl⟩
  rw [← hu2] at hown2 ⊢
  clear hu2
  by_cases hgo2 : 0 < m2 ∧ rr2.e = 0
  ·obtain ⟨hm0, he0⟩ := hgo2
   obtain ⟨j, rfl⟩ : ∃ j, m2 = j + 1 := ⟨m2 - 1, by omega⟩
   have hq : (rr2.e == 0) = true := beq_iff_eq.2 he0
   have Xb : decide (0 < j + 1) = true := by simp
   refine y25 ?_
   intro hdi hwr
   have hf := jU rr2
   have HS : Hid (bT M r4 = ((bT j (eY rr2).1).1, (dl ++ [(eY rr2).2]) ++ (bT j (eY rr2).1).2)) := by rw [Hid, HP2.out, lh he0]; simp
   have HG0 := hDg.out rr2
   obtain ⟨r6, d6, Vj⟩ : ∃ r2 d, eY rr2 = (r2, d) := ⟨_, _, rfl⟩
   rw [Vj] at HG0 HS hf
   simp only at HG0 HS hf
   have HG := Lib.hid (fun (Y : World) (h : RdAt Y R rr2) => HG0 Y (by omega) h)
   clear Vj HG0 HP2 he0 hm0
   go_upto_region 12 with (go_at_call 51; (with_reducible refine (HE2.out _ BA).mono ?_); rintro x w20 ⟨rfl, rfl⟩)
   go_wp2_with (first
    | (go_at_call 54; (with_reducible refine (HG.out _ BA).mono ?_); rintro x wd ⟨rfl, VP, hF6⟩; have hown6 := Au hown2 hF6 (by omega); have hzd := hF6.size)
    | (at_builtin; go_loud (refine wpList_append_own _ rfl _ _ 34 rfl W5.heap.size 121 j0 (.agg #[.int .i64 0, .int .i64 0, .int .i64 0]) 3 24 underlying34 hj hy0 hy1 hy2 rfl (by decide) _ _ _ rfl (hown6.alloc _) ⟨wd.heap.size, 0, none⟩ 1 1 [.int .i64 d6.a.dev, .int .i64 d6.a.inc, .int .i64 d6.seq] rfl rfl (NP wd d6 _) (by simp [Value.oneCell']) (by unfold maxLen; omega) (by omega) (by simp; omega) ?_)))
   intro v' w25 J8 Ua _
   rw [pz] at J8
   have VQ := (VP.below ((Below.refl _ _).alloc (Nat.le_refl _) _)).grown Ua (fun g hg => by have := (hown6.lt g hg).1; omega)
   have VU := ((Ot.again hF6).alloc (Obj.cells #[.int .i64 d6.a.dev, .int .i64 d6.a.inc, .int .i64 d6.seq] 121)).grown Ua (fun g hg => (hown6.lt g hg).1)
   have HZ := Lib.hid (And.intro J8 (And.intro VQ VU))
   clear J8 VQ VU Ua hown6 hF6 VP hown2 BA Ot
   go_wp2
   go_roundw
   case rel => exact ⟨j, r6, dl ++ [d6], by go_num, by simp; omega, by omega, by rw [List.length_append]; exact HZ.out.1, HZ.out.2.1, HZ.out.2.2, HS.out⟩
   case measure => simp [intOf]
  ·have Tn : bT m2 rr2 = (rr2, []) := by
    by_cases h0 : m2 = 0
    ·subst h0; rfl
    ·exact sN (fun e => hgo2 ⟨by omega, e⟩)
   have hq2 : rr2 = r5 ∧ dl = ds := by
    have h1 := H5.out
    rw [HP2.out, Tn] at h1
    simp only [List.append_nil, Prod.mk.injEq] at h1
    exact h1
   obtain ⟨rfl, rfl⟩ := hq2
   obtain ⟨ad, cd, hvd, hdd, _⟩ := qK hown2
   have Vr := HD5.out.1.fr Ot Um
   have Kw := HD5.out.2.1.fr Ot (Nat.lt_succ_self R)
   have hb6 := HD5.out.2.2.trans (Ot.below (B := w.heap.size) HD5.out.2.2.size (fun k hk => by simp only [isR] at hk; have := HRE.out; omega))
   have HEn := Lib.hid (fun (Y : World) (h : RdAt Y R rr2) => RQ.out rr2 Y h (by omega))
   subst hvd
   clear hown2 Tn HP2
   by_cases hc2 : 0 < m2
   ·have he2 : rr2.e ≠ 0 := fun e => hgo2 ⟨hc2, e⟩
    have q1 : (rr2.e == 0) = false := beq_eq_false_iff_ne.2 he2
    have d1 := decide_eq_true hc2
    have d2 : decide ((0 : Int) < (m2 : Int)) = true := decide_eq_true (by omega)
    have hre : eX rr2 ≠ 0 := by unfold eX; rw [if_neg he2]; exact he2
    refine y43 ?_
    intro q2 HR
    clear hgo2 hre he2 hc2
    generalize eX rr2 = er at *
    go_wp2_with (first
         | (go_at_call 51; (with_reducible refine (HE2.out _ BA).mono ?_); rintro x w21 ⟨rfl, rfl⟩)
         | (go_at_call 21; (with_reducible refine (HEn.out _ BA).mono ?_); rintro x w22 ⟨rfl, rfl⟩))
    go_ret2
    exact HR.out _ _ rfl hb6
   ·have d1 := decide_eq_false hc2
    have d2 : decide ((0 : Int) < (m2 : Int)) = false := decide_eq_false (by omega)
    by_cases hre : eX rr2 = 0
    ·have q2 : (eX rr2 != 0) = false := by rw [bne_eq_false_iff_eq]; exact hre
     rw [hre] at HEn q2
     have hly : ls.length ≤ 2048 := by omega
     have hdy : dl.length ≤ 65536 := by omega
     by_cases hld : dA mk ls dl = 0
     ·have HLo := Lib.hid (fun (Y : World) (h1 : DotsIn Y am mk) (h2 : EvsIn Y ax ls) (h3 : DotsIn Y ad dl) => show Calls prog 55 #[.slice am mk.length cm, .slice ax ls.length cx, .slice ad dl.length cd] Y (QJ ⟨am, mk, cm, ax, ls, cx, ad, dl, cd⟩ Y) from JX ⟨am, mk, cm, ax, ls, cx, ad, dl, cd⟩ Y hsm h1 h2 h3 hld)
      have HR : Hid (∀ x w', (∃ m b s, x = .returned (.tuple #[.pointer (some ⟨m, 0, none⟩), .int .i64 0]) ∧ MpIn w' m b s ∧ MInv s ∧ Rel s ⟨mk, evs, dl⟩ ∧ s.dead.length ≤ dl.length ∧ (∀ x ∈ s.K, x.1 ∈ evs) ∧ Below w.heap.size w w' ∧ (∀ k, foot b s.A k → w.heap.size ≤ k) ∧ ∀ x ∈ s.K, I9 w.heap.size x) → RetCLZ rr2 mk evs dl w x w') := fun x w' h1 => by unfold RetCLZ; rw [if_pos hre, if_pos (by rw [hevs, vH]; exact hld)]; exact h1
      clear hgo2 hre hc2 hld
      go_wp2_with (first
                 | (go_at_call 21; (with_reducible refine (HEn.out _ BA).mono ?_); rintro x w22 ⟨rfl, rfl⟩)
                 | (go_at_call 55; have h9 := HLo.out _ Kw.1 Vr.evs hdd; (with_reducible refine h9.mono ?_); rintro x w23 ⟨m9, b9, s9, rfl, hm9, hi9, hr9, hd9, hf9, hk9, hb9, ho9⟩))
      go_ret2
      exact HR.out _ _ ⟨m9, b9, s9, rfl, hm9, hi9, by rw [hevs]; exact hr9, hd9, fun x hx => by rw [hevs]; exact hk9 x hx, hb6.trans (hb9.mono hb6.size), fun k hk => Nat.le_trans hb6.size (hf9 k hk), fun x hx A off h1 h2 => Nat.le_trans hb6.size (ho9 x hx A off h1 h2)⟩
     ·have HLo := Lib.hid (fun (Y : World) (h1 : DotsIn Y am mk) (h2 : EvsIn Y ax ls) (h3 : DotsIn Y ad dl) => show Calls prog 55 #[.slice am mk.length cm, .slice ax ls.length cx, .slice ad dl.length cd] Y (fun x w' => x = .returned (.tuple #[.pointer none, .int .i64 (dA mk ls dl)]) ∧ Below Y.heap.size Y w') from NQ ⟨am, mk, cm, ax, ls, cx, ad, dl, cd⟩ Y (by simp only; omega) (by simp only; omega) (by simp only; omega) hsm h1 h2 h3 hld)
      have HR : Hid (∀ x w', x = .returned (.tuple #[.pointer none, .int .i64 (dA mk ls dl)]) → Below w.heap.size w w' → RetCLZ rr2 mk evs dl w x w') := fun x w' h1 h2 => by unfold RetCLZ; rw [if_pos hre, if_neg (by rw [hevs, vH]; exact hld), hevs, vH]; exact ⟨h1, h2⟩
      clear hgo2 hre hc2 hld
      generalize dA mk ls dl = er at *
      go_wp2_with (first
                 | (go_at_call 21; (with_reducible refine (HEn.out _ BA).mono ?_); rintro x w22 ⟨rfl, rfl⟩)
                 | (go_at_call 55; have h9 := HLo.out _ Kw.1 Vr.evs hdd; (with_reducible refine h9.mono ?_); rintro x w23 ⟨rfl, hb9⟩))
      go_ret2
      exact HR.out _ _ rfl (hb6.trans (hb9.mono hb6.size))
    ·refine y43 ?_
     intro q2 HR
     clear hgo2 hre hc2
     generalize eX rr2 = er at *
     go_wp2_with (go_at_call 21; (with_reducible refine (HEn.out _ BA).mono ?_); rintro x w22 ⟨rfl, rfl⟩)
     go_ret2
     exact HR.out _ _ rfl hb6) : p := h
theorem z91 {p : Prop} (h : p := by
 rw [HP.out, hend] at h1
 simp only [List.append_nil, Prod.mk.injEq] at h1
 exact ⟨h1.1.symm, h1.2.symm⟩) : p := h
theorem KR (a:Option Addr) (cap:Nat) (l:Bytes) (w:World) (hl:l.length≤1048576) (hcap:l.length≤cap) (h:BytesIn w a l) {r:Rd} {c:List Dot} {K:List Ev} {d:List Dot} (hx:jL l=(r,c,K,d)) :
 Calls prog 22 #[.slice a l.length cap] w (RetCLZ r c K d w):=by
 obtain ⟨i0,hi,hz0,hz1,hz2⟩:=info_parts Tryz.infoEv;obtain ⟨j0,hj,hy0,hy1,hy2⟩:=info_parts Tryz.infoDot;have hRP:=Lib.hid (vz a cap l w h hcap);have f1:=Aa ⟨l,0⟩;have f1l:=uz ⟨l,0⟩;have N1':=fun (R:Nat) (W:World) (h:RdAt W R ⟨l,0⟩)=>Pe R ⟨l,0⟩ W (by simp only;omega) h;obtain ⟨r1,mk,h1⟩:∃ x y,fC ⟨l,0⟩=(x,y):=⟨_,_,rfl⟩;rw [h1] at f1 N1' f1l;unfold I4 at N1';simp only at f1 N1' f1l;have f2:=bf 2048 r1;have N2':∀ (R:Nat) (W:World),RdAt W R r1→Calls prog 18 #[.pointer (some ⟨R,0,none⟩),.int .u64 2048] W (ig R (bg 2048 r1).1 (.int .u64 (bg 2048 r1).2) W):=fun (R:Nat) (W:World) (h:RdAt W R r1)=>oD R r1 2048 W (by omega) (by omega) h;obtain ⟨r2,N,h2⟩:∃ x y,bg 2048 r1=(x,y):=⟨_,_,rfl⟩;rw [h2] at f2 N2';simp only at f2 N2';have f3:=Ae N r2;obtain ⟨r3,evs,h3⟩:∃ x y,kz N r2=(x,y):=⟨_,_,rfl⟩;rw [h3] at f3;simp only at f3;have f4:=bf 65536 r3;have N4':∀ (R:Nat) (W:World),RdAt W R r3→Calls prog 18 #[.pointer (some ⟨R,0,none⟩),.int .u64 65536] W (ig R (bg 65536 r3).1 (.int .u64 (bg 65536 r3).2) W):=fun (R:Nat) (W:World) (h:RdAt W R r3)=>oD R r3 65536 W (by omega) (by omega) h;obtain ⟨r4,M,h4⟩:∃ x y,bg 65536 r3=(x,y):=⟨_,_,rfl⟩;rw [h4] at f4 N4';simp only at f4 N4';obtain ⟨r5,ds,h5⟩:∃ x y,bT M r4=(x,y):=⟨_,_,rfl⟩;have hxx:jL l=(r5,mk,evs,ds):=by unfold jL;simp only [h1,h2,h3,h4,h5]
 rw [hxx] at hx;simp only [Prod.mk.injEq] at hx;obtain ⟨rfl,rfl,rfl,rfl⟩:=hx;have N1:=Lib.hid N1';have N2:=Lib.hid N2';have N4:=Lib.hid N4';have H3:=Lib.hid h3;have H4:=Lib.hid h4;have H5:=Lib.hid h5;have bN:=f2.2;have bM:=f4.2;have l2:r2.b.length≤1048576:=by omega
 have l4:r4.b.length≤1048576:=by omega
 clear N1' N2' N4' h1 h2 h3 h4 h5 f1 f2 f3 f4 hxx h;go_enter func22,ntmps22;go_upto_region 2 with (go_at_call 17;(with_reducible refine hRP.out.mono ?_);rintro x w1 ⟨rfl,hR1,hb1⟩)
 have hRl:=hR1.lt;obtain ⟨R,hRR⟩:∃ R,R=w.heap.size:=⟨_,rfl⟩;rw [← hRR] at hR1 hRl ⊢;have HRE:=Lib.hid hRR;clear hRP hRR;go_upto_region 3 with (go_at_call 52;(with_reducible refine (N1.out _ _ hR1).mono ?_);rintro x w2 ⟨am,cm,rfl,hdm,hR2,hF2,hAm⟩)
 have hD2:DotsNew w2 (R+1) am mk:=⟨hdm,fun A off h=>by have:=hAm A off h;omega⟩;have hz2':=hF2.size;go_upto_region 5 with (go_at_call 18;(with_reducible refine (N2.out _ _ hR2).mono ?_);rintro x W ⟨rfl,hRW,hFW⟩)
 have hzW:=hFW.size;have hDW:=hD2.fr hFW (Nat.lt_succ_self R);have VV:=hF2.again hFW;have hbW:Below w.heap.size w W:=hb1.trans (VV.below (B:=w.heap.size) hb1.size (fun k hk=>by simp only [isR] at hk;have:=HRE.out;omega));have Um:R<W.heap.size:=by omega
 have HD:=Lib.hid (And.intro hDW hbW);have hEr:=Lib.hid (fun (rr:Rd) (W:World) (h:RdAt W R rr)=>EC R rr W h);have hEg:=Lib.hid (fun (rr:Rd) (W:World) (hl:rr.b.length≤1073741824) (h:RdAt W R rr)=>RV R rr W hl h);have hI0:QInv W W R r2 [] (.slice none 0 0):=⟨hRW,World.ownsRow_nil _ _ _ _,fun x hx=>by simp at hx,fun x hx=>by simp at hx,Fr.refl _ _⟩;clear hdm hR2 hF2 hAm hD2 hz2' hFW hzW hDW VV hbW hR1 hb1 N1 N2 hRl;go_wp2;go_loopw [6,7] (fun u n wr=>∃ (m:Nat) (rr:Rd) (ls:List bH),n=.int .u64 m∧m+ls.length≤2048∧rr.b.length≤1048576∧fA ls∧QInv W wr R rr ls u∧kz N r2=((kz m rr).1,aU ls++(kz m rr).2)) (fun _ n _=>(intOf n).toNat)
 case atStart=>exact ⟨N,r2,[],rfl,by simp;omega,l2,fun x hx=>by simp at hx,hI0,by simp [aU]⟩
 case round =>
  obtain ⟨m,rr,ls,rfl,hmn,hrl,hsm,hI,hpre⟩:=hrel;have HP:=Lib.hid hpre;clear hpre hI0;have hzw:=hI.fr.size;have HE:=Lib.hid (fun (Y:World) (h:RdAt Y R rr)=>hEr.out rr Y h);obtain ⟨u,hu⟩:∃ u,u=u6:=⟨_,rfl⟩;rw [← hu] at hI ⊢;clear hu;by_cases hgo:0<m∧rr.e=0
  ·obtain ⟨hm0,he0⟩:=hgo
   obtain ⟨j,rfl⟩:∃ j,m=j+1:=⟨m - 1,by omega⟩;have hq:(rr.e == 0)=true:=beq_iff_eq.2 he0;have Xb:decide (0<j+1)=true:=by simp
   refine y25 ?_
   intro hdi hwr
   have hf:=EY rr;have hsv:=DR rr;have HS:Hid (kz N r2=((kz j (rEv rr).1).1,(aU ls++[(rEv rr).2])++(kz j (rEv rr).1).2)):=by rw [Hid,HP.out,xk he0];simp
   have HG0:=hEg.out rr;obtain ⟨r2',ev,hrd⟩:∃ r2 d,rEv rr=(r2,d):=⟨_,_,rfl⟩;rw [hrd] at HG0 HS hf hsv;simp only at HG0 HS hf hsv;have HG:=Lib.hid (fun (Y:World) (h:RdAt Y R rr)=>HG0 Y (by omega) h);clear hrd HG0 HP he0 hm0;have iRd:=hI.rd;have PX:=hI.own;have HI:=Lib.hid hI;have HSM:=Lib.hid hsm;have HSV:=Lib.hid hsv;clear hI hsm hsv;go_upto_region 7 with (go_at_call 51;(with_reducible refine (HE.out _ iRd).mono ?_);rintro x w10 ⟨rfl,rfl⟩)
   go_wp2_with (first
        | (go_at_call 53;(with_reducible refine (HG.out _ iRd).mono ?_);rintro x wd ⟨ae,ce,rfl,hde,BA,hFd,hae⟩;have Qz:=Au PX hFd (by omega);have hzd:=hFd.size)
        | (refine wpList_buildOne rfl 33 127 _ rfl (ag ev ae ce).toArray 19 rfl rfl (by decide) (by decide) underlying33 (by kernel_rfl) (by kernel_rfl) ?_)
        | (at_builtin;go_loud (refine wpList_append_own_at _ rfl _ _ 33 rfl W.heap.size 127 i0 (.agg (ag ev0 none 0).toArray) 19 176 underlying33 hi hz0 hz1 hz2 rfl (by decide) _ _ _ rfl (Qz.alloc _) ⟨wd.heap.size,0,none⟩ 1 1 (ag ev ae ce) rfl rfl (tu wd ev ae ce _) (dR _ _ _) (by unfold maxLen;omega) (by omega) (by simp;omega) ?_)))
   intro v' wf gZ hgrow _ hat;have hQ:=HI.out.next Um BA hFd hde hae gZ hgrow (hat.imp id fun h=>h.trans (by simp));have hs2:fA (ls++[(ev,ae,ce)]):=by
        intro x hx;rcases List.mem_append.1 hx with hx | hx
        ·exact HSM.out x hx
        ·simp only [List.mem_singleton] at hx;subst hx;exact HSV.out
   have hev2:aU (ls++[(ev,ae,ce)])=aU ls++[ev]:=by simp [aU]
   have HZ:=Lib.hid (And.intro hQ (And.intro hs2 hev2));clear hQ hs2 hev2 gZ hgrow hat Qz PX iRd BA hFd hde hae;go_wp2;go_roundw
   case rel=>exact ⟨j,r2',ls++[(ev,ae,ce)],by go_num,by simp;omega,by omega,HZ.out.2.1,HZ.out.1,by rw [HZ.out.2.2];exact HS.out⟩
   case measure=>simp [intOf]
  ·have hend:kz m rr=(rr,[]):=by
        by_cases h0:m=0
        ·subst h0;rfl
        ·exact Af (fun e=>hgo ⟨by omega,e⟩)
   have hq:r3=rr∧evs=aU ls:=by
        have h1:=H3.out
        exact z91
   obtain ⟨rfl,hevs⟩:=hq;have RQ:=Lib.hid (fun (rr:Rd) (W:World) (h:RdAt W R rr) (hl:rr.b.length≤1073741824)=>TC R rr W h hl);obtain ⟨ax,cx,hvx,hnE⟩:=EvsNew.of hI;have hrd:=hI.rd;have hFr:=hI.fr;have hDm:=HD.out.1.fr hFr (Nat.lt_succ_self R);have hbr:=HD.out.2.trans (hFr.below (B:=w.heap.size) HD.out.2.size (fun k hk=>by simp only [isR] at hk;have:=HRE.out;omega));have hDg:=Lib.hid (fun (rr:Rd) (W:World) (hl:rr.b.length≤1073741824) (h:RdAt W R rr)=>wK R rr W hl h);clear hend HP H3;subst hvx;clear hI hEg hFr;by_cases hcase:0<m
   ·have he:r3.e≠0:=fun e=>hgo ⟨hcase,e⟩
    have q1:(r3.e == 0)=false:=beq_eq_false_iff_ne.2 he;have d1:=decide_eq_true hcase;have d2:decide ((0:Int)<(m:Int))=true:=decide_eq_true (by omega);clear hgo hcase he
    exact z1
   ·have d1:=decide_eq_false hcase
    have d2:decide ((0:Int)<(m:Int))=false:=decide_eq_false (by omega);clear hgo hcase
    exact z1
end Go.Proofs.YtepkclldbkhanaaGreat
