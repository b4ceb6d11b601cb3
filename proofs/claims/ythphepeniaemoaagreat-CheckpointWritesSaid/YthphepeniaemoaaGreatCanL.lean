/- canon: Load. Conditions: at most 2^30 bytes. -/
import Derived.Test.YthphepeniaemoaaGreatVGet
import Derived.Test.YthphepeniaemoaaGreatLdM
set_option linter.unusedSimpArgs false
set_option linter.unusedVariables false
set_option linter.unnecessarySimpa false
set_option maxHeartbeats 16000000
set_option maxRecDepth 100000
open Go.Proofs.Tryz
namespace Go.Proofs.YthphepeniaemoaaGreat
open Go.RowKit
/-- the parts of a map's full bytes, read -/
def rD (l:Bytes):Rd×List Dot×List Ev×List Dot :=
 let m:=jU ⟨l,0⟩
 let n:=bQ 2048 m.1
 let E:=oU n.2 n.1
 let k:=bQ 65536 E.1
 let D:=dS k.2 k.1
 (D.1,m.2,E.2,D.2)
def kP (c:List Dot) (K:List Ev) (d:List Dot):Int:=fF c (K.map fun e=>(e,none,0)) d
theorem zo (ctx:List Dot):∀ (K:List EvIt) (p:Option Dot),bF ctx p ((evsOf K).map fun e=>(e,none,0))=bF ctx p K
 | [],p=>by cases p <;> rfl
 | x :: K,p=>by
   have ih:=zo ctx K;show bF ctx p ((x.1,none,0) :: (evsOf K).map fun e=>(e,none,0))=bF ctx p (x :: K);unfold bF;rw [ih]
theorem BC (c:List Dot) (K:List EvIt) (d:List Dot):kP c (evsOf K) d=fF c K d:=by
 unfold kP fF;rw [zo,List.length_map,aW]
/-- events that were made in the loop: w0 the world ahead of it -/
structure QInv (W wr:World) (R:Nat) (rr:Rd) (ls:List EvIt) (v:Value):Prop where
 rd:RdAt wr R rr
 own:wr.ownsRow W.heap.size 82 19 v ls.length (aX ls)
 dots:∀ x∈ls,DotsIn wr x.2.1 x.1.over
 ne:∀ x∈ls,∀ A off,x.2.1=some ⟨A,off,none⟩->x.1.over≠[]->W.heap.size<=A/\v.ownBlock≠some A
 fr:Fr (isR R) W wr
theorem QInv.next {W wr wd wf:World} {R:Nat} {rr r2:Rd} {ls:List EvIt} {v v':Value} {ev:Ev} {ae:Option Addr} {ce:Nat} (h:QInv W wr R rr ls v) (hR:R<W.heap.size)
 (hRd:RdAt wd R r2) (hF:Fr (isR R) wr wd) (hde:DotsIn wd ae ev.over) (hae:∀ A off,ae=some ⟨A,off,none⟩->wr.heap.size<=A)
 (hO:wf.ownsRow W.heap.size 82 19 v' (ls.length+1) (aX ls++az ev ae ce)) (hg:(wd.alloc (Obj.cells (az ev ae ce).toArray 82)).grownBy wf v.ownBlock)
 (hat:v'.ownBlock=v.ownBlock\/v'.ownBlock=some (wd.alloc (Obj.cells (az ev ae ce).toArray 82)).heap.size) :
 QInv W wf R r2 (ls++[(ev,ae,ce)]) v':=by
 obtain ⟨iRd,Qo,TT,iNe,iFr⟩:=h;have hzw:=iFr.size;have hzd:wr.heap.size<=wd.heap.size:=hF.size;have QU:=Bc Qo hF (by omega);have hal:Below wd.heap.size wd (wd.alloc (Obj.cells (az ev ae ce).toArray 82)):=(bh _ _).alloc (ar _) _;have Ua:∀ x∈ls++[(ev,ae,ce)],DotsIn wd x.2.1 x.1.over/\∀ A off,x.2.1=some ⟨A,off,none⟩->x.1.over≠[]->W.heap.size<=A/\v.ownBlock≠some A:=by
  intro x hx;rcases List.mem_append.1 hx with hx | hx
  ·refine ⟨(TT x hx).keep (fun A off hA hne=>hF.block A ?_ ?_),iNe x hx⟩
   ·have h1:=TT x hx;rw [hA] at h1;exact (show A<wr.heap.size from qA h1 hne)
   ·have:=(iNe x hx A off hA hne).1;simp only [isR];omega
  ·simp only [List.mem_singleton] at hx
   subst hx;refine ⟨hde,fun A off hA hne=>⟨by have:wr.heap.size<=A:=hae A off hA;omega,fun e=>?_⟩⟩;have h1:wr.heap.size<=A:=hae A off hA;have h2:=(Qo.lt A e).2;omega
 refine ⟨?_,?_,fun x hx=>?_,fun x hx A off hA hne=>?_,?_⟩
 ·exact (hRd.below hal).grown hg (fun g hgg=>by have:=(QU.lt g hgg).1;omega)
 ·rw [uf,av]
  exact hO
 ·obtain ⟨h1,h2⟩:=Ua x hx
  refine (h1.kept hal).keep (fun A off hA hne=>?_);obtain ⟨h3,h4⟩:=h2 A off hA hne;refine hg.block A ?_ (fun e=>h4 e.symm);rw [hA] at h1;have:=qA h1 hne;have:=hal.size;omega
 ·obtain ⟨h1,h2⟩:=Ua x hx
  obtain ⟨h3,h4⟩:=h2 A off hA hne;refine ⟨h3,?_⟩;rcases hat with hat | hat
  ·rw [hat];exact h4
  ·rw [hat]
   intro e;injection e with e
   rw [hA] at h1;have:=qA h1 hne;have:=hal.size;omega
 ·exact ((iFr.again hF).alloc (Obj.cells (az ev ae ce).toArray 82)).grown2 hg (fun k hk=>(QU.lt k hk).1)
/-- events that lie in blocks from lo on -/
structure EvsNew (w:World) (lo:Nat) (a:Option Addr) (ls:List EvIt):Prop where
 evs:EvsIn w a ls
 row:∀ A off,a=some ⟨A,off,none⟩->ls≠[]->lo<=A
 over:∀ x∈ls,∀ A off,x.2.1=some ⟨A,off,none⟩->x.1.over≠[]->lo<=A
theorem EvsNew.fr {w w':World} {lo R:Nat} {a:Option Addr} {ls:List EvIt} (h:EvsNew w lo a ls) (hf:Fr (isR R) w w') (hR:R<lo):EvsNew w' lo a ls:=by
 refine ⟨⟨?_,fun x hx=>?_⟩,h.row,h.over⟩
 ·rcases h.evs.rows with h0 | ⟨A,off,hA,hr⟩
  ·exact bb h0
  ·by_cases hne:ls=[]
   ·exact bb hne
   ·refine bd ⟨A,off,hA,fun i hi j v hv=>?_⟩
    have h1:=h.row A off hA hne;have h2:=World.block_lt_of_cell? w _ (hr 0 (List.length_pos_iff.2 hne) 0 _ rfl);exact (World.cell?_of_block (hf.block A h2 (by simp only [isR];omega))).trans (hr i hi j v hv)
 ·refine (h.evs.dots x hx).keep (fun A off hA hne=>?_)
  have h1:=h.over x hx A off hA hne;have h2:=h.evs.dots x hx;rw [hA] at h2;exact hf.block A (qA h2 hne) (by simp only [isR];omega)
theorem EvsNew.of {W wr:World} {R:Nat} {rr:Rd} {ls:List EvIt} {v:Value} (h:QInv W wr R rr ls v):∃ a c,v=.slice a ls.length c/\EvsNew wr W.heap.size a ls:=by
 obtain ⟨ax,cx,hvx,hin⟩:=nN h.own h.dots;refine ⟨ax,cx,hvx,hin,fun A off h1 h2=>?_,fun x hx A off h1 h2=>(h.ne x hx A off h1 h2).1⟩;rcases h.own.2 with ⟨_,hn⟩ | ⟨g,cap,cur,hv,hg,_⟩
 ·exact absurd (List.length_eq_zero_iff.1 hn) h2
 ·rw [hvx] at hv
  simp only [Value.slice.injEq] at hv;rw [h1] at hv;have:A=g:=by have h5:=hv.1;simp at h5;exact h5.1
  omega
/-- dots that lie in blocks from lo on -/
def DotsNew (w:World) (lo:Nat) (a:Option Addr) (l:List Dot):Prop:=DotsIn w a l/\∀ A off,a=some ⟨A,off,none⟩->lo<=A
theorem DotsNew.fr {w w':World} {lo R:Nat} {a:Option Addr} {l:List Dot} (h:DotsNew w lo a l) (hf:Fr (isR R) w w') (hR:R<lo):DotsNew w' lo a l :=
 ⟨h.1.keep (fun A off hA hne=>hf.block A (by have:=h.1;rw [hA] at this;exact qA this hne) (by simp only [isR];have:=h.2 A off hA;omega)),h.2⟩
/-- behind Load, with where the map lies -/
def RetCLZ (r:Rd) (c:List Dot) (K:List Ev) (d:List Dot) (w:World) (x:Ending) (w':World):Prop :=
 if jl r=0 then (if kP c K d=0 then ∃ m b s,x=.returned (.tuple #[.pointer (some ⟨m,0,none⟩),.int .i64 0])/\MpIn w' m b s/\MInv s/\Rel s ⟨c,K,d⟩/\s.dead.length<=d.length/\(∀ x∈s.K,x.1∈K)/\Below w.heap.size w w'/\(∀ k,foot b s.A k->w.heap.size<=k)/\∀ x∈s.K,Jt w.heap.size x else x=.returned (.tuple #[.pointer none,.int .i64 (kP c K d)])/\Below w.heap.size w w')
 else x=.returned (.tuple #[.pointer none,.int .i64 (jl r)])/\Below w.heap.size w w'
/-- behind Load -/
def Ug (r:Rd) (c:List Dot) (K:List Ev) (d:List Dot) (w:World) (x:Ending) (w':World):Prop :=
 if jl r=0 then (if kP c K d=0 then ∃ m b s,x=.returned (.tuple #[.pointer (some ⟨m,0,none⟩),.int .i64 0])/\MpIn w' m b s/\MInv s/\Rel s ⟨c,K,d⟩/\s.dead.length<=d.length/\(∀ x∈s.K,x.1∈K)/\Below w.heap.size w w' else x=.returned (.tuple #[.pointer none,.int .i64 (kP c K d)])/\Below w.heap.size w w')
 else x=.returned (.tuple #[.pointer none,.int .i64 (jl r)])/\Below w.heap.size w w'
theorem RetCLZ.ret {r:Rd} {c:List Dot} {K:List Ev} {d:List Dot} {w:World} {x:Ending} {w':World} (h:RetCLZ r c K d w x w'):Ug r c K d w x w':=by
 unfold RetCLZ at h;unfold Ug;split
 ·rename_i h1
  rw [if_pos h1] at h;split
  ·rename_i h2
   rw [if_pos h2] at h;obtain ⟨m,b,s,g1,g2,g3,g4,g5,g6,g7,_⟩:=h;exact ⟨m,b,s,g1,g2,g3,g4,g5,g6,g7⟩
  ·rename_i h2
   rwa [if_neg h2] at h
 ·rename_i h1
  rwa [if_neg h1] at h
theorem y59 {p q : Prop} (k : q) (h : PLift q -> p := by
 intro kk
 have q2 : (jl rr2 != 0) = true := by rw [bne_iff_ne]; exact hre
 have HR : Hid (∀ x w', x = .returned (.tuple #[.pointer none, .int .i64 (jl rr2)]) -> Below w.heap.size w w' -> RetCLZ rr2 mk evs dl w x w') := fun x w' h1 h2 => by unfold RetCLZ; rw [if_neg hre]; exact ⟨h1, h2⟩
 revert q2 HR
 exact kk.down) : p := h ⟨k⟩
theorem z1 {p : Prop} (h : p := by
 go_upto_region 10 with (first
  | (go_at_call 134; (with_reducible refine (HE.out _ hrd).mono ?_); rintro x w11 ⟨rfl, rfl⟩)
  | (go_at_call 89; (with_reducible refine (N4.out _ _ hrd).mono ?_); rintro x W5 ⟨rfl, hR4, hF4⟩))
 clear d1 d2
 have VK := hnE.fr hF4 U0
 have WC := hDm.fr hF4 (Nat.lt_succ_self R)
 have hb5 := hbr.trans (hF4.below (B := w.heap.size) hbr.size (fun k hk => by simp only [isR] at hk; have := HRE.out; omega))
 have HD5 := aq (ba VK (ba WC hb5))
 have X4 : R < W5.heap.size := hR4.lt
 clear VK WC hb5 hnE hDm hbr hF4 hrd
 go_wp2
 go_loopw [8, 9] (fun u n wr => ∃ (m2 : Nat) (rr2 : Rd) (dl : List Dot), n = .int .u64 m2 /\ m2 + dl.length <= 65536 /\ rr2.b.length <= 1048576 /\ wr.ownsRow W5.heap.size 76 3 u dl.length (aJ dl) /\ RdAt wr R rr2 /\ Fr (isR R) W5 wr /\ dS M r4 = ((dS m2 rr2).1, dl ++ (dS m2 rr2).2)) (fun _ n _ => (intOf n).toNat)
 case atStart => exact ⟨M, r4, [], rfl, by simp; omega, l4, World.ownsRow_nil _ _ _ _, hR4, Fr.refl _ _, by simp⟩
 case round =>
  obtain ⟨m2, rr2, dl, rfl, UH, hrl2, hown2, Cb, OC, TU⟩ := hrel
  have HP2 := aq TU
  clear TU hR4
  have XI := OC.size
  have HE2 := aq (fun (Y : World) (h : RdAt Y R rr2) => hEr.out rr2 Y h)
  obtain ⟨u2, hu2⟩ : ∃ u2, u2 = u8 := ⟨_, rfl⟩
  rw [<- hu2] at hown2 ⊢
  clear hu2
  by_cases hgo2 : 0 < m2 /\ rr2.e = 0
  ·obtain ⟨hm0, he0⟩ := hgo2
   obtain ⟨j, rfl⟩ : ∃ j, m2 = j + 1 := ⟨m2 - 1, by omega⟩
   have hq : (rr2.e == 0) = true := beq_iff_eq.2 he0
   have Xk : decide (0 < j + 1) = true := by simp
   refine y33 ?_
   intro hdi hwr
   have hf := qc rr2
   have HS : Hid (dS M r4 = ((dS j (iI rr2).1).1, (dl ++ [(iI rr2).2]) ++ (dS j (iI rr2).1).2)) := by rw [Hid, HP2.out, AV he0]; simp
   have HG0 := hDg.out rr2
   obtain ⟨r6, d6, VH⟩ : ∃ r2 d, iI rr2 = (r2, d) := ⟨_, _, rfl⟩
   rw [VH] at HG0 HS hf
   simp only at HG0 HS hf
   have HG := aq (fun (Y : World) (h : RdAt Y R rr2) => HG0 Y (by omega) h)
   clear VH HG0 HP2 he0 hm0
   go_upto_region 12 with (go_at_call 134; (with_reducible refine (HE2.out _ Cb).mono ?_); rintro x w20 ⟨rfl, rfl⟩)
   go_wp2_with (first
    | (go_at_call 137; (with_reducible refine (HG.out _ Cb).mono ?_); rintro x wd ⟨rfl, Wn, hF6⟩; have hown6 := Bc hown2 hF6 (by omega); have hzd := hF6.size)
    | (at_builtin; go_loud (refine wpList_append_own _ rfl _ _ 44 rfl W5.heap.size 76 j0 (.agg #[.int .i64 0, .int .i64 0, .int .i64 0]) 3 24 underlying44 hj hy0 hy1 hy2 rfl (by decide) _ _ _ rfl (hown6.alloc _) ⟨wd.heap.size, 0, none⟩ 1 1 [.int .i64 d6.a.dev, .int .i64 d6.a.inc, .int .i64 d6.seq] rfl rfl (Uw wd d6 _) (by simp [Value.oneCell']) (by unfold maxLen; omega) (by omega) (by simp; omega) ?_)))
   intro v' w25 KF UK _
   rw [uV] at KF
   have Wp := (Wn.below ((bh _ _).alloc (ar _) _)).grown UK (fun g hg => by have := (hown6.lt g hg).1; omega)
   have Wu := ((OC.again hF6).alloc (Obj.cells #[.int .i64 d6.a.dev, .int .i64 d6.a.inc, .int .i64 d6.seq] 76)).grown UK (fun g hg => (hown6.lt g hg).1)
   have HZ := aq (ba KF (ba Wp Wu))
   clear KF Wp Wu UK hown6 hF6 Wn hown2 Cb OC
   go_wp2
   go_roundw
   case rel => exact ⟨j, r6, dl ++ [d6], by go_num, by simp; omega, by omega, by rw [av]; exact HZ.out.1, HZ.out.2.1, HZ.out.2.2, HS.out⟩
   case measure => simp [intOf]
  ·have TW : dS m2 rr2 = (rr2, []) := by
    by_cases h0 : m2 = 0
    ·subst h0; rfl
    ·exact Em (fun e => hgo2 ⟨by omega, e⟩)
   have hq2 : rr2 = r5 /\ dl = ds := by
    have h1 := H5.out
    rw [HP2.out, TW] at h1
    simp only [List.append_nil, Prod.mk.injEq] at h1
    exact h1
   obtain ⟨rfl, rfl⟩ := hq2
   obtain ⟨ad, cd, hvd, hdd, _⟩ := CP hown2
   have VJ := HD5.out.1.fr OC U0
   have WB := HD5.out.2.1.fr OC (Nat.lt_succ_self R)
   have hb6 := HD5.out.2.2.trans (OC.below (B := w.heap.size) HD5.out.2.2.size (fun k hk => by simp only [isR] at hk; have := HRE.out; omega))
   have HEn := aq (fun (Y : World) (h : RdAt Y R rr2) => Xt.out rr2 Y h (by omega))
   subst hvd
   clear hown2 TW HP2
   by_cases hc2 : 0 < m2
   ·have he2 : rr2.e ≠ 0 := fun e => hgo2 ⟨hc2, e⟩
    have q1 : (rr2.e == 0) = false := beq_eq_false_iff_ne.2 he2
    have d1 := aR hc2
    have d2 : decide ((0 : Int) < (m2 : Int)) = true := aR (by omega)
    have hre : jl rr2 ≠ 0 := by unfold jl; rw [if_neg he2]; exact he2
    refine y59 ?_
    intro q2 HR
    clear hgo2 hre he2 hc2
    generalize jl rr2 = er at *
    go_wp2_with (first
         | (go_at_call 134; (with_reducible refine (HE2.out _ Cb).mono ?_); rintro x w21 ⟨rfl, rfl⟩)
         | (go_at_call 92; (with_reducible refine (HEn.out _ Cb).mono ?_); rintro x w22 ⟨rfl, rfl⟩))
    go_ret2
    exact HR.out _ _ rfl hb6
   ·have d1 := aM hc2
    have d2 : decide ((0 : Int) < (m2 : Int)) = false := aM (by omega)
    by_cases hre : jl rr2 = 0
    ·have q2 : (jl rr2 != 0) = false := by rw [bne_eq_false_iff_eq]; exact hre
     rw [hre] at HEn q2
     have hly : ls.length <= 2048 := by omega
     have hdy : dl.length <= 65536 := by omega
     by_cases hld : fF mk ls dl = 0
     ·have HLo := aq (fun (Y : World) (h1 : DotsIn Y am mk) (h2 : EvsIn Y ax ls) (h3 : DotsIn Y ad dl) => show Calls prog 138 #[.slice am mk.length cm, .slice ax ls.length cx, .slice ad dl.length cd] Y (Rq ⟨am, mk, cm, ax, ls, cx, ad, dl, cd⟩ Y) from Kw ⟨am, mk, cm, ax, ls, cx, ad, dl, cd⟩ Y hsm h1 h2 h3 hld)
      have HR : Hid (∀ x w', (∃ m b s, x = .returned (.tuple #[.pointer (some ⟨m, 0, none⟩), .int .i64 0]) /\ MpIn w' m b s /\ MInv s /\ Rel s ⟨mk, evs, dl⟩ /\ s.dead.length <= dl.length /\ (∀ x ∈ s.K, x.1 ∈ evs) /\ Below w.heap.size w w' /\ (∀ k, foot b s.A k -> w.heap.size <= k) /\ ∀ x ∈ s.K, Jt w.heap.size x) -> RetCLZ rr2 mk evs dl w x w') := fun x w' h1 => by unfold RetCLZ; rw [if_pos hre, if_pos (by rw [hevs, BC]; exact hld)]; exact h1
      clear hgo2 hre hc2 hld
      go_wp2_with (first
                 | (go_at_call 92; (with_reducible refine (HEn.out _ Cb).mono ?_); rintro x w22 ⟨rfl, rfl⟩)
                 | (go_at_call 138; have h9 := HLo.out _ WB.1 VJ.evs hdd; (with_reducible refine h9.mono ?_); rintro x w23 ⟨m9, b9, s9, rfl, hm9, hi9, hr9, hd9, hf9, hk9, hb9, ho9⟩))
      go_ret2
      exact HR.out _ _ ⟨m9, b9, s9, rfl, hm9, hi9, by rw [hevs]; exact hr9, hd9, fun x hx => by rw [hevs]; exact hk9 x hx, hb6.trans (hb9.mono hb6.size), fun k hk => Nat.le_trans hb6.size (hf9 k hk), fun x hx A off h1 h2 => Nat.le_trans hb6.size (ho9 x hx A off h1 h2)⟩
     ·have HLo := aq (fun (Y : World) (h1 : DotsIn Y am mk) (h2 : EvsIn Y ax ls) (h3 : DotsIn Y ad dl) => show Calls prog 138 #[.slice am mk.length cm, .slice ax ls.length cx, .slice ad dl.length cd] Y (fun x w' => x = .returned (.tuple #[.pointer none, .int .i64 (fF mk ls dl)]) /\ Below Y.heap.size Y w') from Oe ⟨am, mk, cm, ax, ls, cx, ad, dl, cd⟩ Y (by simp only; omega) (by simp only; omega) (by simp only; omega) hsm h1 h2 h3 hld)
      have HR : Hid (∀ x w', x = .returned (.tuple #[.pointer none, .int .i64 (fF mk ls dl)]) -> Below w.heap.size w w' -> RetCLZ rr2 mk evs dl w x w') := fun x w' h1 h2 => by unfold RetCLZ; rw [if_pos hre, if_neg (by rw [hevs, BC]; exact hld), hevs, BC]; exact ⟨h1, h2⟩
      clear hgo2 hre hc2 hld
      generalize fF mk ls dl = er at *
      go_wp2_with (first
                 | (go_at_call 92; (with_reducible refine (HEn.out _ Cb).mono ?_); rintro x w22 ⟨rfl, rfl⟩)
                 | (go_at_call 138; have h9 := HLo.out _ WB.1 VJ.evs hdd; (with_reducible refine h9.mono ?_); rintro x w23 ⟨rfl, hb9⟩))
      go_ret2
      exact HR.out _ _ rfl (hb6.trans (hb9.mono hb6.size))
    ·refine y59 ?_
     intro q2 HR
     clear hgo2 hre hc2
     generalize jl rr2 = er at *
     go_wp2_with (go_at_call 92; (with_reducible refine (HEn.out _ Cb).mono ?_); rintro x w22 ⟨rfl, rfl⟩)
     go_ret2
     exact HR.out _ _ rfl hb6) : p := h
theorem Lr (a:Option Addr) (cap:Nat) (l:Bytes) (w:World) (hl:l.length<=1048576) (hcap:l.length<=cap) (h:BytesIn w a l) {r:Rd} {c:List Dot} {K:List Ev} {d:List Dot} (hx:rD l=(r,c,K,d)) :
 Calls prog 93 #[.slice a l.length cap] w (RetCLZ r c K d w):=by
 obtain ⟨i0,hi,hz0,hz1,hz2⟩:=info_parts Tryz.infoEv;obtain ⟨j0,hj,hy0,hy1,hy2⟩:=info_parts Tryz.infoDot;have hRP:=aq (wX a cap l w h hcap);have f1:=J4 ⟨l,0⟩;have f1l:=J3 ⟨l,0⟩;have N1':=fun (R:Nat) (W:World) (h:RdAt W R ⟨l,0⟩)=>Px R ⟨l,0⟩ W (by simp only;omega) h;obtain ⟨r1,mk,h1⟩:∃ x y,jU ⟨l,0⟩=(x,y):=⟨_,_,rfl⟩;rw [h1] at f1 N1' f1l;unfold Jr at N1';simp only at f1 N1' f1l;have f2:=dA 2048 r1;have N2':∀ (R:Nat) (W:World),RdAt W R r1->Calls prog 89 #[.pointer (some ⟨R,0,none⟩),.int .u64 2048] W (gV R (bQ 2048 r1).1 (.int .u64 (bQ 2048 r1).2) W):=fun (R:Nat) (W:World) (h:RdAt W R r1)=>oQ R r1 2048 W (by omega) (by omega) h;obtain ⟨r2,N,h2⟩:∃ x y,bQ 2048 r1=(x,y):=⟨_,_,rfl⟩;rw [h2] at f2 N2';simp only at f2 N2';have f3:=Hl N r2;obtain ⟨r3,evs,h3⟩:∃ x y,oU N r2=(x,y):=⟨_,_,rfl⟩;rw [h3] at f3;simp only at f3;have f4:=dA 65536 r3;have N4':∀ (R:Nat) (W:World),RdAt W R r3->Calls prog 89 #[.pointer (some ⟨R,0,none⟩),.int .u64 65536] W (gV R (bQ 65536 r3).1 (.int .u64 (bQ 65536 r3).2) W):=fun (R:Nat) (W:World) (h:RdAt W R r3)=>oQ R r3 65536 W (by omega) (by omega) h;obtain ⟨r4,M,h4⟩:∃ x y,bQ 65536 r3=(x,y):=⟨_,_,rfl⟩;rw [h4] at f4 N4';simp only at f4 N4';obtain ⟨r5,ds,h5⟩:∃ x y,dS M r4=(x,y):=⟨_,_,rfl⟩;have hxx:rD l=(r5,mk,evs,ds):=by unfold rD;simp only [h1,h2,h3,h4,h5]
 rw [hxx] at hx;simp only [Prod.mk.injEq] at hx;obtain ⟨rfl,rfl,rfl,rfl⟩:=hx;have N1:=aq N1';have N2:=aq N2';have N4:=aq N4';have H3:=aq h3;have H4:=aq h4;have H5:=aq h5;have bN:=f2.2;have bM:=f4.2;have l2:r2.b.length<=1048576:=by omega
 have l4:r4.b.length<=1048576:=by omega
 clear N1' N2' N4' h1 h2 h3 h4 h5 f1 f2 f3 f4 hxx h;go_enter func93,ntmps93;go_upto_region 2 with (go_at_call 88;(with_reducible refine hRP.out.mono ?_);rintro x w1 ⟨rfl,hR1,hb1⟩)
 have hRl:=hR1.lt;obtain ⟨R,hRR⟩:∃ R,R=w.heap.size:=⟨_,rfl⟩;rw [<- hRR] at hR1 hRl ⊢;have HRE:=aq hRR;clear hRP hRR;go_upto_region 3 with (go_at_call 135;(with_reducible refine (N1.out _ _ hR1).mono ?_);rintro x w2 ⟨am,cm,rfl,hdm,hR2,hF2,hAm⟩)
 have hD2:DotsNew w2 (R+1) am mk:=⟨hdm,fun A off h=>by have:=hAm A off h;omega⟩;have hz2':=hF2.size;go_upto_region 5 with (go_at_call 89;(with_reducible refine (N2.out _ _ hR2).mono ?_);rintro x W ⟨rfl,hRW,hFW⟩)
 have hzW:=hFW.size;have hDW:=hD2.fr hFW (Nat.lt_succ_self R);have Wv:=hF2.again hFW;have hbW:Below w.heap.size w W:=hb1.trans (Wv.below (B:=w.heap.size) hb1.size (fun k hk=>by simp only [isR] at hk;have:=HRE.out;omega));have U0:R<W.heap.size:=by omega
 have HD:=aq (ba hDW hbW);have hEr:=aq (fun (rr:Rd) (W:World) (h:RdAt W R rr)=>Fa R rr W h);have hEg:=aq (fun (rr:Rd) (W:World) (hl:rr.b.length<=1073741824) (h:RdAt W R rr)=>Ti R rr W hl h);have hI0:QInv W W R r2 [] (.slice none 0 0):=⟨hRW,World.ownsRow_nil _ _ _ _,fun x hx=>by simp at hx,fun x hx=>by simp at hx,Fr.refl _ _⟩;clear hdm hR2 hF2 hAm hD2 hz2' hFW hzW hDW Wv hbW hR1 hb1 N1 N2 hRl;go_wp2;go_loopw [6,7] (fun u n wr=>∃ (m:Nat) (rr:Rd) (ls:List EvIt),n=.int .u64 m/\m+ls.length<=2048/\rr.b.length<=1048576/\EvsSmall ls/\QInv W wr R rr ls u/\oU N r2=((oU m rr).1,evsOf ls++(oU m rr).2)) (fun _ n _=>(intOf n).toNat)
 case atStart=>exact ⟨N,r2,[],rfl,by simp;omega,l2,fun x hx=>by simp at hx,hI0,by simp [evsOf]⟩
 case round =>
  obtain ⟨m,rr,ls,rfl,hmn,hrl,hsm,hI,hpre⟩:=hrel;have HP:=aq hpre;clear hpre hI0;have hzw:=hI.fr.size;have HE:=aq (fun (Y:World) (h:RdAt Y R rr)=>hEr.out rr Y h);obtain ⟨u,hu⟩:∃ u,u=u6:=⟨_,rfl⟩;rw [<- hu] at hI ⊢;clear hu;by_cases hgo:0<m/\rr.e=0
  ·obtain ⟨hm0,he0⟩:=hgo
   obtain ⟨j,rfl⟩:∃ j,m=j+1:=⟨m - 1,by omega⟩;have hq:(rr.e == 0)=true:=beq_iff_eq.2 he0;have Xk:decide (0<j+1)=true:=by simp
   refine y33 ?_
   intro hdi hwr
   have hf:=Me rr;have hsv:=NP rr;have HS:Hid (oU N r2=((oU j (rEv rr).1).1,(evsOf ls++[(rEv rr).2])++(oU j (rEv rr).1).2)):=by rw [Hid,HP.out,NM he0];simp
   have HG0:=hEg.out rr;obtain ⟨r2',ev,hrd⟩:∃ r2 d,rEv rr=(r2,d):=⟨_,_,rfl⟩;rw [hrd] at HG0 HS hf hsv;simp only at HG0 HS hf hsv;have HG:=aq (fun (Y:World) (h:RdAt Y R rr)=>HG0 Y (by omega) h);clear hrd HG0 HP he0 hm0;have iRd:=hI.rd;have Qo:=hI.own;have HI:=aq hI;have HSM:=aq hsm;have HSV:=aq hsv;clear hI hsm hsv;go_upto_region 7 with (go_at_call 134;(with_reducible refine (HE.out _ iRd).mono ?_);rintro x w10 ⟨rfl,rfl⟩)
   go_wp2_with (first
        | (go_at_call 136;(with_reducible refine (HG.out _ iRd).mono ?_);rintro x wd ⟨ae,ce,rfl,hde,Cb,hFd,hae⟩;have QU:=Bc Qo hFd (by omega);have hzd:=hFd.size)
        | (refine wpList_buildOne rfl 33 82 _ rfl (az ev ae ce).toArray 19 rfl rfl (by decide) (by decide) underlying33 (by kernel_rfl) (by kernel_rfl) ?_)
        | (at_builtin;go_loud (refine wpList_append_own_at _ rfl _ _ 33 rfl W.heap.size 82 i0 (.agg (az ev0 none 0).toArray) 19 176 underlying33 hi hz0 hz1 hz2 rfl (by decide) _ _ _ rfl (QU.alloc _) ⟨wd.heap.size,0,none⟩ 1 1 (az ev ae ce) rfl rfl (MN wd ev ae ce _) (gZ _ _ _) (by unfold maxLen;omega) (by omega) (by simp;omega) ?_)))
   intro v' wf BP hgrow _ hat;have hQ:=HI.out.next U0 Cb hFd hde hae BP hgrow (hat.imp id fun h=>h.trans (by simp));have hs2:EvsSmall (ls++[(ev,ae,ce)]):=by
        intro x hx;rcases List.mem_append.1 hx with hx | hx
        ·exact HSM.out x hx
        ·simp only [List.mem_singleton] at hx;subst hx;exact HSV.out
   have hev2:evsOf (ls++[(ev,ae,ce)])=evsOf ls++[ev]:=by simp [evsOf]
   have HZ:=aq (ba hQ (ba hs2 hev2));clear hQ hs2 hev2 BP hgrow hat QU Qo iRd Cb hFd hde hae;go_wp2;go_roundw
   case rel=>exact ⟨j,r2',ls++[(ev,ae,ce)],by go_num,by simp;omega,by omega,HZ.out.2.1,HZ.out.1,by rw [HZ.out.2.2];exact HS.out⟩
   case measure=>simp [intOf]
  ·have hend:oU m rr=(rr,[]):=by
        by_cases h0:m=0
        ·subst h0;rfl
        ·exact PS (fun e=>hgo ⟨by omega,e⟩)
   have hq:r3=rr/\evs=evsOf ls:=by
        have h1:=H3.out;rw [HP.out,hend] at h1;simp only [List.append_nil,Prod.mk.injEq] at h1;exact ⟨h1.1.symm,h1.2.symm⟩
   obtain ⟨rfl,hevs⟩:=hq;have Xt:=aq (fun (rr:Rd) (W:World) (h:RdAt W R rr) (hl:rr.b.length<=1073741824)=>Ui R rr W h hl);obtain ⟨ax,cx,hvx,hnE⟩:=EvsNew.of hI;have hrd:=hI.rd;have hFr:=hI.fr;have hDm:=HD.out.1.fr hFr (Nat.lt_succ_self R);have hbr:=HD.out.2.trans (hFr.below (B:=w.heap.size) HD.out.2.size (fun k hk=>by simp only [isR] at hk;have:=HRE.out;omega));have hDg:=aq (fun (rr:Rd) (W:World) (hl:rr.b.length<=1073741824) (h:RdAt W R rr)=>xJ R rr W hl h);clear hend HP H3;subst hvx;clear hI hEg hFr;by_cases hcase:0<m
   ·have he:r3.e≠0:=fun e=>hgo ⟨hcase,e⟩
    have q1:(r3.e == 0)=false:=beq_eq_false_iff_ne.2 he;have d1:=aR hcase;have d2:decide ((0:Int)<(m:Int))=true:=aR (by omega);clear hgo hcase he
    exact z1
   ·have d1:=aM hcase
    have d2:decide ((0:Int)<(m:Int))=false:=aM (by omega);clear hgo hcase
    exact z1
end Go.Proofs.YthphepeniaemoaaGreat
