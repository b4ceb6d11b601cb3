/- What may be loaded: ormap.fits, ormap.rising; the reference's Load. Conditions: as in the text. -/
import Derived.Test.YthphepeniaemoaaGreatIsB
set_option linter.unusedSimpArgs false
set_option linter.unusedVariables false
set_option linter.unnecessarySimpa false
set_option maxHeartbeats 16000000
set_option maxRecDepth 100000
open Go.Proofs.Tryz
namespace Go.Proofs.YthphepeniaemoaaGreat
open Go.RowKit
def jq:Option Dot->Dot->Bool
 | none,_=>true
 | some p,d=>bV p d
def lT (ls:List EvIt):Nat->Option Dot
 | 0=>none
 | k+1=>ls[k]?.map (·.1.dot)
def bJ (ctx:List Dot):Option Dot->List EvIt->Int
 | _,[]=>0
 | p,x :: r=>if dC x.1=true then (if jq p x.1.dot=true then (if iI ctx x.1.dot=true then bJ ctx (some x.1.dot) r else 4) else 6) else 1
def bY:Option Dot->List Dot->Int
 | _,[]=>0
 | p,d :: r=>if bi d=true then (if jq p d=true then bY (some d) r else 6) else 4
theorem Gh (ctx:List Dot) (ls:List EvIt) (k:Nat) (h:k<ls.length):bJ ctx (lT ls k) (ls.drop k)=if dC ls[k].1=true then (if jq (lT ls k) ls[k].1.dot=true then (if iI ctx ls[k].1.dot=true then bJ ctx (lT ls (k+1)) (ls.drop (k+1)) else 4) else 6) else 1:=by
 rw [List.drop_eq_getElem_cons h,bJ];have:lT ls (k+1)=some ls[k].1.dot:=by simp [lT,h]
 rw [this]
theorem FK (l:List Dot) (k:Nat) (h:k<l.length):bY (bF l k) (l.drop k)=if bi l[k]=true then (if jq (bF l k) l[k]=true then bY (bF l (k+1)) (l.drop (k+1)) else 6) else 4:=by
 rw [List.drop_eq_getElem_cons h,bY];have:bF l (k+1)=some l[k]:=by simp [bF,h]
 rw [this]
theorem zn (ctx:List Dot) (p:Option Dot):bJ ctx p []=0:=by cases p <;> rfl
theorem yS (p:Option Dot):bY p []=0:=by cases p <;> rfl
theorem fits_any {v b:Nat} {ctx:List Dot} (a:Option Addr) (cap:Nat) (ls:List EvIt) (w:World) (hV:VecIn w v b ctx) (hl:ls.length<=1073741824) (hsm:EvsSmall ls) (hE:EvsIn w a ls) :
 Calls prog 180 #[.pointer (some ⟨v,0,none⟩),.slice a ls.length cap] w fun x w'=>x=.returned (.int .i64 (bJ ctx none ls))/\Below w.heap.size w w':=by
 have HM:Hid (bJ ctx none ls=bJ ctx (lT ls 0) (ls.drop 0)):=rfl;have HLs:=aa (fun (x y:Dot) (X:World)=>BJ x y X);have HSM:=aa hsm;clear hsm;go_enter func180,ntmps180;go_wp2;go_loopw [9] (fun i wr=>∃ k:Nat,k<=ls.length/\i=.int .i64 k/\bJ ctx none ls=bJ ctx (lT ls k) (ls.drop k)/\Below w.heap.size w wr) (fun i _=>ls.length - (intOf i).toNat)
 case atStart=>exact ⟨0,Nat.zero_le _,rfl,HM.out,bb _ _⟩
 case round =>
  obtain ⟨k,hk,rfl,hpre,hbw⟩:=hrel;have HP:=aa hpre;clear hpre HM;have hzw:=hbw.size;by_cases hlt:k<ls.length
  ·have hst:=Gh ctx ls k hlt
   obtain ⟨A,off,rfl,hra,hda⟩:=(hE.kept hbw).at hlt;have r1:=hra k hlt;have hse:=HSM.out _ (List.getElem_mem hlt);have HT:Hid (bJ ctx none ls=if dC ls[k].1=true then (if jq (lT ls k) ls[k].1.dot=true then (if iI ctx ls[k].1.dot=true then bJ ctx (lT ls (k+1)) (ls.drop (k+1)) else 4) else 6) else 1):=by rw [Hid,HP.out,hst]
   have HRA:=aa hra;clear hst HP hra;generalize ls[k]=x at r1 hse hda HT;obtain ⟨e,ax,cx⟩:=x;simp only [kT] at r1;simp only at hse hda HT;go_upto_region 4 with (first
        | ((with_reducible refine bu _ A (off+k * 19) e ax cx r1 ?_ rfl ?_);exact rfl)
        | (refine bK 82 _ _ _ (ah e ax cx).toArray rfl rfl (by kernel_rfl) rfl (by kernel_rfl) ?_))
   refine aN (fun V hVn=>?_);have hbV:Below wr.heap.size wr V:=by rw [hVn.out];exact (bb _ _).alloc (aq _) _
   have re:V.rangeAt wr.heap.size 0 (ah e ax cx):=by rw [hVn.out];exact dA e ax cx wr _
   have hR0:=fO e ax cx V hse (hda.kept hbV);have hbB:=hbw.trans (hbV.mono hzw);generalize wr.heap.size=B at *;clear hVn r1 hda hbV
   cases h1:dC e with
   | false =>
     have HE:Hid (bJ ctx none ls=1):=by rw [Hid,HT.out,h1];rfl
     rw [h1] at hR0;have HR:=aa hR0;clear hR0 h1 HT;go_wp2_with (first
      | ((with_reducible refine bu _ B 0 e ax cx re ?_ rfl ?_);exact rfl)
      | (go_at_call 52;(with_reducible refine HR.out.mono ?_);rintro v9 w9 ⟨rfl,hb9⟩))
     go_ret;exact ⟨fC HE.out.symm,hbB.trans (hb9.mono hbB.size)⟩
   | true =>
     have HT1:Hid (bJ ctx none ls=if jq (lT ls k) e.dot=true then (if iI ctx e.dot=true then bJ ctx (lT ls (k+1)) (ls.drop (k+1)) else 4) else 6):=by rw [Hid,HT.out,h1];rfl
     rw [h1] at hR0;have HR:=aa hR0;clear hR0 h1 HT;go_upto_region 6 with (first
      | ((with_reducible refine bu _ B 0 e ax cx re ?_ rfl ?_);exact rfl)
      | (go_at_call 52;(with_reducible refine HR.out.mono ?_);rintro v9 wp ⟨rfl,hb9⟩))
     have rp:=ai re hb9;replace hbB:=hbB.trans (hb9.mono hbB.size);have b0:=rp 0 _ rfl;have b1:=rp 1 _ rfl;have b2:=rp 2 _ rfl;simp only [av] at b0 b1 b2;clear re rp hb9 HR;rcases Nat.eq_zero_or_pos k with hk0 | hk0
     ·refine y71 ?_
      intro OU hdk
      have HT2:Hid (bJ ctx none ls=if iI ctx e.dot=true then bJ ctx (lT ls (k+1)) (ls.drop (k+1)) else 4):=by rw [Hid,HT1.out];subst hk0;rfl
      clear HT1 hk0;go_upto_region 6 with fail
      refine y22 ?_
      intro WA hWA hbA
      have pb0:∀ i:After WA,i.w.cell? ⟨B,0,none⟩=some (.int .i64 e.dot.a.dev):=fun i=>i.cell (kept hbA b0);have pb1:∀ i:After WA,i.w.cell? ⟨B,1,none⟩=some (.int .i64 e.dot.a.inc):=fun i=>i.cell (kept hbA b1);have pb2:∀ i:After WA,i.w.cell? ⟨B,2,none⟩=some (.int .i64 e.dot.seq):=fun i=>i.cell (kept hbA b2);clear hWA;iterate 15 go_big_quiet_step (fail)
      refine wpQuiet_nil ?_;rintro _ ⟨i,rfl⟩;have hiA:=i.h;generalize i.w=wq at hiA ⊢;have hbY:Below wp.heap.size wp wq:=below2 hbA hiA;clear hbA hiA pb0 pb1 pb2;have hVq:=hV.kept (hbB.trans (hbY.mono hbB.size));have q0:=kept hbY b0;have q1:=kept hbY b1;have q2:=kept hbY b2;have hbQ:=hbB.trans (hbY.mono hbB.size);have hH0:=Ag e.dot wq hVq;clear b0 b1 b2 hbY hbB hVq
      cases h3:iI ctx e.dot with
      | false =>
        have HE:Hid (bJ ctx none ls=4):=by unfold Hid;rw [HT2.out,h3];rfl
        rw [h3] at hH0;have HH:=aa hH0;clear hH0 h3 HT2;go_wp2_with (go_at_call 53;(with_reducible refine HH.out.mono ?_);rintro v9 w9 ⟨rfl,hb9⟩)
        go_ret;exact ⟨fC HE.out.symm,hbQ.trans (hb9.mono hbQ.size)⟩
      | true =>
        have HE:Hid (bJ ctx none ls=bJ ctx (lT ls (k+1)) (ls.drop (k+1))):=by unfold Hid;rw [HT2.out,h3];rfl
        rw [h3] at hH0;have HH:=aa hH0;clear hH0 h3 HT2;go_wp2_with (go_at_call 53;(with_reducible refine HH.out.mono ?_);rintro v9 w9 ⟨rfl,hb9⟩)
        go_roundw
        case rel=>exact ⟨k+1,by omega,by go_num,HE.out,hbQ.trans (hb9.mono hbQ.size)⟩
        case measure => exact z69
     ·obtain ⟨j,rfl⟩:∃ j,k=j+1:=⟨k - 1,by omega⟩
      have hj:j<ls.length:=by omega
      obtain ⟨A',off',hA',UQ,_⟩:=(hE.kept hbB).at hj;have hAA:A'=A/\off'=off:=by cases hA';exact ⟨rfl,rfl⟩
      rw [hAA.1,hAA.2] at UQ;have ry:=UQ j hj;have hpv:lT ls (j+1)=some ls[j].1.dot:=by simp [lT,hj]
      rw [hpv] at HT1;clear UQ hA' hAA HRA hpv;generalize ls[j]=y at ry HT1;obtain ⟨y,ay,cy⟩:=y;simp only [kT] at ry;simp only at HT1;have f0:=ry 0 _ rfl;have f1:=ry 1 _ rfl;have f2:=ry 2 _ rfl;simp only [Nat.add_zero] at f0;have hC0:=fun (W:World)=>HLs.out y.dot e.dot W
      refine y23 ?_
      intro hdk hww
      clear ry hk0
      cases h2:bV y.dot e.dot with
      | false =>
        have HE:Hid (bJ ctx none ls=6):=by rw [Hid,HT1.out];simp [jq,h2]
        rw [h2] at hC0;clear h2 HT1;go_upto_region 6 with fail
        refine aH (by kernel_rfl) (by kernel_rfl) (fun WA hWA=>?_);have hbA:Below wp.heap.size wp WA:=by rw [hWA.out];go_grown
        have pb0:∀ i:After WA,i.w.cell? ⟨B,0,none⟩=some (.int .i64 e.dot.a.dev):=fun i=>i.cell (kept hbA b0);have pb1:∀ i:After WA,i.w.cell? ⟨B,1,none⟩=some (.int .i64 e.dot.a.inc):=fun i=>i.cell (kept hbA b1);have pb2:∀ i:After WA,i.w.cell? ⟨B,2,none⟩=some (.int .i64 e.dot.seq):=fun i=>i.cell (kept hbA b2);have pf0:∀ i:After WA,i.w.cell? ⟨A,off+j * 19,none⟩=some (.int .i64 y.dot.a.dev):=fun i=>i.cell (kept hbA f0);have pf1:∀ i:After WA,i.w.cell? ⟨A,off+j * 19+1,none⟩=some (.int .i64 y.dot.a.inc):=fun i=>i.cell (kept hbA f1);have pf2:∀ i:After WA,i.w.cell? ⟨A,off+j * 19+2,none⟩=some (.int .i64 y.dot.seq):=fun i=>i.cell (kept hbA f2);clear hWA;iterate 11 go_big_quiet_step (fail)
        go_big_quiet_step (exact Calls.after (hC0 _))
        iterate 3 go_big_quiet_step (fail)
        refine wpQuiet_nil ?_;rintro _ ⟨i,rfl⟩;have hiA:=i.h;generalize i.w=wq at hiA ⊢;have hbY:Below wp.heap.size wp wq:=below2 hbA hiA;clear hbA hiA pb0 pb1 pb2 pf0 pf1 pf2;go_wp2;go_ret;exact ⟨fC HE.out.symm,hbB.trans (hbY.mono hbB.size)⟩
      | true =>
        have HT2:Hid (bJ ctx none ls=if iI ctx e.dot=true then bJ ctx (lT ls (j+1+1)) (ls.drop (j+1+1)) else 4):=by rw [Hid,HT1.out];simp [jq,h2]
        rw [h2] at hC0;clear h2 HT1;go_upto_region 6 with fail
        refine aH (by kernel_rfl) (by kernel_rfl) (fun WA hWA=>?_);have hbA:Below wp.heap.size wp WA:=by rw [hWA.out];go_grown
        have pb0:∀ i:After WA,i.w.cell? ⟨B,0,none⟩=some (.int .i64 e.dot.a.dev):=fun i=>i.cell (kept hbA b0);have pb1:∀ i:After WA,i.w.cell? ⟨B,1,none⟩=some (.int .i64 e.dot.a.inc):=fun i=>i.cell (kept hbA b1);have pb2:∀ i:After WA,i.w.cell? ⟨B,2,none⟩=some (.int .i64 e.dot.seq):=fun i=>i.cell (kept hbA b2);have pf0:∀ i:After WA,i.w.cell? ⟨A,off+j * 19,none⟩=some (.int .i64 y.dot.a.dev):=fun i=>i.cell (kept hbA f0);have pf1:∀ i:After WA,i.w.cell? ⟨A,off+j * 19+1,none⟩=some (.int .i64 y.dot.a.inc):=fun i=>i.cell (kept hbA f1);have pf2:∀ i:After WA,i.w.cell? ⟨A,off+j * 19+2,none⟩=some (.int .i64 y.dot.seq):=fun i=>i.cell (kept hbA f2);clear hWA;iterate 11 go_big_quiet_step (fail)
        go_big_quiet_step (exact Calls.after (hC0 _))
        iterate 3 go_big_quiet_step (fail)
        refine wpQuiet_nil ?_;rintro _ ⟨i,rfl⟩;have hiA:=i.h;generalize i.w=wq at hiA ⊢;have hbY:Below wp.heap.size wp wq:=below2 hbA hiA;clear hbA hiA pb0 pb1 pb2 pf0 pf1 pf2;clear hC0 hww hdk f0 f1 f2;have hVq:=hV.kept (hbB.trans (hbY.mono hbB.size));have q0:=kept hbY b0;have q1:=kept hbY b1;have q2:=kept hbY b2;have hbQ:=hbB.trans (hbY.mono hbB.size);have hH0:=Ag e.dot wq hVq;clear b0 b1 b2 hbY hbB hVq
        cases h3:iI ctx e.dot with
        | false =>
          have HE:Hid (bJ ctx none ls=4):=by unfold Hid;rw [HT2.out,h3];rfl
          rw [h3] at hH0;have HH:=aa hH0;clear hH0 h3 HT2;go_wp2_with (go_at_call 53;(with_reducible refine HH.out.mono ?_);rintro v9 w9 ⟨rfl,hb9⟩)
          go_ret;exact ⟨fC HE.out.symm,hbQ.trans (hb9.mono hbQ.size)⟩
        | true =>
          have HE:Hid (bJ ctx none ls=bJ ctx (lT ls ((j+1)+1)) (ls.drop ((j+1)+1))):=by unfold Hid;rw [HT2.out,h3];rfl
          rw [h3] at hH0;have HH:=aa hH0;clear hH0 h3 HT2;go_wp2_with (go_at_call 53;(with_reducible refine HH.out.mono ?_);rintro v9 w9 ⟨rfl,hb9⟩)
          go_roundw
          case rel=>exact ⟨(j+1)+1,by omega,by go_num,HE.out,hbQ.trans (hb9.mono hbQ.size)⟩
          case measure => exact z69
  ·have HE:Hid (bJ ctx none ls=0):=by rw [Hid,HP.out,List.drop_eq_nil_of_le (by omega)];exact zn _ _
   exact z146
/-! ### rising -/
theorem AB (a:Option Addr) (cap:Nat) (l:List Dot) (w:World) (hl:l.length<=1073741824) (hd:DotsIn w a l) :
 Calls prog 181 #[.slice a l.length cap] w fun x w'=>x=.returned (.int .i64 (bY none l))/\Below w.heap.size w w':=by
 have HM:Hid (bY none l=bY (bF l 0) (l.drop 0)):=rfl;have HLs:=aa (fun (x y:Dot) (X:World)=>BJ x y X);go_enter func181,ntmps181;go_wp2;go_loopw [7] (fun i wr=>∃ k:Nat,k<=l.length/\i=.int .i64 k/\bY none l=bY (bF l k) (l.drop k)/\Below w.heap.size w wr) (fun i _=>l.length - (intOf i).toNat)
 case atStart=>exact ⟨0,Nat.zero_le _,rfl,HM.out,bb _ _⟩
 case round =>
  obtain ⟨k,hk,rfl,hpre,hbw⟩:=hrel;have HP:=aa hpre;clear hpre HM;have hzw:=hbw.size;by_cases hlt:k<l.length
  ·have hst:=FK l k hlt
   obtain ⟨A,off,rfl,e0,e1,e2⟩:=(hd.kept hbw).at hlt;have HT:Hid (bY none l=if bi l[k]=true then (if jq (bF l k) l[k]=true then bY (bF l (k+1)) (l.drop (k+1)) else 6) else 4):=by rw [Hid,HP.out,hst]
   clear hst HP;generalize l[k]=x at e0 e1 e2 HT;go_upto_region 4 with fail
   refine aN (fun V hVn=>?_);have hbV:Below wr.heap.size wr V:=by rw [hVn.out];go_grown
   have b0:V.cell? ⟨wr.heap.size,0,none⟩=some (.int .i64 x.a.dev):=by rw [hVn.out];go_simp
   have b1:V.cell? ⟨wr.heap.size,1,none⟩=some (.int .i64 x.a.inc):=by rw [hVn.out];go_simp
   have b2:V.cell? ⟨wr.heap.size,2,none⟩=some (.int .i64 x.seq):=by rw [hVn.out];go_simp
   have hR0:=fun (X:World)=>iG x X;have hbB:=hbw.trans (hbV.mono hzw);generalize wr.heap.size=B at *;clear hVn e0 e1 e2 hbV
   cases h1:bi x with
   | false =>
     have HE:Hid (bY none l=4):=by rw [Hid,HT.out,h1];rfl
     rw [h1] at hR0;have HR:=aa hR0;clear hR0 h1 HT;go_wp2_with (go_at_call 104;(with_reducible refine (HR.out _).mono ?_);rintro v9 w9 ⟨rfl,hb9⟩)
     go_ret;exact ⟨fC HE.out.symm,hbB.trans (hb9.mono hbB.size)⟩
   | true =>
     have HT1:Hid (bY none l=if jq (bF l k) x=true then bY (bF l (k+1)) (l.drop (k+1)) else 6):=by rw [Hid,HT.out,h1];rfl
     rw [h1] at hR0;have HR:=aa hR0;clear hR0 h1 HT;go_upto_region 6 with (go_at_call 104;(with_reducible refine (HR.out _).mono ?_);rintro v9 wp ⟨rfl,hb9⟩)
     replace b0:=kept hb9 b0;replace b1:=kept hb9 b1;replace b2:=kept hb9 b2;replace hbB:=hbB.trans (hb9.mono hbB.size);clear hb9 HR;rcases Nat.eq_zero_or_pos k with hk0 | hk0
     ·refine y71 ?_
      intro OU hdk
      have HE:Hid (bY none l=bY (bF l (k+1)) (l.drop (k+1))):=by rw [Hid,HT1.out];subst hk0;rfl
      clear HT1 hk0;go_upto_region 6 with fail
      refine y22 ?_
      intro WA hWA hbA
      have pb0:∀ i:After WA,i.w.cell? ⟨B,0,none⟩=some (.int .i64 x.a.dev):=fun i=>i.cell (kept hbA b0);have pb1:∀ i:After WA,i.w.cell? ⟨B,1,none⟩=some (.int .i64 x.a.inc):=fun i=>i.cell (kept hbA b1);have pb2:∀ i:After WA,i.w.cell? ⟨B,2,none⟩=some (.int .i64 x.seq):=fun i=>i.cell (kept hbA b2);clear hWA;iterate 13 go_big_quiet_step (fail)
      refine wpQuiet_nil ?_;rintro _ ⟨i,rfl⟩;have hiA:=i.h;generalize i.w=wq at hiA ⊢;have hbY:Below wp.heap.size wp wq:=below2 hbA hiA;clear hbA hiA pb0 pb1 pb2;go_wp2;go_roundw
      case rel=>exact ⟨k+1,by omega,by go_num,HE.out,hbB.trans (hbY.mono hbB.size)⟩
      case measure => exact z69
     ·obtain ⟨j,rfl⟩:∃ j,k=j+1:=⟨k - 1,by omega⟩
      have hj:j<l.length:=by omega
      obtain ⟨A',off',hA',f0,f1,f2⟩:=(hd.kept hbB).at hj;have hAA:A'=A/\off'=off:=by cases hA';exact ⟨rfl,rfl⟩
      rw [hAA.1,hAA.2] at f0 f1 f2;have hpv:bF l (j+1)=some l[j]:=by simp [bF,hj]
      rw [hpv] at HT1;clear hA' hAA hpv;generalize l[j]=y at f0 f1 f2 HT1;have hC0:=fun (W:World)=>HLs.out y x W
      refine y23 ?_
      intro hdk hww
      clear hk0
      cases h2:bV y x with
      | false =>
        have HE:Hid (bY none l=6):=by rw [Hid,HT1.out];simp [jq,h2]
        rw [h2] at hC0;clear h2 HT1;go_upto_region 6 with fail
        refine aH (by kernel_rfl) (by kernel_rfl) (fun WA hWA=>?_);have hbA:Below wp.heap.size wp WA:=by rw [hWA.out];go_grown
        have pb0:∀ i:After WA,i.w.cell? ⟨B,0,none⟩=some (.int .i64 x.a.dev):=fun i=>i.cell (kept hbA b0);have pb1:∀ i:After WA,i.w.cell? ⟨B,1,none⟩=some (.int .i64 x.a.inc):=fun i=>i.cell (kept hbA b1);have pb2:∀ i:After WA,i.w.cell? ⟨B,2,none⟩=some (.int .i64 x.seq):=fun i=>i.cell (kept hbA b2);have pf0:∀ i:After WA,i.w.cell? ⟨A,off+j * 3,none⟩=some (.int .i64 y.a.dev):=fun i=>i.cell (kept hbA f0);have pf1:∀ i:After WA,i.w.cell? ⟨A,off+j * 3+1,none⟩=some (.int .i64 y.a.inc):=fun i=>i.cell (kept hbA f1);have pf2:∀ i:After WA,i.w.cell? ⟨A,off+j * 3+2,none⟩=some (.int .i64 y.seq):=fun i=>i.cell (kept hbA f2);clear hWA;iterate 9 go_big_quiet_step (fail)
        go_big_quiet_step (exact Calls.after (hC0 _))
        iterate 3 go_big_quiet_step (fail)
        refine wpQuiet_nil ?_;rintro _ ⟨i,rfl⟩;have hiA:=i.h;generalize i.w=wq at hiA ⊢;have hbY:Below wp.heap.size wp wq:=below2 hbA hiA;clear hbA hiA pb0 pb1 pb2 pf0 pf1 pf2;go_wp2;go_ret;exact ⟨fC HE.out.symm,hbB.trans (hbY.mono hbB.size)⟩
      | true =>
        have HE:Hid (bY none l=bY (bF l (j+1+1)) (l.drop (j+1+1))):=by rw [Hid,HT1.out];simp [jq,h2]
        rw [h2] at hC0;clear h2 HT1;go_upto_region 6 with fail
        refine aH (by kernel_rfl) (by kernel_rfl) (fun WA hWA=>?_);have hbA:Below wp.heap.size wp WA:=by rw [hWA.out];go_grown
        have pb0:∀ i:After WA,i.w.cell? ⟨B,0,none⟩=some (.int .i64 x.a.dev):=fun i=>i.cell (kept hbA b0);have pb1:∀ i:After WA,i.w.cell? ⟨B,1,none⟩=some (.int .i64 x.a.inc):=fun i=>i.cell (kept hbA b1);have pb2:∀ i:After WA,i.w.cell? ⟨B,2,none⟩=some (.int .i64 x.seq):=fun i=>i.cell (kept hbA b2);have pf0:∀ i:After WA,i.w.cell? ⟨A,off+j * 3,none⟩=some (.int .i64 y.a.dev):=fun i=>i.cell (kept hbA f0);have pf1:∀ i:After WA,i.w.cell? ⟨A,off+j * 3+1,none⟩=some (.int .i64 y.a.inc):=fun i=>i.cell (kept hbA f1);have pf2:∀ i:After WA,i.w.cell? ⟨A,off+j * 3+2,none⟩=some (.int .i64 y.seq):=fun i=>i.cell (kept hbA f2);clear hWA;iterate 9 go_big_quiet_step (fail)
        go_big_quiet_step (exact Calls.after (hC0 _))
        iterate 3 go_big_quiet_step (fail)
        refine wpQuiet_nil ?_;rintro _ ⟨i,rfl⟩;have hiA:=i.h;generalize i.w=wq at hiA ⊢;have hbY:Below wp.heap.size wp wq:=below2 hbA hiA;clear hbA hiA pb0 pb1 pb2 pf0 pf1 pf2;clear hC0 hww hdk f0 f1 f2;go_wp2;go_roundw
        case rel=>exact ⟨j+1+1,by omega,by go_num,HE.out,hbB.trans (hbY.mono hbB.size)⟩
        case measure => exact z69
  ·have HE:Hid (bY none l=0):=by rw [Hid,HP.out,List.drop_eq_nil_of_le (by omega)];exact yS _
   exact z146
def or2 (f r:Int):Int:=if f=0 then r else f
def fF (ctx:List Dot) (K:List EvIt) (dead:List Dot):Int:=or2 (aZ ctx) (if 2048<K.length\/65536<dead.length then 3 else or2 (bJ ctx none K) (bY none dead))
theorem FC {w:World} {g i:Nat} {cs:Array Value} {t:TypeId} {f:Nat×Nat} {v:Value} (hg:w.heap[g]?=some (.cells cs t f)):(w.setCell ⟨g,i,none⟩ v).heap[g]?=some (.cells (cs.setIfInBounds i v) t f):=by
 simp only [World.setCell,Array.getElem?_modify,if_pos,hg];simp
/-- a new map with a context of its own -/
theorem Kv {w:World} {m v vb:Nat} {b:MB} {ctx:List Dot} (h:MpIn w m b MS.empty) (hv:VecIn w v vb ctx) (hn:∀ k,foot b [] k->k≠vb) :
 MpIn (w.setCell ⟨m,3,none⟩ (.pointer (some ⟨v,0,none⟩))) m ⟨b.kb,b.ab,b.db,v,vb⟩ ⟨ctx,[],[],[],[]⟩:=by
 have hk:∀ k,k≠m->(w.setCell ⟨m,3,none⟩ (.pointer (some ⟨v,0,none⟩))).heap[k]?=w.heap[k]?:=fun k hk=>heap_setCell_other _ _ _ _ (fun e=>hk e.symm);have hmf:∀ k,foot b MS.empty.A k->k≠m:=fun k hk e=>by
  obtain ⟨es,cl,h1⟩:=h.maps hk;rw [e,h.cell] at h1
  cases h1
 have hvm:v≠m:=fun e=>by
  have h1:=hv.cell;rw [e,h.cell] at h1;simp at h1
 have XH:vb≠m:=fun e=>by
  obtain ⟨es,cl,h1⟩:=hv.tab.mapped;rw [e,h.cell] at h1
  cases h1
 obtain ⟨n1,n2,n3,n4,n5,n6,n7,n8⟩:=ji h.nodup;refine ⟨?_,hv.block (hk _ hvm) (hk _ XH),h.kept.block (hk _ (hmf _ (jK b _))),fun x hx=>(nomatch hx),h.dead.block (hk _ (hmf _ (iW b _))),h.alive.block (hk _ (hmf _ (gZ b _))),fun p hp=>(nomatch hp),fun p hp=>(nomatch hp),fun p hp=>(nomatch hp),?_⟩
 ·exact (FC h.cell).trans rfl
 ·simp only [blocks,List.map_nil,List.nodup_cons,List.mem_cons,List.not_mem_nil,or_false,not_or,not_false_eq_true,and_true,List.nodup_nil]
  exact ⟨⟨n1,n2,hn _ (jK b _)⟩,⟨n4,hn _ (gZ b _)⟩,hn _ (iW b _)⟩
def uI (e:Ev):Key×Dot:=(e.key,e.dot)
def BG (D:List Dot) (e:Ev):Bool:=decide (e.kind=1) && !decide (e.dot∈D)
/-- a map behind the first kept events that are loaded -/
structure LoadK (ctx D:List Dot) (E:List Ev) (s:MS):Prop where
 ctx:s.ctx=ctx
 dead:s.dead=D
 kept:evsOf s.K=E.reverse
 pairs:s.pairs=(E.reverse.filter (BG D)).map uI
theorem LoadK.dots {ctx D:List Dot} {E:List Ev} {s:MS} (h:LoadK ctx D E s):∀ x∈s.K,x.1∈E:=fun x hx=>by
 have:x.1∈evsOf s.K:=List.mem_map_of_mem hx;rw [h.kept,List.mem_reverse] at this;exact this
theorem z144 {p : Prop} (h : p := by
 subst hd
 rcases List.mem_cons.1 hz with rfl | hz
 ·exact h2
 ·exact iU h2 (i3 _ rfl z hz)) : p := h
theorem CO (ctx:List Dot):∀ (K:List EvIt) (p:Option Dot),bJ ctx p K=0->(∀ x∈K,dC x.1=true/\iI ctx x.1.dot=true)/\yM (evsOf K)/\∀ d,p=some d->∀ x∈K,bV d x.1.dot=true
 | [],_,_=>⟨fun x hx=>(nomatch hx),List.Pairwise.nil,fun d _ x hx=>(nomatch hx)⟩
 | x :: K,p,h=>by
   unfold bJ at h;split at h
   ·rename_i h1
    split at h
    ·rename_i h2
     split at h
     ·rename_i h3
      obtain ⟨i1,i2,i3⟩:=CO ctx K _ h;refine ⟨fun z hz=>?_,List.pairwise_cons.2 ⟨fun e he=>?_,i2⟩,fun d hd z hz=>?_⟩
      ·rcases List.mem_cons.1 hz with rfl | hz
       ·exact ⟨h1,h3⟩
       ·exact i1 z hz
      ·obtain ⟨z,hz,rfl⟩:=List.mem_map.1 he
       exact i3 _ rfl z hz
      ·exact z144
     ·cases h
    ·cases h
   ·cases h
theorem AC:∀ (l:List Dot) (p:Option Dot),bY p l=0->(∀ d∈l,bi d=true)/\SrtD l/\∀ d,p=some d->∀ x∈l,bV d x=true
 | [],_,_=>⟨fun x hx=>(nomatch hx),List.Pairwise.nil,fun d _ x hx=>(nomatch hx)⟩
 | x :: l,p,h=>by
   unfold bY at h;split at h
   ·rename_i h1
    split at h
    ·rename_i h2
     obtain ⟨i1,i2,i3⟩:=AC l _ h;refine ⟨fun z hz=>?_,List.pairwise_cons.2 ⟨fun z hz=>i3 _ rfl z hz,i2⟩,fun d hd z hz=>?_⟩
     ·rcases List.mem_cons.1 hz with rfl | hz
      ·exact h1
      ·exact i1 z hz
     ·exact z144
    ·cases h
   ·cases h
/-- what may be loaded -/
structure LoadOk (C:List Dot) (E:List Ev) (Dd:List Dot):Prop where
 ctx:o7 C
 ctxOk:∀ d∈C,bi d=true
 kept:∀ e∈E,dC e=true/\iI C e.dot=true
 srt:yM E
 dead:∀ d∈Dd,bi d=true
 dsrt:SrtD Dd
 len:E.length<=2048
 dlen:Dd.length<=65536
 clen:C.length<=4096
theorem KD {ctx:List Dot} {K:List EvIt} {dead:List Dot} (h:fF ctx K dead=0):(aZ ctx=0/\¬ (2048<K.length)/\¬ (65536<dead.length)/\bJ ctx none K=0/\bY none dead=0)/\LoadOk ctx (evsOf K) dead:=by
 unfold fF or2 at h;by_cases h1:aZ ctx=0
 ·rw [if_pos h1] at h
  by_cases h2:2048<K.length\/65536<dead.length
  ·rw [if_pos h2] at h;cases h
  ·rw [if_neg h2] at h
   by_cases h3:bJ ctx none K=0
   ·rw [if_pos h3] at h
    obtain ⟨a1,a2,a3⟩:=yU h1;obtain ⟨b1,b2,_⟩:=CO ctx K none h3;obtain ⟨c1,c2,_⟩:=AC dead none h;refine ⟨⟨h1,by omega,by omega,h3,h⟩,⟨a3,a2,fun e he=>?_,b2,c1,c2,by rw [aQ];omega,by omega,a1⟩⟩;obtain ⟨x,hx,rfl⟩:=List.mem_map.1 he;exact b1 x hx
   ·rw [if_neg h3] at h
    exact absurd h h3
 ·rw [if_neg h1] at h
  exact absurd h h1
theorem LoadK.done {ctx dead D:List Dot} {E:List Ev} {s:MS} (h:LoadK ctx D E s) (ho:LoadOk ctx E dead) (hD:∀ d,d∈D↔d∈dead):MInv s/\Rel s ⟨ctx,E,dead⟩:=by
 have hne:(E.reverse.map (·.dot)).Nodup:=by
  rw [List.map_reverse];exact List.pairwise_reverse.2 (List.pairwise_map.2 (ho.srt.imp fun {a b} h e=>by rw [e,eP] at h;cases h))
 have hnd:(s.K.map (·.1.dot)).Nodup:=by
  have h1:s.K.map (·.1.dot)=(evsOf s.K).map (·.dot):=by unfold evsOf;rw [List.map_map];rfl
  rw [h1,h.kept];exact hne
 have hmem:∀ e,(∃ x∈s.K,x.1=e)↔e∈E:=fun e=>by
  rw [<- List.mem_reverse,<- h.kept];exact (List.mem_map (f:=fun x:EvIt=>x.1)).symm
 refine ⟨⟨by rw [h.ctx];exact ho.ctx,by rw [h.ctx];exact ho.ctxOk,fun x hx=>by rw [h.ctx];exact ho.kept _ (h.dots x hx),fun k d=>?_,?_,fun d hd=>ho.dead d (by rw [h.dead] at hd;exact (hD d).1 hd),?_⟩,⟨hnd,h.ctx.symm,?_,?_⟩⟩
 ·rw [h.pairs,List.mem_map,h.dead]
  constructor
  ·rintro ⟨e,he,e9⟩
   obtain ⟨h1,h2⟩:=List.mem_filter.1 he;obtain ⟨x,hx,rfl⟩:=(hmem e).2 (List.mem_reverse.1 h1);simp only [BG,Bool.and_eq_true,decide_eq_true_eq,Bool.not_eq_true',decide_eq_false_iff_not] at h2;simp only [uI,Prod.mk.injEq] at e9;exact ⟨x,hx,h2.1,e9.2,e9.1,by rw [<- e9.2];exact h2.2⟩
  ·rintro ⟨x,hx,h1,rfl,rfl,h2⟩
   refine ⟨x.1,List.mem_filter.2 ⟨List.mem_reverse.2 (h.dots x hx),?_⟩,rfl⟩;simp only [BG,Bool.and_eq_true,decide_eq_true_eq,Bool.not_eq_true',decide_eq_false_iff_not];exact ⟨h1,h2⟩
 ·rw [h.pairs]
  have h1:(E.reverse.filter (BG D)).Pairwise fun a b=>a.dot≠b.dot:=(List.pairwise_map.1 hne).sublist List.filter_sublist;exact List.pairwise_map.2 (h1.imp fun {a b} h e=>h (by simp only [uI,Prod.mk.injEq] at e;exact e.2))
 ·rw [<- aQ,h.kept,List.length_reverse]
  exact ho.len
 ·show E=bC s
  exact vG ho.srt (kW hnd) fun e=>by rw [dQ hnd,hmem]
 ·show dead=sortD s.dead
  rw [h.dead,kG hD,JW ho.dsrt]
theorem z111 {p : Prop} (h : p := by
 go_enter func138, ntmps138
 go_wp2_with (go_at_call 179; (with_reducible refine HO.out.mono ?_); rintro v9 w9 ⟨v, vb, rfl, _, hb9, _, _⟩)
 go_ret2
 exact ⟨by rw [HE.out]; rfl, hb9⟩) : p := h
theorem OA (y:RMIt) (w:World) (hc:y.ctx.length<=1048576) (hk:y.K.length<=1048576) (hdl:y.dead.length<=1048576) (hsm:EvsSmall y.K) (hcx:DotsIn w y.ac y.ctx) (hE:EvsIn w y.aK y.K) (hd:DotsIn w y.ad y.dead) (hne:fF y.ctx y.K y.dead≠0) :
 Calls prog 138 #[.slice y.ac y.ctx.length y.cc,.slice y.aK y.K.length y.cK,.slice y.ad y.dead.length y.cd] w fun x w'=>x=.returned (.tuple #[.pointer none,.int .i64 (fF y.ctx y.K y.dead)])/\Below w.heap.size w w':=by
 obtain ⟨ac,ctx,cc,aK,K,cK,ad,dead,cd⟩:=y;simp only at hc hk hdl hsm hcx hE hd hne ⊢;have hun:fF ctx K dead=or2 (aZ ctx) (if 2048<K.length\/65536<dead.length then 3 else or2 (bJ ctx none K) (bY none dead)):=rfl;have HUN:=aa hun;clear hun;by_cases hm0:aZ ctx=0
 case neg =>
  have hmb:(aZ ctx != 0)=true:=bne_iff_ne.2 hm0;have HE:Hid (fF ctx K dead=aZ ctx):=by unfold Hid;rw [HUN.out];unfold or2;rw [if_neg hm0]
  have HC:=aa (Ut ac cc ctx w (by omega) hcx hm0);clear hm0 HUN hne;generalize aZ ctx=me at *;go_enter func138,ntmps138;go_wp2_with (go_at_call 179;(with_reducible refine HC.out.mono ?_);rintro v9 w9 ⟨rfl,hb9⟩)
  go_ret2;exact ⟨by rw [HE.out];rfl,hb9⟩
 have HO:=aa (MK ac cc ctx w hcx hm0);have HE0:Hid (fF ctx K dead=if 2048<K.length\/65536<dead.length then 3 else or2 (bJ ctx none K) (bY none dead)):=by unfold Hid;rw [HUN.out,hm0];rfl
 clear hm0 HUN;by_cases hkl:2048<K.length
 ·have hdk:decide ((2048:Int)<(K.length:Int))=true:=aR (by omega)
  have HE:Hid (fF ctx K dead=3):=by unfold Hid;rw [HE0.out,if_pos (a8 hkl)]
  clear hkl HE0 hne
  exact z111
 have hdk:decide ((2048:Int)<(K.length:Int))=false:=aM (by omega);by_cases KX:65536<dead.length
 ·have WT:decide ((65536:Int)<(dead.length:Int))=true:=aR (by omega)
  have HE:Hid (fF ctx K dead=3):=by unfold Hid;rw [HE0.out,if_pos (ba KX)]
  clear KX HE0 hne
  exact z111
 have WT:decide ((65536:Int)<(dead.length:Int))=false:=aM (by omega);have HE1:Hid (fF ctx K dead=or2 (bJ ctx none K) (bY none dead)):=by unfold Hid;rw [HE0.out,if_neg (by omega)]
 have hF0:=fun (v vb:Nat) (X:World) (hV:VecIn X v vb ctx) (hE:EvsIn X aK K)=>fits_any aK cK K X hV (by omega) hsm hE;have hR0:=fun (X:World) (h:DotsIn X ad dead)=>AB ad cd dead X (by omega) h;clear HE0 hsm;by_cases hf0:bJ ctx none K=0
 ·have hr0:bY none dead≠0:=fun e=>hne (by rw [HE1.out,hf0,e];rfl)
  have hrb:(bY none dead != 0)=true:=bne_iff_ne.2 hr0;have HE:Hid (fF ctx K dead=bY none dead):=by unfold Hid;rw [HE1.out,hf0];rfl
  rw [hf0] at hF0;have HF:=aa hF0;have HR:=aa hR0;clear hf0 hr0 hne HE1 hF0 hR0;generalize bY none dead=re at *;go_enter func138,ntmps138;go_wp2_with (first
   | (go_at_call 179;(with_reducible refine HO.out.mono ?_);rintro v9 w9 ⟨v,vb,rfl,hV9,hb9,_,_⟩;have hE9:=hE.kept hb9)
   | (go_at_call 180;(with_reducible refine (HF.out _ _ _ hV9 hE9).mono ?_);rintro v8 w8 ⟨rfl,hb8⟩;have DY:=hb9.trans (hb8.mono hb9.size);have hd8:=hd.kept DY)
   | (go_at_call 181;(with_reducible refine (HR.out _ hd8).mono ?_);rintro v7 w7 ⟨rfl,hb7⟩))
  go_ret2;exact ⟨by rw [HE.out];rfl,DY.trans (hb7.mono DY.size)⟩
 ·have hfb:(bJ ctx none K != 0)=true:=bne_iff_ne.2 hf0
  have HE:Hid (fF ctx K dead=bJ ctx none K):=by unfold Hid;rw [HE1.out];unfold or2;rw [if_neg hf0]
  have HF:=aa hF0;clear hf0 hne HE1 hF0 hR0;generalize bJ ctx none K=fe at *;go_enter func138,ntmps138;go_wp2_with (first
   | (go_at_call 179;(with_reducible refine HO.out.mono ?_);rintro v9 w9 ⟨v,vb,rfl,hV9,hb9,_,_⟩;have hE9:=hE.kept hb9)
   | (go_at_call 180;(with_reducible refine (HF.out _ _ _ hV9 hE9).mono ?_);rintro v8 w8 ⟨rfl,hb8⟩;have DY:=hb9.trans (hb8.mono hb9.size)))
  go_ret2;exact ⟨by rw [HE.out];rfl,DY⟩
theorem Qi {w:World} {base n c:Nat} {a:Option Addr} {xs:List Value} {t:TypeId} {A off:Nat} (h:w.ownsRow base t 3 (.slice a n c) n xs) (e:a=some ⟨A,off,none⟩):base<=A:=by subst e;exact (h.lt A rfl).1
/-- an event's dots lie from lo on -/
def Jz (lo:Nat) (x:EvIt):Prop:=∀ A off,x.2.1=some ⟨A,off,none⟩->x.1.over≠[]->lo<=A
def RQ (y:RMIt) (w:World) (x:Ending) (w':World):Prop:=∃ m b s,x=.returned (.tuple #[.pointer (some ⟨m,0,none⟩),.int .i64 0])/\MpIn w' m b s/\MInv s/\Rel s y.rm/\s.dead.length<=y.dead.length/\(∀ k,foot b s.A k->w.heap.size<=k)/\(∀ x∈s.K,x.1∈evsOf y.K)/\Below w.heap.size w w'/\∀ x∈s.K,Jz w.heap.size x
theorem y69 {p q : Prop} (k : q) (h : PLift q -> p := by
 intro kk
 unfold Hid
 rw [HLK.out.pairs, HT.out, List.reverse_append]
 show _ = ((e :: _).filter _).map _
 exact kk.down) : p := h ⟨k⟩
theorem Kz (y:RMIt) (w:World) (hsm:EvsSmall y.K) (hcx:DotsIn w y.ac y.ctx) (hE:EvsIn w y.aK y.K) (hd:DotsIn w y.ad y.dead) (hok:fF y.ctx y.K y.dead=0) :
 Calls prog 138 #[.slice y.ac y.ctx.length y.cc,.slice y.aK y.K.length y.cK,.slice y.ad y.dead.length y.cd] w (RQ y w):=by
 obtain ⟨ac,ctx,cc,aK,K,cK,ad,dead,cd⟩:=y;simp only at hsm hcx hE hd hok ⊢;obtain ⟨⟨hm0,hkl,KX,hf0,hr0⟩,hld⟩:=KD hok;have hdk:decide ((2048:Int)<(K.length:Int))=false:=aM (by omega);have WT:decide ((65536:Int)<(dead.length:Int))=false:=aM (by omega);have HO:=aa (MK ac cc ctx w hcx hm0);have hF0:=fun (v vb:Nat) (X:World) (hV:VecIn X v vb ctx) (hE:EvsIn X aK K)=>fits_any aK cK K X hV (by omega) hsm hE;have hR0:=fun (X:World) (h:DotsIn X ad dead)=>AB ad cd dead X (by omega) h;rw [hf0] at hF0;rw [hr0] at hR0;have HF:=aa hF0;have HR:=aa hR0;have HN:=aa (fun X=>BD X);have HLD:=aa hld;have HSM:=aa hsm;clear hF0 hR0 hm0 hf0 hr0 hok hsm;go_enter func138,ntmps138;go_upto_region 12 with (first
  | (go_at_call 179;(with_reducible refine HO.out.mono ?_);rintro v9 w9 ⟨v,vb,rfl,hV9,hb9,hlv,hlb⟩;have hE9:=hE.kept hb9)
  | (go_at_call 180;(with_reducible refine (HF.out _ _ _ hV9 hE9).mono ?_);rintro v8 w8 ⟨rfl,hb8⟩;have DY:=hb9.trans (hb8.mono hb9.size);have hd8:=hd.kept DY)
  | (go_at_call 181;(with_reducible refine (HR.out _ hd8).mono ?_);rintro v7 w7 ⟨rfl,hb7⟩))
 have Tm:=DY.trans (hb7.mono DY.size);have hV7:=(hV9.kept hb8).kept hb7;clear hV9 hE9 hd8 hb9 hb8 DY hb7 HO HF HR;go_upto_region 13 with (go_at_call 19;(with_reducible refine (HN.out _).mono ?_);rintro v6 w6 ⟨m,b0,rfl,hm6,hb6,hlm,hfo⟩)
 have hV6:=hV7.kept hb6;have XI:=hV7.tab.lt;have WW:Below w.heap.size w w6:=Tm.trans (hb6.mono Tm.size);have hmS:=Kv hm6 hV6 (fun k hk=>by have:=hfo k hk;omega);have z3:=(bU hm6.cell).2.2.2;have zf:w6.frozen? ⟨m,3,none⟩=false:=by simp [World.frozen?,hm6.cell]
 have VQ:=Tm.size;have UV:∀ k,foot ⟨b0.kb,b0.ab,b0.db,v,vb⟩ [] k->w.heap.size<=k:=fun k hk=>by
  simp only [foot,blocks,List.map_nil,List.mem_cons,List.not_mem_nil,or_false] at hk;have h1:=hfo _ (jK b0 _);have h2:=hfo _ (gZ b0 _);have h3:=hfo _ (iW b0 _);rcases hk with rfl | rfl | rfl | rfl <;> omega
 have hmw:w.heap.size<=m:=Nat.le_trans VQ hlm;go_upto_region 14 with fail
 refine aN (fun V hV=>?_);have hVe:V=w6.setCell ⟨m,3,none⟩ (.pointer (some ⟨v,0,none⟩)):=hV.out;have hbS:Below w.heap.size w V:=by
  rw [hVe,setCell_eq_setRow _ _ _ _ _ _ _ hm6.cell];exact below_setRow WW hmw _
 have hmV:MpIn V m ⟨b0.kb,b0.ab,b0.db,v,vb⟩ ⟨ctx,[],[],[],[]⟩:=by rw [hVe];exact hmS
 obtain ⟨b,hb⟩:∃ b,b=(⟨b0.kb,b0.ab,b0.db,v,vb⟩:MB):=⟨_,rfl⟩;rw [<- hb] at hmV UV;have YA:dead.length<=65536:=by omega
 have Yy:K.length<=2048:=by omega
 clear hV hVe hmS hV6 hV7 hm6 hb6 Tm WW hlm hfo XI hb HN z3 zf hlv hlb VQ;go_wp2;go_loopw [51] (fun i wr=>∃ k:Nat,i=.int .i64 k/\k<=dead.length/\MpIn wr m b ⟨ctx,[],(dead.take k).foldl (fun l d=>mP d l) [],[],[]⟩/\Below w.heap.size w wr) (fun i _=>dead.length - (intOf i).toNat)
 case atStart=>exact ⟨0,rfl,Nat.zero_le _,hmV,hbS⟩
 case round =>
  obtain ⟨k,rfl,hk,hmr,hbr⟩:=hrel;clear hmV hbS;have hzr:=hbr.size;by_cases hlt:k<dead.length
  ·obtain ⟨A,off,rfl,c0,c1,c2⟩:=(hd.kept hbr).at hlt
   have HT:Hid (dead.take (k+1)=dead.take k++[dead[k]]):=by
        exact z81
   have WS:=HLD.out.dead _ (List.getElem_mem hlt);have hfl:=kK (dead.take k) [];rw [List.length_take,List.length_nil] at hfl;generalize dead[k]=d at c0 c1 c2 HT WS;have HLT:=aa hlt;obtain ⟨l0,hl0⟩:∃ l0,l0=(dead.take k).foldl (fun l d=>mP d l) []:=⟨_,rfl⟩;rw [<- hl0] at hmr hfl;have HL0:=aa hl0;clear hl0;go_upto_region 17 with fail
   refine aN (fun W hW=>?_);have hbw:Below wr.heap.size wr W.drew:=by rw [hW.out];go_grown
   refine y51 ?_
   intro x0 x1 x2
   have h1:=hmr.kept_w hbw;have xm:W.drew.cell? ⟨m,2,none⟩=some (.map (some b.db)):=(bU h1.cell).2.2.1;have hbW:Below w.heap.size w W.drew:=hbr.trans (hbw.mono hzr);clear hW hmr c0 c1 c2;obtain ⟨w2,hrun,htab,hfr⟩:=h1.dead.add (ig WS) (by show l0.length<=_;omega);have h2:=h1.setDead htab hfr;have hb2:Below w.heap.size w w2:=hbW.trans (hfr.below hbW.size (fun q hq=>by rw [show q=b.db from hq];exact UV _ (iW b _)));clear htab hfr;refine wp_region_noPanic ?_;refine bG (fun W'=>(W'.cell? ⟨wr.heap.size,0,none⟩=some (.int .i64 d.a.dev)/\W'.cell? ⟨wr.heap.size,1,none⟩=some (.int .i64 d.a.inc)/\W'.cell? ⟨wr.heap.size,2,none⟩=some (.int .i64 d.seq))/\W'.cell? ⟨m,2,none⟩=some (.map (some b.db))) [5] (by kernel_rfl) ?_;have hS:=a7 (a7 x0 (a7 x1 x2)) xm;refine tL (v:=?_) 0 55 rfl (a8 ⟨by rfl,?_⟩) ?_
   case refine_2 => exact z50
   try simp only [pS]
   refine tL (v:=?_) 1 56 rfl (a8 ⟨by rfl,?_⟩) ?_
   case refine_2 => exact z50
   try simp only [pS]
   refine tL (v:=?_) 2 57 rfl (a8 ⟨by rfl,?_⟩) ?_
   case refine_2 => exact z50
   try simp only [pS]
   refine tL (v:=?_) 3 58 rfl (a8 ⟨by rfl,?_⟩) ?_
   case refine_2 => exact z50
   try simp only [pS]
   refine tL (v:=?_) 4 59 rfl (a8 ⟨by rfl,?_⟩) ?_
   case refine_2 => exact z50
   try simp only [pS]
   refine bD (i:=5) (o:=⟨none,_,_,_,_,_⟩) (by kernel_rfl) rfl ?_
   refine y6 ?_
   have HZ:Hid (MpIn w2 m b ⟨ctx,[],(dead.take (k+1)).foldl (fun l d=>mP d l) [],[],[]⟩/\Below w.heap.size w w2):=by
        refine ⟨?_,hb2⟩;rw [HT.out,List.foldl_append,<- HL0.out];exact h2
   clear hS hrun xm h1 hbw x0 x1 x2 h2 hb2
   exact z40
  ·obtain rfl:k=dead.length:=by omega
   rw [List.take_length] at hmr;obtain ⟨D,hD⟩:∃ D,D=dead.foldl (fun l d=>mP d l) []:=⟨_,rfl⟩;rw [<- hD] at hmr;have hDl:D.length<=dead.length:=by rw [hD];have:=kK dead [];simpa using this
   have HDm:Hid (∀ d,d∈D↔d∈dead):=fun d=>by rw [hD,lY];simp
   clear hD;obtain ⟨wo,rfl⟩:∃ wo:World,wo=wr:=⟨_,rfl⟩;go_wp2;go_loopw [63] (fun i wr=>∃ (k:Nat) (s:MS),i=.int .i64 k/\k<=K.length/\MpIn wr m b s/\LoadK ctx D ((evsOf K).take k) s/\((∀ q,foot b s.A q->w.heap.size<=q)/\∀ x∈s.K,Jz w.heap.size x)/\Below w.heap.size w wr) (fun i _=>K.length - (intOf i).toNat)
   case atStart=>exact ⟨0,_,rfl,Nat.zero_le _,hmr,⟨rfl,rfl,rfl,rfl⟩,⟨UV,fun x hx=>(nomatch hx)⟩,hbr⟩
   case round =>
        obtain ⟨k,s,rfl,hk,hms,hLK,⟨hfs,hlo⟩,hbs⟩:=hrel;have HLK:=aa hLK;have HFS:=aa hfs;have HLO:=aa hlo;clear hmr hfs hlo;have hzs:=hbs.size;by_cases hlt:k<K.length
        ·obtain ⟨A,off,rfl,hra,hda⟩:=(hE.kept hbs).at hlt
         have r1:=hra k hlt;have HT:Hid ((evsOf K).take (k+1)=(evsOf K).take k++[K[k].1]):=by
          exact z46
         have hse:=HSM.out _ (List.getElem_mem hlt);have hev:=(HLD.out.kept K[k].1 (List.mem_map_of_mem (List.getElem_mem hlt))).1;have HAH:Hid (∀ x∈(evsOf K).take k,x.dot≠K[k].1.dot):=fun x hx e=>by
          have h1:=HLD.out.srt;have h3:=HT.out;have h4:=List.take_append_drop (k+1) (evsOf K);rw [h3] at h4;rw [<- h4,List.append_assoc] at h1;have h5:=(List.pairwise_append.1 h1).2.2 x hx K[k].1 (by simp);rw [e,eP] at h5
          cases h5
         have HLT:=aa hlt;clear hra;generalize K[k]=x at r1 hda HT hse hev HAH;obtain ⟨e,ax,cx⟩:=x;simp only [kT] at r1;simp only at hda HT hse hev HAH;obtain ⟨hdo,_,QK,hkw,_⟩:=dK hev;have hn0:ax=none->e.over=[]:=fun hn=>by rcases hda with h | ⟨A,off,h3,_⟩;exact h;rw [hn] at h3;cases h3
         have hKl:s.K.length<=2048:=by
          rw [<- aQ,hLK.kept,List.length_reverse,List.length_take,aQ];omega
         have hPl:s.pairs.length<=2048:=by
          have h1:=congrArg List.length hLK.pairs;rw [List.length_map] at h1;have h2:=List.length_filter_le (BG D) ((evsOf K).take k).reverse;rw [List.length_reverse,List.length_take,aQ] at h2;omega
         clear hLK hev;go_upto_region 22 with (first
          | ((with_reducible refine bu _ A (off+k * 19) e ax cx r1 ?_ rfl ?_);exact rfl)
          | (refine bK 82 _ _ _ (ah e ax cx).toArray rfl rfl (by kernel_rfl) rfl (by kernel_rfl) ?_))
         refine aN (fun W hW=>?_);have hbW:Below wr.heap.size wr W.drew:=by rw [hW.out];exact ((bb wr.heap.size wr).alloc (aq _) _).drew
         have hR4:W.drew.rangeAt wr.heap.size 0 (ah e ax cx):=by rw [hW.out];exact dA e ax cx wr _
         have h4:=hms.kept_w hbW;have OW:=hda.kept hbW;have QX:Below w.heap.size w W.drew:=hbs.trans (hbW.mono hzs);have z0:=hR4 0 _ rfl;have z1:=hR4 1 _ rfl;have z2:=hR4 2 _ rfl;simp only [av] at z0 z1 z2;have z3:=(bU h4.cell).1;have HCL:Hid (∀ X:World,DotsIn X ax e.over->Calls prog 57 #[.agg (ah e ax cx).toArray] X (Dw e X)):=aa (fun (X:World) (h:DotsIn X ax e.over)=>sF e ax cx X (by omega) hn0 h);clear hW hbW hms hda r1 hn0;refine wp_region_noPanic ?_;refine bG (fun X=>Below W.drew.heap.size W.drew X) [8] (by kernel_rfl) ?_;have hb0:Below W.drew.heap.size W.drew W.drew:=bb _ _;refine tL (v:=?_) 0 67 rfl (a8 ⟨by rfl,?_⟩) ?_
         case refine_2 => exact z14
         try simp only [pS]
         refine tL (v:=?_) 1 68 rfl (a8 ⟨by rfl,?_⟩) ?_
         case refine_2 => exact z14
         try simp only [pS]
         refine tL (v:=?_) 2 69 rfl (a8 ⟨by rfl,?_⟩) ?_
         case refine_2 => exact z14
         try simp only [pS]
         refine tL (v:=?_) 3 70 rfl (a8 ⟨by rfl,?_⟩) ?_
         case refine_2 => exact z14
         try simp only [pS]
         refine tL (v:=?_) 4 71 rfl (a8 ⟨by rfl,?_⟩) ?_
         case refine_2 => exact z14
         try simp only [pS]
         refine tL (v:=?_) 5 72 rfl (a8 ⟨by rfl,?_⟩) ?_
         case refine_2 => exact z14
         try simp only [pS]
         refine tL 6 73 rfl (yieldsIf_load_mid (by rfl) 82 _ rfl wr.heap.size 0 rfl (ah e ax cx) _ (fun X hX=>ai hR4 hX) underlying82 rfl (by kernel_rfl)) ?_;try simp only [pS]
         refine bD (i:=7) (o:=⟨some 74,_,_,_,_,_⟩) (by kernel_rfl) rfl ?_;intro K hK;go_simp;go_at_call 57;(with_reducible refine (HCL.out _ OW).mono ?_)
         rintro x w5 ⟨a5,c5,rfl,hown5,hb5⟩;go_simp;refine hK.out _ _ (ba (hb5)) ?_;clear hK K;try simp only [pS]
         have h5:=h4.kept_w hb5;have hnew:∀ p∈kJ s.K,p.1≠e.dot:=fun p hp e2=>by
          obtain ⟨x,hx,rfl⟩:=List.mem_map.1 hp;exact HAH.out _ (HLK.out.dots x hx) e2
         obtain ⟨w6,hrun6,IB,hf6⟩:=h5.kept.store_new jb underlying119 (by show (kJ s.K).length<_;unfold kJ maxLen;rw [List.length_map];omega) (ig hdo) hnew ((e,a5,c5):EvIt);have hK6:=h5.keeps hf6 (fun i hi=>by rw [show i=b.kb from hi];exact jK b _);obtain ⟨a5',c5',he5,hd5⟩:=gz hown5;have VB:Hid (∀ x∈(e,a5,c5) :: s.K,Jz w.heap.size x):=aa fun x hx=>by
          rcases List.mem_cons.1 hx with rfl | hx
          ·exact fun A off h9 _=>Nat.le_trans QX.size (Qi hown5 h9)
          ·exact HLO.out x hx
         have hd6:DotsIn w6 a5 e.over:=by
          simp only [Value.slice.injEq] at he5;rw [he5.1];exact hK6.dots hd5
         have h6:MpIn w6 m b { s with K:=(e,a5,c5) :: s.K }:=h5.setKept IB (fun x hx=>by
          rcases List.mem_cons.1 hx with rfl | hx
          ·exact hd6
          ·exact hK6.dots (h5.overs x hx)) hf6
         have hR6:w6.rangeAt wr.heap.size 0 (ah e ax cx):=hK6.range (ai hR4 hb5);have hb6:Below w.heap.size w w6:=(QX.trans (hb5.mono QX.size)).trans (hf6.below (Nat.le_trans QX.size hb5.size) (fun q hq=>by rw [show q=b.kb from hq];exact HFS.out _ (jK b _)));clear hd6 hd5 he5 hown5 IB hf6 hK6 hb5 h5 hnew h4 hR4 OW z0 z1 z2 z3 QX
         refine y67 ?_
         clear hrun6 hb0 HCL
         have HK6:Hid (evsOf ((e,a5,c5) :: s.K)=((evsOf K).take (k+1)).reverse):=by
          unfold Hid;show e :: evsOf s.K=_;rw [HT.out,List.reverse_append,HLK.out.kept];rfl
         have y0:=hR6 0 _ rfl;have y1:=hR6 1 _ rfl;have y2:=hR6 2 _ rfl;have y6:=hR6 6 _ rfl;simp only [av] at y0 y1 y2 y6;have ug:=Ez e.dot (ig hdo) w6 h6;rw [show ({ s with K:=(e,a5,c5) :: s.K }:MS).dead=D from HLK.out.dead] at ug;by_cases hk1:e.kind=1
         case neg =>
          have U2:(e.kind == 1)=false:=beq_eq_false_iff_ne.2 hk1;have HP:Hid (s.pairs=(((evsOf K).take (k+1)).reverse.filter (BG D)).map uI):=by
           refine y69 ?_
           rw [List.filter_cons,if_neg (by unfold BG;rw [aM hk1,Bool.false_and];decide)];rfl
          have HZ:=aa (a7 h6 hb6);clear ug hk1 h6 hb6 y0 y1 y2 hR6;go_wp2;go_roundw
          case rel=>exact ⟨k+1,_,by go_num,HLT.out,HZ.out.1,⟨HLK.out.ctx,HLK.out.dead,HK6.out,HP.out⟩,⟨HFS.out,VB.out⟩,HZ.out.2⟩
          case measure => exact z64
         have U2:(e.kind == 1)=true:=beq_iff_eq.2 hk1;have HK1:=aa hk1;clear hk1;by_cases hdd:e.dot∈D
         case pos =>
          have HP:Hid (s.pairs=(((evsOf K).take (k+1)).reverse.filter (BG D)).map uI):=by
           refine y69 ?_
           rw [List.filter_cons,if_neg (by unfold BG;rw [aR hdd];simp)];rfl
          have hD1:decide (e.dot∈D)=true:=aR hdd;rw [hD1] at ug;have HDd:=aa ug;have HZ:=aa (a7 h6 hb6);clear ug hdd hD1 hR6 h6 hb6;go_wp2_with (go_at_call 58;(with_reducible refine HDd.out.mono ?_);rintro x w7 ⟨rfl,hb7⟩)
          have HZ7:=aa (a7 (HZ.out.1.kept_w hb7) (HZ.out.2.trans (hb7.mono HZ.out.2.size)));clear y0 y1 y2 y6;go_roundw
          case rel=>exact ⟨k+1,_,by go_num,HLT.out,HZ7.out.1,⟨HLK.out.ctx,HLK.out.dead,HK6.out,HP.out⟩,⟨HFS.out,VB.out⟩,HZ7.out.2⟩
          case measure => exact z64
         have HP:Hid ((e.key,e.dot) :: s.pairs=(((evsOf K).take (k+1)).reverse.filter (BG D)).map uI):=by
          refine y69 ?_
          rw [List.filter_cons,if_pos (by unfold BG;rw [aR HK1.out,aM hdd];rfl)];rfl
         have S9:∀ q,(q,e.dot) ∉ s.pairs:=fun q hq=>by
          rw [HLK.out.pairs] at hq;obtain ⟨x,hx,e9⟩:=List.mem_map.1 hq;simp only [uI,Prod.mk.injEq] at e9;exact HAH.out x (List.mem_reverse.1 (List.mem_filter.1 hx).1) e9.2
         have hD1:decide (e.dot∈D)=false:=aM hdd;rw [hD1] at ug;have HDd:=aa ug;clear ug hdd hD1;go_upto_region 24 with (go_at_call 58;(with_reducible refine HDd.out.mono ?_);rintro x w7 ⟨rfl,hb7⟩)
         have h7:=h6.kept_w hb7;have hR7:=ai hR6 hb7;have Tn:=hb6.trans (hb7.mono hb6.size);have hAl:(atK s.pairs e.key).length<=2048:=by
          have h1:(atK s.pairs e.key).length<=s.pairs.length:=by unfold atK;rw [List.length_map];exact List.length_filter_le _ _
          omega
         have HLV:=aa (Il e ax cx w7 h7 hkw (ig hdo) (fun hm=>S9 _ (ik.1 hm)) (Nat.le_trans hAl (by decide)) (by
          have h2:=pF (l:=s.A.map (·.1)) (m:=s.pairs.map (·.1)) (List.pairwise_map.2 h7.alive.apart) (fun q hq=>by
           obtain ⟨p,hp,rfl⟩:=List.mem_map.1 hq;obtain ⟨d,hd⟩:=List.exists_mem_of_ne_nil _ (h7.some p hp);exact List.mem_map.2 ⟨(p.1,d),ik.1 hd,rfl⟩)
          rw [List.length_map,List.length_map] at h2;show s.A.length<=_;omega))
         clear y0 y1 y2 y6 h6 hR6 hb6 hb7 S9 hAl;go_wp2_with (first
          | ((with_reducible refine bu _ wr.heap.size 0 e ax cx hR7 ?_ rfl ?_);exact rfl)
          | (go_at_call 59;(with_reducible refine HLV.out.mono ?_);rintro x w8 ⟨rfl,A8,h8,OZ,IE⟩))
         have HZ8:Hid (MpIn w8 m b { s with K:=(e,a5,c5) :: s.K,A:=A8,pairs:=(e.key,e.dot) :: s.pairs }/\(∀ q,foot b A8 q->w.heap.size<=q)/\Below w.heap.size w w8):=by
          refine ⟨h8,fun q hq=>?_,Tn.trans (OZ.below Tn.size (fun q hq=>HFS.out q hq))⟩;rcases IE q hq with h9 | h9
          ·exact HFS.out q h9
          ·exact Nat.le_trans Tn.size h9
         clear h7 hR7 h8 OZ IE HLV Tn;go_roundw
         case rel=>exact ⟨k+1,_,by go_num,HLT.out,HZ8.out.1,⟨HLK.out.ctx,HLK.out.dead,HK6.out,HP.out⟩,⟨HZ8.out.2.1,VB.out⟩,HZ8.out.2.2⟩
         case measure => exact z64
        ·obtain rfl:k=K.length:=by omega
         have Vh:LoadK ctx D (evsOf K) s:=by
          have:=HLK.out;rwa [List.take_of_length_le (by rw [aQ];exact aq _)] at this
         have HD2:=aa (Vh.done HLD.out HDm.out);have HL2:=aa Vh;clear hLK Vh HLK;go_wp2;all_goals
          go_ret2;exact ⟨m,b,s,rfl,hms,HD2.out.1,HD2.out.2,by rw [HL2.out.dead];exact hDl,HFS.out,fun x hx=>HL2.out.dots x hx,hbs,HLO.out⟩
end Go.Proofs.YthphepeniaemoaaGreat
