/- What may be loaded: ormap.fits, ormap.rising; the reference's Load. Conditions: as in the text. -/
import Derived.Test.YthphepeniaemoaaGreatIsB
set_option linter.unusedSimpArgs false
set_option linter.unusedVariables false
set_option linter.unnecessarySimpa false
set_option maxHeartbeats 16000000
set_option maxRecDepth 100000
open Go.Proofs.Tryz
namespace Go.Proofs.YthphepeniaemoaaGreat
open Go.RowKit
def ji:Option Dot->Dot->Bool
 | none,_=>true
 | some p,d=>cu p d
def lV (ls:List EvIt):Nat->Option Dot
 | 0=>none
 | k+1=>ls[k]?.map (·.1.dot)
def bF (ctx:List Dot):Option Dot->List EvIt->Int
 | _,[]=>0
 | p,x :: r=>if dm x.1=true then (if ji p x.1.dot=true then (if iq ctx x.1.dot=true then bF ctx (some x.1.dot) r else 4) else 6) else 1
def df:Option Dot->List Dot->Int
 | _,[]=>0
 | p,d :: r=>if bn d=true then (if ji p d=true then df (some d) r else 6) else 4
theorem FZ (ctx:List Dot) (ls:List EvIt) (k:Nat) (h:k<ls.length):bF ctx (lV ls k) (ls.drop k)=if dm ls[k].1=true then (if ji (lV ls k) ls[k].1.dot=true then (if iq ctx ls[k].1.dot=true then bF ctx (lV ls (k+1)) (ls.drop (k+1)) else 4) else 6) else 1:=by
 rw [List.drop_eq_getElem_cons h,bF];have:lV ls (k+1)=some ls[k].1.dot:=by simp [lV,h]
 rw [this]
theorem FC (l:List Dot) (k:Nat) (h:k<l.length):df (bu l k) (l.drop k)=if bn l[k]=true then (if ji (bu l k) l[k]=true then df (bu l (k+1)) (l.drop (k+1)) else 6) else 4:=by
 rw [List.drop_eq_getElem_cons h,df];have:bu l (k+1)=some l[k]:=by simp [bu,h]
 rw [this]
theorem zn (ctx:List Dot) (p:Option Dot):bF ctx p []=0:=by cases p <;> rfl
theorem yU (p:Option Dot):df p []=0:=by cases p <;> rfl
theorem fits_any {v b:Nat} {ctx:List Dot} (a:Option Addr) (cap:Nat) (ls:List EvIt) (w:World) (hV:VecIn w v b ctx) (hl:ls.length<=1073741824) (hsm:EvsSmall ls) (hE:EvsIn w a ls) :
 Calls prog 180 #[.pointer (some ⟨v,0,none⟩),.slice a ls.length cap] w fun x w'=>x=.returned (.int .i64 (bF ctx none ls))/\Below w.heap.size w w':=by
 have HM:Hid (bF ctx none ls=bF ctx (lV ls 0) (ls.drop 0)):=rfl;have HLs:=aq (fun (x y:Dot) (X:World)=>BA x y X);have HSM:=aq hsm;clear hsm;go_enter func180,ntmps180;go_wp2;go_loopw [9] (fun i wr=>∃ k:Nat,k<=ls.length/\i=.int .i64 k/\bF ctx none ls=bF ctx (lV ls k) (ls.drop k)/\Below w.heap.size w wr) (fun i _=>ls.length - (intOf i).toNat)
 case atStart=>exact ⟨0,Nat.zero_le _,rfl,HM.out,bh _ _⟩
 case round =>
  obtain ⟨k,hk,rfl,hpre,hbw⟩:=hrel;have HP:=aq hpre;clear hpre HM;have hzw:=hbw.size;by_cases hlt:k<ls.length
  ·have hst:=FZ ctx ls k hlt
   obtain ⟨A,off,rfl,hra,hda⟩:=(hE.kept hbw).at hlt;have r1:=hra k hlt;have hse:=HSM.out _ (List.getElem_mem hlt);have HT:Hid (bF ctx none ls=if dm ls[k].1=true then (if ji (lV ls k) ls[k].1.dot=true then (if iq ctx ls[k].1.dot=true then bF ctx (lV ls (k+1)) (ls.drop (k+1)) else 4) else 6) else 1):=by rw [Hid,HP.out,hst]
   have HRA:=aq hra;clear hst HP hra;generalize ls[k]=x at r1 hse hda HT;obtain ⟨e,ax,cx⟩:=x;simp only [qj] at r1;simp only at hse hda HT;go_upto_region 4 with (first
        | ((with_reducible refine dn _ A (off+k * 19) e ax cx r1 ?_ rfl ?_);exact rfl)
        | (refine cZ 82 _ _ _ (az e ax cx).toArray rfl rfl (by kernel_rfl) rfl (by kernel_rfl) ?_))
   refine aI (fun V hVn=>?_);have hbV:Below wr.heap.size wr V:=by rw [hVn.out];exact (bh _ _).alloc (ar _) _
   have re:V.rangeAt wr.heap.size 0 (az e ax cx):=by rw [hVn.out];exact dU e ax cx wr _
   have hR0:=fQ e ax cx V hse (hda.kept hbV);have hbB:=hbw.trans (hbV.mono hzw);generalize wr.heap.size=B at *;clear hVn r1 hda hbV
   cases h1:dm e with
   | false =>
     have HE:Hid (bF ctx none ls=1):=by rw [Hid,HT.out,h1];rfl
     rw [h1] at hR0;have HR:=aq hR0;clear hR0 h1 HT;go_wp2_with (first
      | ((with_reducible refine dn _ B 0 e ax cx re ?_ rfl ?_);exact rfl)
      | (go_at_call 52;(with_reducible refine HR.out.mono ?_);rintro v9 w9 ⟨rfl,hb9⟩))
     go_ret;exact ⟨eH HE.out.symm,hbB.trans (hb9.mono hbB.size)⟩
   | true =>
     have HT1:Hid (bF ctx none ls=if ji (lV ls k) e.dot=true then (if iq ctx e.dot=true then bF ctx (lV ls (k+1)) (ls.drop (k+1)) else 4) else 6):=by rw [Hid,HT.out,h1];rfl
     rw [h1] at hR0;have HR:=aq hR0;clear hR0 h1 HT;go_upto_region 6 with (first
      | ((with_reducible refine dn _ B 0 e ax cx re ?_ rfl ?_);exact rfl)
      | (go_at_call 52;(with_reducible refine HR.out.mono ?_);rintro v9 wp ⟨rfl,hb9⟩))
     have rp:=ai re hb9;replace hbB:=hbB.trans (hb9.mono hbB.size);have b0:=rp 0 _ rfl;have b1:=rp 1 _ rfl;have b2:=rp 2 _ rfl;simp only [aw] at b0 b1 b2;clear re rp hb9 HR;rcases Nat.eq_zero_or_pos k with hk0 | hk0
     ·refine y75 ?_
      intro Ou hdk
      have HT2:Hid (bF ctx none ls=if iq ctx e.dot=true then bF ctx (lV ls (k+1)) (ls.drop (k+1)) else 4):=by rw [Hid,HT1.out];subst hk0;rfl
      clear HT1 hk0;go_upto_region 6 with fail
      refine y22 ?_
      intro WA hWA hbA
      have pb0:∀ i:After WA,i.w.cell? ⟨B,0,none⟩=some (.int .i64 e.dot.a.dev):=fun i=>i.cell (kept hbA b0);have pb1:∀ i:After WA,i.w.cell? ⟨B,1,none⟩=some (.int .i64 e.dot.a.inc):=fun i=>i.cell (kept hbA b1);have pb2:∀ i:After WA,i.w.cell? ⟨B,2,none⟩=some (.int .i64 e.dot.seq):=fun i=>i.cell (kept hbA b2);clear hWA;iterate 15 go_big_quiet_step (fail)
      refine wpQuiet_nil ?_;rintro _ ⟨i,rfl⟩;have hiA:=i.h;generalize i.w=wq at hiA ⊢;have hbY:Below wp.heap.size wp wq:=below2 hbA hiA;clear hbA hiA pb0 pb1 pb2;have hVq:=hV.kept (hbB.trans (hbY.mono hbB.size));have q0:=kept hbY b0;have q1:=kept hbY b1;have q2:=kept hbY b2;have hbQ:=hbB.trans (hbY.mono hbB.size);have hH0:=Af e.dot wq hVq;clear b0 b1 b2 hbY hbB hVq
      cases h3:iq ctx e.dot with
      | false =>
        have HE:Hid (bF ctx none ls=4):=by unfold Hid;rw [HT2.out,h3];rfl
        rw [h3] at hH0;have HH:=aq hH0;clear hH0 h3 HT2;go_wp2_with (go_at_call 53;(with_reducible refine HH.out.mono ?_);rintro v9 w9 ⟨rfl,hb9⟩)
        go_ret;exact ⟨eH HE.out.symm,hbQ.trans (hb9.mono hbQ.size)⟩
      | true =>
        have HE:Hid (bF ctx none ls=bF ctx (lV ls (k+1)) (ls.drop (k+1))):=by unfold Hid;rw [HT2.out,h3];rfl
        rw [h3] at hH0;have HH:=aq hH0;clear hH0 h3 HT2;go_wp2_with (go_at_call 53;(with_reducible refine HH.out.mono ?_);rintro v9 w9 ⟨rfl,hb9⟩)
        go_roundw
        case rel=>exact ⟨k+1,by omega,by go_num,HE.out,hbQ.trans (hb9.mono hbQ.size)⟩
        case measure => exact z67
     ·obtain ⟨j,rfl⟩:∃ j,k=j+1:=⟨k - 1,by omega⟩
      have hj:j<ls.length:=by omega
      obtain ⟨A',off',hA',UG,_⟩:=(hE.kept hbB).at hj;have hAA:A'=A/\off'=off:=by cases hA';exact ⟨rfl,rfl⟩
      rw [hAA.1,hAA.2] at UG;have ry:=UG j hj;have hpv:lV ls (j+1)=some ls[j].1.dot:=by simp [lV,hj]
      rw [hpv] at HT1;clear UG hA' hAA HRA hpv;generalize ls[j]=y at ry HT1;obtain ⟨y,ay,cy⟩:=y;simp only [qj] at ry;simp only at HT1;have f0:=ry 0 _ rfl;have f1:=ry 1 _ rfl;have f2:=ry 2 _ rfl;simp only [Nat.add_zero] at f0;have hC0:=fun (W:World)=>HLs.out y.dot e.dot W
      refine y23 ?_
      intro hdk hww
      clear ry hk0
      cases h2:cu y.dot e.dot with
      | false =>
        have HE:Hid (bF ctx none ls=6):=by rw [Hid,HT1.out];simp [ji,h2]
        rw [h2] at hC0;clear h2 HT1;go_upto_region 6 with fail
        refine aN (by kernel_rfl) (by kernel_rfl) (fun WA hWA=>?_);have hbA:Below wp.heap.size wp WA:=by rw [hWA.out];go_grown
        have pb0:∀ i:After WA,i.w.cell? ⟨B,0,none⟩=some (.int .i64 e.dot.a.dev):=fun i=>i.cell (kept hbA b0);have pb1:∀ i:After WA,i.w.cell? ⟨B,1,none⟩=some (.int .i64 e.dot.a.inc):=fun i=>i.cell (kept hbA b1);have pb2:∀ i:After WA,i.w.cell? ⟨B,2,none⟩=some (.int .i64 e.dot.seq):=fun i=>i.cell (kept hbA b2);have pf0:∀ i:After WA,i.w.cell? ⟨A,off+j * 19,none⟩=some (.int .i64 y.dot.a.dev):=fun i=>i.cell (kept hbA f0);have pf1:∀ i:After WA,i.w.cell? ⟨A,off+j * 19+1,none⟩=some (.int .i64 y.dot.a.inc):=fun i=>i.cell (kept hbA f1);have pf2:∀ i:After WA,i.w.cell? ⟨A,off+j * 19+2,none⟩=some (.int .i64 y.dot.seq):=fun i=>i.cell (kept hbA f2);clear hWA;iterate 11 go_big_quiet_step (fail)
        go_big_quiet_step (exact Calls.after (hC0 _))
        iterate 3 go_big_quiet_step (fail)
        refine wpQuiet_nil ?_;rintro _ ⟨i,rfl⟩;have hiA:=i.h;generalize i.w=wq at hiA ⊢;have hbY:Below wp.heap.size wp wq:=below2 hbA hiA;clear hbA hiA pb0 pb1 pb2 pf0 pf1 pf2;go_wp2;go_ret;exact ⟨eH HE.out.symm,hbB.trans (hbY.mono hbB.size)⟩
      | true =>
        have HT2:Hid (bF ctx none ls=if iq ctx e.dot=true then bF ctx (lV ls (j+1+1)) (ls.drop (j+1+1)) else 4):=by rw [Hid,HT1.out];simp [ji,h2]
        rw [h2] at hC0;clear h2 HT1;go_upto_region 6 with fail
        refine aN (by kernel_rfl) (by kernel_rfl) (fun WA hWA=>?_);have hbA:Below wp.heap.size wp WA:=by rw [hWA.out];go_grown
        have pb0:∀ i:After WA,i.w.cell? ⟨B,0,none⟩=some (.int .i64 e.dot.a.dev):=fun i=>i.cell (kept hbA b0);have pb1:∀ i:After WA,i.w.cell? ⟨B,1,none⟩=some (.int .i64 e.dot.a.inc):=fun i=>i.cell (kept hbA b1);have pb2:∀ i:After WA,i.w.cell? ⟨B,2,none⟩=some (.int .i64 e.dot.seq):=fun i=>i.cell (kept hbA b2);have pf0:∀ i:After WA,i.w.cell? ⟨A,off+j * 19,none⟩=some (.int .i64 y.dot.a.dev):=fun i=>i.cell (kept hbA f0);have pf1:∀ i:After WA,i.w.cell? ⟨A,off+j * 19+1,none⟩=some (.int .i64 y.dot.a.inc):=fun i=>i.cell (kept hbA f1);have pf2:∀ i:After WA,i.w.cell? ⟨A,off+j * 19+2,none⟩=some (.int .i64 y.dot.seq):=fun i=>i.cell (kept hbA f2);clear hWA;iterate 11 go_big_quiet_step (fail)
        go_big_quiet_step (exact Calls.after (hC0 _))
        iterate 3 go_big_quiet_step (fail)
        refine wpQuiet_nil ?_;rintro _ ⟨i,rfl⟩;have hiA:=i.h;generalize i.w=wq at hiA ⊢;have hbY:Below wp.heap.size wp wq:=below2 hbA hiA;clear hbA hiA pb0 pb1 pb2 pf0 pf1 pf2;clear hC0 hww hdk f0 f1 f2;have hVq:=hV.kept (hbB.trans (hbY.mono hbB.size));have q0:=kept hbY b0;have q1:=kept hbY b1;have q2:=kept hbY b2;have hbQ:=hbB.trans (hbY.mono hbB.size);have hH0:=Af e.dot wq hVq;clear b0 b1 b2 hbY hbB hVq
        cases h3:iq ctx e.dot with
        | false =>
          have HE:Hid (bF ctx none ls=4):=by unfold Hid;rw [HT2.out,h3];rfl
          rw [h3] at hH0;have HH:=aq hH0;clear hH0 h3 HT2;go_wp2_with (go_at_call 53;(with_reducible refine HH.out.mono ?_);rintro v9 w9 ⟨rfl,hb9⟩)
          go_ret;exact ⟨eH HE.out.symm,hbQ.trans (hb9.mono hbQ.size)⟩
        | true =>
          have HE:Hid (bF ctx none ls=bF ctx (lV ls ((j+1)+1)) (ls.drop ((j+1)+1))):=by unfold Hid;rw [HT2.out,h3];rfl
          rw [h3] at hH0;have HH:=aq hH0;clear hH0 h3 HT2;go_wp2_with (go_at_call 53;(with_reducible refine HH.out.mono ?_);rintro v9 w9 ⟨rfl,hb9⟩)
          go_roundw
          case rel=>exact ⟨(j+1)+1,by omega,by go_num,HE.out,hbQ.trans (hb9.mono hbQ.size)⟩
          case measure => exact z67
  ·have HE:Hid (bF ctx none ls=0):=by rw [Hid,HP.out,List.drop_eq_nil_of_le (by omega)];exact zn _ _
   exact z141
/-! ### rising -/
theorem Aw (a:Option Addr) (cap:Nat) (l:List Dot) (w:World) (hl:l.length<=1073741824) (hd:DotsIn w a l) :
 Calls prog 181 #[.slice a l.length cap] w fun x w'=>x=.returned (.int .i64 (df none l))/\Below w.heap.size w w':=by
 have HM:Hid (df none l=df (bu l 0) (l.drop 0)):=rfl;have HLs:=aq (fun (x y:Dot) (X:World)=>BA x y X);go_enter func181,ntmps181;go_wp2;go_loopw [7] (fun i wr=>∃ k:Nat,k<=l.length/\i=.int .i64 k/\df none l=df (bu l k) (l.drop k)/\Below w.heap.size w wr) (fun i _=>l.length - (intOf i).toNat)
 case atStart=>exact ⟨0,Nat.zero_le _,rfl,HM.out,bh _ _⟩
 case round =>
  obtain ⟨k,hk,rfl,hpre,hbw⟩:=hrel;have HP:=aq hpre;clear hpre HM;have hzw:=hbw.size;by_cases hlt:k<l.length
  ·have hst:=FC l k hlt
   obtain ⟨A,off,rfl,e0,e1,e2⟩:=(hd.kept hbw).at hlt;have HT:Hid (df none l=if bn l[k]=true then (if ji (bu l k) l[k]=true then df (bu l (k+1)) (l.drop (k+1)) else 6) else 4):=by rw [Hid,HP.out,hst]
   clear hst HP;generalize l[k]=x at e0 e1 e2 HT;go_upto_region 4 with fail
   refine aI (fun V hVn=>?_);have hbV:Below wr.heap.size wr V:=by rw [hVn.out];go_grown
   have b0:V.cell? ⟨wr.heap.size,0,none⟩=some (.int .i64 x.a.dev):=by rw [hVn.out];go_simp
   have b1:V.cell? ⟨wr.heap.size,1,none⟩=some (.int .i64 x.a.inc):=by rw [hVn.out];go_simp
   have b2:V.cell? ⟨wr.heap.size,2,none⟩=some (.int .i64 x.seq):=by rw [hVn.out];go_simp
   have hR0:=fun (X:World)=>ig x X;have hbB:=hbw.trans (hbV.mono hzw);generalize wr.heap.size=B at *;clear hVn e0 e1 e2 hbV
   cases h1:bn x with
   | false =>
     have HE:Hid (df none l=4):=by rw [Hid,HT.out,h1];rfl
     rw [h1] at hR0;have HR:=aq hR0;clear hR0 h1 HT;go_wp2_with (go_at_call 104;(with_reducible refine (HR.out _).mono ?_);rintro v9 w9 ⟨rfl,hb9⟩)
     go_ret;exact ⟨eH HE.out.symm,hbB.trans (hb9.mono hbB.size)⟩
   | true =>
     have HT1:Hid (df none l=if ji (bu l k) x=true then df (bu l (k+1)) (l.drop (k+1)) else 6):=by rw [Hid,HT.out,h1];rfl
     rw [h1] at hR0;have HR:=aq hR0;clear hR0 h1 HT;go_upto_region 6 with (go_at_call 104;(with_reducible refine (HR.out _).mono ?_);rintro v9 wp ⟨rfl,hb9⟩)
     replace b0:=kept hb9 b0;replace b1:=kept hb9 b1;replace b2:=kept hb9 b2;replace hbB:=hbB.trans (hb9.mono hbB.size);clear hb9 HR;rcases Nat.eq_zero_or_pos k with hk0 | hk0
     ·refine y75 ?_
      intro Ou hdk
      have HE:Hid (df none l=df (bu l (k+1)) (l.drop (k+1))):=by rw [Hid,HT1.out];subst hk0;rfl
      clear HT1 hk0;go_upto_region 6 with fail
      refine y22 ?_
      intro WA hWA hbA
      have pb0:∀ i:After WA,i.w.cell? ⟨B,0,none⟩=some (.int .i64 x.a.dev):=fun i=>i.cell (kept hbA b0);have pb1:∀ i:After WA,i.w.cell? ⟨B,1,none⟩=some (.int .i64 x.a.inc):=fun i=>i.cell (kept hbA b1);have pb2:∀ i:After WA,i.w.cell? ⟨B,2,none⟩=some (.int .i64 x.seq):=fun i=>i.cell (kept hbA b2);clear hWA;iterate 13 go_big_quiet_step (fail)
      refine wpQuiet_nil ?_;rintro _ ⟨i,rfl⟩;have hiA:=i.h;generalize i.w=wq at hiA ⊢;have hbY:Below wp.heap.size wp wq:=below2 hbA hiA;clear hbA hiA pb0 pb1 pb2;go_wp2;go_roundw
      case rel=>exact ⟨k+1,by omega,by go_num,HE.out,hbB.trans (hbY.mono hbB.size)⟩
      case measure => exact z67
     ·obtain ⟨j,rfl⟩:∃ j,k=j+1:=⟨k - 1,by omega⟩
      have hj:j<l.length:=by omega
      obtain ⟨A',off',hA',f0,f1,f2⟩:=(hd.kept hbB).at hj;have hAA:A'=A/\off'=off:=by cases hA';exact ⟨rfl,rfl⟩
      rw [hAA.1,hAA.2] at f0 f1 f2;have hpv:bu l (j+1)=some l[j]:=by simp [bu,hj]
      rw [hpv] at HT1;clear hA' hAA hpv;generalize l[j]=y at f0 f1 f2 HT1;have hC0:=fun (W:World)=>HLs.out y x W
      refine y23 ?_
      intro hdk hww
      clear hk0
      cases h2:cu y x with
      | false =>
        have HE:Hid (df none l=6):=by rw [Hid,HT1.out];simp [ji,h2]
        rw [h2] at hC0;clear h2 HT1;go_upto_region 6 with fail
        refine aN (by kernel_rfl) (by kernel_rfl) (fun WA hWA=>?_);have hbA:Below wp.heap.size wp WA:=by rw [hWA.out];go_grown
        have pb0:∀ i:After WA,i.w.cell? ⟨B,0,none⟩=some (.int .i64 x.a.dev):=fun i=>i.cell (kept hbA b0);have pb1:∀ i:After WA,i.w.cell? ⟨B,1,none⟩=some (.int .i64 x.a.inc):=fun i=>i.cell (kept hbA b1);have pb2:∀ i:After WA,i.w.cell? ⟨B,2,none⟩=some (.int .i64 x.seq):=fun i=>i.cell (kept hbA b2);have pf0:∀ i:After WA,i.w.cell? ⟨A,off+j * 3,none⟩=some (.int .i64 y.a.dev):=fun i=>i.cell (kept hbA f0);have pf1:∀ i:After WA,i.w.cell? ⟨A,off+j * 3+1,none⟩=some (.int .i64 y.a.inc):=fun i=>i.cell (kept hbA f1);have pf2:∀ i:After WA,i.w.cell? ⟨A,off+j * 3+2,none⟩=some (.int .i64 y.seq):=fun i=>i.cell (kept hbA f2);clear hWA;iterate 9 go_big_quiet_step (fail)
        go_big_quiet_step (exact Calls.after (hC0 _))
        iterate 3 go_big_quiet_step (fail)
        refine wpQuiet_nil ?_;rintro _ ⟨i,rfl⟩;have hiA:=i.h;generalize i.w=wq at hiA ⊢;have hbY:Below wp.heap.size wp wq:=below2 hbA hiA;clear hbA hiA pb0 pb1 pb2 pf0 pf1 pf2;go_wp2;go_ret;exact ⟨eH HE.out.symm,hbB.trans (hbY.mono hbB.size)⟩
      | true =>
        have HE:Hid (df none l=df (bu l (j+1+1)) (l.drop (j+1+1))):=by rw [Hid,HT1.out];simp [ji,h2]
        rw [h2] at hC0;clear h2 HT1;go_upto_region 6 with fail
        refine aN (by kernel_rfl) (by kernel_rfl) (fun WA hWA=>?_);have hbA:Below wp.heap.size wp WA:=by rw [hWA.out];go_grown
        have pb0:∀ i:After WA,i.w.cell? ⟨B,0,none⟩=some (.int .i64 x.a.dev):=fun i=>i.cell (kept hbA b0);have pb1:∀ i:After WA,i.w.cell? ⟨B,1,none⟩=some (.int .i64 x.a.inc):=fun i=>i.cell (kept hbA b1);have pb2:∀ i:After WA,i.w.cell? ⟨B,2,none⟩=some (.int .i64 x.seq):=fun i=>i.cell (kept hbA b2);have pf0:∀ i:After WA,i.w.cell? ⟨A,off+j * 3,none⟩=some (.int .i64 y.a.dev):=fun i=>i.cell (kept hbA f0);have pf1:∀ i:After WA,i.w.cell? ⟨A,off+j * 3+1,none⟩=some (.int .i64 y.a.inc):=fun i=>i.cell (kept hbA f1);have pf2:∀ i:After WA,i.w.cell? ⟨A,off+j * 3+2,none⟩=some (.int .i64 y.seq):=fun i=>i.cell (kept hbA f2);clear hWA;iterate 9 go_big_quiet_step (fail)
        go_big_quiet_step (exact Calls.after (hC0 _))
        iterate 3 go_big_quiet_step (fail)
        refine wpQuiet_nil ?_;rintro _ ⟨i,rfl⟩;have hiA:=i.h;generalize i.w=wq at hiA ⊢;have hbY:Below wp.heap.size wp wq:=below2 hbA hiA;clear hbA hiA pb0 pb1 pb2 pf0 pf1 pf2;clear hC0 hww hdk f0 f1 f2;go_wp2;go_roundw
        case rel=>exact ⟨j+1+1,by omega,by go_num,HE.out,hbB.trans (hbY.mono hbB.size)⟩
        case measure => exact z67
  ·have HE:Hid (df none l=0):=by rw [Hid,HP.out,List.drop_eq_nil_of_le (by omega)];exact yU _
   exact z141
def or2 (f r:Int):Int:=if f=0 then r else f
def fF (ctx:List Dot) (K:List EvIt) (dead:List Dot):Int:=or2 (aZ ctx) (if 2048<K.length\/65536<dead.length then 3 else or2 (bF ctx none K) (df none dead))
theorem Fv {w:World} {g i:Nat} {cs:Array Value} {t:TypeId} {f:Nat×Nat} {v:Value} (hg:w.heap[g]?=some (.cells cs t f)):(w.setCell ⟨g,i,none⟩ v).heap[g]?=some (.cells (cs.setIfInBounds i v) t f):=by
 simp only [World.setCell,Array.getElem?_modify,if_pos,hg];simp
/-- a new map with a context of its own -/
theorem Ku {w:World} {m v vb:Nat} {b:MB} {ctx:List Dot} (h:MpIn w m b MS.empty) (hv:VecIn w v vb ctx) (hn:∀ k,foot b [] k->k≠vb) :
 MpIn (w.setCell ⟨m,3,none⟩ (.pointer (some ⟨v,0,none⟩))) m ⟨b.kb,b.ab,b.db,v,vb⟩ ⟨ctx,[],[],[],[]⟩:=by
 have hk:∀ k,k≠m->(w.setCell ⟨m,3,none⟩ (.pointer (some ⟨v,0,none⟩))).heap[k]?=w.heap[k]?:=fun k hk=>heap_setCell_other _ _ _ _ (fun e=>hk e.symm);have hmf:∀ k,foot b MS.empty.A k->k≠m:=fun k hk e=>by
  obtain ⟨es,cl,h1⟩:=h.maps hk;rw [e,h.cell] at h1
  cases h1
 have hvm:v≠m:=fun e=>by
  have h1:=hv.cell;rw [e,h.cell] at h1;simp at h1
 have WW:vb≠m:=fun e=>by
  obtain ⟨es,cl,h1⟩:=hv.tab.mapped;rw [e,h.cell] at h1
  cases h1
 obtain ⟨n1,n2,n3,n4,n5,n6,n7,n8⟩:=jc h.nodup;refine ⟨?_,hv.block (hk _ hvm) (hk _ WW),h.kept.block (hk _ (hmf _ (jT b _))),fun x hx=>(nomatch hx),h.dead.block (hk _ (hmf _ (jh b _))),h.alive.block (hk _ (hmf _ (iO b _))),fun p hp=>(nomatch hp),fun p hp=>(nomatch hp),fun p hp=>(nomatch hp),?_⟩
 ·exact (Fv h.cell).trans rfl
 ·simp only [blocks,List.map_nil,List.nodup_cons,List.mem_cons,List.not_mem_nil,or_false,not_or,not_false_eq_true,and_true,List.nodup_nil]
  exact ⟨⟨n1,n2,hn _ (jT b _)⟩,⟨n4,hn _ (iO b _)⟩,hn _ (jh b _)⟩
def vC (e:Ev):Key×Dot:=(e.key,e.dot)
def Bq (D:List Dot) (e:Ev):Bool:=decide (e.kind=1) && !decide (e.dot∈D)
/-- a map behind the first kept events that are loaded -/
structure LoadK (ctx D:List Dot) (E:List Ev) (s:MS):Prop where
 ctx:s.ctx=ctx
 dead:s.dead=D
 kept:evsOf s.K=E.reverse
 pairs:s.pairs=(E.reverse.filter (Bq D)).map vC
theorem LoadK.dots {ctx D:List Dot} {E:List Ev} {s:MS} (h:LoadK ctx D E s):∀ x∈s.K,x.1∈E:=fun x hx=>by
 have:x.1∈evsOf s.K:=List.mem_map_of_mem hx;rw [h.kept,List.mem_reverse] at this;exact this
theorem z139 {p : Prop} (h : p := by
 subst hd
 rcases List.mem_cons.1 hz with rfl | hz
 ·exact h2
 ·exact iL h2 (i3 _ rfl z hz)) : p := h
theorem Cj (ctx:List Dot):∀ (K:List EvIt) (p:Option Dot),bF ctx p K=0->(∀ x∈K,dm x.1=true/\iq ctx x.1.dot=true)/\Dh (evsOf K)/\∀ d,p=some d->∀ x∈K,cu d x.1.dot=true
 | [],_,_=>⟨fun x hx=>(nomatch hx),List.Pairwise.nil,fun d _ x hx=>(nomatch hx)⟩
 | x :: K,p,h=>by
   unfold bF at h;split at h
   ·rename_i h1
    split at h
    ·rename_i h2
     split at h
     ·rename_i h3
      obtain ⟨i1,i2,i3⟩:=Cj ctx K _ h;refine ⟨fun z hz=>?_,List.pairwise_cons.2 ⟨fun e he=>?_,i2⟩,fun d hd z hz=>?_⟩
      ·rcases List.mem_cons.1 hz with rfl | hz
       ·exact ⟨h1,h3⟩
       ·exact i1 z hz
      ·obtain ⟨z,hz,rfl⟩:=List.mem_map.1 he
       exact i3 _ rfl z hz
      ·exact z139
     ·cases h
    ·cases h
   ·cases h
theorem Az:∀ (l:List Dot) (p:Option Dot),df p l=0->(∀ d∈l,bn d=true)/\SrtD l/\∀ d,p=some d->∀ x∈l,cu d x=true
 | [],_,_=>⟨fun x hx=>(nomatch hx),List.Pairwise.nil,fun d _ x hx=>(nomatch hx)⟩
 | x :: l,p,h=>by
   unfold df at h;split at h
   ·rename_i h1
    split at h
    ·rename_i h2
     obtain ⟨i1,i2,i3⟩:=Az l _ h;refine ⟨fun z hz=>?_,List.pairwise_cons.2 ⟨fun z hz=>i3 _ rfl z hz,i2⟩,fun d hd z hz=>?_⟩
     ·rcases List.mem_cons.1 hz with rfl | hz
      ·exact h1
      ·exact i1 z hz
     ·exact z139
    ·cases h
   ·cases h
/-- what may be loaded -/
structure LoadOk (C:List Dot) (E:List Ev) (Dd:List Dot):Prop where
 ctx:pW C
 ctxOk:∀ d∈C,bn d=true
 kept:∀ e∈E,dm e=true/\iq C e.dot=true
 srt:Dh E
 dead:∀ d∈Dd,bn d=true
 dsrt:SrtD Dd
 len:E.length<=2048
 dlen:Dd.length<=65536
 clen:C.length<=4096
theorem KA {ctx:List Dot} {K:List EvIt} {dead:List Dot} (h:fF ctx K dead=0):(aZ ctx=0/\¬ (2048<K.length)/\¬ (65536<dead.length)/\bF ctx none K=0/\df none dead=0)/\LoadOk ctx (evsOf K) dead:=by
 unfold fF or2 at h;by_cases h1:aZ ctx=0
 ·rw [if_pos h1] at h
  by_cases h2:2048<K.length\/65536<dead.length
  ·rw [if_pos h2] at h;cases h
  ·rw [if_neg h2] at h
   by_cases h3:bF ctx none K=0
   ·rw [if_pos h3] at h
    obtain ⟨a1,a2,a3⟩:=yZ h1;obtain ⟨b1,b2,_⟩:=Cj ctx K none h3;obtain ⟨c1,c2,_⟩:=Az dead none h;refine ⟨⟨h1,by omega,by omega,h3,h⟩,⟨a3,a2,fun e he=>?_,b2,c1,c2,by rw [aW];omega,by omega,a1⟩⟩;obtain ⟨x,hx,rfl⟩:=List.mem_map.1 he;exact b1 x hx
   ·rw [if_neg h3] at h
    exact absurd h h3
 ·rw [if_neg h1] at h
  exact absurd h h1
theorem LoadK.done {ctx dead D:List Dot} {E:List Ev} {s:MS} (h:LoadK ctx D E s) (ho:LoadOk ctx E dead) (hD:∀ d,d∈D↔d∈dead):MInv s/\Rel s ⟨ctx,E,dead⟩:=by
 have hne:(E.reverse.map (·.dot)).Nodup:=by
  rw [List.map_reverse];exact List.pairwise_reverse.2 (List.pairwise_map.2 (ho.srt.imp fun {a b} h e=>by rw [e,fO] at h;cases h))
 have hnd:(s.K.map (·.1.dot)).Nodup:=by
  have h1:s.K.map (·.1.dot)=(evsOf s.K).map (·.dot):=by unfold evsOf;rw [List.map_map];rfl
  rw [h1,h.kept];exact hne
 have hmem:∀ e,(∃ x∈s.K,x.1=e)↔e∈E:=fun e=>by
  rw [<- List.mem_reverse,<- h.kept];exact (List.mem_map (f:=fun x:EvIt=>x.1)).symm
 refine ⟨⟨by rw [h.ctx];exact ho.ctx,by rw [h.ctx];exact ho.ctxOk,fun x hx=>by rw [h.ctx];exact ho.kept _ (h.dots x hx),fun k d=>?_,?_,fun d hd=>ho.dead d (by rw [h.dead] at hd;exact (hD d).1 hd),?_⟩,⟨hnd,h.ctx.symm,?_,?_⟩⟩
 ·rw [h.pairs,List.mem_map,h.dead]
  constructor
  ·rintro ⟨e,he,e9⟩
   obtain ⟨h1,h2⟩:=List.mem_filter.1 he;obtain ⟨x,hx,rfl⟩:=(hmem e).2 (List.mem_reverse.1 h1);simp only [Bq,Bool.and_eq_true,decide_eq_true_eq,Bool.not_eq_true',decide_eq_false_iff_not] at h2;simp only [vC,Prod.mk.injEq] at e9;exact ⟨x,hx,h2.1,e9.2,e9.1,by rw [<- e9.2];exact h2.2⟩
  ·rintro ⟨x,hx,h1,rfl,rfl,h2⟩
   refine ⟨x.1,List.mem_filter.2 ⟨List.mem_reverse.2 (h.dots x hx),?_⟩,rfl⟩;simp only [Bq,Bool.and_eq_true,decide_eq_true_eq,Bool.not_eq_true',decide_eq_false_iff_not];exact ⟨h1,h2⟩
 ·rw [h.pairs]
  have h1:(E.reverse.filter (Bq D)).Pairwise fun a b=>a.dot≠b.dot:=(List.pairwise_map.1 hne).sublist List.filter_sublist;exact List.pairwise_map.2 (h1.imp fun {a b} h e=>h (by simp only [vC,Prod.mk.injEq] at e;exact e.2))
 ·rw [<- aW,h.kept,List.length_reverse]
  exact ho.len
 ·show E=bU s
  exact GH ho.srt (mW hnd) fun e=>by rw [gG hnd,hmem]
 ·show dead=sortD s.dead
  rw [h.dead,o6 hD,JQ ho.dsrt]
theorem z110 {p : Prop} (h : p := by
 go_enter func138, ntmps138
 go_wp2_with (go_at_call 179; (with_reducible refine HO.out.mono ?_); rintro v9 w9 ⟨v, vb, rfl, _, hb9, _, _⟩)
 go_ret2
 exact ⟨by rw [HE.out]; rfl, hb9⟩) : p := h
theorem Oe (y:RMIt) (w:World) (hc:y.ctx.length<=1048576) (hk:y.K.length<=1048576) (hdl:y.dead.length<=1048576) (hsm:EvsSmall y.K) (hcx:DotsIn w y.ac y.ctx) (hE:EvsIn w y.aK y.K) (hd:DotsIn w y.ad y.dead) (hne:fF y.ctx y.K y.dead≠0) :
 Calls prog 138 #[.slice y.ac y.ctx.length y.cc,.slice y.aK y.K.length y.cK,.slice y.ad y.dead.length y.cd] w fun x w'=>x=.returned (.tuple #[.pointer none,.int .i64 (fF y.ctx y.K y.dead)])/\Below w.heap.size w w':=by
 obtain ⟨ac,ctx,cc,aK,K,cK,ad,dead,cd⟩:=y;simp only at hc hk hdl hsm hcx hE hd hne ⊢;have hun:fF ctx K dead=or2 (aZ ctx) (if 2048<K.length\/65536<dead.length then 3 else or2 (bF ctx none K) (df none dead)):=rfl;have HUN:=aq hun;clear hun;by_cases hm0:aZ ctx=0
 case neg =>
  have hmb:(aZ ctx != 0)=true:=bne_iff_ne.2 hm0;have HE:Hid (fF ctx K dead=aZ ctx):=by unfold Hid;rw [HUN.out];unfold or2;rw [if_neg hm0]
  have HC:=aq (Uj ac cc ctx w (by omega) hcx hm0);clear hm0 HUN hne;generalize aZ ctx=me at *;go_enter func138,ntmps138;go_wp2_with (go_at_call 179;(with_reducible refine HC.out.mono ?_);rintro v9 w9 ⟨rfl,hb9⟩)
  go_ret2;exact ⟨by rw [HE.out];rfl,hb9⟩
 have HO:=aq (LZ ac cc ctx w hcx hm0);have HE0:Hid (fF ctx K dead=if 2048<K.length\/65536<dead.length then 3 else or2 (bF ctx none K) (df none dead)):=by unfold Hid;rw [HUN.out,hm0];rfl
 clear hm0 HUN;by_cases hkl:2048<K.length
 ·have hdk:decide ((2048:Int)<(K.length:Int))=true:=aR (by omega)
  have HE:Hid (fF ctx K dead=3):=by unfold Hid;rw [HE0.out,if_pos (bb hkl)]
  clear hkl HE0 hne
  exact z110
 have hdk:decide ((2048:Int)<(K.length:Int))=false:=aM (by omega);by_cases KP:65536<dead.length
 ·have V7:decide ((65536:Int)<(dead.length:Int))=true:=aR (by omega)
  have HE:Hid (fF ctx K dead=3):=by unfold Hid;rw [HE0.out,if_pos (bd KP)]
  clear KP HE0 hne
  exact z110
 have V7:decide ((65536:Int)<(dead.length:Int))=false:=aM (by omega);have HE1:Hid (fF ctx K dead=or2 (bF ctx none K) (df none dead)):=by unfold Hid;rw [HE0.out,if_neg (by omega)]
 have hF0:=fun (v vb:Nat) (X:World) (hV:VecIn X v vb ctx) (hE:EvsIn X aK K)=>fits_any aK cK K X hV (by omega) hsm hE;have hR0:=fun (X:World) (h:DotsIn X ad dead)=>Aw ad cd dead X (by omega) h;clear HE0 hsm;by_cases hf0:bF ctx none K=0
 ·have hr0:df none dead≠0:=fun e=>hne (by rw [HE1.out,hf0,e];rfl)
  have hrb:(df none dead != 0)=true:=bne_iff_ne.2 hr0;have HE:Hid (fF ctx K dead=df none dead):=by unfold Hid;rw [HE1.out,hf0];rfl
  rw [hf0] at hF0;have HF:=aq hF0;have HR:=aq hR0;clear hf0 hr0 hne HE1 hF0 hR0;generalize df none dead=re at *;go_enter func138,ntmps138;go_wp2_with (first
   | (go_at_call 179;(with_reducible refine HO.out.mono ?_);rintro v9 w9 ⟨v,vb,rfl,hV9,hb9,_,_⟩;have hE9:=hE.kept hb9)
   | (go_at_call 180;(with_reducible refine (HF.out _ _ _ hV9 hE9).mono ?_);rintro v8 w8 ⟨rfl,hb8⟩;have DR:=hb9.trans (hb8.mono hb9.size);have hd8:=hd.kept DR)
   | (go_at_call 181;(with_reducible refine (HR.out _ hd8).mono ?_);rintro v7 w7 ⟨rfl,hb7⟩))
  go_ret2;exact ⟨by rw [HE.out];rfl,DR.trans (hb7.mono DR.size)⟩
 ·have hfb:(bF ctx none K != 0)=true:=bne_iff_ne.2 hf0
  have HE:Hid (fF ctx K dead=bF ctx none K):=by unfold Hid;rw [HE1.out];unfold or2;rw [if_neg hf0]
  have HF:=aq hF0;clear hf0 hne HE1 hF0 hR0;generalize bF ctx none K=fe at *;go_enter func138,ntmps138;go_wp2_with (first
   | (go_at_call 179;(with_reducible refine HO.out.mono ?_);rintro v9 w9 ⟨v,vb,rfl,hV9,hb9,_,_⟩;have hE9:=hE.kept hb9)
   | (go_at_call 180;(with_reducible refine (HF.out _ _ _ hV9 hE9).mono ?_);rintro v8 w8 ⟨rfl,hb8⟩;have DR:=hb9.trans (hb8.mono hb9.size)))
  go_ret2;exact ⟨by rw [HE.out];rfl,DR⟩
theorem PX {w:World} {base n c:Nat} {a:Option Addr} {xs:List Value} {t:TypeId} {A off:Nat} (h:w.ownsRow base t 3 (.slice a n c) n xs) (e:a=some ⟨A,off,none⟩):base<=A:=by subst e;exact (h.lt A rfl).1
/-- an event's dots lie from lo on -/
def Jt (lo:Nat) (x:EvIt):Prop:=∀ A off,x.2.1=some ⟨A,off,none⟩->x.1.over≠[]->lo<=A
def Rq (y:RMIt) (w:World) (x:Ending) (w':World):Prop:=∃ m b s,x=.returned (.tuple #[.pointer (some ⟨m,0,none⟩),.int .i64 0])/\MpIn w' m b s/\MInv s/\Rel s y.rm/\s.dead.length<=y.dead.length/\(∀ k,foot b s.A k->w.heap.size<=k)/\(∀ x∈s.K,x.1∈evsOf y.K)/\Below w.heap.size w w'/\∀ x∈s.K,Jt w.heap.size x
theorem y71 {p q : Prop} (k : q) (h : PLift q -> p := by
 intro kk
 unfold Hid
 rw [HLK.out.pairs, HT.out, List.reverse_append]
 show _ = ((e :: _).filter _).map _
 exact kk.down) : p := h ⟨k⟩
theorem Kw (y:RMIt) (w:World) (hsm:EvsSmall y.K) (hcx:DotsIn w y.ac y.ctx) (hE:EvsIn w y.aK y.K) (hd:DotsIn w y.ad y.dead) (hok:fF y.ctx y.K y.dead=0) :
 Calls prog 138 #[.slice y.ac y.ctx.length y.cc,.slice y.aK y.K.length y.cK,.slice y.ad y.dead.length y.cd] w (Rq y w):=by
 obtain ⟨ac,ctx,cc,aK,K,cK,ad,dead,cd⟩:=y;simp only at hsm hcx hE hd hok ⊢;obtain ⟨⟨hm0,hkl,KP,hf0,hr0⟩,hld⟩:=KA hok;have hdk:decide ((2048:Int)<(K.length:Int))=false:=aM (by omega);have V7:decide ((65536:Int)<(dead.length:Int))=false:=aM (by omega);have HO:=aq (LZ ac cc ctx w hcx hm0);have hF0:=fun (v vb:Nat) (X:World) (hV:VecIn X v vb ctx) (hE:EvsIn X aK K)=>fits_any aK cK K X hV (by omega) hsm hE;have hR0:=fun (X:World) (h:DotsIn X ad dead)=>Aw ad cd dead X (by omega) h;rw [hf0] at hF0;rw [hr0] at hR0;have HF:=aq hF0;have HR:=aq hR0;have HN:=aq (fun X=>Bo X);have HLD:=aq hld;have HSM:=aq hsm;clear hF0 hR0 hm0 hf0 hr0 hok hsm;go_enter func138,ntmps138;go_upto_region 12 with (first
  | (go_at_call 179;(with_reducible refine HO.out.mono ?_);rintro v9 w9 ⟨v,vb,rfl,hV9,hb9,hlv,hlb⟩;have hE9:=hE.kept hb9)
  | (go_at_call 180;(with_reducible refine (HF.out _ _ _ hV9 hE9).mono ?_);rintro v8 w8 ⟨rfl,hb8⟩;have DR:=hb9.trans (hb8.mono hb9.size);have hd8:=hd.kept DR)
  | (go_at_call 181;(with_reducible refine (HR.out _ hd8).mono ?_);rintro v7 w7 ⟨rfl,hb7⟩))
 have SS:=DR.trans (hb7.mono DR.size);have hV7:=(hV9.kept hb8).kept hb7;clear hV9 hE9 hd8 hb9 hb8 DR hb7 HO HF HR;go_upto_region 13 with (go_at_call 19;(with_reducible refine (HN.out _).mono ?_);rintro v6 w6 ⟨m,b0,rfl,hm6,hb6,hlm,hfo⟩)
 have hV6:=hV7.kept hb6;have WZ:=hV7.tab.lt;have We:Below w.heap.size w w6:=SS.trans (hb6.mono SS.size);have hmS:=Ku hm6 hV6 (fun k hk=>by have:=hfo k hk;omega);have z3:=(dC hm6.cell).2.2.2;have zf:w6.frozen? ⟨m,3,none⟩=false:=by simp [World.frozen?,hm6.cell]
 have VF:=SS.size;have UM:∀ k,foot ⟨b0.kb,b0.ab,b0.db,v,vb⟩ [] k->w.heap.size<=k:=fun k hk=>by
  simp only [foot,blocks,List.map_nil,List.mem_cons,List.not_mem_nil,or_false] at hk;have h1:=hfo _ (jT b0 _);have h2:=hfo _ (iO b0 _);have h3:=hfo _ (jh b0 _);rcases hk with rfl | rfl | rfl | rfl <;> omega
 have hmw:w.heap.size<=m:=Nat.le_trans VF hlm;go_upto_region 14 with fail
 refine aI (fun V hV=>?_);have hVe:V=w6.setCell ⟨m,3,none⟩ (.pointer (some ⟨v,0,none⟩)):=hV.out;have hbS:Below w.heap.size w V:=by
  rw [hVe,setCell_eq_setRow _ _ _ _ _ _ _ hm6.cell];exact below_setRow We hmw _
 have hmV:MpIn V m ⟨b0.kb,b0.ab,b0.db,v,vb⟩ ⟨ctx,[],[],[],[]⟩:=by rw [hVe];exact hmS
 obtain ⟨b,hb⟩:∃ b,b=(⟨b0.kb,b0.ab,b0.db,v,vb⟩:MB):=⟨_,rfl⟩;rw [<- hb] at hmV UM;have XW:dead.length<=65536:=by omega
 have XU:K.length<=2048:=by omega
 clear hV hVe hmS hV6 hV7 hm6 hb6 SS We hlm hfo WZ hb HN z3 zf hlv hlb VF;go_wp2;go_loopw [51] (fun i wr=>∃ k:Nat,i=.int .i64 k/\k<=dead.length/\MpIn wr m b ⟨ctx,[],(dead.take k).foldl (fun l d=>mM d l) [],[],[]⟩/\Below w.heap.size w wr) (fun i _=>dead.length - (intOf i).toNat)
 case atStart=>exact ⟨0,rfl,Nat.zero_le _,hmV,hbS⟩
 case round =>
  obtain ⟨k,rfl,hk,hmr,hbr⟩:=hrel;clear hmV hbS;have hzr:=hbr.size;by_cases hlt:k<dead.length
  ·obtain ⟨A,off,rfl,c0,c1,c2⟩:=(hd.kept hbr).at hlt
   have HT:Hid (dead.take (k+1)=dead.take k++[dead[k]]):=by
        exact z81
   have V6:=HLD.out.dead _ (List.getElem_mem hlt);have hfl:=kD (dead.take k) [];rw [List.length_take,List.length_nil] at hfl;generalize dead[k]=d at c0 c1 c2 HT V6;have HLT:=aq hlt;obtain ⟨l0,hl0⟩:∃ l0,l0=(dead.take k).foldl (fun l d=>mM d l) []:=⟨_,rfl⟩;rw [<- hl0] at hmr hfl;have HL0:=aq hl0;clear hl0;go_upto_region 17 with fail
   refine aI (fun W hW=>?_);have hbw:Below wr.heap.size wr W.drew:=by rw [hW.out];go_grown
   refine y53 ?_
   intro x0 x1 x2
   have h1:=hmr.kept_w hbw;have xm:W.drew.cell? ⟨m,2,none⟩=some (.map (some b.db)):=(dC h1.cell).2.2.1;have hbW:Below w.heap.size w W.drew:=hbr.trans (hbw.mono hzr);clear hW hmr c0 c1 c2;obtain ⟨w2,hrun,htab,hfr⟩:=h1.dead.add (iw V6) (by show l0.length<=_;omega);have h2:=h1.setDead htab hfr;have hb2:Below w.heap.size w w2:=hbW.trans (hfr.below hbW.size (fun q hq=>by rw [show q=b.db from hq];exact UM _ (jh b _)));clear htab hfr;refine wp_region_noPanic ?_;refine bH (fun W'=>(W'.cell? ⟨wr.heap.size,0,none⟩=some (.int .i64 d.a.dev)/\W'.cell? ⟨wr.heap.size,1,none⟩=some (.int .i64 d.a.inc)/\W'.cell? ⟨wr.heap.size,2,none⟩=some (.int .i64 d.seq))/\W'.cell? ⟨m,2,none⟩=some (.map (some b.db))) [5] (by kernel_rfl) ?_;have hS:=ba (ba x0 (ba x1 x2)) xm;refine tL (v:=?_) 0 55 rfl (bb ⟨by rfl,?_⟩) ?_
   case refine_2 => exact z50
   try simp only [pS]
   refine tL (v:=?_) 1 56 rfl (bb ⟨by rfl,?_⟩) ?_
   case refine_2 => exact z50
   try simp only [pS]
   refine tL (v:=?_) 2 57 rfl (bb ⟨by rfl,?_⟩) ?_
   case refine_2 => exact z50
   try simp only [pS]
   refine tL (v:=?_) 3 58 rfl (bb ⟨by rfl,?_⟩) ?_
   case refine_2 => exact z50
   try simp only [pS]
   refine tL (v:=?_) 4 59 rfl (bb ⟨by rfl,?_⟩) ?_
   case refine_2 => exact z50
   try simp only [pS]
   refine bD (i:=5) (o:=⟨none,_,_,_,_,_⟩) (by kernel_rfl) rfl ?_
   refine y8 ?_
   have HZ:Hid (MpIn w2 m b ⟨ctx,[],(dead.take (k+1)).foldl (fun l d=>mM d l) [],[],[]⟩/\Below w.heap.size w w2):=by
        refine ⟨?_,hb2⟩;rw [HT.out,List.foldl_append,<- HL0.out];exact h2
   clear hS hrun xm h1 hbw x0 x1 x2 h2 hb2
   exact z121
  ·obtain rfl:k=dead.length:=by omega
   rw [List.take_length] at hmr;obtain ⟨D,hD⟩:∃ D,D=dead.foldl (fun l d=>mM d l) []:=⟨_,rfl⟩;rw [<- hD] at hmr;have hDl:D.length<=dead.length:=by rw [hD];have:=kD dead [];simpa using this
   have HDm:Hid (∀ d,d∈D↔d∈dead):=fun d=>by rw [hD,lZ];simp
   clear hD;obtain ⟨wo,rfl⟩:∃ wo:World,wo=wr:=⟨_,rfl⟩;go_wp2;go_loopw [63] (fun i wr=>∃ (k:Nat) (s:MS),i=.int .i64 k/\k<=K.length/\MpIn wr m b s/\LoadK ctx D ((evsOf K).take k) s/\((∀ q,foot b s.A q->w.heap.size<=q)/\∀ x∈s.K,Jt w.heap.size x)/\Below w.heap.size w wr) (fun i _=>K.length - (intOf i).toNat)
   case atStart=>exact ⟨0,_,rfl,Nat.zero_le _,hmr,⟨rfl,rfl,rfl,rfl⟩,⟨UM,fun x hx=>(nomatch hx)⟩,hbr⟩
   case round =>
        obtain ⟨k,s,rfl,hk,hms,hLK,⟨hfs,hlo⟩,hbs⟩:=hrel;have HLK:=aq hLK;have HFS:=aq hfs;have HLO:=aq hlo;clear hmr hfs hlo;have hzs:=hbs.size;by_cases hlt:k<K.length
        ·obtain ⟨A,off,rfl,hra,hda⟩:=(hE.kept hbs).at hlt
         have r1:=hra k hlt;have HT:Hid ((evsOf K).take (k+1)=(evsOf K).take k++[K[k].1]):=by
          exact z92
         have hse:=HSM.out _ (List.getElem_mem hlt);have hev:=(HLD.out.kept K[k].1 (List.mem_map_of_mem (List.getElem_mem hlt))).1;have HAH:Hid (∀ x∈(evsOf K).take k,x.dot≠K[k].1.dot):=fun x hx e=>by
          have h1:=HLD.out.srt;have h3:=HT.out;have h4:=List.take_append_drop (k+1) (evsOf K);rw [h3] at h4;rw [<- h4,List.append_assoc] at h1;have h5:=(List.pairwise_append.1 h1).2.2 x hx K[k].1 (by simp);rw [e,fO] at h5
          cases h5
         have HLT:=aq hlt;clear hra;generalize K[k]=x at r1 hda HT hse hev HAH;obtain ⟨e,ax,cx⟩:=x;simp only [qj] at r1;simp only at hda HT hse hev HAH;obtain ⟨hdo,_,Xz,hkw,_⟩:=fH hev;have hn0:ax=none->e.over=[]:=fun hn=>by rcases hda with h | ⟨A,off,h3,_⟩;exact h;rw [hn] at h3;cases h3
         have hKl:s.K.length<=2048:=by
          rw [<- aW,hLK.kept,List.length_reverse,List.length_take,aW];omega
         have hPl:s.pairs.length<=2048:=by
          have h1:=congrArg List.length hLK.pairs;rw [List.length_map] at h1;have h2:=List.length_filter_le (Bq D) ((evsOf K).take k).reverse;rw [List.length_reverse,List.length_take,aW] at h2;omega
         clear hLK hev;go_upto_region 22 with (first
          | ((with_reducible refine dn _ A (off+k * 19) e ax cx r1 ?_ rfl ?_);exact rfl)
          | (refine cZ 82 _ _ _ (az e ax cx).toArray rfl rfl (by kernel_rfl) rfl (by kernel_rfl) ?_))
         refine aI (fun W hW=>?_);have hbW:Below wr.heap.size wr W.drew:=by rw [hW.out];exact ((bh wr.heap.size wr).alloc (ar _) _).drew
         have hR4:W.drew.rangeAt wr.heap.size 0 (az e ax cx):=by rw [hW.out];exact dU e ax cx wr _
         have h4:=hms.kept_w hbW;have oC:=hda.kept hbW;have QA:Below w.heap.size w W.drew:=hbs.trans (hbW.mono hzs);have z0:=hR4 0 _ rfl;have z1:=hR4 1 _ rfl;have z2:=hR4 2 _ rfl;simp only [aw] at z0 z1 z2;have z3:=(dC h4.cell).1;have HCL:Hid (∀ X:World,DotsIn X ax e.over->Calls prog 57 #[.agg (az e ax cx).toArray] X (Di e X)):=aq (fun (X:World) (h:DotsIn X ax e.over)=>ug e ax cx X (by omega) hn0 h);clear hW hbW hms hda r1 hn0;refine wp_region_noPanic ?_;refine bH (fun X=>Below W.drew.heap.size W.drew X) [8] (by kernel_rfl) ?_;have hb0:Below W.drew.heap.size W.drew W.drew:=bh _ _;refine tL (v:=?_) 0 67 rfl (bb ⟨by rfl,?_⟩) ?_
         case refine_2 => exact z15
         try simp only [pS]
         refine tL (v:=?_) 1 68 rfl (bb ⟨by rfl,?_⟩) ?_
         case refine_2 => exact z15
         try simp only [pS]
         refine tL (v:=?_) 2 69 rfl (bb ⟨by rfl,?_⟩) ?_
         case refine_2 => exact z15
         try simp only [pS]
         refine tL (v:=?_) 3 70 rfl (bb ⟨by rfl,?_⟩) ?_
         case refine_2 => exact z15
         try simp only [pS]
         refine tL (v:=?_) 4 71 rfl (bb ⟨by rfl,?_⟩) ?_
         case refine_2 => exact z15
         try simp only [pS]
         refine tL (v:=?_) 5 72 rfl (bb ⟨by rfl,?_⟩) ?_
         case refine_2 => exact z15
         try simp only [pS]
         refine tL 6 73 rfl (yieldsIf_load_mid (by rfl) 82 _ rfl wr.heap.size 0 rfl (az e ax cx) _ (fun X hX=>ai hR4 hX) underlying82 rfl (by kernel_rfl)) ?_;try simp only [pS]
         refine bD (i:=7) (o:=⟨some 74,_,_,_,_,_⟩) (by kernel_rfl) rfl ?_;intro K hK;go_simp;go_at_call 57;(with_reducible refine (HCL.out _ oC).mono ?_)
         rintro x w5 ⟨a5,c5,rfl,hown5,hb5⟩;go_simp;refine hK.out _ _ (bd (hb5)) ?_;clear hK K;try simp only [pS]
         have h5:=h4.kept_w hb5;have hnew:∀ p∈kC s.K,p.1≠e.dot:=fun p hp e2=>by
          obtain ⟨x,hx,rfl⟩:=List.mem_map.1 hp;exact HAH.out _ (HLK.out.dots x hx) e2
         obtain ⟨w6,hrun6,Iw,hf6⟩:=h5.kept.store_new jE underlying119 (by show (kC s.K).length<_;unfold kC maxLen;rw [List.length_map];omega) (iw hdo) hnew ((e,a5,c5):EvIt);have hK6:=h5.keeps hf6 (fun i hi=>by rw [show i=b.kb from hi];exact jT b _);obtain ⟨a5',c5',he5,hd5⟩:=iF hown5;have Vo:Hid (∀ x∈(e,a5,c5) :: s.K,Jt w.heap.size x):=aq fun x hx=>by
          rcases List.mem_cons.1 hx with rfl | hx
          ·exact fun A off h9 _=>Nat.le_trans QA.size (PX hown5 h9)
          ·exact HLO.out x hx
         have hd6:DotsIn w6 a5 e.over:=by
          simp only [Value.slice.injEq] at he5;rw [he5.1];exact hK6.dots hd5
         have h6:MpIn w6 m b { s with K:=(e,a5,c5) :: s.K }:=h5.setKept Iw (fun x hx=>by
          rcases List.mem_cons.1 hx with rfl | hx
          ·exact hd6
          ·exact hK6.dots (h5.overs x hx)) hf6
         have hR6:w6.rangeAt wr.heap.size 0 (az e ax cx):=hK6.range (ai hR4 hb5);have hb6:Below w.heap.size w w6:=(QA.trans (hb5.mono QA.size)).trans (hf6.below (Nat.le_trans QA.size hb5.size) (fun q hq=>by rw [show q=b.kb from hq];exact HFS.out _ (jT b _)));clear hd6 hd5 he5 hown5 Iw hf6 hK6 hb5 h5 hnew h4 hR4 oC z0 z1 z2 z3 QA
         refine y67 ?_
         clear hrun6 hb0 HCL
         have HK6:Hid (evsOf ((e,a5,c5) :: s.K)=((evsOf K).take (k+1)).reverse):=by
          unfold Hid;show e :: evsOf s.K=_;rw [HT.out,List.reverse_append,HLK.out.kept];rfl
         have y0:=hR6 0 _ rfl;have y1:=hR6 1 _ rfl;have y2:=hR6 2 _ rfl;have y6:=hR6 6 _ rfl;simp only [aw] at y0 y1 y2 y6;have uG:=Es e.dot (iw hdo) w6 h6;rw [show ({ s with K:=(e,a5,c5) :: s.K }:MS).dead=D from HLK.out.dead] at uG;by_cases hk1:e.kind=1
         case neg =>
          have UU:(e.kind == 1)=false:=beq_eq_false_iff_ne.2 hk1;have HP:Hid (s.pairs=(((evsOf K).take (k+1)).reverse.filter (Bq D)).map vC):=by
           refine y71 ?_
           rw [List.filter_cons,if_neg (by unfold Bq;rw [aM hk1,Bool.false_and];decide)];rfl
          have HZ:=aq (ba h6 hb6);clear uG hk1 h6 hb6 y0 y1 y2 hR6;go_wp2;go_roundw
          case rel=>exact ⟨k+1,_,by go_num,HLT.out,HZ.out.1,⟨HLK.out.ctx,HLK.out.dead,HK6.out,HP.out⟩,⟨HFS.out,Vo.out⟩,HZ.out.2⟩
          case measure => exact z65
         have UU:(e.kind == 1)=true:=beq_iff_eq.2 hk1;have HK1:=aq hk1;clear hk1;by_cases hdd:e.dot∈D
         case pos =>
          have HP:Hid (s.pairs=(((evsOf K).take (k+1)).reverse.filter (Bq D)).map vC):=by
           refine y71 ?_
           rw [List.filter_cons,if_neg (by unfold Bq;rw [aR hdd];simp)];rfl
          have hD1:decide (e.dot∈D)=true:=aR hdd;rw [hD1] at uG;have HDd:=aq uG;have HZ:=aq (ba h6 hb6);clear uG hdd hD1 hR6 h6 hb6;go_wp2_with (go_at_call 58;(with_reducible refine HDd.out.mono ?_);rintro x w7 ⟨rfl,hb7⟩)
          have HZ7:=aq (ba (HZ.out.1.kept_w hb7) (HZ.out.2.trans (hb7.mono HZ.out.2.size)));clear y0 y1 y2 y6;go_roundw
          case rel=>exact ⟨k+1,_,by go_num,HLT.out,HZ7.out.1,⟨HLK.out.ctx,HLK.out.dead,HK6.out,HP.out⟩,⟨HFS.out,Vo.out⟩,HZ7.out.2⟩
          case measure => exact z65
         have HP:Hid ((e.key,e.dot) :: s.pairs=(((evsOf K).take (k+1)).reverse.filter (Bq D)).map vC):=by
          refine y71 ?_
          rw [List.filter_cons,if_pos (by unfold Bq;rw [aR HK1.out,aM hdd];rfl)];rfl
         have SL:∀ q,(q,e.dot) ∉ s.pairs:=fun q hq=>by
          rw [HLK.out.pairs] at hq;obtain ⟨x,hx,e9⟩:=List.mem_map.1 hq;simp only [vC,Prod.mk.injEq] at e9;exact HAH.out x (List.mem_reverse.1 (List.mem_filter.1 hx).1) e9.2
         have hD1:decide (e.dot∈D)=false:=aM hdd;rw [hD1] at uG;have HDd:=aq uG;clear uG hdd hD1;go_upto_region 24 with (go_at_call 58;(with_reducible refine HDd.out.mono ?_);rintro x w7 ⟨rfl,hb7⟩)
         have h7:=h6.kept_w hb7;have hR7:=ai hR6 hb7;have SV:=hb6.trans (hb7.mono hb6.size);have hAl:(atK s.pairs e.key).length<=2048:=by
          have h1:(atK s.pairs e.key).length<=s.pairs.length:=by unfold atK;rw [List.length_map];exact List.length_filter_le _ _
          omega
         have HLV:=aq (Ih e ax cx w7 h7 hkw (iw hdo) (fun hm=>SL _ (nz.1 hm)) (Nat.le_trans hAl (by decide)) (by
          have h2:=qh (l:=s.A.map (·.1)) (m:=s.pairs.map (·.1)) (List.pairwise_map.2 h7.alive.apart) (fun q hq=>by
           obtain ⟨p,hp,rfl⟩:=List.mem_map.1 hq;obtain ⟨d,hd⟩:=List.exists_mem_of_ne_nil _ (h7.some p hp);exact List.mem_map.2 ⟨(p.1,d),nz.1 hd,rfl⟩)
          rw [List.length_map,List.length_map] at h2;show s.A.length<=_;omega))
         clear y0 y1 y2 y6 h6 hR6 hb6 hb7 SL hAl;go_wp2_with (first
          | ((with_reducible refine dn _ wr.heap.size 0 e ax cx hR7 ?_ rfl ?_);exact rfl)
          | (go_at_call 59;(with_reducible refine HLV.out.mono ?_);rintro x w8 ⟨rfl,A8,h8,Oz,IA⟩))
         have HZ8:Hid (MpIn w8 m b { s with K:=(e,a5,c5) :: s.K,A:=A8,pairs:=(e.key,e.dot) :: s.pairs }/\(∀ q,foot b A8 q->w.heap.size<=q)/\Below w.heap.size w w8):=by
          refine ⟨h8,fun q hq=>?_,SV.trans (Oz.below SV.size (fun q hq=>HFS.out q hq))⟩;rcases IA q hq with h9 | h9
          ·exact HFS.out q h9
          ·exact Nat.le_trans SV.size h9
         clear h7 hR7 h8 Oz IA HLV SV;go_roundw
         case rel=>exact ⟨k+1,_,by go_num,HLT.out,HZ8.out.1,⟨HLK.out.ctx,HLK.out.dead,HK6.out,HP.out⟩,⟨HZ8.out.2.1,Vo.out⟩,HZ8.out.2.2⟩
         case measure => exact z65
        ·obtain rfl:k=K.length:=by omega
         have U1:LoadK ctx D (evsOf K) s:=by
          have:=HLK.out;rwa [List.take_of_length_le (by rw [aW];exact ar _)] at this
         have HD2:=aq (U1.done HLD.out HDm.out);have HL2:=aq U1;clear hLK U1 HLK;go_wp2;all_goals
          go_ret2;exact ⟨m,b,s,rfl,hms,HD2.out.1,HD2.out.2,by rw [HL2.out.dead];exact hDl,HFS.out,fun x hx=>HL2.out.dots x hx,hbs,HLO.out⟩
end Go.Proofs.YthphepeniaemoaaGreat
