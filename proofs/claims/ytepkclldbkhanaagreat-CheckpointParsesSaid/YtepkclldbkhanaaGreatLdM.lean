/- What may be loaded: ormap.fits, ormap.rising; the reference's Load. Conditions: as in the text. -/
import Derived.Test.YtepkclldbkhanaaGreatRefR
set_option linter.unusedSimpArgs false
set_option linter.unusedVariables false
set_option linter.unnecessarySimpa false
set_option maxHeartbeats 16000000
set_option maxRecDepth 100000
open Go.Proofs.Tryz
namespace Go.Proofs.YtepkclldbkhanaaGreat
open Go.RowKit
def gm:Option Dot→Dot→Bool
 | none,_=>true
 | some p,d=>dG p d
def iD (ls:List bH):Nat→Option Dot
 | 0=>none
 | k+1=>ls[k]?.map (·.1.dot)
def bz (ctx:List Dot):Option Dot→List bH→Int
 | _,[]=>0
 | p,x :: r=>if eF x.1=true then (if gm p x.1.dot=true then (if iJ ctx x.1.dot=true then bz ctx (some x.1.dot) r else 4) else 6) else 1
def bU:Option Dot→List Dot→Int
 | _,[]=>0
 | p,d :: r=>if bJ d=true then (if gm p d=true then bU (some d) r else 6) else 4
theorem vZ (ctx:List Dot) (ls:List bH) (k:Nat) (h:k<ls.length):bz ctx (iD ls k) (ls.drop k)=if eF ls[k].1=true then (if gm (iD ls k) ls[k].1.dot=true then (if iJ ctx ls[k].1.dot=true then bz ctx (iD ls (k+1)) (ls.drop (k+1)) else 4) else 6) else 1:=by
 rw [List.drop_eq_getElem_cons h,bz];have:iD ls (k+1)=some ls[k].1.dot:=by simp [iD,h]
 rw [this]
theorem ve (l:List Dot) (k:Nat) (h:k<l.length):bU (aZ l k) (l.drop k)=if bJ l[k]=true then (if gm (aZ l k) l[k]=true then bU (aZ l (k+1)) (l.drop (k+1)) else 6) else 4:=by
 rw [List.drop_eq_getElem_cons h,bU];have:aZ l (k+1)=some l[k]:=by simp [aZ,h]
 rw [this]
theorem yB (ctx:List Dot) (p:Option Dot):bz ctx p []=0:=by cases p <;> rfl
theorem xZ (p:Option Dot):bU p []=0:=by cases p <;> rfl
theorem y32 {p q : Prop} (k : q) (h : PLift q → p := by
 intro kk
 refine aP (by kernel_rfl) (by kernel_rfl) (fun WA hWA => ?_)
 have hbA : Below wp.heap.size wp WA := by rw [hWA.out]; go_grown
 revert WA hWA hbA
 exact kk.down) : p := h ⟨k⟩
theorem fits_any {v b:Nat} {ctx:List Dot} (a:Option Addr) (cap:Nat) (ls:List bH) (w:World) (hV:VecIn w v b ctx) (hl:ls.length≤1073741824) (hsm:fA ls) (hE:EvsIn w a ls) :
 Calls prog 99 #[.pointer (some ⟨v,0,none⟩),.slice a ls.length cap] w fun x w'=>x=.returned (.int .i64 (bz ctx none ls))∧Below w.heap.size w w':=by
 have HM:Hid (bz ctx none ls=bz ctx (iD ls 0) (ls.drop 0)):=rfl;have HLs:=Lib.hid (fun (x y:Dot) (X:World)=>AX x y X);have HSM:=Lib.hid hsm;clear hsm;go_enter func99,ntmps99;go_wp2;go_loopw [9] (fun i wr=>∃ k:Nat,k≤ls.length∧i=.int .i64 k∧bz ctx none ls=bz ctx (iD ls k) (ls.drop k)∧Below w.heap.size w wr) (fun i _=>ls.length - (intOf i).toNat)
 case atStart => exact z110
 case round =>
  obtain ⟨k,hk,rfl,hpre,hbw⟩:=hrel;have HP:=Lib.hid hpre;clear hpre HM;have hzw:=hbw.size;by_cases hlt:k<ls.length
  ·have hst:=vZ ctx ls k hlt
   obtain ⟨A,off,rfl,hra,hda⟩:=(hE.kept hbw).at hlt;have r1:=hra k hlt;have hse:=HSM.out _ (List.getElem_mem hlt);have HT:Hid (bz ctx none ls=if eF ls[k].1=true then (if gm (iD ls k) ls[k].1.dot=true then (if iJ ctx ls[k].1.dot=true then bz ctx (iD ls (k+1)) (ls.drop (k+1)) else 4) else 6) else 1):=by rw [Hid,HP.out,hst]
   have HRA:=Lib.hid hra;clear hst HP hra;generalize ls[k]=x at r1 hse hda HT;obtain ⟨e,ax,cx⟩:=x;simp only [lD] at r1;simp only at hse hda HT;go_upto_region 4 with (first
        | ((with_reducible refine bC _ A (off+k * 19) e ax cx r1 ?_ rfl ?_);exact rfl)
        | (refine aB 127 _ _ _ (ag e ax cx).toArray rfl rfl (by kernel_rfl) rfl (by kernel_rfl) ?_))
   refine au (fun V hVn=>?_);have hbV:Below wr.heap.size wr V:=by rw [hVn.out];exact (Below.refl _ _).alloc (Nat.le_refl _) _
   have re:V.rangeAt wr.heap.size 0 (ag e ax cx):=by rw [hVn.out];exact eP e ax cx wr _
   have hR0:=gV e ax cx V hse (hda.kept hbV);have hbB:=hbw.trans (hbV.mono hzw);generalize wr.heap.size=B at *;clear hVn r1 hda hbV
   cases h1:eF e with
   | false =>
     have HE:Hid (bz ctx none ls=1):=by rw [Hid,HT.out,h1];rfl
     rw [h1] at hR0;have HR:=Lib.hid hR0;clear hR0 h1 HT;go_wp2_with (first
      | ((with_reducible refine bC _ B 0 e ax cx re ?_ rfl ?_);exact rfl)
      | (go_at_call 96;(with_reducible refine HR.out.mono ?_);rintro v9 w9 ⟨rfl,hb9⟩))
     go_ret;exact ⟨bW HE.out.symm,hbB.trans (hb9.mono hbB.size)⟩
   | true =>
     have HT1:Hid (bz ctx none ls=if gm (iD ls k) e.dot=true then (if iJ ctx e.dot=true then bz ctx (iD ls (k+1)) (ls.drop (k+1)) else 4) else 6):=by rw [Hid,HT.out,h1];rfl
     rw [h1] at hR0;have HR:=Lib.hid hR0;clear hR0 h1 HT;go_upto_region 6 with (first
      | ((with_reducible refine bC _ B 0 e ax cx re ?_ rfl ?_);exact rfl)
      | (go_at_call 96;(with_reducible refine HR.out.mono ?_);rintro v9 wp ⟨rfl,hb9⟩))
     have rp:=aj re hb9;replace hbB:=hbB.trans (hb9.mono hbB.size);have b0:=rp 0 _ rfl;have b1:=rp 1 _ rfl;have b2:=rp 2 _ rfl;simp only [Nat.zero_add] at b0 b1 b2;clear re rp hb9 HR;rcases Nat.eq_zero_or_pos k with hk0 | hk0
     ·refine y39 ?_
      intro Bo hdk
      have HT2:Hid (bz ctx none ls=if iJ ctx e.dot=true then bz ctx (iD ls (k+1)) (ls.drop (k+1)) else 4):=by rw [Hid,HT1.out];subst hk0;rfl
      clear HT1 hk0;go_upto_region 6 with fail
      refine y32 ?_
      intro WA hWA hbA
      have pb0:∀ i:After WA,i.w.cell? ⟨B,0,none⟩=some (.int .i64 e.dot.a.dev):=fun i=>i.cell (kept hbA b0);have pb1:∀ i:After WA,i.w.cell? ⟨B,1,none⟩=some (.int .i64 e.dot.a.inc):=fun i=>i.cell (kept hbA b1);have pb2:∀ i:After WA,i.w.cell? ⟨B,2,none⟩=some (.int .i64 e.dot.seq):=fun i=>i.cell (kept hbA b2);clear hWA;iterate 15 go_big_quiet_step (fail)
      refine wpQuiet_nil ?_;rintro _ ⟨i,rfl⟩;have hiA:=i.h;generalize i.w=wq at hiA ⊢;have hbY:Below wp.heap.size wp wq:=below2 hbA hiA;clear hbA hiA pb0 pb1 pb2;have hVq:=hV.kept (hbB.trans (hbY.mono hbB.size));have q0:=kept hbY b0;have q1:=kept hbY b1;have q2:=kept hbY b2;have hbQ:=hbB.trans (hbY.mono hbB.size);have hH0:=Gh e.dot wq hVq;clear b0 b1 b2 hbY hbB hVq
      cases h3:iJ ctx e.dot with
      | false =>
        have HE:Hid (bz ctx none ls=4):=by unfold Hid;rw [HT2.out,h3];rfl
        rw [h3] at hH0;have HH:=Lib.hid hH0;clear hH0 h3 HT2;go_wp2_with (go_at_call 144;(with_reducible refine HH.out.mono ?_);rintro v9 w9 ⟨rfl,hb9⟩)
        go_ret;exact ⟨bW HE.out.symm,hbQ.trans (hb9.mono hbQ.size)⟩
      | true =>
        have HE:Hid (bz ctx none ls=bz ctx (iD ls (k+1)) (ls.drop (k+1))):=by unfold Hid;rw [HT2.out,h3];rfl
        rw [h3] at hH0;have HH:=Lib.hid hH0;clear hH0 h3 HT2;go_wp2_with (go_at_call 144;(with_reducible refine HH.out.mono ?_);rintro v9 w9 ⟨rfl,hb9⟩)
        go_roundw
        case rel=>exact ⟨k+1,by omega,by go_num,HE.out,hbQ.trans (hb9.mono hbQ.size)⟩
        case measure => exact z65
     ·obtain ⟨j,rfl⟩:∃ j,k=j+1:=⟨k - 1,by omega⟩
      have hj:j<ls.length:=by omega
      obtain ⟨A',off',hA',J7,_⟩:=(hE.kept hbB).at hj;have hAA:A'=A∧off'=off:=by cases hA';exact ⟨rfl,rfl⟩
      rw [hAA.1,hAA.2] at J7;have ry:=J7 j hj;have hpv:iD ls (j+1)=some ls[j].1.dot:=by simp [iD,hj]
      rw [hpv] at HT1;clear J7 hA' hAA HRA hpv;generalize ls[j]=y at ry HT1;obtain ⟨y,ay,cy⟩:=y;simp only [lD] at ry;simp only at HT1;have f0:=ry 0 _ rfl;have f1:=ry 1 _ rfl;have f2:=ry 2 _ rfl;simp only [Nat.add_zero] at f0;have hC0:=fun (W:World)=>HLs.out y.dot e.dot W
      refine y13 ?_
      intro hdk hww
      clear ry hk0
      cases h2:dG y.dot e.dot with
      | false =>
        have HE:Hid (bz ctx none ls=6):=by rw [Hid,HT1.out];simp [gm,h2]
        rw [h2] at hC0;clear h2 HT1;go_upto_region 6 with fail
        refine aP (by kernel_rfl) (by kernel_rfl) (fun WA hWA=>?_);have hbA:Below wp.heap.size wp WA:=by rw [hWA.out];go_grown
        have pb0:∀ i:After WA,i.w.cell? ⟨B,0,none⟩=some (.int .i64 e.dot.a.dev):=fun i=>i.cell (kept hbA b0);have pb1:∀ i:After WA,i.w.cell? ⟨B,1,none⟩=some (.int .i64 e.dot.a.inc):=fun i=>i.cell (kept hbA b1);have pb2:∀ i:After WA,i.w.cell? ⟨B,2,none⟩=some (.int .i64 e.dot.seq):=fun i=>i.cell (kept hbA b2);have pf0:∀ i:After WA,i.w.cell? ⟨A,off+j * 19,none⟩=some (.int .i64 y.dot.a.dev):=fun i=>i.cell (kept hbA f0);have pf1:∀ i:After WA,i.w.cell? ⟨A,off+j * 19+1,none⟩=some (.int .i64 y.dot.a.inc):=fun i=>i.cell (kept hbA f1);have pf2:∀ i:After WA,i.w.cell? ⟨A,off+j * 19+2,none⟩=some (.int .i64 y.dot.seq):=fun i=>i.cell (kept hbA f2);clear hWA;iterate 11 go_big_quiet_step (fail)
        go_big_quiet_step (exact Calls.after (hC0 _))
        iterate 3 go_big_quiet_step (fail)
        refine wpQuiet_nil ?_;rintro _ ⟨i,rfl⟩;have hiA:=i.h;generalize i.w=wq at hiA ⊢;have hbY:Below wp.heap.size wp wq:=below2 hbA hiA;clear hbA hiA pb0 pb1 pb2 pf0 pf1 pf2;go_wp2;go_ret;exact ⟨bW HE.out.symm,hbB.trans (hbY.mono hbB.size)⟩
      | true =>
        have HT2:Hid (bz ctx none ls=if iJ ctx e.dot=true then bz ctx (iD ls (j+1+1)) (ls.drop (j+1+1)) else 4):=by rw [Hid,HT1.out];simp [gm,h2]
        rw [h2] at hC0;clear h2 HT1;go_upto_region 6 with fail
        refine aP (by kernel_rfl) (by kernel_rfl) (fun WA hWA=>?_);have hbA:Below wp.heap.size wp WA:=by rw [hWA.out];go_grown
        have pb0:∀ i:After WA,i.w.cell? ⟨B,0,none⟩=some (.int .i64 e.dot.a.dev):=fun i=>i.cell (kept hbA b0);have pb1:∀ i:After WA,i.w.cell? ⟨B,1,none⟩=some (.int .i64 e.dot.a.inc):=fun i=>i.cell (kept hbA b1);have pb2:∀ i:After WA,i.w.cell? ⟨B,2,none⟩=some (.int .i64 e.dot.seq):=fun i=>i.cell (kept hbA b2);have pf0:∀ i:After WA,i.w.cell? ⟨A,off+j * 19,none⟩=some (.int .i64 y.dot.a.dev):=fun i=>i.cell (kept hbA f0);have pf1:∀ i:After WA,i.w.cell? ⟨A,off+j * 19+1,none⟩=some (.int .i64 y.dot.a.inc):=fun i=>i.cell (kept hbA f1);have pf2:∀ i:After WA,i.w.cell? ⟨A,off+j * 19+2,none⟩=some (.int .i64 y.dot.seq):=fun i=>i.cell (kept hbA f2);clear hWA;iterate 11 go_big_quiet_step (fail)
        go_big_quiet_step (exact Calls.after (hC0 _))
        iterate 3 go_big_quiet_step (fail)
        refine wpQuiet_nil ?_;rintro _ ⟨i,rfl⟩;have hiA:=i.h;generalize i.w=wq at hiA ⊢;have hbY:Below wp.heap.size wp wq:=below2 hbA hiA;clear hbA hiA pb0 pb1 pb2 pf0 pf1 pf2;clear hC0 hww hdk f0 f1 f2;have hVq:=hV.kept (hbB.trans (hbY.mono hbB.size));have q0:=kept hbY b0;have q1:=kept hbY b1;have q2:=kept hbY b2;have hbQ:=hbB.trans (hbY.mono hbB.size);have hH0:=Gh e.dot wq hVq;clear b0 b1 b2 hbY hbB hVq
        cases h3:iJ ctx e.dot with
        | false =>
          have HE:Hid (bz ctx none ls=4):=by unfold Hid;rw [HT2.out,h3];rfl
          rw [h3] at hH0;have HH:=Lib.hid hH0;clear hH0 h3 HT2;go_wp2_with (go_at_call 144;(with_reducible refine HH.out.mono ?_);rintro v9 w9 ⟨rfl,hb9⟩)
          go_ret;exact ⟨bW HE.out.symm,hbQ.trans (hb9.mono hbQ.size)⟩
        | true =>
          have HE:Hid (bz ctx none ls=bz ctx (iD ls ((j+1)+1)) (ls.drop ((j+1)+1))):=by unfold Hid;rw [HT2.out,h3];rfl
          rw [h3] at hH0;have HH:=Lib.hid hH0;clear hH0 h3 HT2;go_wp2_with (go_at_call 144;(with_reducible refine HH.out.mono ?_);rintro v9 w9 ⟨rfl,hb9⟩)
          go_roundw
          case rel=>exact ⟨(j+1)+1,by omega,by go_num,HE.out,hbQ.trans (hb9.mono hbQ.size)⟩
          case measure => exact z65
  ·have HE:Hid (bz ctx none ls=0):=by rw [Hid,HP.out,List.drop_eq_nil_of_le (by omega)];exact yB _ _
   clear HP;go_wp2;go_ret;exact ⟨bW HE.out.symm,hbw⟩
/-! ### rising -/
theorem zQ (a:Option Addr) (cap:Nat) (l:List Dot) (w:World) (hl:l.length≤1073741824) (hd:DotsIn w a l) :
 Calls prog 100 #[.slice a l.length cap] w fun x w'=>x=.returned (.int .i64 (bU none l))∧Below w.heap.size w w':=by
 have HM:Hid (bU none l=bU (aZ l 0) (l.drop 0)):=rfl;have HLs:=Lib.hid (fun (x y:Dot) (X:World)=>AX x y X);go_enter func100,ntmps100;go_wp2;go_loopw [7] (fun i wr=>∃ k:Nat,k≤l.length∧i=.int .i64 k∧bU none l=bU (aZ l k) (l.drop k)∧Below w.heap.size w wr) (fun i _=>l.length - (intOf i).toNat)
 case atStart => exact z110
 case round =>
  obtain ⟨k,hk,rfl,hpre,hbw⟩:=hrel;have HP:=Lib.hid hpre;clear hpre HM;have hzw:=hbw.size;by_cases hlt:k<l.length
  ·have hst:=ve l k hlt
   obtain ⟨A,off,rfl,e0,e1,e2⟩:=(hd.kept hbw).at hlt;have HT:Hid (bU none l=if bJ l[k]=true then (if gm (aZ l k) l[k]=true then bU (aZ l (k+1)) (l.drop (k+1)) else 6) else 4):=by rw [Hid,HP.out,hst]
   clear hst HP;generalize l[k]=x at e0 e1 e2 HT;go_upto_region 4 with fail
   refine au (fun V hVn=>?_);have hbV:Below wr.heap.size wr V:=by rw [hVn.out];go_grown
   have b0:V.cell? ⟨wr.heap.size,0,none⟩=some (.int .i64 x.a.dev):=by rw [hVn.out];go_simp
   have b1:V.cell? ⟨wr.heap.size,1,none⟩=some (.int .i64 x.a.inc):=by rw [hVn.out];go_simp
   have b2:V.cell? ⟨wr.heap.size,2,none⟩=some (.int .i64 x.seq):=by rw [hVn.out];go_simp
   have hR0:=fun (X:World)=>ja x X;have hbB:=hbw.trans (hbV.mono hzw);generalize wr.heap.size=B at *;clear hVn e0 e1 e2 hbV
   cases h1:bJ x with
   | false =>
     have HE:Hid (bU none l=4):=by rw [Hid,HT.out,h1];rfl
     rw [h1] at hR0;have HR:=Lib.hid hR0;clear hR0 h1 HT;go_wp2_with (go_at_call 97;(with_reducible refine (HR.out _).mono ?_);rintro v9 w9 ⟨rfl,hb9⟩)
     go_ret;exact ⟨bW HE.out.symm,hbB.trans (hb9.mono hbB.size)⟩
   | true =>
     have HT1:Hid (bU none l=if gm (aZ l k) x=true then bU (aZ l (k+1)) (l.drop (k+1)) else 6):=by rw [Hid,HT.out,h1];rfl
     rw [h1] at hR0;have HR:=Lib.hid hR0;clear hR0 h1 HT;go_upto_region 6 with (go_at_call 97;(with_reducible refine (HR.out _).mono ?_);rintro v9 wp ⟨rfl,hb9⟩)
     replace b0:=kept hb9 b0;replace b1:=kept hb9 b1;replace b2:=kept hb9 b2;replace hbB:=hbB.trans (hb9.mono hbB.size);clear hb9 HR;rcases Nat.eq_zero_or_pos k with hk0 | hk0
     ·refine y39 ?_
      intro Bo hdk
      have HE:Hid (bU none l=bU (aZ l (k+1)) (l.drop (k+1))):=by rw [Hid,HT1.out];subst hk0;rfl
      clear HT1 hk0;go_upto_region 6 with fail
      refine y32 ?_
      intro WA hWA hbA
      have pb0:∀ i:After WA,i.w.cell? ⟨B,0,none⟩=some (.int .i64 x.a.dev):=fun i=>i.cell (kept hbA b0);have pb1:∀ i:After WA,i.w.cell? ⟨B,1,none⟩=some (.int .i64 x.a.inc):=fun i=>i.cell (kept hbA b1);have pb2:∀ i:After WA,i.w.cell? ⟨B,2,none⟩=some (.int .i64 x.seq):=fun i=>i.cell (kept hbA b2);clear hWA;iterate 13 go_big_quiet_step (fail)
      refine wpQuiet_nil ?_;rintro _ ⟨i,rfl⟩;have hiA:=i.h;generalize i.w=wq at hiA ⊢;have hbY:Below wp.heap.size wp wq:=below2 hbA hiA;clear hbA hiA pb0 pb1 pb2;go_wp2;go_roundw
      case rel=>exact ⟨k+1,by omega,by go_num,HE.out,hbB.trans (hbY.mono hbB.size)⟩
      case measure => exact z65
     ·obtain ⟨j,rfl⟩:∃ j,k=j+1:=⟨k - 1,by omega⟩
      have hj:j<l.length:=by omega
      obtain ⟨A',off',hA',f0,f1,f2⟩:=(hd.kept hbB).at hj;have hAA:A'=A∧off'=off:=by cases hA';exact ⟨rfl,rfl⟩
      rw [hAA.1,hAA.2] at f0 f1 f2;have hpv:aZ l (j+1)=some l[j]:=by simp [aZ,hj]
      rw [hpv] at HT1;clear hA' hAA hpv;generalize l[j]=y at f0 f1 f2 HT1;have hC0:=fun (W:World)=>HLs.out y x W
      refine y13 ?_
      intro hdk hww
      clear hk0
      cases h2:dG y x with
      | false =>
        have HE:Hid (bU none l=6):=by rw [Hid,HT1.out];simp [gm,h2]
        rw [h2] at hC0;clear h2 HT1;go_upto_region 6 with fail
        refine aP (by kernel_rfl) (by kernel_rfl) (fun WA hWA=>?_);have hbA:Below wp.heap.size wp WA:=by rw [hWA.out];go_grown
        have pb0:∀ i:After WA,i.w.cell? ⟨B,0,none⟩=some (.int .i64 x.a.dev):=fun i=>i.cell (kept hbA b0);have pb1:∀ i:After WA,i.w.cell? ⟨B,1,none⟩=some (.int .i64 x.a.inc):=fun i=>i.cell (kept hbA b1);have pb2:∀ i:After WA,i.w.cell? ⟨B,2,none⟩=some (.int .i64 x.seq):=fun i=>i.cell (kept hbA b2);have pf0:∀ i:After WA,i.w.cell? ⟨A,off+j * 3,none⟩=some (.int .i64 y.a.dev):=fun i=>i.cell (kept hbA f0);have pf1:∀ i:After WA,i.w.cell? ⟨A,off+j * 3+1,none⟩=some (.int .i64 y.a.inc):=fun i=>i.cell (kept hbA f1);have pf2:∀ i:After WA,i.w.cell? ⟨A,off+j * 3+2,none⟩=some (.int .i64 y.seq):=fun i=>i.cell (kept hbA f2);clear hWA;iterate 9 go_big_quiet_step (fail)
        go_big_quiet_step (exact Calls.after (hC0 _))
        iterate 3 go_big_quiet_step (fail)
        refine wpQuiet_nil ?_;rintro _ ⟨i,rfl⟩;have hiA:=i.h;generalize i.w=wq at hiA ⊢;have hbY:Below wp.heap.size wp wq:=below2 hbA hiA;clear hbA hiA pb0 pb1 pb2 pf0 pf1 pf2;go_wp2;go_ret;exact ⟨bW HE.out.symm,hbB.trans (hbY.mono hbB.size)⟩
      | true =>
        have HE:Hid (bU none l=bU (aZ l (j+1+1)) (l.drop (j+1+1))):=by rw [Hid,HT1.out];simp [gm,h2]
        rw [h2] at hC0;clear h2 HT1;go_upto_region 6 with fail
        refine aP (by kernel_rfl) (by kernel_rfl) (fun WA hWA=>?_);have hbA:Below wp.heap.size wp WA:=by rw [hWA.out];go_grown
        have pb0:∀ i:After WA,i.w.cell? ⟨B,0,none⟩=some (.int .i64 x.a.dev):=fun i=>i.cell (kept hbA b0);have pb1:∀ i:After WA,i.w.cell? ⟨B,1,none⟩=some (.int .i64 x.a.inc):=fun i=>i.cell (kept hbA b1);have pb2:∀ i:After WA,i.w.cell? ⟨B,2,none⟩=some (.int .i64 x.seq):=fun i=>i.cell (kept hbA b2);have pf0:∀ i:After WA,i.w.cell? ⟨A,off+j * 3,none⟩=some (.int .i64 y.a.dev):=fun i=>i.cell (kept hbA f0);have pf1:∀ i:After WA,i.w.cell? ⟨A,off+j * 3+1,none⟩=some (.int .i64 y.a.inc):=fun i=>i.cell (kept hbA f1);have pf2:∀ i:After WA,i.w.cell? ⟨A,off+j * 3+2,none⟩=some (.int .i64 y.seq):=fun i=>i.cell (kept hbA f2);clear hWA;iterate 9 go_big_quiet_step (fail)
        go_big_quiet_step (exact Calls.after (hC0 _))
        iterate 3 go_big_quiet_step (fail)
        refine wpQuiet_nil ?_;rintro _ ⟨i,rfl⟩;have hiA:=i.h;generalize i.w=wq at hiA ⊢;have hbY:Below wp.heap.size wp wq:=below2 hbA hiA;clear hbA hiA pb0 pb1 pb2 pf0 pf1 pf2;clear hC0 hww hdk f0 f1 f2;go_wp2;go_roundw
        case rel=>exact ⟨j+1+1,by omega,by go_num,HE.out,hbB.trans (hbY.mono hbB.size)⟩
        case measure => exact z65
  ·have HE:Hid (bU none l=0):=by rw [Hid,HP.out,List.drop_eq_nil_of_le (by omega)];exact xZ _
   clear HP;go_wp2;go_ret;exact ⟨bW HE.out.symm,hbw⟩
def or2 (f r:Int):Int:=if f=0 then r else f
def dA (ctx:List Dot) (K:List bH) (dead:List Dot):Int:=or2 (aW ctx) (if 2048<K.length∨65536<dead.length then 3 else or2 (bz ctx none K) (bU none dead))
theorem GG (y:RMIt) (w:World) (hc:y.ctx.length≤1048576) (hk:y.K.length≤1048576) (hdl:y.dead.length≤1048576) (hsm:fA y.K) (hI:RMIn w y) :
 Calls prog 63 #[qV y] w fun x w'=>x=.returned (.int .i64 (dA y.ctx y.K y.dead))∧Below w.heap.size w w':=by
 obtain ⟨ac,ctx,cc,aK,K,cK,ad,dead,cd⟩:=y;obtain ⟨hcx,hE,hd,_,_,_⟩:=hI;simp only at hc hk hdl hsm hcx hE hd ⊢;have HLs:=Lib.hid (fun (x y:Dot) (X:World)=>DI x y X);have HSM:=Lib.hid hsm;have HDR:=Lib.hid (fun (x:Dot) (X:World)=>jV x X);have hCk:=fun (X:World) (h:DotsIn X ac ctx)=>Ah ac cc ctx X (by omega) h;clear hsm;have hun:dA ctx K dead=or2 (aW ctx) (if 2048<K.length∨65536<dead.length then 3 else or2 (bz ctx none K) (bU none dead)):=rfl;have HUN:=Lib.hid hun;clear hun;go_enter func63,ntmps63;go_upto_region 1 with fail
 refine au (fun V hV=>?_);have hb0:Below w.heap.size w V:=by rw [hV.out];go_grown
 have c0:V.cell? ⟨w.heap.size,0,none⟩=some (.slice ac ctx.length cc):=by rw [hV.out];go_simp
 have c1:V.cell? ⟨w.heap.size,1,none⟩=some (.slice aK K.length cK):=by rw [hV.out];go_simp
 have c2:V.cell? ⟨w.heap.size,2,none⟩=some (.slice ad dead.length cd):=by rw [hV.out];go_simp
 replace hcx:=hcx.kept hb0;replace hE:=hE.kept hb0;replace hd:=hd.kept hb0;clear hV;by_cases hm0:aW ctx=0
 case neg =>
  have hmb:(aW ctx != 0)=true:=bne_iff_ne.2 hm0;have HE:Hid (dA ctx K dead=aW ctx):=by unfold Hid;rw [HUN.out];unfold or2;rw [if_neg hm0]
  have HC:=Lib.hid (hCk V hcx);clear hm0 hCk HUN;generalize aW ctx=me at *;go_wp2_with (go_at_call 106;(with_reducible refine HC.out.mono ?_);rintro v9 w9 ⟨rfl,hb9⟩)
  go_ret;exact ⟨bW HE.out.symm,hb0.trans (hb9.mono hb0.size)⟩
 rw [hm0] at hCk;have HE0:Hid (dA ctx K dead=if 2048<K.length∨65536<dead.length then 3 else or2 (bz ctx none K) (bU none dead)):=by unfold Hid;rw [HUN.out,hm0];rfl
 clear hm0 HUN;go_upto_region 4 with (go_at_call 106;(with_reducible refine (hCk _ hcx).mono ?_);rintro v9 w9 ⟨rfl,hb9⟩)
 replace c0:=kept hb9 c0;replace c1:=kept hb9 c1;replace c2:=kept hb9 c2;replace hcx:=hcx.kept hb9;replace hE:=hE.kept hb9;replace hd:=hd.kept hb9;have VL:Below w.heap.size w w9:=hb0.trans (hb9.mono hb0.size);clear hb0 hb9 hCk;have hb0:=VL;clear VL;by_cases hkl:2048<K.length
 ·have hdk:decide ((2048:Int)<(K.length:Int))=true:=decide_eq_true (by omega)
  have HE:Hid (dA ctx K dead=3):=by unfold Hid;rw [HE0.out,if_pos (Or.inl hkl)]
  clear hkl HE0;go_wp2;go_ret;exact ⟨bW HE.out.symm,hb0⟩
 have hdk:decide ((2048:Int)<(K.length:Int))=false:=decide_eq_false (by omega);by_cases Ol:65536<dead.length
 ·have Rw:decide ((65536:Int)<(dead.length:Int))=true:=decide_eq_true (by omega)
  have HE:Hid (dA ctx K dead=3):=by unfold Hid;rw [HE0.out,if_pos (Or.inr Ol)]
  clear Ol HE0;go_wp2;go_ret;exact ⟨bW HE.out.symm,hb0⟩
 have Rw:decide ((65536:Int)<(dead.length:Int))=false:=decide_eq_false (by omega);obtain ⟨LE,hLE⟩:∃ LE,LE=dA ctx K dead:=⟨_,rfl⟩;have HLE:Hid (dA ctx K dead=LE):=hLE.symm;obtain ⟨R,hR⟩:∃ R,R=bU none dead:=⟨_,rfl⟩;have HRR:=Lib.hid hR;have HM:Hid (LE=or2 (bz ctx (iD K 0) (K.drop 0)) R):=by unfold Hid;rw [hLE,HE0.out,if_neg (by omega),hR];rfl
 clear hLE hR HE0;go_wp2;go_loopw [4] (fun i wr=>∃ k:Nat,k≤K.length∧i=.int .i64 k∧LE=or2 (bz ctx (iD K k) (K.drop k)) R∧Below w9.heap.size w9 wr) (fun i _=>K.length - (intOf i).toNat)
 case atStart => exact z110
 case round =>
  obtain ⟨k,hk',rfl,hpre,hbw⟩:=hrel;have HP:=Lib.hid hpre;clear hpre HM;have hzw:=hbw.size;replace c0:=kept hbw c0;replace c1:=kept hbw c1;replace c2:=kept hbw c2;by_cases hlt:k<K.length
  ·have hst:=vZ ctx K k hlt
   obtain ⟨A,off,rfl,hra,hda⟩:=(hE.kept hbw).at hlt;have r1:=hra k hlt;have hse:=HSM.out _ (List.getElem_mem hlt);have HT:Hid (LE=or2 (if eF K[k].1=true then (if gm (iD K k) K[k].1.dot=true then (if iJ ctx K[k].1.dot=true then bz ctx (iD K (k+1)) (K.drop (k+1)) else 4) else 6) else 1) R):=by rw [Hid,HP.out,hst]
   clear hst HP hra;generalize K[k]=x at r1 hse hda HT;obtain ⟨e,ax,cx⟩:=x;simp only [lD] at r1;simp only at hse hda HT;have hR0:=lY e ax cx wr hse hda
   cases h1:eF e with
   | false =>
     have HE:Hid (LE=1):=by rw [Hid,HT.out,h1];rfl
     rw [h1] at hR0;have HR:=Lib.hid hR0;clear hR0 h1 HT;go_wp2_with (first
      | ((with_reducible refine bC _ A (off+k * 19) e ax cx r1 ?_ rfl ?_);exact rfl)
      | (go_at_call 109;(with_reducible refine HR.out.mono ?_);rintro v9 w8 ⟨rfl,hb9⟩))
     go_ret;exact ⟨bW (HLE.out.trans HE.out).symm,hb0.trans ((hbw.trans (hb9.mono hbw.size)).mono hb0.size)⟩
   | true =>
     have HT1:Hid (LE=or2 (if gm (iD K k) e.dot=true then (if iJ ctx e.dot=true then bz ctx (iD K (k+1)) (K.drop (k+1)) else 4) else 6) R):=by rw [Hid,HT.out,h1];rfl
     rw [h1] at hR0;have HR:=Lib.hid hR0;clear hR0 h1 HT;go_upto_region 11 with (first
      | ((with_reducible refine bC _ A (off+k * 19) e ax cx r1 ?_ rfl ?_);exact rfl)
      | (go_at_call 109;(with_reducible refine HR.out.mono ?_);rintro v9 wp ⟨rfl,hb9⟩))
     have rp:=aj r1 hb9;have hbB:=hbw.trans (hb9.mono hbw.size);replace c0:=kept hb9 c0;replace c1:=kept hb9 c1;replace c2:=kept hb9 c2;have e0:=rp 0 _ rfl;have e1:=rp 1 _ rfl;have e2:=rp 2 _ rfl;simp only [Nat.add_zero] at e0;clear r1 rp hb9 HR hda;rcases Nat.eq_zero_or_pos k with hk0 | hk0
     ·have Bo:¬ 0<k:=by omega
      have Qe:decide (0<k)=false:=by simp;omega
      have HT2:Hid (LE=or2 (if iJ ctx e.dot=true then bz ctx (iD K (k+1)) (K.drop (k+1)) else 4) R):=by rw [Hid,HT1.out];subst hk0;rfl
      clear HT1 hk0;go_upto_region 11 with fail
      refine y32 ?_
      intro WA hWA hbA
      have pc1:∀ i:After WA,i.w.cell? ⟨w.heap.size,1,none⟩=some (.slice (some ⟨A,off,none⟩) K.length cK):=fun i=>i.cell (kept hbA c1);clear hWA;iterate 19 go_big_quiet_step (fail)
      refine wpQuiet_nil ?_;rintro _ ⟨i,rfl⟩;have hiA:=i.h;generalize i.w=wq at hiA ⊢;have hbY:Below wp.heap.size wp wq:=below2 hbA hiA;clear hbA hiA pc1;have q0:=kept hbY c0;have q1:=kept hbY c1;have q2:=kept hbY c2;have r0:=kept hbY e0;have r1:=kept hbY e1;have r2:=kept hbY e2;have hbQ:=hbB.trans (hbY.mono hbB.size);have hdq:=hcx.kept hbQ;have hH0:=fun (X:World) (h:DotsIn X ac ctx)=>DK ac cc ctx e.dot X (by omega) h;clear c0 c1 c2 e0 e1 e2 hbY hbB
      cases h3:iJ ctx e.dot with
      | false =>
        have HE:Hid (LE=4):=by unfold Hid;rw [HT2.out,h3];rfl
        rw [h3] at hH0;clear h3 HT2;go_upto_region 13 with fail
        refine aP (by kernel_rfl) (by kernel_rfl) (fun WA hWA=>?_);have hbA:Below wq.heap.size wq WA:=by rw [hWA.out];go_grown
        have pq0:∀ i:After WA,i.w.cell? ⟨w.heap.size,0,none⟩=some (.slice ac ctx.length cc):=fun i=>i.cell (kept hbA q0);have pq1:∀ i:After WA,i.w.cell? ⟨w.heap.size,1,none⟩=some (.slice (some ⟨A,off,none⟩) K.length cK):=fun i=>i.cell (kept hbA q1);have pr0:∀ i:After WA,i.w.cell? ⟨A,off+k * 19,none⟩=some (.int .i64 e.dot.a.dev):=fun i=>i.cell (kept hbA r0);have pr1:∀ i:After WA,i.w.cell? ⟨A,off+k * 19+1,none⟩=some (.int .i64 e.dot.a.inc):=fun i=>i.cell (kept hbA r1);have pr2:∀ i:After WA,i.w.cell? ⟨A,off+k * 19+2,none⟩=some (.int .i64 e.dot.seq):=fun i=>i.cell (kept hbA r2);clear hWA;iterate 8 go_big_quiet_step (fail)
        go_big_quiet_step (exact Calls.after (hH0 _ ((hdq.kept hbA).kept (After.h _))))
        go_big_quiet_step (fail)
        refine wpQuiet_nil ?_;rintro _ ⟨i,rfl⟩;have hiA:=i.h;generalize i.w=wz at hiA ⊢;have hbY:Below wq.heap.size wq wz:=below2 hbA hiA;clear hbA hiA pq0 pq1 pr0 pr1 pr2;go_wp2;go_ret;exact ⟨bW (HLE.out.trans HE.out).symm,hb0.trans ((hbQ.trans (hbY.mono hbQ.size)).mono hb0.size)⟩
      | true =>
        have HE:Hid (LE=or2 (bz ctx (iD K (k+1)) (K.drop (k+1))) R):=by unfold Hid;rw [HT2.out,h3];rfl
        rw [h3] at hH0;clear h3 HT2;go_upto_region 13 with fail
        refine aP (by kernel_rfl) (by kernel_rfl) (fun WA hWA=>?_);have hbA:Below wq.heap.size wq WA:=by rw [hWA.out];go_grown
        have pq0:∀ i:After WA,i.w.cell? ⟨w.heap.size,0,none⟩=some (.slice ac ctx.length cc):=fun i=>i.cell (kept hbA q0);have pq1:∀ i:After WA,i.w.cell? ⟨w.heap.size,1,none⟩=some (.slice (some ⟨A,off,none⟩) K.length cK):=fun i=>i.cell (kept hbA q1);have pr0:∀ i:After WA,i.w.cell? ⟨A,off+k * 19,none⟩=some (.int .i64 e.dot.a.dev):=fun i=>i.cell (kept hbA r0);have pr1:∀ i:After WA,i.w.cell? ⟨A,off+k * 19+1,none⟩=some (.int .i64 e.dot.a.inc):=fun i=>i.cell (kept hbA r1);have pr2:∀ i:After WA,i.w.cell? ⟨A,off+k * 19+2,none⟩=some (.int .i64 e.dot.seq):=fun i=>i.cell (kept hbA r2);clear hWA;iterate 8 go_big_quiet_step (fail)
        go_big_quiet_step (exact Calls.after (hH0 _ ((hdq.kept hbA).kept (After.h _))))
        go_big_quiet_step (fail)
        refine wpQuiet_nil ?_;rintro _ ⟨i,rfl⟩;have hiA:=i.h;generalize i.w=wz at hiA ⊢;have hbY:Below wq.heap.size wq wz:=below2 hbA hiA;clear hbA hiA pq0 pq1 pr0 pr1 pr2;go_wp2;go_roundw
        case rel=>exact ⟨k+1,by omega,by go_num,HE.out,hbQ.trans (hbY.mono hbQ.size)⟩
        case measure => exact z65
     ·obtain ⟨j,rfl⟩:∃ j,k=j+1:=⟨k - 1,by omega⟩
      have hj:j<K.length:=by omega
      obtain ⟨A',off',hA',J7,_⟩:=(hE.kept hbB).at hj;have hAA:A'=A∧off'=off:=by cases hA';exact ⟨rfl,rfl⟩
      rw [hAA.1,hAA.2] at J7;have ry:=J7 j hj;have hpv:iD K (j+1)=some K[j].1.dot:=by simp [iD,hj]
      rw [hpv] at HT1;clear J7 hA' hAA hpv;generalize K[j]=y at ry HT1;obtain ⟨y,ay,cy⟩:=y;simp only [lD] at ry;simp only at HT1;have f0:=ry 0 _ rfl;have f1:=ry 1 _ rfl;have f2:=ry 2 _ rfl;simp only [Nat.add_zero] at f0;have hC0:=fun (W:World)=>HLs.out y.dot e.dot W;have Qe:decide ((0:Int)<(j:Int)+1)=true:=by simp <;> omega
      refine y66 ?_
      intro hww
      clear ry hk0
      cases h2:dG y.dot e.dot with
      | false =>
        have HE:Hid (LE=6):=by rw [Hid,HT1.out];simp [gm,h2,or2]
        rw [h2] at hC0;clear h2 HT1;go_upto_region 11 with fail
        refine aP (by kernel_rfl) (by kernel_rfl) (fun WA hWA=>?_);have hbA:Below wp.heap.size wp WA:=by rw [hWA.out];go_grown
        have pc1:∀ i:After WA,i.w.cell? ⟨w.heap.size,1,none⟩=some (.slice (some ⟨A,off,none⟩) K.length cK):=fun i=>i.cell (kept hbA c1);have pe0:∀ i:After WA,i.w.cell? ⟨A,off+(j+1) * 19,none⟩=some (.int .i64 e.dot.a.dev):=fun i=>i.cell (kept hbA e0);have pe1:∀ i:After WA,i.w.cell? ⟨A,off+(j+1) * 19+1,none⟩=some (.int .i64 e.dot.a.inc):=fun i=>i.cell (kept hbA e1);have pe2:∀ i:After WA,i.w.cell? ⟨A,off+(j+1) * 19+2,none⟩=some (.int .i64 e.dot.seq):=fun i=>i.cell (kept hbA e2);have pf0:∀ i:After WA,i.w.cell? ⟨A,off+j * 19,none⟩=some (.int .i64 y.dot.a.dev):=fun i=>i.cell (kept hbA f0);have pf1:∀ i:After WA,i.w.cell? ⟨A,off+j * 19+1,none⟩=some (.int .i64 y.dot.a.inc):=fun i=>i.cell (kept hbA f1);have pf2:∀ i:After WA,i.w.cell? ⟨A,off+j * 19+2,none⟩=some (.int .i64 y.dot.seq):=fun i=>i.cell (kept hbA f2);clear hWA;iterate 16 go_big_quiet_step (fail)
        go_big_quiet_step (exact Calls.after (hC0 _))
        iterate 2 go_big_quiet_step (fail)
        refine wpQuiet_nil ?_;rintro _ ⟨i,rfl⟩;have hiA:=i.h;generalize i.w=wq at hiA ⊢;have hbY:Below wp.heap.size wp wq:=below2 hbA hiA;clear hbA hiA pc1 pe0 pe1 pe2 pf0 pf1 pf2;go_wp2;go_ret;exact ⟨bW (HLE.out.trans HE.out).symm,hb0.trans ((hbB.trans (hbY.mono hbB.size)).mono hb0.size)⟩
      | true =>
        have HT2:Hid (LE=or2 (if iJ ctx e.dot=true then bz ctx (iD K (j+1+1)) (K.drop (j+1+1)) else 4) R):=by rw [Hid,HT1.out];simp [gm,h2]
        rw [h2] at hC0;clear h2 HT1;go_upto_region 11 with fail
        refine aP (by kernel_rfl) (by kernel_rfl) (fun WA hWA=>?_);have hbA:Below wp.heap.size wp WA:=by rw [hWA.out];go_grown
        have pc1:∀ i:After WA,i.w.cell? ⟨w.heap.size,1,none⟩=some (.slice (some ⟨A,off,none⟩) K.length cK):=fun i=>i.cell (kept hbA c1);have pe0:∀ i:After WA,i.w.cell? ⟨A,off+(j+1) * 19,none⟩=some (.int .i64 e.dot.a.dev):=fun i=>i.cell (kept hbA e0);have pe1:∀ i:After WA,i.w.cell? ⟨A,off+(j+1) * 19+1,none⟩=some (.int .i64 e.dot.a.inc):=fun i=>i.cell (kept hbA e1);have pe2:∀ i:After WA,i.w.cell? ⟨A,off+(j+1) * 19+2,none⟩=some (.int .i64 e.dot.seq):=fun i=>i.cell (kept hbA e2);have pf0:∀ i:After WA,i.w.cell? ⟨A,off+j * 19,none⟩=some (.int .i64 y.dot.a.dev):=fun i=>i.cell (kept hbA f0);have pf1:∀ i:After WA,i.w.cell? ⟨A,off+j * 19+1,none⟩=some (.int .i64 y.dot.a.inc):=fun i=>i.cell (kept hbA f1);have pf2:∀ i:After WA,i.w.cell? ⟨A,off+j * 19+2,none⟩=some (.int .i64 y.dot.seq):=fun i=>i.cell (kept hbA f2);clear hWA;iterate 16 go_big_quiet_step (fail)
        go_big_quiet_step (exact Calls.after (hC0 _))
        iterate 2 go_big_quiet_step (fail)
        refine wpQuiet_nil ?_;rintro _ ⟨i,rfl⟩;have hiA:=i.h;generalize i.w=wq at hiA ⊢;have hbY:Below wp.heap.size wp wq:=below2 hbA hiA;clear hbA hiA pc1 pe0 pe1 pe2 pf0 pf1 pf2;clear hC0 hww Qe f0 f1 f2;have q0:=kept hbY c0;have q1:=kept hbY c1;have q2:=kept hbY c2;have r0:=kept hbY e0;have r1:=kept hbY e1;have r2:=kept hbY e2;have hbQ:=hbB.trans (hbY.mono hbB.size);have hdq:=hcx.kept hbQ;have hH0:=fun (X:World) (h:DotsIn X ac ctx)=>DK ac cc ctx e.dot X (by omega) h;clear c0 c1 c2 e0 e1 e2 hbY hbB
        cases h3:iJ ctx e.dot with
        | false =>
          have HE:Hid (LE=4):=by unfold Hid;rw [HT2.out,h3];rfl
          rw [h3] at hH0;clear h3 HT2;go_upto_region 13 with fail
          refine aP (by kernel_rfl) (by kernel_rfl) (fun WA hWA=>?_);have hbA:Below wq.heap.size wq WA:=by rw [hWA.out];go_grown
          have pq0:∀ i:After WA,i.w.cell? ⟨w.heap.size,0,none⟩=some (.slice ac ctx.length cc):=fun i=>i.cell (kept hbA q0);have pq1:∀ i:After WA,i.w.cell? ⟨w.heap.size,1,none⟩=some (.slice (some ⟨A,off,none⟩) K.length cK):=fun i=>i.cell (kept hbA q1);have pr0:∀ i:After WA,i.w.cell? ⟨A,off+(j+1) * 19,none⟩=some (.int .i64 e.dot.a.dev):=fun i=>i.cell (kept hbA r0);have pr1:∀ i:After WA,i.w.cell? ⟨A,off+(j+1) * 19+1,none⟩=some (.int .i64 e.dot.a.inc):=fun i=>i.cell (kept hbA r1);have pr2:∀ i:After WA,i.w.cell? ⟨A,off+(j+1) * 19+2,none⟩=some (.int .i64 e.dot.seq):=fun i=>i.cell (kept hbA r2);clear hWA;iterate 8 go_big_quiet_step (fail)
          go_big_quiet_step (exact Calls.after (hH0 _ ((hdq.kept hbA).kept (After.h _))))
          go_big_quiet_step (fail)
          refine wpQuiet_nil ?_;rintro _ ⟨i,rfl⟩;have hiA:=i.h;generalize i.w=wz at hiA ⊢;have hbY:Below wq.heap.size wq wz:=below2 hbA hiA;clear hbA hiA pq0 pq1 pr0 pr1 pr2;go_wp2;go_ret;exact ⟨bW (HLE.out.trans HE.out).symm,hb0.trans ((hbQ.trans (hbY.mono hbQ.size)).mono hb0.size)⟩
        | true =>
          have HE:Hid (LE=or2 (bz ctx (iD K ((j+1)+1)) (K.drop ((j+1)+1))) R):=by unfold Hid;rw [HT2.out,h3];rfl
          rw [h3] at hH0;clear h3 HT2;go_upto_region 13 with fail
          refine aP (by kernel_rfl) (by kernel_rfl) (fun WA hWA=>?_);have hbA:Below wq.heap.size wq WA:=by rw [hWA.out];go_grown
          have pq0:∀ i:After WA,i.w.cell? ⟨w.heap.size,0,none⟩=some (.slice ac ctx.length cc):=fun i=>i.cell (kept hbA q0);have pq1:∀ i:After WA,i.w.cell? ⟨w.heap.size,1,none⟩=some (.slice (some ⟨A,off,none⟩) K.length cK):=fun i=>i.cell (kept hbA q1);have pr0:∀ i:After WA,i.w.cell? ⟨A,off+(j+1) * 19,none⟩=some (.int .i64 e.dot.a.dev):=fun i=>i.cell (kept hbA r0);have pr1:∀ i:After WA,i.w.cell? ⟨A,off+(j+1) * 19+1,none⟩=some (.int .i64 e.dot.a.inc):=fun i=>i.cell (kept hbA r1);have pr2:∀ i:After WA,i.w.cell? ⟨A,off+(j+1) * 19+2,none⟩=some (.int .i64 e.dot.seq):=fun i=>i.cell (kept hbA r2);clear hWA;iterate 8 go_big_quiet_step (fail)
          go_big_quiet_step (exact Calls.after (hH0 _ ((hdq.kept hbA).kept (After.h _))))
          go_big_quiet_step (fail)
          refine wpQuiet_nil ?_;rintro _ ⟨i,rfl⟩;have hiA:=i.h;generalize i.w=wz at hiA ⊢;have hbY:Below wq.heap.size wq wz:=below2 hbA hiA;clear hbA hiA pq0 pq1 pr0 pr1 pr2;go_wp2;go_roundw
          case rel=>exact ⟨(j+1)+1,by omega,by go_num,HE.out,hbQ.trans (hbY.mono hbQ.size)⟩
          case measure => exact z65
  ·have HM2:Hid (LE=bU (aZ dead 0) (dead.drop 0)):=by rw [Hid,HP.out,List.drop_eq_nil_of_le (by omega),yB,HRR.out];rfl
   clear HP HRR;go_wp2;obtain ⟨wo,rfl⟩:∃ wo:World,wo=wr:=⟨_,rfl⟩;go_loopw [5] (fun i wr=>∃ k:Nat,k≤dead.length∧i=.int .i64 k∧LE=bU (aZ dead k) (dead.drop k)∧Below wo.heap.size wo wr) (fun i _=>dead.length - (intOf i).toNat)
   case atStart=>exact ⟨0,Nat.zero_le _,rfl,HM2.out,Below.refl _ _⟩
   case round =>
        obtain ⟨k,XM,rfl,hpre,hbx⟩:=hrel;have HP:=Lib.hid hpre;clear hpre HM2;replace c0:=kept hbx c0;replace c1:=kept hbx c1;replace c2:=kept hbx c2;have hbz:=hbw.trans (hbx.mono hbw.size);by_cases hlt:k<dead.length
        ·have hst:=ve dead k hlt
         obtain ⟨A,off,rfl,e0,e1,e2⟩:=(hd.kept hbz).at hlt;have HT:Hid (LE=if bJ dead[k]=true then (if gm (aZ dead k) dead[k]=true then bU (aZ dead (k+1)) (dead.drop (k+1)) else 6) else 4):=by rw [Hid,HP.out,hst]
         clear hst HP;generalize dead[k]=x at e0 e1 e2 HT;have hR0:=HDR.out x wr
         cases h1:bJ x with
         | false =>
           have HE:Hid (LE=4):=by rw [Hid,HT.out,h1];rfl
           rw [h1] at hR0;have HR:=Lib.hid hR0;clear hR0 h1 HT;go_wp2_with (go_at_call 112;(with_reducible refine HR.out.mono ?_);rintro v9 w8 ⟨rfl,hb9⟩)
           go_ret;exact ⟨bW (HLE.out.trans HE.out).symm,hb0.trans ((hbz.trans (hb9.mono hbz.size)).mono hb0.size)⟩
         | true =>
           have HT1:Hid (LE=if gm (aZ dead k) x=true then bU (aZ dead (k+1)) (dead.drop (k+1)) else 6):=by rw [Hid,HT.out,h1];rfl
           rw [h1] at hR0;have HR:=Lib.hid hR0;clear hR0 h1 HT;go_upto_region 20 with (go_at_call 112;(with_reducible refine HR.out.mono ?_);rintro v9 wp ⟨rfl,hb9⟩)
           replace e0:=kept hb9 e0;replace e1:=kept hb9 e1;replace e2:=kept hb9 e2;replace c0:=kept hb9 c0;replace c1:=kept hb9 c1;replace c2:=kept hb9 c2;replace hbx:=hbx.trans (hb9.mono hbx.size);replace hbz:=hbz.trans (hb9.mono hbz.size);clear hb9 HR;rcases Nat.eq_zero_or_pos k with hk0 | hk0
           ·have Bo:¬ 0<k:=by omega
            have Qe:decide (0<k)=false:=by simp;omega
            have HE:Hid (LE=bU (aZ dead (k+1)) (dead.drop (k+1))):=by unfold Hid;rw [HT1.out];subst hk0;rfl
            clear HT1 hk0;go_upto_region 20 with fail
            refine y32 ?_
            intro WA hWA hbA
            have pc2:∀ i:After WA,i.w.cell? ⟨w.heap.size,2,none⟩=some (.slice (some ⟨A,off,none⟩) dead.length cd):=fun i=>i.cell (kept hbA c2);clear hWA;iterate 17 go_big_quiet_step (fail)
            refine wpQuiet_nil ?_;rintro _ ⟨i,rfl⟩;have hiA:=i.h;generalize i.w=wq at hiA ⊢;have hbY:Below wp.heap.size wp wq:=below2 hbA hiA;clear hbA hiA pc2;go_wp2;go_roundw
            case rel=>exact ⟨k+1,by omega,by go_num,HE.out,hbx.trans (hbY.mono hbx.size)⟩
            case measure => exact z65
           ·obtain ⟨j,rfl⟩:∃ j,k=j+1:=⟨k - 1,by omega⟩
            have hj:j<dead.length:=by omega
            obtain ⟨A',off',hA',f0,f1,f2⟩:=(hd.kept hbz).at hj;have hAA:A'=A∧off'=off:=by cases hA';exact ⟨rfl,rfl⟩
            rw [hAA.1,hAA.2] at f0 f1 f2;have hpv:aZ dead (j+1)=some dead[j]:=by simp [aZ,hj]
            rw [hpv] at HT1;clear hA' hAA hpv;generalize dead[j]=y at f0 f1 f2 HT1;have hC0:=fun (W:World)=>HLs.out y x W;have Qe:decide ((0:Int)<(j:Int)+1)=true:=by simp <;> omega
            refine y66 ?_
            intro hww
            clear hk0
            cases h2:dG y x with
            | false =>
              have HE:Hid (LE=6):=by rw [Hid,HT1.out];simp [gm,h2]
              rw [h2] at hC0;clear h2 HT1;go_upto_region 20 with fail
              refine aP (by kernel_rfl) (by kernel_rfl) (fun WA hWA=>?_);have hbA:Below wp.heap.size wp WA:=by rw [hWA.out];go_grown
              have pc2:∀ i:After WA,i.w.cell? ⟨w.heap.size,2,none⟩=some (.slice (some ⟨A,off,none⟩) dead.length cd):=fun i=>i.cell (kept hbA c2);have pe0:∀ i:After WA,i.w.cell? ⟨A,off+(j+1) * 3,none⟩=some (.int .i64 x.a.dev):=fun i=>i.cell (kept hbA e0);have pe1:∀ i:After WA,i.w.cell? ⟨A,off+(j+1) * 3+1,none⟩=some (.int .i64 x.a.inc):=fun i=>i.cell (kept hbA e1);have pe2:∀ i:After WA,i.w.cell? ⟨A,off+(j+1) * 3+2,none⟩=some (.int .i64 x.seq):=fun i=>i.cell (kept hbA e2);have pf0:∀ i:After WA,i.w.cell? ⟨A,off+j * 3,none⟩=some (.int .i64 y.a.dev):=fun i=>i.cell (kept hbA f0);have pf1:∀ i:After WA,i.w.cell? ⟨A,off+j * 3+1,none⟩=some (.int .i64 y.a.inc):=fun i=>i.cell (kept hbA f1);have pf2:∀ i:After WA,i.w.cell? ⟨A,off+j * 3+2,none⟩=some (.int .i64 y.seq):=fun i=>i.cell (kept hbA f2);clear hWA;iterate 14 go_big_quiet_step (fail)
              go_big_quiet_step (exact Calls.after (hC0 _))
              iterate 2 go_big_quiet_step (fail)
              refine wpQuiet_nil ?_;rintro _ ⟨i,rfl⟩;have hiA:=i.h;generalize i.w=wq at hiA ⊢;have hbY:Below wp.heap.size wp wq:=below2 hbA hiA;clear hbA hiA pc2 pe0 pe1 pe2 pf0 pf1 pf2;go_wp2;go_ret;exact ⟨bW (HLE.out.trans HE.out).symm,hb0.trans ((hbz.trans (hbY.mono hbz.size)).mono hb0.size)⟩
            | true =>
              have HE:Hid (LE=bU (aZ dead (j+1+1)) (dead.drop (j+1+1))):=by unfold Hid;rw [HT1.out];simp [gm,h2]
              rw [h2] at hC0;clear h2 HT1;go_upto_region 20 with fail
              refine aP (by kernel_rfl) (by kernel_rfl) (fun WA hWA=>?_);have hbA:Below wp.heap.size wp WA:=by rw [hWA.out];go_grown
              have pc2:∀ i:After WA,i.w.cell? ⟨w.heap.size,2,none⟩=some (.slice (some ⟨A,off,none⟩) dead.length cd):=fun i=>i.cell (kept hbA c2);have pe0:∀ i:After WA,i.w.cell? ⟨A,off+(j+1) * 3,none⟩=some (.int .i64 x.a.dev):=fun i=>i.cell (kept hbA e0);have pe1:∀ i:After WA,i.w.cell? ⟨A,off+(j+1) * 3+1,none⟩=some (.int .i64 x.a.inc):=fun i=>i.cell (kept hbA e1);have pe2:∀ i:After WA,i.w.cell? ⟨A,off+(j+1) * 3+2,none⟩=some (.int .i64 x.seq):=fun i=>i.cell (kept hbA e2);have pf0:∀ i:After WA,i.w.cell? ⟨A,off+j * 3,none⟩=some (.int .i64 y.a.dev):=fun i=>i.cell (kept hbA f0);have pf1:∀ i:After WA,i.w.cell? ⟨A,off+j * 3+1,none⟩=some (.int .i64 y.a.inc):=fun i=>i.cell (kept hbA f1);have pf2:∀ i:After WA,i.w.cell? ⟨A,off+j * 3+2,none⟩=some (.int .i64 y.seq):=fun i=>i.cell (kept hbA f2);clear hWA;iterate 14 go_big_quiet_step (fail)
              go_big_quiet_step (exact Calls.after (hC0 _))
              iterate 2 go_big_quiet_step (fail)
              refine wpQuiet_nil ?_;rintro _ ⟨i,rfl⟩;have hiA:=i.h;generalize i.w=wq at hiA ⊢;have hbY:Below wp.heap.size wp wq:=below2 hbA hiA;clear hbA hiA pc2 pe0 pe1 pe2 pf0 pf1 pf2;clear hC0 hww Qe f0 f1 f2;go_wp2;go_roundw
              case rel=>exact ⟨j+1+1,by omega,by go_num,HE.out,hbx.trans (hbY.mono hbx.size)⟩
              case measure => exact z65
        ·have HE:Hid (LE=0):=by rw [Hid,HP.out,List.drop_eq_nil_of_le (by omega)];exact xZ _
         clear HP;go_wp2;go_ret;exact ⟨bW (HLE.out.trans HE.out).symm,hb0.trans (hbz.mono hb0.size)⟩
theorem EM {w:World} {g i:Nat} {cs:Array Value} {t:TypeId} {f:Nat×Nat} {v:Value} (hg:w.heap[g]?=some (.cells cs t f)):(w.setCell ⟨g,i,none⟩ v).heap[g]?=some (.cells (cs.setIfInBounds i v) t f):=by
 simp only [World.setCell,Array.getElem?_modify,if_pos,hg];simp
/-- a new map with a context of its own -/
theorem JV {w:World} {m v vb:Nat} {b:MB} {ctx:List Dot} (h:MpIn w m b MS.empty) (hv:VecIn w v vb ctx) (hn:∀ k,foot b [] k→k≠vb) :
 MpIn (w.setCell ⟨m,3,none⟩ (.pointer (some ⟨v,0,none⟩))) m ⟨b.kb,b.ab,b.db,v,vb⟩ ⟨ctx,[],[],[],[]⟩:=by
 have hk:∀ k,k≠m→(w.setCell ⟨m,3,none⟩ (.pointer (some ⟨v,0,none⟩))).heap[k]?=w.heap[k]?:=fun k hk=>heap_setCell_other _ _ _ _ (fun e=>hk e.symm);have hmf:∀ k,foot b MS.empty.A k→k≠m:=fun k hk e=>by
  obtain ⟨es,cl,h1⟩:=h.maps hk;rw [e,h.cell] at h1
  cases h1
 have hvm:v≠m:=fun e=>by
  have h1:=hv.cell;rw [e,h.cell] at h1;simp at h1
 have WJ:vb≠m:=fun e=>by
  obtain ⟨es,cl,h1⟩:=hv.tab.mapped;rw [e,h.cell] at h1
  cases h1
 obtain ⟨n1,n2,n3,n4,n5,n6,n7,n8⟩:=qi h.nodup;refine ⟨?_,hv.block (hk _ hvm) (hk _ WJ),h.kept.block (hk _ (hmf _ (mM b _))),fun x hx=>(nomatch hx),h.dead.block (hk _ (hmf _ (oN b _))),h.alive.block (hk _ (hmf _ (ku b _))),fun p hp=>(nomatch hp),fun p hp=>(nomatch hp),fun p hp=>(nomatch hp),?_⟩
 ·exact (EM h.cell).trans rfl
 ·simp only [blocks,List.map_nil,List.nodup_cons,List.mem_cons,List.not_mem_nil,or_false,not_or,not_false_eq_true,and_true,List.nodup_nil]
  exact ⟨⟨n1,n2,hn _ (mM b _)⟩,⟨n4,hn _ (ku b _)⟩,hn _ (oN b _)⟩
def uD (e:Ev):Key×Dot:=(e.key,e.dot)
def AQ (D:List Dot) (e:Ev):Bool:=decide (e.kind=1) && !decide (e.dot∈D)
/-- a map behind the first kept events that are loaded -/
structure LoadK (ctx D:List Dot) (E:List Ev) (s:MS):Prop where
 ctx:s.ctx=ctx
 dead:s.dead=D
 kept:aU s.K=E.reverse
 pairs:s.pairs=(E.reverse.filter (AQ D)).map uD
theorem LoadK.dots {ctx D:List Dot} {E:List Ev} {s:MS} (h:LoadK ctx D E s):∀ x∈s.K,x.1∈E:=fun x hx=>by
 have:x.1∈aU s.K:=List.mem_map_of_mem hx;rw [h.kept,List.mem_reverse] at this;exact this
theorem z147 {p : Prop} (h : p := by
 subst hd
 rcases List.mem_cons.1 hz with rfl | hz
 ·exact h2
 ·exact iW h2 (i3 _ rfl z hz)) : p := h
theorem BG (ctx:List Dot):∀ (K:List bH) (p:Option Dot),bz ctx p K=0→(∀ x∈K,eF x.1=true∧iJ ctx x.1.dot=true)∧zk (aU K)∧∀ d,p=some d→∀ x∈K,dG d x.1.dot=true
 | [],_,_=>⟨fun x hx=>(nomatch hx),List.Pairwise.nil,fun d _ x hx=>(nomatch hx)⟩
 | x :: K,p,h=>by
   unfold bz at h;split at h
   ·rename_i h1
    split at h
    ·rename_i h2
     split at h
     ·rename_i h3
      obtain ⟨i1,i2,i3⟩:=BG ctx K _ h;refine ⟨fun z hz=>?_,List.pairwise_cons.2 ⟨fun e he=>?_,i2⟩,fun d hd z hz=>?_⟩
      ·rcases List.mem_cons.1 hz with rfl | hz
       ·exact ⟨h1,h3⟩
       ·exact i1 z hz
      ·obtain ⟨z,hz,rfl⟩:=List.mem_map.1 he
       exact i3 _ rfl z hz
      ·exact z147
     ·cases h
    ·cases h
   ·cases h
theorem zS:∀ (l:List Dot) (p:Option Dot),bU p l=0→(∀ d∈l,bJ d=true)∧SrtD l∧∀ d,p=some d→∀ x∈l,dG d x=true
 | [],_,_=>⟨fun x hx=>(nomatch hx),List.Pairwise.nil,fun d _ x hx=>(nomatch hx)⟩
 | x :: l,p,h=>by
   unfold bU at h;split at h
   ·rename_i h1
    split at h
    ·rename_i h2
     obtain ⟨i1,i2,i3⟩:=zS l _ h;refine ⟨fun z hz=>?_,List.pairwise_cons.2 ⟨fun z hz=>i3 _ rfl z hz,i2⟩,fun d hd z hz=>?_⟩
     ·rcases List.mem_cons.1 hz with rfl | hz
      ·exact h1
      ·exact i1 z hz
     ·exact z147
    ·cases h
   ·cases h
/-- what may be loaded -/
structure LoadOk (C:List Dot) (E:List Ev) (Dd:List Dot):Prop where
 ctx:qP C
 ctxOk:∀ d∈C,bJ d=true
 kept:∀ e∈E,eF e=true∧iJ C e.dot=true
 srt:zk E
 dead:∀ d∈Dd,bJ d=true
 dsrt:SrtD Dd
 len:E.length≤2048
 dlen:Dd.length≤65536
 clen:C.length≤4096
theorem JZ {ctx:List Dot} {K:List bH} {dead:List Dot} (h:dA ctx K dead=0):(aW ctx=0∧¬ (2048<K.length)∧¬ (65536<dead.length)∧bz ctx none K=0∧bU none dead=0)∧LoadOk ctx (aU K) dead:=by
 unfold dA or2 at h;by_cases h1:aW ctx=0
 ·rw [if_pos h1] at h
  by_cases h2:2048<K.length∨65536<dead.length
  ·rw [if_pos h2] at h;cases h
  ·rw [if_neg h2] at h
   by_cases h3:bz ctx none K=0
   ·rw [if_pos h3] at h
    obtain ⟨a1,a2,a3⟩:=yh h1;obtain ⟨b1,b2,_⟩:=BG ctx K none h3;obtain ⟨c1,c2,_⟩:=zS dead none h;refine ⟨⟨h1,by omega,by omega,h3,h⟩,⟨a3,a2,fun e he=>?_,b2,c1,c2,by rw [bi];omega,by omega,a1⟩⟩;obtain ⟨x,hx,rfl⟩:=List.mem_map.1 he;exact b1 x hx
   ·rw [if_neg h3] at h
    exact absurd h h3
 ·rw [if_neg h1] at h
  exact absurd h h1
theorem LoadK.done {ctx dead D:List Dot} {E:List Ev} {s:MS} (h:LoadK ctx D E s) (ho:LoadOk ctx E dead) (hD:∀ d,d∈D↔d∈dead):MInv s∧Rel s ⟨ctx,E,dead⟩:=by
 have hne:(E.reverse.map (·.dot)).Nodup:=by
  rw [List.map_reverse];exact List.pairwise_reverse.2 (List.pairwise_map.2 (ho.srt.imp fun {a b} h e=>by rw [e,eH] at h;cases h))
 have hnd:(s.K.map (·.1.dot)).Nodup:=by
  have h1:s.K.map (·.1.dot)=(aU s.K).map (·.dot):=by unfold aU;rw [List.map_map];rfl
  rw [h1,h.kept];exact hne
 have hmem:∀ e,(∃ x∈s.K,x.1=e)↔e∈E:=fun e=>by
  rw [← List.mem_reverse,← h.kept];exact (List.mem_map (f:=fun x:bH=>x.1)).symm
 refine ⟨⟨by rw [h.ctx];exact ho.ctx,by rw [h.ctx];exact ho.ctxOk,fun x hx=>by rw [h.ctx];exact ho.kept _ (h.dots x hx),fun k d=>?_,?_,fun d hd=>ho.dead d (by rw [h.dead] at hd;exact (hD d).1 hd),?_⟩,⟨hnd,h.ctx.symm,?_,?_⟩⟩
 ·rw [h.pairs,List.mem_map,h.dead]
  constructor
  ·rintro ⟨e,he,e9⟩
   obtain ⟨h1,h2⟩:=List.mem_filter.1 he;obtain ⟨x,hx,rfl⟩:=(hmem e).2 (List.mem_reverse.1 h1);simp only [AQ,Bool.and_eq_true,decide_eq_true_eq,Bool.not_eq_true',decide_eq_false_iff_not] at h2;simp only [uD,Prod.mk.injEq] at e9;exact ⟨x,hx,h2.1,e9.2,e9.1,by rw [← e9.2];exact h2.2⟩
  ·rintro ⟨x,hx,h1,rfl,rfl,h2⟩
   refine ⟨x.1,List.mem_filter.2 ⟨List.mem_reverse.2 (h.dots x hx),?_⟩,rfl⟩;simp only [AQ,Bool.and_eq_true,decide_eq_true_eq,Bool.not_eq_true',decide_eq_false_iff_not];exact ⟨h1,h2⟩
 ·rw [h.pairs]
  have h1:(E.reverse.filter (AQ D)).Pairwise fun a b=>a.dot≠b.dot:=(List.pairwise_map.1 hne).sublist List.filter_sublist;exact List.pairwise_map.2 (h1.imp fun {a b} h e=>h (by simp only [uD,Prod.mk.injEq] at e;exact e.2))
 ·rw [← bi,h.kept,List.length_reverse]
  exact ho.len
 ·show E=dh s
  exact uY ho.srt (mO hnd) fun e=>by rw [iG hnd,hmem]
 ·show dead=sortD s.dead
  rw [h.dead,kH hD,Jv ho.dsrt]
theorem z107 {p : Prop} (h : p := by
 go_enter func55, ntmps55
 go_wp2_with (go_at_call 98; (with_reducible refine HO.out.mono ?_); rintro v9 w9 ⟨v, vb, rfl, _, hb9, _, _⟩)
 go_ret2
 exact ⟨by rw [HE.out]; rfl, hb9⟩) : p := h
theorem NQ (y:RMIt) (w:World) (hc:y.ctx.length≤1048576) (hk:y.K.length≤1048576) (hdl:y.dead.length≤1048576) (hsm:fA y.K) (hcx:DotsIn w y.ac y.ctx) (hE:EvsIn w y.aK y.K) (hd:DotsIn w y.ad y.dead) (hne:dA y.ctx y.K y.dead≠0) :
 Calls prog 55 #[.slice y.ac y.ctx.length y.cc,.slice y.aK y.K.length y.cK,.slice y.ad y.dead.length y.cd] w fun x w'=>x=.returned (.tuple #[.pointer none,.int .i64 (dA y.ctx y.K y.dead)])∧Below w.heap.size w w':=by
 obtain ⟨ac,ctx,cc,aK,K,cK,ad,dead,cd⟩:=y;simp only at hc hk hdl hsm hcx hE hd hne ⊢;have hun:dA ctx K dead=or2 (aW ctx) (if 2048<K.length∨65536<dead.length then 3 else or2 (bz ctx none K) (bU none dead)):=rfl;have HUN:=Lib.hid hun;clear hun;by_cases hm0:aW ctx=0
 case neg =>
  have hmb:(aW ctx != 0)=true:=bne_iff_ne.2 hm0;have HE:Hid (dA ctx K dead=aW ctx):=by unfold Hid;rw [HUN.out];unfold or2;rw [if_neg hm0]
  have HC:=Lib.hid (TD ac cc ctx w (by omega) hcx hm0);clear hm0 HUN hne;generalize aW ctx=me at *;go_enter func55,ntmps55;go_wp2_with (go_at_call 98;(with_reducible refine HC.out.mono ?_);rintro v9 w9 ⟨rfl,hb9⟩)
  go_ret2;exact ⟨by rw [HE.out];rfl,hb9⟩
 have HO:=Lib.hid (Lt ac cc ctx w hcx hm0);have HE0:Hid (dA ctx K dead=if 2048<K.length∨65536<dead.length then 3 else or2 (bz ctx none K) (bU none dead)):=by unfold Hid;rw [HUN.out,hm0];rfl
 clear hm0 HUN;by_cases hkl:2048<K.length
 ·have hdk:decide ((2048:Int)<(K.length:Int))=true:=decide_eq_true (by omega)
  have HE:Hid (dA ctx K dead=3):=by unfold Hid;rw [HE0.out,if_pos (Or.inl hkl)]
  clear hkl HE0 hne
  exact z107
 have hdk:decide ((2048:Int)<(K.length:Int))=false:=decide_eq_false (by omega);by_cases Ol:65536<dead.length
 ·have Rw:decide ((65536:Int)<(dead.length:Int))=true:=decide_eq_true (by omega)
  have HE:Hid (dA ctx K dead=3):=by unfold Hid;rw [HE0.out,if_pos (Or.inr Ol)]
  clear Ol HE0 hne
  exact z107
 have Rw:decide ((65536:Int)<(dead.length:Int))=false:=decide_eq_false (by omega);have HE1:Hid (dA ctx K dead=or2 (bz ctx none K) (bU none dead)):=by unfold Hid;rw [HE0.out,if_neg (by omega)]
 have hF0:=fun (v vb:Nat) (X:World) (hV:VecIn X v vb ctx) (hE:EvsIn X aK K)=>fits_any aK cK K X hV (by omega) hsm hE;have hR0:=fun (X:World) (h:DotsIn X ad dead)=>zQ ad cd dead X (by omega) h;clear HE0 hsm;by_cases hf0:bz ctx none K=0
 ·have hr0:bU none dead≠0:=fun e=>hne (by rw [HE1.out,hf0,e];rfl)
  have hrb:(bU none dead != 0)=true:=bne_iff_ne.2 hr0;have HE:Hid (dA ctx K dead=bU none dead):=by unfold Hid;rw [HE1.out,hf0];rfl
  rw [hf0] at hF0;have HF:=Lib.hid hF0;have HR:=Lib.hid hR0;clear hf0 hr0 hne HE1 hF0 hR0;generalize bU none dead=re at *;go_enter func55,ntmps55;go_wp2_with (first
   | (go_at_call 98;(with_reducible refine HO.out.mono ?_);rintro v9 w9 ⟨v,vb,rfl,hV9,hb9,_,_⟩;have hE9:=hE.kept hb9)
   | (go_at_call 99;(with_reducible refine (HF.out _ _ _ hV9 hE9).mono ?_);rintro v8 w8 ⟨rfl,hb8⟩;have Di:=hb9.trans (hb8.mono hb9.size);have hd8:=hd.kept Di)
   | (go_at_call 100;(with_reducible refine (HR.out _ hd8).mono ?_);rintro v7 w7 ⟨rfl,hb7⟩))
  go_ret2;exact ⟨by rw [HE.out];rfl,Di.trans (hb7.mono Di.size)⟩
 ·have hfb:(bz ctx none K != 0)=true:=bne_iff_ne.2 hf0
  have HE:Hid (dA ctx K dead=bz ctx none K):=by unfold Hid;rw [HE1.out];unfold or2;rw [if_neg hf0]
  have HF:=Lib.hid hF0;clear hf0 hne HE1 hF0 hR0;generalize bz ctx none K=fe at *;go_enter func55,ntmps55;go_wp2_with (first
   | (go_at_call 98;(with_reducible refine HO.out.mono ?_);rintro v9 w9 ⟨v,vb,rfl,hV9,hb9,_,_⟩;have hE9:=hE.kept hb9)
   | (go_at_call 99;(with_reducible refine (HF.out _ _ _ hV9 hE9).mono ?_);rintro v8 w8 ⟨rfl,hb8⟩;have Di:=hb9.trans (hb8.mono hb9.size)))
  go_ret2;exact ⟨by rw [HE.out];rfl,Di⟩
theorem PG {w:World} {base n c:Nat} {a:Option Addr} {xs:List Value} {t:TypeId} {A off:Nat} (h:w.ownsRow base t 3 (.slice a n c) n xs) (e:a=some ⟨A,off,none⟩):base≤A:=by subst e;exact (h.lt A rfl).1
/-- an event's dots lie from lo on -/
def I9 (lo:Nat) (x:bH):Prop:=∀ A off,x.2.1=some ⟨A,off,none⟩→x.1.over≠[]→lo≤A
def QJ (y:RMIt) (w:World) (x:Ending) (w':World):Prop:=∃ m b s,x=.returned (.tuple #[.pointer (some ⟨m,0,none⟩),.int .i64 0])∧MpIn w' m b s∧MInv s∧Rel s y.rm∧s.dead.length≤y.dead.length∧(∀ k,foot b s.A k→w.heap.size≤k)∧(∀ x∈s.K,x.1∈aU y.K)∧Below w.heap.size w w'∧∀ x∈s.K,I9 w.heap.size x
theorem z34 {p : Prop} (h : p := by (rintro w hSw; have s0 := kept hSw z0; have s1 := kept hSw z1; have s2 := kept hSw z2; have s3 := kept hSw z3; go_simp; try with_reducible rfl)) : p := h
theorem z90 {p : Prop} (h : p := by (rintro w ⟨⟨s0, s1, s2⟩, sm⟩; go_simp; try with_reducible rfl)) : p := h
theorem y49 {p q : Prop} (k : q) (h : PLift q → p := by
 intro kk
 unfold Hid
 rw [HLK.out.pairs, HT.out, List.reverse_append]
 show _ = ((e :: _).filter _).map _
 exact kk.down) : p := h ⟨k⟩
theorem JX (y:RMIt) (w:World) (hsm:fA y.K) (hcx:DotsIn w y.ac y.ctx) (hE:EvsIn w y.aK y.K) (hd:DotsIn w y.ad y.dead) (hok:dA y.ctx y.K y.dead=0) :
 Calls prog 55 #[.slice y.ac y.ctx.length y.cc,.slice y.aK y.K.length y.cK,.slice y.ad y.dead.length y.cd] w (QJ y w):=by
 obtain ⟨ac,ctx,cc,aK,K,cK,ad,dead,cd⟩:=y;simp only at hsm hcx hE hd hok ⊢;obtain ⟨⟨hm0,hkl,Ol,hf0,hr0⟩,hld⟩:=JZ hok;have hdk:decide ((2048:Int)<(K.length:Int))=false:=decide_eq_false (by omega);have Rw:decide ((65536:Int)<(dead.length:Int))=false:=decide_eq_false (by omega);have HO:=Lib.hid (Lt ac cc ctx w hcx hm0);have hF0:=fun (v vb:Nat) (X:World) (hV:VecIn X v vb ctx) (hE:EvsIn X aK K)=>fits_any aK cK K X hV (by omega) hsm hE;have hR0:=fun (X:World) (h:DotsIn X ad dead)=>zQ ad cd dead X (by omega) h;rw [hf0] at hF0;rw [hr0] at hR0;have HF:=Lib.hid hF0;have HR:=Lib.hid hR0;have HN:=Lib.hid (fun X=>GZ X);have HLD:=Lib.hid hld;have HSM:=Lib.hid hsm;clear hF0 hR0 hm0 hf0 hr0 hok hsm;go_enter func55,ntmps55;go_upto_region 12 with (first
  | (go_at_call 98;(with_reducible refine HO.out.mono ?_);rintro v9 w9 ⟨v,vb,rfl,hV9,hb9,hlv,hlb⟩;have hE9:=hE.kept hb9)
  | (go_at_call 99;(with_reducible refine (HF.out _ _ _ hV9 hE9).mono ?_);rintro v8 w8 ⟨rfl,hb8⟩;have Di:=hb9.trans (hb8.mono hb9.size);have hd8:=hd.kept Di)
  | (go_at_call 100;(with_reducible refine (HR.out _ hd8).mono ?_);rintro v7 w7 ⟨rfl,hb7⟩))
 have RD:=Di.trans (hb7.mono Di.size);have hV7:=(hV9.kept hb8).kept hb7;clear hV9 hE9 hd8 hb9 hb8 Di hb7 HO HF HR;go_upto_region 13 with (go_at_call 12;(with_reducible refine (HN.out _).mono ?_);rintro v6 w6 ⟨m,b0,rfl,hm6,hb6,hlm,hfo⟩)
 have hV6:=hV7.kept hb6;have WL:=hV7.tab.lt;have VJ:Below w.heap.size w w6:=RD.trans (hb6.mono RD.size);have hmS:=JV hm6 hV6 (fun k hk=>by have:=hfo k hk;omega);have z3:=(eu hm6.cell).2.2.2;have zf:w6.frozen? ⟨m,3,none⟩=false:=by simp [World.frozen?,hm6.cell]
 have UZ:=RD.size;have Ud:∀ k,foot ⟨b0.kb,b0.ab,b0.db,v,vb⟩ [] k→w.heap.size≤k:=fun k hk=>by
  simp only [foot,blocks,List.map_nil,List.mem_cons,List.not_mem_nil,or_false] at hk;have h1:=hfo _ (mM b0 _);have h2:=hfo _ (ku b0 _);have h3:=hfo _ (oN b0 _);rcases hk with rfl | rfl | rfl | rfl <;> omega
 have hmw:w.heap.size≤m:=Nat.le_trans UZ hlm;go_upto_region 14 with fail
 refine au (fun V hV=>?_);have hVe:V=w6.setCell ⟨m,3,none⟩ (.pointer (some ⟨v,0,none⟩)):=hV.out;have hbS:Below w.heap.size w V:=by
  rw [hVe,setCell_eq_setRow _ _ _ _ _ _ _ hm6.cell];exact below_setRow VJ hmw _
 have hmV:MpIn V m ⟨b0.kb,b0.ab,b0.db,v,vb⟩ ⟨ctx,[],[],[],[]⟩:=by rw [hVe];exact hmS
 obtain ⟨b,hb⟩:∃ b,b=(⟨b0.kb,b0.ab,b0.db,v,vb⟩:MB):=⟨_,rfl⟩;rw [← hb] at hmV Ud;have XQ:dead.length≤65536:=by omega
 have XL:K.length≤2048:=by omega
 clear hV hVe hmS hV6 hV7 hm6 hb6 RD VJ hlm hfo WL hb HN z3 zf hlv hlb UZ;go_wp2;go_loopw [51] (fun i wr=>∃ k:Nat,i=.int .i64 k∧k≤dead.length∧MpIn wr m b ⟨ctx,[],(dead.take k).foldl (fun l d=>wR d l) [],[],[]⟩∧Below w.heap.size w wr) (fun i _=>dead.length - (intOf i).toNat)
 case atStart=>exact ⟨0,rfl,Nat.zero_le _,hmV,hbS⟩
 case round =>
  obtain ⟨k,rfl,hk,hmr,hbr⟩:=hrel;clear hmV hbS;have hzr:=hbr.size;by_cases hlt:k<dead.length
  ·obtain ⟨A,off,rfl,c0,c1,c2⟩:=(hd.kept hbr).at hlt
   have HT:Hid (dead.take (k+1)=dead.take k++[dead[k]]):=by
        exact z120
   have VE:=HLD.out.dead _ (List.getElem_mem hlt);have hfl:=oO (dead.take k) [];rw [List.length_take,List.length_nil] at hfl;generalize dead[k]=d at c0 c1 c2 HT VE;have HLT:=Lib.hid hlt;obtain ⟨l0,hl0⟩:∃ l0,l0=(dead.take k).foldl (fun l d=>wR d l) []:=⟨_,rfl⟩;rw [← hl0] at hmr hfl;have HL0:=Lib.hid hl0;clear hl0;go_upto_region 17 with fail
   refine au (fun W hW=>?_);have hbw:Below wr.heap.size wr W.drew:=by rw [hW.out];go_grown
   refine y40 ?_
   intro x0 x1 x2
   have h1:=hmr.kept_w hbw;have xm:W.drew.cell? ⟨m,2,none⟩=some (.map (some b.db)):=(eu h1.cell).2.2.1;have hbW:Below w.heap.size w W.drew:=hbr.trans (hbw.mono hzr);clear hW hmr c0 c1 c2;obtain ⟨w2,hrun,htab,hfr⟩:=h1.dead.add (lJ VE) (by show l0.length≤_;omega);have h2:=h1.setDead htab hfr;have hb2:Below w.heap.size w w2:=hbW.trans (hfr.below hbW.size (fun q hq=>by rw [show q=b.db from hq];exact Ud _ (oN b _)));clear htab hfr;refine wp_region_noPanic ?_;refine dD (fun W'=>(W'.cell? ⟨wr.heap.size,0,none⟩=some (.int .i64 d.a.dev)∧W'.cell? ⟨wr.heap.size,1,none⟩=some (.int .i64 d.a.inc)∧W'.cell? ⟨wr.heap.size,2,none⟩=some (.int .i64 d.seq))∧W'.cell? ⟨m,2,none⟩=some (.map (some b.db))) [5] (by kernel_rfl) ?_;have hS:=And.intro (And.intro x0 (And.intro x1 x2)) xm;refine ai (i:=0) (oi:=⟨some 55,_,_,_,_,_⟩) (v:=?_) rfl (by kernel_rfl) (by kernel_rfl) (by kernel_rfl) (by kernel_rfl) (by kernel_rfl) (fun _ _ _ h=>h) (Or.inl ⟨by rfl,?_⟩) (by assumption) ?_
   case refine_2 => exact z90
   try simp only [pS]
   refine ai (i:=1) (oi:=⟨some 56,_,_,_,_,_⟩) (v:=?_) rfl (by kernel_rfl) (by kernel_rfl) (by kernel_rfl) (by kernel_rfl) (by kernel_rfl) (fun _ _ _ h=>h) (Or.inl ⟨by rfl,?_⟩) (by assumption) ?_
   case refine_2 => exact z90
   try simp only [pS]
   refine ai (i:=2) (oi:=⟨some 57,_,_,_,_,_⟩) (v:=?_) rfl (by kernel_rfl) (by kernel_rfl) (by kernel_rfl) (by kernel_rfl) (by kernel_rfl) (fun _ _ _ h=>h) (Or.inl ⟨by rfl,?_⟩) (by assumption) ?_
   case refine_2 => exact z90
   try simp only [pS]
   refine ai (i:=3) (oi:=⟨some 58,_,_,_,_,_⟩) (v:=?_) rfl (by kernel_rfl) (by kernel_rfl) (by kernel_rfl) (by kernel_rfl) (by kernel_rfl) (fun _ _ _ h=>h) (Or.inl ⟨by rfl,?_⟩) (by assumption) ?_
   case refine_2 => exact z90
   try simp only [pS]
   refine ai (i:=4) (oi:=⟨some 59,_,_,_,_,_⟩) (v:=?_) rfl (by kernel_rfl) (by kernel_rfl) (by kernel_rfl) (by kernel_rfl) (by kernel_rfl) (fun _ _ _ h=>h) (Or.inl ⟨by rfl,?_⟩) (by assumption) ?_
   case refine_2 => exact z90
   try simp only [pS]
   refine cZ (i:=5) (o:=⟨none,_,_,_,_,_⟩) (by kernel_rfl) rfl ?_
   refine y9 ?_
   have HZ:Hid (MpIn w2 m b ⟨ctx,[],(dead.take (k+1)).foldl (fun l d=>wR d l) [],[],[]⟩∧Below w.heap.size w w2):=by
        refine ⟨?_,hb2⟩;rw [HT.out,List.foldl_append,← HL0.out];exact h2
   clear hS hrun xm h1 hbw x0 x1 x2 h2 hb2
   exact z31
  ·obtain rfl:k=dead.length:=by omega
   rw [List.take_length] at hmr;obtain ⟨D,hD⟩:∃ D,D=dead.foldl (fun l d=>wR d l) []:=⟨_,rfl⟩;rw [← hD] at hmr;have hDl:D.length≤dead.length:=by rw [hD];have:=oO dead [];simpa using this
   have HDm:Hid (∀ d,d∈D↔d∈dead):=fun d=>by rw [hD,lQ];simp
   clear hD;obtain ⟨wo,rfl⟩:∃ wo:World,wo=wr:=⟨_,rfl⟩;go_wp2;go_loopw [63] (fun i wr=>∃ (k:Nat) (s:MS),i=.int .i64 k∧k≤K.length∧MpIn wr m b s∧LoadK ctx D ((aU K).take k) s∧((∀ q,foot b s.A q→w.heap.size≤q)∧∀ x∈s.K,I9 w.heap.size x)∧Below w.heap.size w wr) (fun i _=>K.length - (intOf i).toNat)
   case atStart=>exact ⟨0,_,rfl,Nat.zero_le _,hmr,⟨rfl,rfl,rfl,rfl⟩,⟨Ud,fun x hx=>(nomatch hx)⟩,hbr⟩
   case round =>
        obtain ⟨k,s,rfl,hk,hms,hLK,⟨hfs,hlo⟩,hbs⟩:=hrel;have HLK:=Lib.hid hLK;have HFS:=Lib.hid hfs;have HLO:=Lib.hid hlo;clear hmr hfs hlo;have hzs:=hbs.size;by_cases hlt:k<K.length
        ·obtain ⟨A,off,rfl,hra,hda⟩:=(hE.kept hbs).at hlt
         have r1:=hra k hlt;have HT:Hid ((aU K).take (k+1)=(aU K).take k++[K[k].1]):=by
          exact z56
         have hse:=HSM.out _ (List.getElem_mem hlt);have hev:=(HLD.out.kept K[k].1 (List.mem_map_of_mem (List.getElem_mem hlt))).1;have HAH:Hid (∀ x∈(aU K).take k,x.dot≠K[k].1.dot):=fun x hx e=>by
          have h1:=HLD.out.srt;have h3:=HT.out;have h4:=List.take_append_drop (k+1) (aU K);rw [h3] at h4;rw [← h4,List.append_assoc] at h1;have h5:=(List.pairwise_append.1 h1).2.2 x hx K[k].1 (by simp);rw [e,eH] at h5
          cases h5
         have HLT:=Lib.hid hlt;clear hra;generalize K[k]=x at r1 hda HT hse hev HAH;obtain ⟨e,ax,cx⟩:=x;simp only [lD] at r1;simp only at hda HT hse hev HAH;obtain ⟨hdo,_,P8,hkw,_⟩:=fE hev;have hn0:ax=none→e.over=[]:=fun hn=>by rcases hda with h | ⟨A,off,h3,_⟩;exact h;rw [hn] at h3;cases h3
         have hKl:s.K.length≤2048:=by
          rw [← bi,hLK.kept,List.length_reverse,List.length_take,bi];omega
         have hPl:s.pairs.length≤2048:=by
          have h1:=congrArg List.length hLK.pairs;rw [List.length_map] at h1;have h2:=List.length_filter_le (AQ D) ((aU K).take k).reverse;rw [List.length_reverse,List.length_take,bi] at h2;omega
         clear hLK hev;go_upto_region 22 with (first
          | ((with_reducible refine bC _ A (off+k * 19) e ax cx r1 ?_ rfl ?_);exact rfl)
          | (refine aB 127 _ _ _ (ag e ax cx).toArray rfl rfl (by kernel_rfl) rfl (by kernel_rfl) ?_))
         refine au (fun W hW=>?_);have hbW:Below wr.heap.size wr W.drew:=by rw [hW.out];exact ((Below.refl wr.heap.size wr).alloc (Nat.le_refl _) _).drew
         have hR4:W.drew.rangeAt wr.heap.size 0 (ag e ax cx):=by rw [hW.out];exact eP e ax cx wr _
         have h4:=hms.kept_w hbW;have Dh:=hda.kept hbW;have Qi:Below w.heap.size w W.drew:=hbs.trans (hbW.mono hzs);have z0:=hR4 0 _ rfl;have z1:=hR4 1 _ rfl;have z2:=hR4 2 _ rfl;simp only [Nat.zero_add] at z0 z1 z2;have z3:=(eu h4.cell).1;have HCL:Hid (∀ X:World,DotsIn X ax e.over→Calls prog 101 #[.agg (ag e ax cx).toArray] X (I7 e X)):=Lib.hid (fun (X:World) (h:DotsIn X ax e.over)=>yE e ax cx X (by omega) hn0 h);clear hW hbW hms hda r1 hn0;refine wp_region_noPanic ?_;refine dD (fun X=>Below W.drew.heap.size W.drew X) [8] (by kernel_rfl) ?_;have hb0:Below W.drew.heap.size W.drew W.drew:=Below.refl _ _;refine ai (i:=0) (oi:=⟨some 67,_,_,_,_,_⟩) (v:=?_) rfl (by kernel_rfl) (by kernel_rfl) (by kernel_rfl) (by kernel_rfl) (by kernel_rfl) (fun _ _ _ h=>h) (Or.inl ⟨by rfl,?_⟩) (by assumption) ?_
         case refine_2 => exact z34
         try simp only [pS]
         refine ai (i:=1) (oi:=⟨some 68,_,_,_,_,_⟩) (v:=?_) rfl (by kernel_rfl) (by kernel_rfl) (by kernel_rfl) (by kernel_rfl) (by kernel_rfl) (fun _ _ _ h=>h) (Or.inl ⟨by rfl,?_⟩) (by assumption) ?_
         case refine_2 => exact z34
         try simp only [pS]
         refine ai (i:=2) (oi:=⟨some 69,_,_,_,_,_⟩) (v:=?_) rfl (by kernel_rfl) (by kernel_rfl) (by kernel_rfl) (by kernel_rfl) (by kernel_rfl) (fun _ _ _ h=>h) (Or.inl ⟨by rfl,?_⟩) (by assumption) ?_
         case refine_2 => exact z34
         try simp only [pS]
         refine ai (i:=3) (oi:=⟨some 70,_,_,_,_,_⟩) (v:=?_) rfl (by kernel_rfl) (by kernel_rfl) (by kernel_rfl) (by kernel_rfl) (by kernel_rfl) (fun _ _ _ h=>h) (Or.inl ⟨by rfl,?_⟩) (by assumption) ?_
         case refine_2 => exact z34
         try simp only [pS]
         refine ai (i:=4) (oi:=⟨some 71,_,_,_,_,_⟩) (v:=?_) rfl (by kernel_rfl) (by kernel_rfl) (by kernel_rfl) (by kernel_rfl) (by kernel_rfl) (fun _ _ _ h=>h) (Or.inl ⟨by rfl,?_⟩) (by assumption) ?_
         case refine_2 => exact z34
         try simp only [pS]
         refine ai (i:=5) (oi:=⟨some 72,_,_,_,_,_⟩) (v:=?_) rfl (by kernel_rfl) (by kernel_rfl) (by kernel_rfl) (by kernel_rfl) (by kernel_rfl) (fun _ _ _ h=>h) (Or.inl ⟨by rfl,?_⟩) (by assumption) ?_
         case refine_2 => exact z34
         try simp only [pS]
         refine ai (i:=6) (oi:=⟨some 73,_,_,_,_,_⟩) rfl (by kernel_rfl) (by kernel_rfl) (by kernel_rfl) (by kernel_rfl) (by kernel_rfl) (fun _ _ _ h=>h) (yieldsIf_load_mid (by rfl) 127 _ rfl wr.heap.size 0 rfl (ag e ax cx) _ (fun X hX=>aj hR4 hX) underlying127 rfl (by kernel_rfl)) (by assumption) ?_;try simp only [pS]
         refine cZ (i:=7) (o:=⟨some 74,_,_,_,_,_⟩) (by kernel_rfl) rfl ?_;intro K hK;go_simp;go_at_call 101;(with_reducible refine (HCL.out _ Dh).mono ?_)
         rintro x w5 ⟨a5,c5,rfl,hown5,hb5⟩;go_simp;refine hK.out _ _ (Or.inr (hb5)) ?_;clear hK K;try simp only [pS]
         have h5:=h4.kept_w hb5;have hnew:∀ p∈mg s.K,p.1≠e.dot:=fun p hp e2=>by
          obtain ⟨x,hx,rfl⟩:=List.mem_map.1 hp;exact HAH.out _ (HLK.out.dots x hx) e2
         obtain ⟨w6,hrun6,Tc,hf6⟩:=h5.kept.store_new jm underlying93 (by show (mg s.K).length<_;unfold mg maxLen;rw [List.length_map];omega) (lJ hdo) hnew ((e,a5,c5):bH);have hK6:=h5.keeps hf6 (fun i hi=>by rw [show i=b.kb from hi];exact mM b _);obtain ⟨a5',c5',he5,hd5⟩:=iF hown5;have UL:Hid (∀ x∈(e,a5,c5) :: s.K,I9 w.heap.size x):=Lib.hid fun x hx=>by
          rcases List.mem_cons.1 hx with rfl | hx
          ·exact fun A off h9 _=>Nat.le_trans Qi.size (PG hown5 h9)
          ·exact HLO.out x hx
         have hd6:DotsIn w6 a5 e.over:=by
          simp only [Value.slice.injEq] at he5;rw [he5.1];exact hK6.dots hd5
         have h6:MpIn w6 m b { s with K:=(e,a5,c5) :: s.K }:=h5.setKept Tc (fun x hx=>by
          rcases List.mem_cons.1 hx with rfl | hx
          ·exact hd6
          ·exact hK6.dots (h5.overs x hx)) hf6
         have hR6:w6.rangeAt wr.heap.size 0 (ag e ax cx):=hK6.range (aj hR4 hb5);have hb6:Below w.heap.size w w6:=(Qi.trans (hb5.mono Qi.size)).trans (hf6.below (Nat.le_trans Qi.size hb5.size) (fun q hq=>by rw [show q=b.kb from hq];exact HFS.out _ (mM b _)));clear hd6 hd5 he5 hown5 Tc hf6 hK6 hb5 h5 hnew h4 hR4 Dh z0 z1 z2 z3 Qi;refine cZ (i:=8) (o:=⟨none,_,_,_,_,_⟩) (by kernel_rfl) rfl ?_
         refine y9 ?_
         clear hrun6 hb0 HCL
         have HK6:Hid (aU ((e,a5,c5) :: s.K)=((aU K).take (k+1)).reverse):=by
          unfold Hid;show e :: aU s.K=_;rw [HT.out,List.reverse_append,HLK.out.kept];rfl
         have y0:=hR6 0 _ rfl;have y1:=hR6 1 _ rfl;have y2:=hR6 2 _ rfl;have y6:=hR6 6 _ rfl;simp only [Nat.zero_add] at y0 y1 y2 y6;have Jb:=NR e.dot (lJ hdo) w6 h6;rw [show ({ s with K:=(e,a5,c5) :: s.K }:MS).dead=D from HLK.out.dead] at Jb;by_cases hk1:e.kind=1
         case neg =>
          have Xa:(e.kind == 1)=false:=beq_eq_false_iff_ne.2 hk1;have HP:Hid (s.pairs=(((aU K).take (k+1)).reverse.filter (AQ D)).map uD):=by
           refine y49 ?_
           rw [List.filter_cons,if_neg (by unfold AQ;rw [decide_eq_false hk1,Bool.false_and];decide)];rfl
          have HZ:=Lib.hid (And.intro h6 hb6);clear Jb hk1 h6 hb6 y0 y1 y2 hR6;go_wp2;go_roundw
          case rel=>exact ⟨k+1,_,by go_num,HLT.out,HZ.out.1,⟨HLK.out.ctx,HLK.out.dead,HK6.out,HP.out⟩,⟨HFS.out,UL.out⟩,HZ.out.2⟩
          case measure => exact z64
         have Xa:(e.kind == 1)=true:=beq_iff_eq.2 hk1;have HK1:=Lib.hid hk1;clear hk1;by_cases hdd:e.dot∈D
         case pos =>
          have HP:Hid (s.pairs=(((aU K).take (k+1)).reverse.filter (AQ D)).map uD):=by
           refine y49 ?_
           rw [List.filter_cons,if_neg (by unfold AQ;rw [decide_eq_true hdd];simp)];rfl
          have hD1:decide (e.dot∈D)=true:=decide_eq_true hdd;rw [hD1] at Jb;have HDd:=Lib.hid Jb;have HZ:=Lib.hid (And.intro h6 hb6);clear Jb hdd hD1 hR6 h6 hb6;go_wp2_with (go_at_call 102;(with_reducible refine HDd.out.mono ?_);rintro x w7 ⟨rfl,hb7⟩)
          have HZ7:=Lib.hid (And.intro (HZ.out.1.kept_w hb7) (HZ.out.2.trans (hb7.mono HZ.out.2.size)));clear y0 y1 y2 y6;go_roundw
          case rel=>exact ⟨k+1,_,by go_num,HLT.out,HZ7.out.1,⟨HLK.out.ctx,HLK.out.dead,HK6.out,HP.out⟩,⟨HFS.out,UL.out⟩,HZ7.out.2⟩
          case measure => exact z64
         have HP:Hid ((e.key,e.dot) :: s.pairs=(((aU K).take (k+1)).reverse.filter (AQ D)).map uD):=by
          refine y49 ?_
          rw [List.filter_cons,if_pos (by unfold AQ;rw [decide_eq_true HK1.out,decide_eq_false hdd];rfl)];rfl
         have Vm:∀ q,(q,e.dot) ∉ s.pairs:=fun q hq=>by
          rw [HLK.out.pairs] at hq;obtain ⟨x,hx,e9⟩:=List.mem_map.1 hq;simp only [uD,Prod.mk.injEq] at e9;exact HAH.out x (List.mem_reverse.1 (List.mem_filter.1 hx).1) e9.2
         have hD1:decide (e.dot∈D)=false:=decide_eq_false hdd;rw [hD1] at Jb;have HDd:=Lib.hid Jb;clear Jb hdd hD1;go_upto_region 24 with (go_at_call 102;(with_reducible refine HDd.out.mono ?_);rintro x w7 ⟨rfl,hb7⟩)
         have h7:=h6.kept_w hb7;have hR7:=aj hR6 hb7;have RG:=hb6.trans (hb7.mono hb6.size);have hAl:(atK s.pairs e.key).length≤2048:=by
          have h1:(atK s.pairs e.key).length≤s.pairs.length:=by unfold atK;rw [List.length_map];exact List.length_filter_le _ _
          omega
         have HLV:=Lib.hid (PP e ax cx w7 h7 hkw (lJ hdo) (fun hm=>Vm _ (kw.1 hm)) (Nat.le_trans hAl (by decide)) (by
          have h2:=pO (l:=s.A.map (·.1)) (m:=s.pairs.map (·.1)) (List.pairwise_map.2 h7.alive.apart) (fun q hq=>by
           obtain ⟨p,hp,rfl⟩:=List.mem_map.1 hq;obtain ⟨d,hd⟩:=List.exists_mem_of_ne_nil _ (h7.some p hp);exact List.mem_map.2 ⟨(p.1,d),kw.1 hd,rfl⟩)
          rw [List.length_map,List.length_map] at h2;show s.A.length≤_;omega))
         clear y0 y1 y2 y6 h6 hR6 hb6 hb7 Vm hAl;go_wp2_with (first
          | ((with_reducible refine bC _ wr.heap.size 0 e ax cx hR7 ?_ rfl ?_);exact rfl)
          | (go_at_call 103;(with_reducible refine HLV.out.mono ?_);rintro x w8 ⟨rfl,A8,h8,VC,Tm⟩))
         have HZ8:Hid (MpIn w8 m b { s with K:=(e,a5,c5) :: s.K,A:=A8,pairs:=(e.key,e.dot) :: s.pairs }∧(∀ q,foot b A8 q→w.heap.size≤q)∧Below w.heap.size w w8):=by
          refine ⟨h8,fun q hq=>?_,RG.trans (VC.below RG.size (fun q hq=>HFS.out q hq))⟩;rcases Tm q hq with h9 | h9
          ·exact HFS.out q h9
          ·exact Nat.le_trans RG.size h9
         clear h7 hR7 h8 VC Tm HLV RG;go_roundw
         case rel=>exact ⟨k+1,_,by go_num,HLT.out,HZ8.out.1,⟨HLK.out.ctx,HLK.out.dead,HK6.out,HP.out⟩,⟨HZ8.out.2.1,UL.out⟩,HZ8.out.2.2⟩
         case measure => exact z64
        ·obtain rfl:k=K.length:=by omega
         have Uo:LoadK ctx D (aU K) s:=by
          have:=HLK.out;rwa [List.take_of_length_le (by rw [bi];exact Nat.le_refl _)] at this
         have HD2:=Lib.hid (Uo.done HLD.out HDm.out);have HL2:=Lib.hid Uo;clear hLK Uo HLK;go_wp2;all_goals
          go_ret2;exact ⟨m,b,s,rfl,hms,HD2.out.1,HD2.out.2,by rw [HL2.out.dead];exact hDl,HFS.out,fun x hx=>HL2.out.dots x hx,hbs,HLO.out⟩
end Go.Proofs.YtepkclldbkhanaaGreat
