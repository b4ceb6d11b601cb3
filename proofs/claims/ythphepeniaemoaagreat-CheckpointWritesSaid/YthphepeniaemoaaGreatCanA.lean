/- The reference's map: Alive, Key. Conditions: as in the text. -/
import Derived.Test.YthphepeniaemoaaGreatRelP
import Derived.Test.YthphepeniaemoaaGreatWin
import Derived.Test.YthphepeniaemoaaGreatOrmP
import Derived.Test.YthphepeniaemoaaGreatIsB
import Derived.Test.YthphepeniaemoaaGreatLdM
import Derived.Test.YthphepeniaemoaaGreatMkB
set_option linter.unusedSimpArgs false
set_option linter.unusedVariables false
set_option linter.unnecessarySimpa false
set_option maxHeartbeats 16000000
set_option maxRecDepth 100000
open Go.Proofs.Tryz
namespace Go.Proofs.YthphepeniaemoaaGreat
open Go.RowKit
/-! ### Key -/
section
variable {H:Type} {enc:TypeId×Value->H} {w:World} {base:Nat} {spare:Nat->Bool} {held:Bool}
open Go.ChangeShapes Go.WideShapes Go.ChangeAt
end
/-- what holds of a map behind n steps -/
structure SGood (s:MS) (n:Nat):Prop where
 inv:MInv s
 nd:(s.K.map (·.1.dot)).Nodup
 ctx:s.ctx.length<=n
 dead:s.dead.length<=64 * n
 small:∀ x∈s.K,EvSmall x.1
theorem SGood.empty:SGood MS.empty 0:=⟨MInv.empty,List.nodup_nil,ar _,ar _,fun x hx=>(nomatch hx)⟩
theorem SGood.mono {s:MS} {n m:Nat} (h:SGood s n) (hm:n<=m):SGood s m:=⟨h.inv,h.nd,Nat.le_trans h.ctx hm,by have:=h.dead;omega,h.small⟩
theorem SGood.ap {s s':MS} {n:Nat} {e:Ev} (h:SGood s n) (hs:EvSmall e) (ha:if jI s e=true then Applied s e s' else s'=s):SGood s' (n+1):=by
 have h1:=RetAp.inv (m:=0) (b:=⟨0,0,0,0,0⟩) h.inv ha;obtain ⟨h2,h3⟩:=RetAp.sizes ha;have h4:=h.ctx;have h5:=h.dead;split at ha
 ·rename_i hok
  obtain ⟨a,c,hk⟩:=ha.kept;obtain ⟨_,q2,_,_⟩:=jY hok;refine ⟨h1,?_,by omega,by omega,fun x hx=>?_⟩
  ·refine (hk.map fun x:EvIt=>x.1.dot).nodup_iff.2 ?_
   rw [List.map_cons,List.nodup_cons];refine ⟨fun hm=>?_,h.nd⟩;obtain ⟨x,hx,e2⟩:=List.mem_map.1 hm;have:=(h.inv.kept x hx).2;rw [e2,q2] at this
   cases this
  ·rcases List.mem_cons.1 (hk.mem_iff.1 hx) with rfl | hx
   ·exact hs
   ·exact h.small x hx
 ·subst ha
  exact h.mono (Nat.le_succ n)
theorem Tz {e:Ev} (h:dm e=true) (hk:e.kind=1):dm { e with over:=[] }=true:=by
 unfold dm at h ⊢;simp only [Bool.and_eq_true,decide_eq_true_eq] at h ⊢;obtain ⟨h1,h2,h3,_,h5⟩:=h;refine ⟨h1,h2,h3,rfl,?_⟩;unfold kindOk at h5 ⊢;rw [if_neg (by rw [hk];decide),if_pos hk] at h5;show (if e.kind=2 then _ else if e.kind=1 then gq e.key e.ck else false)=true;rw [if_neg (by rw [hk];decide),if_pos hk];exact h5
theorem SGood.cl {s:MS} {n:Nat} (h:SGood s n) (d:Dot):SGood (WG s d) (n+1):=by
 unfold WG;split
 ·rename_i hok
  unfold WF at hok;simp only [Bool.and_eq_true,decide_eq_true_eq,Bool.not_eq_true'] at hok;have hno:∀ x∈s.K,x.1.dot≠d:=fun x hx e=>by
   have h1:=SI hx;rw [e,hok.2.2] at h1
   cases h1
  refine ⟨⟨h.inv.ctx,h.inv.ctxOk,h.inv.kept,fun k d'=>?_,h.inv.pnd,fun x hx=>h.inv.dead x (List.mem_filter.1 hx).1,h.inv.len⟩,h.nd,Nat.le_succ_of_le h.ctx,?_,h.small⟩
  ·show (k,d')∈s.pairs↔∃ x∈s.K,x.1.kind=1/\x.1.dot=d'/\x.1.key=k/\d' ∉ s.dead.filter fun x=>decide (x≠d)
   rw [h.inv.pairs];constructor
   ·rintro ⟨x,hx,y1,y2,y3,y4⟩
    exact ⟨x,hx,y1,y2,y3,fun h9=>y4 (List.mem_filter.1 h9).1⟩
   ·rintro ⟨x,hx,y1,y2,y3,y4⟩
    refine ⟨x,hx,y1,y2,y3,fun h9=>y4 (List.mem_filter.2 ⟨h9,aR fun e=>?_⟩)⟩;exact hno x hx (y2.trans e)
  ·have h1:=List.length_filter_le (fun x=>decide (x≠d)) s.dead
   have:=h.dead;show (s.dead.filter fun x=>decide (x≠d)).length<=_;omega
 ·exact h.mono (Nat.le_succ n)
/-! ### what a map tells is loaded -/
theorem xy (ctx:List Dot):∀ (K:List EvIt) (p:Option Dot),(∀ x∈K,dm x.1=true/\iq ctx x.1.dot=true)->Dh (evsOf K)->(∀ d,p=some d->∀ x∈K,cu d x.1.dot=true)->bF ctx p K=0
 | [],p,_,_,_=>zn _ _
 | x :: K,p,h1,h2,h3=>by
   obtain ⟨g1,g2⟩:=List.pairwise_cons.1 h2;obtain ⟨q1,q2⟩:=h1 x List.mem_cons_self;have hn:ji p x.1.dot=true:=by
     cases p with
     | none=>rfl
     | some d=>exact h3 d rfl x List.mem_cons_self
   unfold bF;rw [if_pos q1,if_pos hn,if_pos q2];exact xy ctx K _ (fun z hz=>h1 z (List.mem_cons_of_mem _ hz)) g2 fun d hd z hz=>by
     cases hd
     exact g1 z.1 (List.mem_map_of_mem hz)
theorem wK:∀ (l:List Dot) (p:Option Dot),(∀ d∈l,bn d=true)->SrtD l->(∀ d,p=some d->∀ x∈l,cu d x=true)->df p l=0
 | [],p,_,_,_=>yU _
 | x :: l,p,h1,h2,h3=>by
   obtain ⟨g1,g2⟩:=List.pairwise_cons.1 h2;have hn:ji p x=true:=by
     cases p with
     | none=>rfl
     | some d=>exact h3 d rfl x List.mem_cons_self
   unfold df;rw [if_pos (h1 x List.mem_cons_self),if_pos hn];exact wK l _ (fun z hz=>h1 z (List.mem_cons_of_mem _ hz)) g2 fun d hd z hz=>by
     cases hd
     exact g1 z hz
theorem SGood.loads {s:MS} {n:Nat} (h:SGood s n) (hn:n<=60) {ctx:List Dot} {K:List EvIt} {dead:List Dot} (hc:ctx=s.ctx) (hK:evsOf K=bU s) (hd:dead=sortD s.dead):fF ctx K dead=0:=by
 have h1:=h.ctx;have h2:=h.dead;have hm:aZ ctx=0:=by rw [hc];exact h.inv.marks (by omega)
 have hkl:K.length<=2048:=by rw [<- aW,hK,gI h.nd];exact h.inv.len
 have hdl:dead.length<=65536:=by rw [hd];have:=gX s.dead;omega
 have hf:bF ctx none K=0:=xy ctx K none (fun x hx=>by
  have h9:x.1∈bU s:=by rw [<- hK];exact List.mem_map_of_mem hx
  obtain ⟨z,hz,e⟩:=(gG h.nd).1 h9;rw [<- e,hc];exact h.inv.kept z hz) (by rw [hK];exact mW h.nd) (fun d hd=>by cases hd)
 have hr:df none dead=0:=wK dead none (fun d h9=>by rw [hd,fV] at h9;exact h.inv.dead d h9) (by rw [hd];exact nH _) (fun d hd=>by cases hd);unfold fF or2;rw [if_pos hm,if_neg (by omega),if_pos hf];exact hr
theorem Rel.uniq {s:MS} {r y:RM} (h:Rel s r) (k:Rel s y):r=y:=by
 obtain ⟨a,b,c⟩:=r;obtain ⟨d,e,f⟩:=y;have h1:a=s.ctx:=h.ctx;have h2:b=bU s:=h.kept;have h3:c=sortD s.dead:=h.dead;have k1:d=s.ctx:=k.ctx;have k2:e=bU s:=k.kept;have k3:f=sortD s.dead:=k.dead;subst h1 h2 h3 k1 k2 k3;rfl
theorem SGood.rel {s:MS} {n:Nat} (h:SGood s n):Rel s ⟨s.ctx,bU s,sortD s.dead⟩:=⟨h.nd,rfl,rfl,rfl⟩
theorem CJ {e:Ev} (h:dm e=true):(evB e).length<=8192:=by
 have hf:=qy h;have h64:=hf.over;have d1:=oJ e.dot;have d2:=qI e.stamp;have d3:=aQ e.over.length (by omega);have d4:=fJ e.over;obtain ⟨s1,s2,s3,s4⟩:=qX h
 refine y31 ?_
 intro t1 t2 t3 t4
 simp only [aB] at t1 t2 t3 t4;unfold evB yI lG;split
 ·rename_i h1
  obtain ⟨⟨f1,f2⟩,⟨f3,f4⟩,f5,f6⟩:=hf.item h1;have t5:=Ac e.ck.expiry (by omega) (by omega);have t6:=aQ e.ck.creation.toNat (by omega);have t7:=aQ e.ck.access.toNat (by omega);simp only [av,List.length_singleton];omega
 ·simp only [av,List.length_singleton,List.length_nil];omega
theorem uA:∀ l:List Ev,(∀ e∈l,dm e=true)->(iR l).length<=l.length * 8192
 | [],_=>Nat.zero_le _
 | x :: l,h=>by
   have h2:=uA l fun e he=>h e (List.mem_cons_of_mem _ he);have h3:=CJ (h x List.mem_cons_self);show (evB x++iR l).length<=_;rw [av,List.length_cons];omega
theorem CE:∀ (l:List Ev) (k:Nat),(iR (l.take k)).length<=(iR l).length
 | [],k=>by rw [List.take_nil];exact ar _
 | x :: l,0=>Nat.zero_le _
 | x :: l,k+1=>by
   have h:=CE l k;show (evB x++iR (l.take k)).length<=(evB x++iR l).length;rw [av,av];omega
/-- what holds the events of a row in a world that a writer has gone on from -/
theorem Hold.evs9 {S:Nat->Prop} {w0 w:World} {B:Nat} {l:Bytes} (h:Hold S w0 B w l) {a:Option Addr} {ls:List EvIt} (hE:EvsIn w0 a ls) (oe:xR w0 S a (ls≠[])) (od:∀ x∈ls,xR w0 S x.2.1 (x.1.over≠[])):EvsIn w a ls:=by
 refine ⟨hE.rows.imp id fun ⟨A,off,h1,h2⟩=>⟨A,off,h1,fun i hi j v hv=>?_⟩,fun x hx=>h.dots (hE.dots x hx) (od x hx)⟩;have hne:ls≠[]:=fun e=>by rw [e] at hi;simp at hi
 obtain ⟨h3,h4⟩:=oe A off h1 hne;exact (World.cell?_of_block (h.fr.block A h3 h4)).trans (h2 i hi j v hv)
theorem MH {w:World} {B:Nat} {x:Value} {t:TypeId} {f:Nat×Nat} {a:Option Addr} {l:List Dot} (hd:DotsIn w a l) (hB:w.heap[B]?=some (.cells #[x] t f)):xR w (fun k=>k=B) a (l≠[]):=fun A off ha hne=>by
 rcases hd with h0 | ⟨A',off',h1,h2⟩
 ·exact absurd h0 hne
 ·rw [ha] at h1
  simp only [Option.some.injEq,Addr.mk.injEq,and_true] at h1;obtain ⟨rfl,rfl⟩:=h1;have hl:0<l.length:=List.length_pos_iff.2 hne;have c:=h2.inc 0 hl;refine ⟨World.block_lt_of_cell? w _ c,fun e=>?_⟩;subst e;simp [World.cell?,hB] at c
theorem Ut {w:World} {B:Nat} {x:Value} {t:TypeId} {f:Nat×Nat} {a:Option Addr} {ls:List EvIt} (hE:EvsIn w a ls) (hB:w.heap[B]?=some (.cells #[x] t f)):xR w (fun k=>k=B) a (ls≠[])/\∀ y∈ls,xR w (fun k=>k=B) y.2.1 (y.1.over≠[]):=by
 refine ⟨fun A off ha hne=>?_,fun y hy=>MH (hE.dots y hy) hB⟩;rcases hE.rows with h0 | ⟨A',off',h1,h2⟩
 ·exact absurd h0 hne
 ·rw [ha] at h1
  simp only [Option.some.injEq,Addr.mk.injEq,and_true] at h1;obtain ⟨rfl,rfl⟩:=h1;have hl:0<ls.length:=List.length_pos_iff.2 hne;have c:w.cell? ⟨A,off+0 * 19+1,none⟩=some (.int .i64 ls[0].1.dot.a.inc):=h2 0 hl 1 _ rfl;refine ⟨World.block_lt_of_cell? w _ c,fun e=>?_⟩;subst e;simp [World.cell?,hB] at c
theorem PV {w:World} {base:Nat} {a:Option Addr} {n cap:Nat} {xs:List Value} (h:w.ownsRow base 5 1 (.slice a n cap) n xs):n<=cap:=by
 rcases h.2 with ⟨h0,hn⟩ | ⟨g,c,cur,he,_,_,hc,_⟩
 ·omega
 ·cases he;exact hc
/-- behind what hands back bytes, and no error -/
def Rn (l:Bytes) (w:World) (e:Ending) (w':World):Prop:=∃ a c,e=.returned (.tuple #[.slice a l.length c,.int .i64 0])/\(BytesIn w' a l/\l.length<=c)/\Below w.heap.size w w'
def fM (s:MS):Bytes:=ik s.ctx++aj s.K.length++iR (bU s)++aj (sortD s.dead).length++bV (sortD s.dead)
theorem QL {S:Nat->Prop} {w0:World} {B:Nat} {l:Bytes} (w:World) (h:Hold S w0 B w l) (hl:l.length<=1048576):Calls prog 120 #[.pointer (some ⟨B,0,none⟩)] w (Rn l w):=by
 have HB:=aq (Jo h (by omega));have hdl:decide ((1048576:Int)<(l.length:Int))=false:=aM (by omega);go_enter func120,ntmps120;go_wp2_with (go_at_call 68;(with_reducible refine HB.out.mono ?_);rintro x w1 ⟨v,rfl,hown,hb1⟩;obtain ⟨a,c,rfl,hin⟩:=bP hown)
 all_goals
  go_ret2;exact ⟨a,c,rfl,⟨hin,PV hown⟩,hb1⟩
/-- behind begin: a new writer, the marks and how many events -/
def Vb (s:MS) (n:Nat) (w:World) (e:Ending) (w':World):Prop:=∃ B W0 x t f,e=.returned (.tuple #[.pointer (some ⟨B,0,none⟩),.int .i64 0])/\w.heap.size<=B/\W0.heap[B]?=some (.cells #[x] t f)/\Below w.heap.size w W0/\Hold (fun k=>k=B) W0 B w' (ik s.ctx++aj n)
theorem O0 {m:Nat} {b:MB} {s:MS} (a:Option Addr) (n cap:Nat) (w:World) (h:MpIn w m b s) (hi:MInv s) (hc:s.ctx.length<=4096) (hn:n<=1048576):Calls prog 117 #[.pointer (some ⟨m,0,none⟩),.slice a n cap] w (Vb s n w):=by
 have HC:=aq (fun (X:World) (h:MpIn X m b s)=>Tv X h hi hc);have hme:=hi.marks hc;go_enter func117,ntmps117;go_upto_region 2 with fail
 refine aI (fun W1 hW1=>?_);have hb1:Below w.heap.size w W1:=by rw [hW1.out];go_grown
 have hB1:W1.heap[w.heap.size]?=some (.cells #[.slice none 0 0] 138 (0,0)):=by rw [hW1.out];exact aY _ _
 have h1:=h.kept_w hb1;clear hW1 h;obtain ⟨B,hB⟩:∃ B,B=w.heap.size:=⟨_,rfl⟩;rw [<- hB] at hB1 ⊢;have hBw:w.heap.size<=B:=by omega
 have HBB:=aq hB;clear hB;go_upto_region 3 with (first
  | (go_at_call 95;(with_reducible refine (HC.out _ h1).mono ?_);rintro x w2 ⟨aC,cC,rfl,hd2,hb2⟩;have hB2:=(hb2.block _ (lt_of_block hB1)).trans hB1;have HH:Hold (fun k=>k=B) w2 B w2 []:=Hold.start ⟨rfl,.slice none 0 0,0,hB2,World.ownsRow_nil _ _ _ _,fun g hg=>by cases hg⟩;have HV:=Pv HH aC cC s.ctx (Nat.zero_le _) hme hd2 (MH hd2 hB2))
  | (go_at_call 161;(with_reducible refine HV.mono ?_);rintro x w3 ⟨rfl,HH3⟩))
 rw [List.nil_append] at HH3;have hml:(ik s.ctx).length<=268435456:=by
  have h4:=aQ s.ctx.length (by omega);have h5:=fJ s.ctx;unfold ik;rw [av];omega
 have HN:=aq (zD HH3 n hml (by omega));have hwr:IntKind.u64.wrap (n:Int)=(n:Int):=IntWalk.u64_in _ (by omega);have HQ:=aq (ba (below2 hb1 hb2) hB2);clear HV HH HH3 hd2 hb1 hb2 hB1 hB2 h1;go_wp2_with (go_at_call 64;(with_reducible refine HN.out.mono ?_);rintro x w4 ⟨rfl,HH4⟩)
 go_ret2;exact ⟨B,w2,_,_,_,rfl,hBw,HQ.out.2,HQ.out.1,HH4⟩
theorem Ls {m:Nat} {b:MB} {s:MS} (w:World) (h:MpIn w m b s) (hi:MInv s) (hnd:(s.K.map (·.1.dot)).Nodup) (hcx:s.ctx.length<=4096) (hdd:s.dead.length<=65536) (hfl:(fM s).length<=1048576):Calls prog 63 #[.pointer (some ⟨m,0,none⟩)] w (Rn (fM s) w):=by
 have HEv:=aq (Ic w h hi.len hi.overs hi.dots);have hKK:=hi.len;have HBg:=aq (fun (X:World) (a:Option Addr) (n cap:Nat) (h:MpIn X m b s) (hn:n<=1048576)=>O0 a n cap X h hi hcx hn);have HDs:=aq (fun (X:World) (h:MpIn X m b s)=>Ky X h (by omega) (fun d hd=>iw (hi.dead d hd)));have hme:=hi.marks hcx;have hml:(ik s.ctx).length<=150000:=by
  have h4:=aQ s.ctx.length (by omega);have h5:=fJ s.ctx;unfold ik;rw [av];omega
 have HND:=aq hnd;have HIV:=aq hi;have HFL:=aq hfl;have HM9:=aq h;have hdl:(sortD s.dead).length<=65536:=Nat.le_trans (gX _) hdd;clear hnd hi hfl;go_enter func63,ntmps63;go_upto_region 5 with (first
  | (go_at_call 97;(with_reducible refine HEv.out.mono ?_);rintro x w1 ⟨aE,ls,cE,rfl,hE,⟨hev,_,_⟩,hb1⟩;have h1:=h.kept_w hb1;have HLL:Hid (ls.length=s.K.length):=(by rw [<- aW,hev,gI HND.out]:ls.length=s.K.length))
  | (go_at_call 117;(with_reducible refine (HBg.out _ _ _ _ h1 (by have:=HLL.out;omega)).mono ?_);rintro x w2 ⟨B,W0,x0,t0,f0,rfl,hBw,hB0,hb2,HH⟩))
 have hbw0:Below w.heap.size w W0:=hb1.trans (hb2.mono hb1.size);have hBz:w.heap.size<=B:=Nat.le_trans hb1.size hBw;have hE0:=hE.kept hb2;obtain ⟨oe,od⟩:=Ut hE0 hB0;have HO:=aq (ba hE0 (ba oe od));have hok:∀ x∈ls,dm x.1=true:=fun x hx=>by
  have h9:x.1∈bU s:=by rw [<- hev];exact List.mem_map_of_mem hx
  obtain ⟨z,hz,e⟩:=(gG HND.out).1 h9;rw [<- e];exact (HIV.out.kept z hz).1
 have HOK:=aq hok;have XQ:ls.length<=2048:=by have:=HLL.out;omega
 obtain ⟨M,hM⟩:∃ M,M=ik s.ctx++aj ls.length:=⟨_,rfl⟩;have hMl:M.length<=160000:=by
  have h4:=aQ ls.length (by omega);rw [hM,av];omega
 have HF:Hid (fM s=M++iR (evsOf ls)++aj (sortD s.dead).length++bV (sortD s.dead)):=by unfold Hid fM;rw [hM,HLL.out,hev]
 rw [<- hM] at HH;have HHH:=aq HH;have hel:∀ k,M.length+(iR ((evsOf ls).take k)).length<=1048576:=fun k=>by
  have h2:=CE (evsOf ls) k;have h3:=HFL.out;rw [HF.out,av,av,av] at h3;omega
 have HEL:=aq hel;clear h1 h hE hE0 hb1 hb2 hev hok hM HH oe od HLL hel HBg HEv hme hml;go_wp2;go_loopw [27] (fun i wr=>∃ k:Nat,i=.int .i64 k/\k<=ls.length/\Hold (fun k=>k=B) W0 B wr (M++iR ((evsOf ls).take k))) (fun i _=>ls.length - (intOf i).toNat)
 case atStart=>exact ⟨0,rfl,Nat.zero_le _,by simpa [iR] using HHH.out⟩
 case round =>
  obtain ⟨k,rfl,hk9,hH⟩:=hrel;by_cases hlt:k<ls.length
  ·obtain ⟨A,off,rfl,hra,hda⟩:=(hH.evs9 HO.out.1 HO.out.2.1 HO.out.2.2).at hlt
   have r1:=hra k hlt;have hdo:=HO.out.1.dots _ (List.getElem_mem hlt);have hoo:=HO.out.2.2 _ (List.getElem_mem hlt);have hoe:=HOK.out _ (List.getElem_mem hlt);have HT:Hid (M++iR ((evsOf ls).take (k+1))=(M++iR ((evsOf ls).take k))++evB ls[k].1):=by
        unfold Hid;rw [List.take_add_one,List.getElem?_eq_getElem (by rw [aW];exact hlt),xC hlt,Option.toList_some,EO,List.append_assoc]
   have hlen:(M++iR ((evsOf ls).take k)).length<=1048576:=by have:=HEL.out k;rw [av];omega
   have HLT:=aq hlt;clear hra hda;generalize ls[k]=x at *;obtain ⟨e,ax,cx⟩:=x;simp only [qj] at r1;simp only at hdo hoo hoe HT;have hal:=(bh wr.heap.size wr).alloc (ar _) (.cells (az e ax cx).toArray 82);have hH2:=hH.below hal;have HP:=aq (KX hH2 e ax cx hlen hoe hdo hoo);have RX:(wr.alloc (.cells (az e ax cx).toArray 82)).rangeAt wr.heap.size 0 (az e ax cx):=dU e ax cx wr _;clear hH hH2 hdo hoo hoe hlen hal;go_wp2_with (first
        | ((with_reducible refine dn _ A (off+k * 19) e ax cx r1 ?_ rfl ?_);exact rfl)
        | (refine cZ 82 _ _ _ (az e ax cx).toArray rfl rfl (by kernel_rfl) rfl (by kernel_rfl) ?_)
        | ((with_reducible refine dn _ wr.heap.size 0 e ax cx RX ?_ rfl ?_);exact rfl)
        | (go_at_call 118;(with_reducible refine HP.out.mono ?_);rintro v w3 ⟨rfl,H3⟩))
   have HZ:=aq H3;clear H3 r1 RX;go_roundw
   case rel=>exact ⟨k+1,by go_num,HLT.out,by rw [HT.out];exact HZ.out⟩
   case measure => exact z65
  ·obtain rfl:k=ls.length:=by omega
   have hTe:(evsOf ls).take ls.length=evsOf ls:=List.take_of_length_le (by rw [aW];exact ar _);have hEl:=HEL.out ls.length;rw [hTe] at hH hEl;have hbr:Below w.heap.size w wr:=hbw0.trans (hH.fr.below hbw0.size (fun k hk=>by rw [show k=B from hk];exact hBz));have HDr:=aq (HDs.out wr (HM9.out.kept_w hbr));obtain ⟨M2,hM2⟩:∃ M2,M2=M++iR (evsOf ls):=⟨_,rfl⟩;have Yd:M2.length<=1048576:=by rw [hM2,av];omega
   rw [<- hM2] at hH HF;have HBR:=aq hbr;clear hM2 hbr hEl hTe hk9;generalize sortD s.dead=ds at *;go_upto_region 13 with (go_at_call 103;go_loud ((with_reducible refine HDr.out.mono ?_);rintro x w5 ⟨xv,rfl,hown,_,hb5⟩;obtain ⟨aD,cD,rfl,VR⟩:=iF hown))
   have hH5:Hold (tight (grow (fun k=>k=B) W0) wr) w5 B w5 M2:=Hold.start (hH.wr.tight.frame (S:=tight (grow (fun k=>k=B) W0) wr) (T:=fun _=>False) (Fr.of_below hb5) (fun _ _ g=>g));have hN5:=zD hH5 ds.length (by omega) (by omega);have hwr:IntKind.u64.wrap (ds.length:Int)=(ds.length:Int):=IntWalk.u64_in _ (by omega);have hold:xR w5 (tight (grow (fun k=>k=B) W0) wr) aD (ds≠[]):=fun A9 XF ha hne=>by
        rcases hown.2 with ⟨h0,h1⟩ | ⟨g,cap,cur,h0,h1,h2,_⟩
        ·exact absurd (List.length_eq_zero_iff.1 h1) hne
        ·rw [ha] at h0
         simp only [Value.slice.injEq,Option.some.injEq,Addr.mk.injEq] at h0;obtain ⟨⟨rfl,_⟩,_⟩:=h0;exact ⟨lt_of_block h2,fun hs=>by have:=hs.2;omega⟩
   have HN5:=aq hN5;have HD5:=aq (ba VR hold);have HB5:Hid (Below w.heap.size w w5/\∀ k,tight (grow (fun k=>k=B) W0) wr k->w.heap.size<=k):=⟨HBR.out.trans (hb5.mono HBR.out.size),fun k hk=>by
        rcases hk.1 with h1 | h1
        ·rw [show k=B from h1];exact hBz
        ·exact Nat.le_trans hbw0.size h1⟩
   clear hown hb5 hH hN5 hold VR hH5 HDr;generalize tight (grow (fun k=>k=B) W0) wr=S3 at *;go_upto_region 14 with (go_at_call 64;(with_reducible refine HN5.out.mono ?_);rintro x w6 ⟨rfl,hH6⟩)
   obtain ⟨M3,hM3⟩:∃ M3,M3=M2++aj ds.length:=⟨_,rfl⟩;have Yc:M3.length<=1048600:=by have:=aQ ds.length (by omega);rw [hM3,av];omega
   rw [<- hM3] at hH6 HF;have HH6:=aq hH6;clear hM3 hH6 HN5 hwr;go_wp2;go_loopw [44] (fun i wr=>∃ j:Nat,i=.int .i64 j/\j<=ds.length/\Hold S3 w5 B wr (M3++bV (ds.take j))) (fun i _=>ds.length - (intOf i).toNat)
   case atStart=>exact ⟨0,rfl,Nat.zero_le _,by simpa [bV] using HH6.out⟩
   case round =>
        obtain ⟨j,rfl,hj,hH⟩:=hrel;by_cases hlt:j<ds.length
        ·obtain ⟨A,off,rfl,c0,c1,c2⟩:=(hH.dots HD5.out.1 HD5.out.2).at hlt
         have HT:Hid (M3++bV (ds.take (j+1))=(M3++bV (ds.take j))++jy ds[j]):=by
          unfold Hid;rw [List.take_add_one,List.getElem?_eq_getElem hlt,Option.toList_some,lH,List.append_assoc]
         have hlen:(M3++bV (ds.take j)).length<=268435456:=by
          have h1:=fJ (ds.take j);rw [List.length_take] at h1;rw [av];omega
         have HLT:=aq hlt;generalize ds[j]=d at *;clear hlt;go_upto_region 17 with fail
         refine aI (fun Wx hWx=>?_);have hbx:Below wr.heap.size wr Wx:=by rw [hWx.out];go_grown
         have v0:Wx.cell? ⟨wr.heap.size,0,none⟩=some (.int .i64 d.a.dev):=by rw [hWx.out];go_simp
         have v1:Wx.cell? ⟨wr.heap.size,1,none⟩=some (.int .i64 d.a.inc):=by rw [hWx.out];go_simp
         have v2:Wx.cell? ⟨wr.heap.size,2,none⟩=some (.int .i64 d.seq):=by rw [hWx.out];go_simp
         have HP:=aq (xI (hH.below hbx) d hlen);clear hWx c0 c1 c2 hH hbx hlen;go_wp2_with (go_at_call 119;(with_reducible refine HP.out.mono ?_);rintro v w8 ⟨rfl,hH8⟩)
         have HZ:=aq hH8;clear hH8 v0 v1 v2;go_roundw
         case rel=>exact ⟨j+1,by go_num,HLT.out,by rw [HT.out];exact HZ.out⟩
         case measure => exact z65
        ·obtain rfl:j=ds.length:=by omega
         rw [List.take_length] at hH;have hfl:(M3++bV ds).length<=1048576:=by
          have h1:=HFL.out;rw [HF.out] at h1;exact h1
         obtain ⟨L9,hL9⟩:∃ L9,L9=M3++bV ds:=⟨_,rfl⟩;rw [<- hL9] at hH hfl HF;have HDn:=aq (QL wr hH hfl);have hbF:=HB5.out.1.trans (hH.fr.below HB5.out.1.size HB5.out.2);clear hH hj hL9;go_wp2_with (go_at_call 120;(with_reducible refine HDn.out.mono ?_);rintro x w9 ⟨a9,c9,rfl,DL,hb9⟩)
         go_ret2;rw [HF.out];exact ⟨a9,c9,rfl,DL,hbF.trans (hb9.mono hbF.size)⟩
end Go.Proofs.YthphepeniaemoaaGreat
