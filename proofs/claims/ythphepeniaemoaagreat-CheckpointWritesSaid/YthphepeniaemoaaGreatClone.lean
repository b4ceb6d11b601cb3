/- Memory: blocks stored whole, cells set, results that lie in blocks. Conditions: none. -/
import Derived.Test.YthphepeniaemoaaGreatLoad
import Derived.Test.YthphepeniaemoaaGreatCel
import Derived.OneCell
import Derived.Test.YthphepeniaemoaaGreatKit
import Derived.Lib.AppendStr
import Derived.IntWalk
import Derived.Deep.WholeRow
set_option linter.unusedSimpArgs false
set_option linter.unusedVariables false
set_option linter.unnecessarySimpa false
set_option maxHeartbeats 16000000
set_option maxRecDepth 100000
open Go.Proofs.Tryz
namespace Go.Proofs.YthphepeniaemoaaGreat
open Go.RowKit
/-- a function whose one result is a struct that lies in a block of its own hands back that block's cells -/
theorem ed {P:Program} {fn:Func} {R:Ending->World->Prop} {a:Act} {w:World} (p:Tmp) (ty t:TypeId) (g:Nat) (c:Array Value) (d:TypeDesc) (hr:fn.results=#[.cell p ty])
 (hp:a.tmps.getD p undef=.pointer (some ⟨g,0,none⟩)) (hg:w.heap[g]?=some (.cells c t (0,0))) (hu:P.underlying ty=some d) (hd:d.isRow=true) (hi:(P.info? ty).map (·.size)=some c.size)
 (hde:a.defers=[]) (hR:R (.returned (.agg c)) w):bodyPost P fn R .ret a w:=by
 have h1:w.rangeAt g 0 c.toList:=fun j v hv=>by
  exact z102
 have h2:=run_loadVar_mid (P:=P) w g 0 ty c.toList d h1 hu hd (by simpa using hi);refine bodyPost_ret ?_ hde hR;have hp':a.tmps[p]?.getD undef=.pointer (some ⟨g,0,none⟩):=by simpa using hp
 simp [results,hr,hp',asAddr,h2,Sem.run_bind,Result.andThen]
theorem Ep {w w':World} {base:Nat} {e:TypeId} {size:Nat} {v:Value} {n:Nat} {xs:List Value} (h:w.ownsRow base e size v n xs) (hk:∀ k,base<=k->w'.heap[k]?=w.heap[k]?):w'.ownsRow base e size v n xs:=by
 refine ⟨h.1,?_⟩;rcases h.2 with hn | ⟨g,cap,cur,hv,hbs,hg,rest⟩
 ·exact .inl hn
 ·exact .inr ⟨g,cap,cur,hv,hbs,by rw [hk g hbs];exact hg,rest⟩
theorem eP {w:World} {base b2:Nat} {e:TypeId} {size:Nat} {v:Value} {n:Nat} {xs:List Value} (h:w.ownsRow base e size v n xs) (hb:b2<=base):w.ownsRow b2 e size v n xs:=by
 exact z125
theorem below_setRow {B:Nat} {W w:World} (h:Below B W w) {g:Nat} (hg:B<=g) (cs:Array Value):Below B W (w.setRow g cs) :=
 h.trans ⟨rfl,rfl,rfl,by simp [World.setRow],fun k hk=>by simp [World.setRow,Array.getElem?_modify];omega⟩
theorem NC {w:World} {b:Nat} {e:Ev} {a a':Option Addr} {cap cap':Nat} (h:w.rangeAt b 0 (az e a cap)):(w.setCell ⟨b,18,none⟩ (.slice a' e.over.length cap')).rangeAt b 0 (az e a' cap'):=by
 intro j v hv;rw [aw];by_cases hj:j=18
 ·subst hj
  simp [az] at hv;subst hv;exact World.cell?_setCell_same _ _ _ (h 18 _ rfl)
 ·rw [World.cell?_setCell_other _ _ _ _ (by simp [Ne.symm hj])]
  have h1:(az e a cap)[j]?=some v:=by
   rw [<- hv];match j,hj with
   | 0,_ | 1,_ | 2,_ | 3,_ | 4,_ | 5,_ | 6,_ | 7,_ | 8,_ | 9,_ | 10,_ | 11,_ | 12,_ | 13,_ | 14,_ | 15,_ | 16,_ | 17,_=>rfl
   | j+19,_=>rfl
  have:=h j v h1;rwa [aw] at this
theorem cZ {P:Program} {ops:Array Oper} {rest:List Oper} {a:Act} {w:World} {Q:Exit->Act->World->Prop} {type:TypeId} {pos:String} {after:Array Edge} (ty:TypeId) (x y:Operand) (c c':Array Value)
 (hx:a.eval x=.pointer (some ⟨w.heap.size,0,none⟩)) (hy:a.eval y=.agg c') (hi:(P.info? ty).map (·.size)=some c'.size) (hold:c.size=c'.size) (h1:c'.all (·.oneCell')=true)
 (h:wpList P ops Q rest a (w.alloc (.cells c' ty))):wpList P ops Q (⟨none,.store ty x y,type,pos,after,none⟩ :: rest) a (w.alloc (.cells c ty)):=by
 refine wpList_store_row rfl ty x y rfl w.heap.size c' hx hy ty c (heap_alloc_last w _) hi hold h1 ?_;rw [World.setRow_alloc_new];exact h
theorem nR {P:Program} {ops:Array Oper} {rest:List Oper} {a:Act} {w:World} {Q:Exit->Act->World->Prop} {type:TypeId} {pos:String} {after:Array Edge} (ty:TypeId) (x y:Operand) (c c':Array Value) (N:Nat) (hN:w.heap.size=N)
 (hx:a.eval x=.pointer (some ⟨N,0,none⟩)) (hy:a.eval y=.agg c') (hi:(P.info? ty).map (·.size)=some c'.size) (hold:c.size=c'.size) (h1:c'.all (·.oneCell')=true)
 (h:wpList P ops Q rest a (w.alloc (.cells c' ty))):wpList P ops Q (⟨none,.store ty x y,type,pos,after,none⟩ :: rest) a (w.alloc (.cells c ty)):=by
 subst hN;exact cZ ty x y c c' hx hy hi hold h1 h
abbrev EvIt:=Ev×Option Addr×Nat
abbrev qj (x:EvIt):List Value:=az x.1 x.2.1 x.2.2
structure EvsIn (w:World) (a:Option Addr) (ls:List EvIt):Prop where
 rows:ls=[]\/∃ A off,a=some ⟨A,off,none⟩/\∀ i (h:i<ls.length),w.rangeAt A (off+i * 19) (qj ls[i])
 dots:∀ x∈ls,DotsIn w x.2.1 x.1.over
theorem EvsIn.kept {w w':World} {a:Option Addr} {ls:List EvIt} (h:EvsIn w a ls) (hb:Below w.heap.size w w'):EvsIn w' a ls :=
 ⟨h.rows.imp id fun ⟨A,off,h1,h2⟩=>⟨A,off,h1,fun i hi=>ai (h2 i hi) hb⟩,fun x hx=>(h.dots x hx).kept hb⟩
theorem EvsIn.at {w:World} {a:Option Addr} {ls:List EvIt} (h:EvsIn w a ls) {k:Nat} (hk:k<ls.length) :
 ∃ A off,a=some ⟨A,off,none⟩/\(∀ i (h:i<ls.length),w.rangeAt A (off+i * 19) (qj ls[i]))/\DotsIn w ls[k].2.1 ls[k].1.over:=by
 rcases h.rows with h1 | ⟨A,off,h1,h2⟩
 ·subst h1;simp at hk
 ·exact ⟨A,off,h1,h2,h.dots _ (List.getElem_mem hk)⟩
/-- the events alone -/
def evsOf (ls:List EvIt):List Ev:=ls.map (·.1)
theorem aW (ls:List EvIt):(evsOf ls).length=ls.length:=by simp [evsOf]
theorem xC {ls:List EvIt} {k:Nat} (h:k<ls.length):(evsOf ls)[k]'(by rw [aW];exact h)=ls[k].1:=by simp [evsOf]
def EvsSmall (ls:List EvIt):Prop:=∀ x∈ls,EvSmall x.1
/-! ### are they the same -/
/-- few and short -/
def lightAll (n:Nat) (ls:List Ev):Bool:=decide (ls.length<=n) && ls.all lW
theorem Gp (a:Option Addr) (cap n:Nat) (l:List EvIt) (w:World) (hn:n<=1073741824) (hl:l.length<=maxLen) (h:EvsIn w a l)
 (hs:∀ x∈l,x.1.over.length<=maxLen/\x.1.key.name.size<=maxLen/\x.1.key.domain.size<=maxLen/\x.1.key.path.size<=maxLen/\x.1.ck.value.size<=maxLen) :
 Calls prog 7 #[.slice a l.length cap,.int .i64 n] w fun x w'=>x=.returned (.bool (lightAll n (evsOf l)))/\Below w.heap.size w w':=by
 unfold maxLen at hl;by_cases hle:l.length<=n
 ·have hdn:decide (n<l.length)=false:=aM (by omega)
  have hdi:decide ((n:Int)<(l.length:Int))=false:=aM (by omega);have HV:Hid (lightAll n (evsOf l)=(evsOf l).all lW):=by unfold Hid lightAll;rw [aW,aR hle];rfl
  go_enter func7,ntmps7;go_wp2;go_loopw [5] (fun i wr=>∃ k:Nat,k<=l.length/\i=.int .i64 k/\lightAll n (evsOf l)=((evsOf l).drop k).all lW/\Below w.heap.size w wr) (fun i _=>l.length - (intOf i).toNat)
  case atStart=>exact ⟨0,Nat.zero_le _,rfl,HV.out,bh _ _⟩
  case round =>
   obtain ⟨k,hk,rfl,hpre,hbw⟩:=hrel;have HP:=aq hpre;clear hpre HV;have hzw:=hbw.size;by_cases hlt:k<l.length
   ·obtain ⟨A,off,rfl,hra,hda⟩:=(h.kept hbw).at hlt
    have r1:=hra k hlt;have g1:=@xC l k hlt;have hd:(evsOf l).drop k=l[k].1 :: (evsOf l).drop (k+1):=by rw [List.drop_eq_getElem_cons (by rw [aW];exact hlt),g1]
    obtain ⟨m1,m2,m3,m4,m5⟩:=hs _ (List.getElem_mem hlt);have HT:Hid (lightAll n (evsOf l)=(lW l[k].1 && ((evsOf l).drop (k+1)).all lW)):=by rw [Hid,HP.out,hd,List.all_cons]
    clear hra g1 hd HP hda;generalize l[k]=x at *;obtain ⟨e,ax,cx⟩:=x;simp only [qj] at *;have hL0:=fun (W:World)=>Pi e ax cx W m1 m2 m3 m4 m5
    cases hli:lW e with
    | true =>
      have HE:Hid (lightAll n (evsOf l)=((evsOf l).drop (k+1)).all lW):=by rw [Hid,HT.out,hli];rfl
      rw [hli] at hL0;have HL:=aq hL0;clear hL0 HT hli m1 m2 m3 m4 m5;go_wp2_with (first
       | ((with_reducible refine dn _ A (off+k * 19) e ax cx r1 ?_ rfl ?_);exact rfl)
       | (go_at_call 21;(with_reducible refine (HL.out _).mono ?_);rintro v w1 ⟨rfl,hb⟩))
      go_roundw
      case rel=>exact ⟨k+1,by omega,by go_num,HE.out,hbw.trans (hb.mono hzw)⟩
      case measure => exact z67
    | false =>
      have HE:Hid (lightAll n (evsOf l)=false):=by rw [Hid,HT.out,hli];rfl
      rw [hli] at hL0;have HL:=aq hL0;clear hL0 HT hli m1 m2 m3 m4 m5;go_wp2_with (first
       | ((with_reducible refine dn _ A (off+k * 19) e ax cx r1 ?_ rfl ?_);exact rfl)
       | (go_at_call 21;(with_reducible refine (HL.out _).mono ?_);rintro v w1 ⟨rfl,hb⟩))
      go_ret;exact ⟨aH HE.out.symm,hbw.trans (hb.mono hzw)⟩
   ·have HE:Hid (lightAll n (evsOf l)=true):=by rw [Hid,HP.out,List.drop_eq_nil_of_le (by rw [aW];omega)];rfl
    go_wp2;go_ret;exact ⟨aH HE.out.symm,hbw⟩
 ·have hdn:decide (n<l.length)=true:=aR (by omega)
  have hdi:decide ((n:Int)<(l.length:Int))=true:=aR (by omega);have HE:Hid (lightAll n (evsOf l)=false):=by unfold Hid lightAll;rw [aW,aM hle];rfl
  go_enter func7,ntmps7;go_wp2
  exact z133
def aJ (l:List Dot):List Value:=l.flatMap fun d=>[.int .i64 d.a.dev,.int .i64 d.a.inc,.int .i64 d.seq]
theorem dX:∀ l:List Dot,(aJ l).length=l.length * 3
 | []=>rfl
 | d :: l=>by
   have:=dX l;simp only [aJ,List.flatMap_cons,av,List.length_cons,List.length_nil] at this ⊢;omega
theorem dB (l:List Dot):∀ u∈aJ l,u.oneCell'=true:=by
 intro u hu;simp only [aJ,List.mem_flatMap,List.mem_cons,List.not_mem_nil,or_false] at hu;obtain ⟨d,_,rfl | rfl | rfl⟩:=hu <;> rfl
theorem gJ:∀ (l:List Dot) (i:Nat) (h:i<l.length),(aJ l)[i * 3]?=some (.int .i64 l[i].a.dev)/\(aJ l)[i * 3+1]?=some (.int .i64 l[i].a.inc)/\(aJ l)[i * 3+2]?=some (.int .i64 l[i].seq)
 | [],i,h=>by simp at h
 | d :: l,0,_=>by simp [aJ]
 | d :: l,i+1,h=>by
   have ih:=gJ l i (by simpa using h);have e:aJ (d :: l)=[.int .i64 d.a.dev,.int .i64 d.a.inc,.int .i64 d.seq]++aJ l:=rfl;rw [e,List.getElem?_append_right (by simp;omega),List.getElem?_append_right (by simp;omega),List.getElem?_append_right (by simp;omega)];simp only [List.length_cons,List.length_nil,List.getElem_cons_succ];rw [show (i+1) * 3 - (0+1+1+1)=i * 3 by omega,show (i+1) * 3+1 - (0+1+1+1)=i * 3+1 by omega,show (i+1) * 3+2 - (0+1+1+1)=i * 3+2 by omega];exact ih
theorem DotsAt.news {w:World} {A off:Nat} {l:List Dot} (h:DotsAt w A off l):∀ j u,(aJ l)[j]?=some u->w.cell? ((⟨A,off,none⟩:Addr).add j)=some u:=by
 intro j u hj;have hlt:j<l.length * 3:=by
  have:=(List.getElem?_eq_some_iff.1 hj).1;rwa [dX] at this
 obtain ⟨g0,g1,g2⟩:=gJ l (j / 3) (by omega);rw [Addr.add_mid];have h3:j=j / 3 * 3\/j=j / 3 * 3+1\/j=j / 3 * 3+2:=by omega
 rcases h3 with e | e | e
 ·rw [<- e,hj] at g0
  have:=h.dev (j / 3) (by omega);rw [<- e] at this;rw [this,g0]
 ·rw [<- e,hj] at g1
  have:=h.inc (j / 3) (by omega);rw [Nat.add_assoc,<- e] at this;rw [this,g1]
 ·rw [<- e,hj] at g2
  have:=h.seq (j / 3) (by omega);rw [Nat.add_assoc,<- e] at this;rw [this,g2]
/-- what hands back dots in memory of its own -/
def TE (l:List Dot) (w:World) (e:Ending) (w':World):Prop :=
 ∃ v,e=.returned v/\w'.ownsRow w.heap.size 76 3 v l.length (aJ l)/\Below w.heap.size w w'
theorem Tryz.infoDot:(prog.info? 76).map (fun i=>(i.zero,i.size,i.bytes))=some (some (.agg #[.int .i64 0,.int .i64 0,.int .i64 0]),3,24):=by kernel_rfl
theorem z89 {p : Prop} (h : p := by
 intro j u hj
 rw [<- htk, List.getElem?_take] at hj
 split at hj
 ·simp only [World.cell?, hg]
  simpa using hj
 ·cases hj) : p := h
theorem iF {w:World} {base:Nat} {v:Value} {l:List Dot} (h:w.ownsRow base 76 3 v l.length (aJ l)):∃ a cap,v=.slice a l.length cap/\DotsIn w a l:=by
 rcases h.2 with ⟨rfl,h0⟩ | ⟨g,cap,cur,rfl,_,hg,hn,_,hsz,htk⟩
 ·exact ⟨none,0,by rw [h0],bb (List.length_eq_zero_iff.1 h0)⟩
 ·have hcell:∀ j u,(aJ l)[j]?=some u->w.cell? ⟨g,j,none⟩=some u:=by
   exact z89
  refine ⟨_,cap,rfl,bd ⟨g,0,rfl,⟨fun i hi=>?_,fun i hi=>?_,fun i hi=>?_⟩⟩⟩
  ·have:=hcell _ _ (gJ l i hi).1;simpa using this
  ·have:=hcell _ _ (gJ l i hi).2.1;simpa using this
  ·have:=hcell _ _ (gJ l i hi).2.2;simpa using this
theorem D8 (a:Option Addr) (cap:Nat) (l:List Dot) (w:World) (hl:l.length<=1073741824) (hn:a=none->l=[]) (h:DotsIn w a l) :
 Calls prog 110 #[.slice a l.length cap] w (TE l w):=by
 obtain ⟨i0,hi,hz0,hz1,hz2⟩:=info_parts Tryz.infoDot;have hnil:=fun (W:World)=>Lib.run_eql_slice_nil (P:=prog) W 44 76 a l.length cap 0 0 underlying44
 cases a with
 | none =>
   have hl0:l=[]:=hn rfl;subst hl0;simp only [List.length_nil] at hnil ⊢;go_enter func110,ntmps110;go_wp2;go_ret;exact ⟨_,rfl,World.ownsRow_nil _ _ _ _,bh _ _⟩
 | some ad =>
   have hnews:∀ j u,(aJ l)[j]?=some u->w.cell? (ad.add j)=some u:=by
    rcases h with rfl | ⟨A,off,h1,h2⟩
    ·intro j u hj;simp [aJ] at hj
    ·obtain rfl:ad=⟨A,off,none⟩:=by simpa using h1
     exact h2.news
   have HN:Hid (∀ j u,(aJ l)[j]?=some u->(w.alloc (Obj.cells #[] 76)).cell? (ad.add j)=some u):=fun j u hj=>kept ((bh _ _).alloc (ar _) _) (hnews j u hj);have hown:(w.alloc (Obj.cells #[] 76)).ownsRow w.heap.size 76 3 (.slice (some ⟨w.heap.size,0,none⟩) 0 0) 0 []:=World.ownsRow_made _ _ _ (ar _) (by decide) rfl;have hbv:=dX l;clear hnews h hn;go_enter func110,ntmps110;go_wp2_with (at_builtin;go_loud (refine wpList_append_own _ rfl _ _ 44 rfl w.heap.size 76 i0 (.agg #[.int .i64 0,.int .i64 0,.int .i64 0]) 3 24 underlying44 hi hz0 hz1 hz2 rfl (by decide) _ _ _ rfl hown ad l.length cap (aJ l) rfl hbv HN.out (dB l) (by unfold maxLen;omega) (by omega) (by simp) ?_))
   intro v' w2 hown2 hgrow _;have hb2:=((bh w.heap.size w).alloc (ar _) (Obj.cells #[] 76)).grown hgrow (by simp) (fun k hk=>(hown.lt k hk).1);go_wp2;go_ret;exact ⟨_,rfl,by simpa using hown2,hb2⟩
/-- behind event.Clone -/
def Di (e:Ev) (w:World) (x:Ending) (w':World):Prop :=
 ∃ a cap,x=.returned (kV e a cap)/\w'.ownsRow w.heap.size 76 3 (.slice a e.over.length cap) e.over.length (aJ e.over)/\Below w.heap.size w w'
theorem ug (e:Ev) (a:Option Addr) (cap:Nat) (w:World) (hl:e.over.length<=1073741824) (hn:a=none->e.over=[]) (h:DotsIn w a e.over) :
 Calls prog 57 #[kV e a cap] w (Di e w):=by
 have HC:=aq (fun (W:World) (h:DotsIn W a e.over)=>D8 a cap e.over W hl hn h);go_enter func57,ntmps57;go_upto_region 1 with fail
 refine aI (fun W hW=>?_);have hbt:Below w.heap.size w W:=by rw [hW.out];go_grown
 have hz:W.heap.size=w.heap.size+2:=by rw [hW.out];simp
 have hR:W.rangeAt w.heap.size 0 (az e a cap):=by rw [hW.out];exact World.rangeAt_alloc (dU e a cap w _) _
 have hf:W.frozen? ⟨w.heap.size,18,none⟩=false:=by rw [hW.out];go_simp
 obtain ⟨C,hC,hCs⟩:∃ C:Array Value,W.heap[w.heap.size+1]?=some (.cells C 82 (0,0))/\C.size=19:=by rw [hW.out];exact ⟨_,by simpa using heap_alloc_last (w.alloc _) _,rfl⟩
 have q18:=hR 18 _ rfl;rw [aw] at q18;have ho:=h.kept hbt;clear hW h hn;go_upto_region 2 with (go_at_call 110;(with_reducible refine (HC.out _ ho).mono ?_);rintro x w1 ⟨v,rfl,hown,hb⟩;obtain ⟨a',cap',rfl,_⟩:=iF hown;replace q18:=kept hb q18;replace hR:=ai hR hb;replace hf:w1.frozen? ⟨w.heap.size,18,none⟩=false:=(hb.frozen (p:=⟨w.heap.size,18,none⟩) (by simp only;omega)).trans hf;replace hC:=(hb.block (w.heap.size+1) (by omega)).trans hC;have hz1:=hb.size;replace hbt:=below2 hbt hb;clear hb)
 refine aI (fun W2 hW2=>?_);have hR2:W2.rangeAt w.heap.size 0 (az e a' cap'):=by rw [hW2.out];exact NC hR
 have BZ:Below w.heap.size w W2:=by rw [hW2.out];exact hbt.setCell (by simp) _
 have hC2:W2.heap[w.heap.size+1]?=some (.cells C 82 (0,0)):=by rw [hW2.out,heap_setCell_other _ _ _ _ (by simp)];exact hC
 have hown2:W2.ownsRow W.heap.size 76 3 (.slice a' e.over.length cap') e.over.length (aJ e.over):=by rw [hW2.out];exact Ep hown (fun k hk=>heap_setCell_other _ _ _ _ (by simp only;omega))
 clear hW2 hR hbt hC hown hf q18;go_wp2_with (first
  | ((with_reducible refine bf _ w.heap.size e a' cap' hR2 ?_ rfl ?_);exact rfl)
  | (refine wpList_store_row rfl 82 _ _ rfl (w.heap.size+1) (az e a' cap').toArray rfl rfl 82 C hC2 (by kernel_rfl) hCs (by kernel_rfl) ?_))
 refine ed 2 82 82 (w.heap.size+1) (az e a' cap').toArray _ rfl rfl (setRow_heap _ _ _ _ _ _ hC2) underlying82 rfl (by kernel_rfl) rfl ?_;exact ⟨a',cap',rfl,eP (Ep hown2 (fun k hk=>bi _ _ _ _ (by omega))) (by omega),below_setRow BZ (by omega) _⟩
/-- slices of events of one's own -/
def aX (l:List EvIt):List Value:=l.flatMap qj
theorem pq (x:Ev) (a:Option Addr) (cap:Nat):(az x a cap).length=19:=rfl
theorem uf (l:List EvIt) (x:EvIt):aX (l++[x])=aX l++qj x:=by simp [aX]
theorem gZ (x:Ev) (a:Option Addr) (cap:Nat):∀ u∈az x a cap,u.oneCell'=true:=by
 intro u hu;simp only [az,List.mem_cons,List.not_mem_nil,or_false] at hu;rcases hu with rfl | rfl | rfl | rfl | rfl | rfl | rfl | rfl | rfl | rfl | rfl | rfl | rfl | rfl | rfl | rfl | rfl | rfl | rfl <;> rfl
theorem xE:∀ (l:List EvIt) (i j:Nat) (u:Value) (hi:i<l.length),(qj l[i])[j]?=some u->(aX l)[i * 19+j]?=some u
 | [],i,_,_,hi,_=>by simp at hi
 | x :: r,i,j,u,hi,h=>by
   have e:aX (x :: r)=qj x++aX r:=by simp [aX]
   have hj:j<19:=by
     have:=(List.getElem?_eq_some_iff.1 h).1;rwa [pq] at this
   rw [e]
   cases i with
   | zero =>
     rw [List.getElem?_append_left (by rw [pq];omega)];simpa using h
   | succ i =>
     rw [List.getElem?_append_right (by rw [pq];omega),pq,show (i+1) * 19+j - 19=i * 19+j by omega];exact xE r i j u (by simpa using hi) (by simpa using h)
theorem nN {w:World} {base:Nat} {t:TypeId} {v:Value} {ls:List EvIt} (h:w.ownsRow base t 19 v ls.length (aX ls)) (hd:∀ x∈ls,DotsIn w x.2.1 x.1.over):∃ a cap,v=.slice a ls.length cap/\EvsIn w a ls:=by
 rcases h.2 with ⟨rfl,hn⟩ | ⟨g,cap,cur,hv,rest⟩
 ·have:ls=[]:=List.length_eq_zero_iff.1 hn
  subst this;exact ⟨none,0,rfl,⟨bb rfl,hd⟩⟩
 ·refine ⟨some ⟨g,0,none⟩,cap,hv,⟨bd ⟨g,0,rfl,fun i hi j u hu=>?_⟩,hd⟩⟩
  have:=World.ownsRow.cells (g:=g) h (by rw [hv];rfl) (i * 19+j) u (xE ls i j u hi hu);rw [Addr.add_mid,aw] at this;rwa [aw]
theorem z119 {p : Prop} (h : p := by
 intro j u hj
 rw [Addr.add_mid, aw, World.cell?_alloc_new]
 simpa using hj) : p := h
theorem MN (w:World) (x:Ev) (a:Option Addr) (c:Nat) (t:TypeId):∀ j u,(az x a c)[j]?=some u->(w.alloc (Obj.cells (az x a c).toArray t)).cell? ((⟨w.heap.size,0,none⟩:Addr).add j)=some u:=by
 exact z119
theorem Tryz.infoEv:(prog.info? 82).map (fun i=>(i.zero,i.size,i.bytes))=some (some (.agg (az ev0 none 0).toArray),19,176):=by kernel_rfl
/-- events that grow in a row of one's own, each one's dots in a row of dots -/
structure EvsGr (base:Nat) (v:Value) (ls:List EvIt) (W:World):Prop where
 own:W.ownsRow base 82 19 v ls.length (aX ls)
 dots:∀ x∈ls,DotsIn W x.2.1 x.1.over
 typ:∀ x∈ls,x.1.over=[]\/∃ A off cs f,x.2.1=some ⟨A,off,none⟩/\W.heap[A]?=some (.cells cs 76 f)
theorem EvsGr.nil (base:Nat) (W:World):EvsGr base (.slice none 0 0) [] W:=⟨World.ownsRow_nil _ _ _ _,fun x hx=>(nomatch hx),fun x hx=>(nomatch hx)⟩
theorem EvsGr.kept {base:Nat} {v:Value} {ls:List EvIt} {w w':World} (h:EvsGr base v ls w) (hb:Below w.heap.size w w'):EvsGr base v ls w' :=
 ⟨ownsRow_below h.own hb,fun x hx=>(h.dots x hx).kept hb,fun x hx=>(h.typ x hx).imp id fun ⟨A,off,cs,f,h1,h2⟩=>⟨A,off,cs,f,h1,(hb.block A (lt_of_block h2)).trans h2⟩⟩
theorem EvsGr.app {base:Nat} {v v2:Value} {ls:List EvIt} {x:EvIt} {w w2:World} (h:EvsGr base v ls w) (hown:w2.ownsRow base 82 19 v2 (ls.length+1) (aX ls++qj x)) (hg:w.grownBy w2 v.ownBlock)
 (hd:DotsIn w x.2.1 x.1.over) (ht:x.1.over=[]\/∃ A off cs f,x.2.1=some ⟨A,off,none⟩/\w.heap[A]?=some (.cells cs 76 f)):EvsGr base v2 (ls++[x]) w2:=by
 have hne:∀ (A:Nat) (cs:Array Value) (f:Nat×Nat),w.heap[A]?=some (Obj.cells cs 76 f)->w2.heap[A]?=w.heap[A]?:=fun A cs f hA=>hg.block A (lt_of_block hA) (fun e=>by
  rcases h.own.2 with ⟨rfl,_⟩ | ⟨g,cap,cur,rfl,_,hgb,_⟩
  ·simp [Value.ownBlock] at e
  ·obtain rfl:A=g:=by simpa [Value.ownBlock] using e
   rw [hA] at hgb;simp only [Option.some.injEq,Obj.cells.injEq] at hgb;exact absurd hgb.2.1 (by decide))
 have key:∀ y:EvIt,DotsIn w y.2.1 y.1.over->(y.1.over=[]\/∃ A off cs f,y.2.1=some ⟨A,off,none⟩/\w.heap[A]?=some (.cells cs 76 f))->DotsIn w2 y.2.1 y.1.over/\(y.1.over=[]\/∃ A off cs f,y.2.1=some ⟨A,off,none⟩/\w2.heap[A]?=some (.cells cs 76 f)):=by
  intro y h1 h2;rcases h2 with h2 | ⟨A,off,cs,f,h3,h4⟩
  ·exact ⟨bb h2,bb h2⟩
  ·have hE:=hne A cs f h4
   refine ⟨?_,bd ⟨A,off,cs,f,h3,hE.trans h4⟩⟩;rcases h1 with h1 | ⟨A',off',h5,h6⟩
   ·exact bb h1
   ·rw [h3] at h5
    simp only [Option.some.injEq,Addr.mk.injEq,and_true] at h5;obtain ⟨rfl,rfl⟩:=h5;exact bd ⟨A,off,h3,⟨fun i hi=>(World.cell?_of_block hE).trans (h6.dev i hi),fun i hi=>(World.cell?_of_block hE).trans (h6.inc i hi),fun i hi=>(World.cell?_of_block hE).trans (h6.seq i hi)⟩⟩
 have hall:∀ y∈ls++[x],_:=fun y hy=>key y (by
  rcases List.mem_append.1 hy with hy | hy
  ·exact h.dots y hy
  ·simp only [List.mem_singleton] at hy;subst hy;exact hd) (by
  rcases List.mem_append.1 hy with hy | hy
  ·exact h.typ y hy
  ·simp only [List.mem_singleton] at hy;subst hy;exact ht)
 exact ⟨by rw [uf,av];exact hown,fun y hy=>(hall y hy).1,fun y hy=>(hall y hy).2⟩
theorem EvsGr.evs {base:Nat} {v:Value} {ls:List EvIt} {w:World} (h:EvsGr base v ls w):∃ a cap,v=.slice a ls.length cap/\EvsIn w a ls:=nN h.own h.dots
/-- a row of dots of one's own: its block's type -/
theorem MG {w:World} {base c n:Nat} {a:Option Addr} {l:List Dot} (h:w.ownsRow base 76 3 (.slice a n c) n (aJ l)) (hn:n=l.length):DotsIn w a l/\(l=[]\/∃ A off cs f,a=some ⟨A,off,none⟩/\w.heap[A]?=some (.cells cs 76 f)):=by
 subst hn;obtain ⟨a',c',he,hd⟩:=iF h;simp only [Value.slice.injEq] at he;refine ⟨by rw [he.1];exact hd,?_⟩;rcases h.2 with ⟨_,h0⟩ | ⟨g,cap,cur,hv,_,hg,_⟩
 ·exact bb (List.length_eq_zero_iff.1 h0)
 ·simp only [Value.slice.injEq] at hv
  exact bd ⟨g,0,cur,_,hv.1,hg⟩
end Go.Proofs.YthphepeniaemoaaGreat
