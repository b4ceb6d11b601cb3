/- The vector of marks: its actors. Conditions: at most 2^30 marks. -/
import Derived.Test.YthphepeniaemoaaGreatSrtK
import Derived.Test.YthphepeniaemoaaGreatVec
import Derived.Test.YthphepeniaemoaaGreatOrmH
import Derived.Test.YthphepeniaemoaaGreatOrmP
set_option linter.unusedSimpArgs false
set_option linter.unusedVariables false
set_option linter.unnecessarySimpa false
set_option maxHeartbeats 16000000
set_option maxRecDepth 100000
open Go.Proofs.Tryz
namespace Go.Proofs.YthphepeniaemoaaGreat
open Go.RowKit
theorem GV:∀ {l m:List Actor},(l.Pairwise fun x y=>bI x y=true)->(m.Pairwise fun x y=>bI x y=true)->l.Perm m->l=m
 | [],m,_,_,h=>h.nil_eq
 | x :: l,[],_,_,h=>by have:=h.length_eq;simp at this
 | x :: l,y :: m,hl,hm,h=>by
   obtain ⟨hx,hl2⟩:=List.pairwise_cons.1 hl;obtain ⟨hy,hm2⟩:=List.pairwise_cons.1 hm;have hxy:x=y:=by
     rcases List.mem_cons.1 (h.mem_iff.1 (List.mem_cons_self:x∈x :: l)) with e | h1
     ·exact e
     ·rcases List.mem_cons.1 (h.mem_iff.2 (List.mem_cons_self:y∈y :: m)) with e | h2
      ·exact e.symm
      ·have h3:=jk (hx y h2) (hy x h1)
       rw [dw] at h3
       cases h3
   subst hxy;rw [GV hl2 hm2 h.cons_inv]
theorem I8 (l:List Dot):(xg l).map (·.1)=l.map (·.a):=by simp [xg]
theorem GM {v b:Nat} {l:List Dot} (w:World) (h:VecIn w v b l) (hs:o7 l) (hl:l.length<=1073741824) :
 Calls prog 182 #[.pointer (some ⟨v,0,none⟩)] w fun e w'=>∃ x:Value,e=.returned x/\w'.ownsRow w.heap.size 74 2 x l.length (iJ (l.map (·.a)))/\(x=.slice none 0 0↔l=[])/\Below w.heap.size w w':=by
 have c0:w.cell? ⟨v,0,none⟩=some (.map (some b)):=by simp [World.cell?,h.cell]
 have HK:=aa (DW (some b) w);have hal:=(bb _ w).alloc (aq _) (.cells #[.map (some b)] 179);have HS:=aa (zK w.heap.size b (xg l) (w.alloc (.cells #[.map (some b)] 179)) (by simp) (Boxed.new w _ _).cell (h.tab.kept hal) (by unfold xg;rw [List.length_map];exact hl));have HA:=aa hs;clear h hs hl;go_enter func182,ntmps182;go_wp2_with (first
  | (go_at_call 220;(with_reducible refine HK.out.mono ?_);rintro e w1 ⟨rfl,rfl⟩)
  | (go_at_call 219;(with_reducible refine HS.out.mono ?_);rintro e w2 ⟨x,ts,rfl,hp,hsr,hown,hnil,hb2⟩))
 go_ret;have hsa:(l.map (·.a)).Pairwise fun x y=>bI x y=true:=List.pairwise_map.2 HA.out;obtain rfl:ts=l.map (·.a):=GV hsr hsa (by rw [<- I8];exact hp);rw [List.length_map] at hown;exact ⟨x,rfl,fE hown (by simp),by rw [hnil,List.map_eq_nil_iff],hal.trans (hb2.mono (by simp))⟩
theorem Tryz.infoMark:(prog.info? 202).map (fun i=>(i.zero,i.size,i.bytes))=some (some (.agg #[.int .i64 0,.int .i64 0,.int .i64 0]),3,24):=by kernel_rfl
theorem sQ:∀ (l:List Actor) (i:Nat) (h:i<l.length),(iJ l)[i * 2]?=some (.int .i64 l[i].dev)/\(iJ l)[i * 2+1]?=some (.int .i64 l[i].inc)
 | [],i,h=>by simp at h
 | d :: l,0,_=>by simp [iJ]
 | d :: l,i+1,h=>by
   have ih:=sQ l i (by simpa using h);have e:iJ (d :: l)=[.int .i64 d.dev,.int .i64 d.inc]++iJ l:=rfl;rw [e,List.getElem?_append_right (by simp;omega),List.getElem?_append_right (by simp;omega)];simp only [List.length_cons,List.length_nil,List.getElem_cons_succ];rw [show (i+1) * 2 - (0+1+1)=i * 2 by omega,show (i+1) * 2+1 - (0+1+1)=i * 2+1 by omega];exact ih
theorem Qh {w:World} {base n:Nat} {v:Value} {l:List Actor} (hn:n=l.length) (h:w.ownsRow base 74 2 v n (iJ l)):∃ a cap,v=.slice a n cap/\(l=[]\/∃ g,a=some ⟨g,0,none⟩/\∀ i (h:i<l.length),w.cell? ⟨g,i * 2,none⟩=some (.int .i64 l[i].dev)/\w.cell? ⟨g,i * 2+1,none⟩=some (.int .i64 l[i].inc)):=by
 subst hn;rcases h.2 with ⟨rfl,h0⟩ | ⟨g,cap,cur,rfl,_,hg,hn,_,hsz,htk⟩
 ·exact ⟨none,0,by rw [h0],a8 (List.length_eq_zero_iff.1 h0)⟩
 ·have hcell:∀ j u,(iJ l)[j]?=some u->w.cell? ⟨g,j,none⟩=some u:=by
   exact z91
  exact ⟨_,cap,rfl,ba ⟨g,rfl,fun i hi=>⟨hcell _ _ (sQ l i hi).1,hcell _ _ (sQ l i hi).2⟩⟩⟩
theorem z40 {p : Prop} (h : p := by
 go_wp2
 go_roundw
 case rel => exact ⟨k + 1, by go_num, HLT.out, HZ.out.1, HZ.out.2⟩
 case measure => have := HLT.out; simp [intOf] <;> omega) : p := h
theorem z29 {p : Prop} (h : p := by (rintro w hSw; have s0 := kept hSw y0; have s1 := kept hSw y1; have sm := kept hSw ym; have sl := hlook w (h2.tab.kept hSw); go_simp; try with_reducible rfl)) : p := h
theorem y54 {p q : Prop} (k : q) (h : PLift q -> p := by
 intro kk
 refine aN (fun W hW => ?_)
 have hbW : Below wr.heap.size wr W.drew := by rw [hW.out]; go_grown
 have y0 : W.drew.cell? ⟨wr.heap.size, 0, none⟩ = some (.int .i64 d.a.dev) := by rw [hW.out]; go_simp
 have y1 : W.drew.cell? ⟨wr.heap.size, 1, none⟩ = some (.int .i64 d.a.inc) := by rw [hW.out]; go_simp
 revert W hW hbW y0 y1
 exact kk.down) : p := h ⟨k⟩
theorem JI {v b:Nat} {l:List Dot} (w:World) (h:VecIn w v b l) (hs:o7 l) (hl:l.length<=1073741824) :
 Calls prog 139 #[.pointer (some ⟨v,0,none⟩)] w fun e w'=>∃ x:Value,e=.returned x/\w'.ownsRow w.heap.size 202 3 x l.length (aI l)/\Below w.heap.size w w':=by
 obtain ⟨i0,hi,hz0,hz1,hz2⟩:=info_parts Tryz.infoMark;have HA:=aa (GM w h hs hl);clear hs;go_enter func139,ntmps139;go_wp2_with (go_at_call 182;(with_reducible refine HA.out.mono ?_);rintro e w1 ⟨x1,rfl,hown,hnil,hb1⟩;obtain ⟨aL,cL,rfl,hcs⟩:=Qh (by rw [List.length_map]) hown)
 have h1:=h.kept hb1;clear hown hnil HA h;go_loopw [9,3] (fun i x wr=>∃ k:Nat,i=.int .i64 k/\k<=l.length/\wr.ownsRow w1.heap.size 202 3 x k (aI (l.take k))/\Below w1.heap.size w1 wr) (fun i _ _=>l.length - (intOf i).toNat)
 case atStart=>exact ⟨0,rfl,Nat.zero_le _,World.ownsRow_nil _ _ _ _,bb _ _⟩
 case round =>
  obtain ⟨k,rfl,hk,hgr,hbr⟩:=hrel;by_cases hlt:k<l.length
  ·obtain ⟨A,rfl,hc⟩:∃ g,aL=some ⟨g,0,none⟩/\∀ i (h:i<(List.map (fun x:Dot=>x.a) l).length),w1.cell? ⟨g,i * 2,none⟩=some (.int .i64 (List.map (fun x:Dot=>x.a) l)[i].dev)/\w1.cell? ⟨g,i * 2+1,none⟩=some (.int .i64 (List.map (fun x:Dot=>x.a) l)[i].inc):=by
        rcases hcs with h0 | h0
        ·have:=congrArg List.length h0
         rw [List.length_map] at this;simp at this;subst this;simp at hlt
        ·exact h0
   obtain ⟨c0,c1⟩:=hc k (by rw [List.length_map];exact hlt);rw [List.getElem_map] at c0 c1;replace c0:=kept hbr c0;replace c1:=kept hbr c1;have hr:=h1.kept hbr;have hzr:=hbr.size;have HT:Hid (l.take (k+1)=l.take k++[l[k]]):=by
        exact z81
   have hmem:l[k]∈l:=List.getElem_mem hlt;have hTl:(l.take k).length=k:=by rw [List.length_take];omega
   have HLT:=aa hlt;generalize l[k]=d at *;generalize l.take k=T at hgr HT hTl;clear hlt;go_upto_region 5 with fail
   refine y54 ?_
   intro W hW hbW y0 y1
   have h2:=hr.kept hbW;have ym:W.drew.cell? ⟨v,0,none⟩=some (.map (some b)):=by simp [World.cell?,h2.cell]
   have OX:=ownsRow_below hgr hbW;have hlook:∀ X:World,Tab prog 74 fA ActW jQ X b (xg l)->(Instr.lookup 179 (.map (some b)) (fA d.a) false).run prog X=.ok (.int .i64 d.seq) X:=fun X hX=>hX.look_hit uJ underlying179 (z:=.int .i64 0) (by kernel_rfl) (p:=(d.a,d.seq)) (List.mem_map.2 ⟨d,hmem,rfl⟩) false;have hbT:Below w1.heap.size w1 W.drew:=hbr.trans (hbW.mono hzr);clear hW c0 c1 hr hgr hc;have hb0:Below W.drew.heap.size W.drew W.drew:=bb _ _;refine wp_region_noPanic ?_;refine bG (fun X=>Below W.drew.heap.size W.drew X) [10] (by kernel_rfl) ?_;refine tL (v:=?_) 0 13 rfl (a8 ⟨by rfl,?_⟩) ?_
   case refine_2 => exact z29
   try simp only [pS]
   refine tL (v:=?_) 1 14 rfl (a8 ⟨by rfl,?_⟩) ?_
   case refine_2 => exact z29
   try simp only [pS]
   refine tL (v:=?_) 2 15 rfl (a8 ⟨by rfl,?_⟩) ?_
   case refine_2 => exact z29
   try simp only [pS]
   refine tL (v:=?_) 3 16 rfl (a8 ⟨by rfl,?_⟩) ?_
   case refine_2 => exact z29
   try simp only [pS]
   refine tL (v:=?_) 4 17 rfl (a8 ⟨by rfl,?_⟩) ?_
   case refine_2 => exact z29
   try simp only [pS]
   refine tL (v:=?_) 5 18 rfl (a8 ⟨by rfl,?_⟩) ?_
   case refine_2 => exact z29
   try simp only [pS]
   refine tL (v:=?_) 6 19 rfl (a8 ⟨by rfl,?_⟩) ?_
   case refine_2 => exact z29
   try simp only [pS]
   refine tL (v:=?_) 7 20 rfl (a8 ⟨by rfl,?_⟩) ?_
   case refine_2 => exact z29
   try simp only [pS]
   refine tL (v:=?_) 8 21 rfl (a8 ⟨by rfl,?_⟩) ?_
   case refine_2 => exact z29
   try simp only [pS]
   have hbA:Below W.drew.heap.size W.drew (W.drew.alloc (.cells #[.int .i64 d.a.dev,.int .i64 d.a.inc,.int .i64 d.seq] 202)):=hb0.alloc hb0.size _;have QN:CellsIn (W.drew.alloc (.cells #[.int .i64 d.a.dev,.int .i64 d.a.inc,.int .i64 d.seq] 202)) (some ⟨W.drew.heap.size,0,none⟩) [.int .i64 d.a.dev,.int .i64 d.a.inc,.int .i64 d.seq]:=ba ⟨_,_,rfl,fun j u hj=>by have:=gX W.drew [.int .i64 d.a.dev,.int .i64 d.a.inc,.int .i64 d.seq] 202 j u hj;rw [Addr.add_mid] at this;exact this⟩;refine bD (i:=9) (o:=⟨some 22,_,_,_,_,_⟩) (by kernel_rfl) rfl ?_;intro K hK;refine bH (by rfl) 43 202 _ rfl #[.int .i64 d.a.dev,.int .i64 d.a.inc,.int .i64 d.seq] 3 rfl rfl (by decide) (by decide) underlying43 (by kernel_rfl) (by kernel_rfl) ?_;refine hK.out _ _ (ba (hbA)) ?_;clear hK K;try simp only [pS]
   refine bD (i:=10) (o:=⟨some 23,_,_,_,_,_⟩) (by kernel_rfl) rfl ?_;intro K hK;refine aj (by rfl) (.tmp 13) (.tmp 22) 43 rfl w1.heap.size 202 i0 _ 3 24 underlying43 hi hz0 hz1 hz2 rfl (by decide) _ k (aI T) rfl (OX.alloc _) (some ⟨W.drew.heap.size,0,none⟩) 1 1 [.int .i64 d.a.dev,.int .i64 d.a.inc,.int .i64 d.seq] rfl rfl QN (by simp [Value.oneCell']) (by unfold maxLen;omega) (by omega) (by have:=hbT.size;have:=hbA.size;omega) ?_;intro v6 w6 hown6 hg6
   refine y66 ?_
   clear hK K
   refine bD (i:=11) (o:=⟨some 3,_,_,_,_,_⟩) (by kernel_rfl) rfl ?_
   refine y6 ?_
   have hzT:=hbT.size;have hzA:=hbA.size;have hb6:Below w1.heap.size w1 w6:=(hbT.trans (hbA.mono hzT)).grown hg6 (by omega) (fun j hj=>(OX.lt j hj).1);have HZ:=aa (a7 (show w6.ownsRow w1.heap.size 202 3 v6 (k+1) (aI (l.take (k+1))) by rw [HT.out,gV];exact hown6) hb6);clear hb6 hown6 hg6 QN hbA y0 y1 ym hlook OX hb0 h2 hTl HT
   exact z40
  ·obtain rfl:k=l.length:=by omega
   rw [List.take_length] at hgr;go_wp2;go_ret;exact ⟨_,rfl,fE hgr hb1.size,hb1.trans (hbr.mono hb1.size)⟩
theorem wG:∀ (l:List Dot) (p:Option Dot),dZ p l=0->(∀ x∈l,bi x=true)/\o7 l/\∀ y,p=some y->∀ x∈l,bI y.a x.a=true
 | [],p,_=>⟨fun _ h=>(nomatch h),List.Pairwise.nil,fun _ _ _ h=>(nomatch h)⟩
 | x :: r,p,h=>by
   unfold dZ at h;split at h
   ·rename_i h1
    split at h
    ·rename_i h2
     obtain ⟨i1,i2,i3⟩:=wG r (some x) h;refine ⟨fun y hy=>?_,List.pairwise_cons.2 ⟨i3 x rfl,i2⟩,fun y hy z hz=>?_⟩
     ·rcases List.mem_cons.1 hy with rfl | hy
      ·exact h1
      ·exact i1 y hy
     ·subst hy
      have h3:bI y.a x.a=true:=h2;rcases List.mem_cons.1 hz with rfl | hz
      ·exact h3
      ·exact jk h3 (i3 x rfl z hz)
    ·cases h
   ·cases h
theorem yU {l:List Dot} (h:aZ l=0):l.length<=4096/\(∀ x∈l,bi x=true)/\o7 l:=by
 unfold aZ at h;split at h
 ·cases h
 ·obtain ⟨h1,h2,_⟩:=wG l none h
  exact ⟨by omega,h1,h2⟩
theorem Eg:∀ {l:List Dot} {a:Actor} {n:Int},(∀ d∈l,bI d.a a=true)->setM l a n=l++[⟨a,n⟩]
 | [],a,n,_=>rfl
 | d :: l,a,n,h=>by
   have h1:=h d List.mem_cons_self;have h2:d.a≠a:=fun e=>by rw [e,dw] at h1;cases h1
   unfold setM;rw [if_neg h2,if_pos h1,Eg fun x hx=>h x (List.mem_cons_of_mem _ hx)];rfl
theorem NT {l:List Dot} (h:o7 l) {k:Nat} (hk:k<l.length):setM (l.take k) l[k].a l[k].seq=l.take (k+1):=by
 rw [Eg,List.take_add_one,List.getElem?_eq_getElem hk]
 ·rfl
 ·intro d hd
  obtain ⟨i,hi,rfl⟩:=List.getElem_of_mem hd;rw [List.length_take] at hi;rw [List.getElem_take];exact List.pairwise_iff_getElem.1 h i k (by omega) hk (by omega)
/-! ### Of -/
theorem Ut (a:Option Addr) (cap:Nat) (l:List Dot) (w:World) (hl:l.length<=1073741824) (hd:DotsIn w a l) (hok:aZ l≠0) :
 Calls prog 179 #[.slice a l.length cap] w fun e w'=>e=.returned (.tuple #[.pointer none,.int .i64 (aZ l)])/\Below w.heap.size w w':=by
 have HC:=aa (mY a cap l w hl hd);have hne:(aZ l != 0)=true:=by rw [bne_iff_ne];exact hok
 generalize aZ l=r at *;clear hok hd hl;go_enter func179,ntmps179;go_wp2_with (go_at_call 175;(with_reducible refine HC.out.mono ?_);rintro e w1 ⟨rfl,hb⟩)
 all_goals
  go_ret2;exact ⟨rfl,hb⟩
theorem MK (a:Option Addr) (cap:Nat) (l:List Dot) (w:World) (hd:DotsIn w a l) (hok:aZ l=0) :
 Calls prog 179 #[.slice a l.length cap] w fun e w'=>∃ v b,e=.returned (.tuple #[.pointer (some ⟨v,0,none⟩),.int .i64 0])/\VecIn w' v b l/\Below w.heap.size w w'/\w.heap.size<=v/\w.heap.size<=b:=by
 obtain ⟨hl,hall,hsr⟩:=yU hok;have HC0:=mY a cap l w (by omega) hd;rw [hok] at HC0;have HC:=aa HC0;have HN:=aa (fun X=>GL X);have HS:=aa (a7 hsr hall);clear HC0 hok hsr hall;go_enter func179,ntmps179;go_wp2_with (first
  | (go_at_call 175;(with_reducible refine HC.out.mono ?_);rintro e w1 ⟨rfl,hb1⟩)
  | (go_at_call 51;(with_reducible refine (HN.out _).mono ?_);rintro e w2 ⟨rfl,hv,hb2⟩))
 have hbv:Below w.heap.size w w2:=hb1.trans (hb2.mono hb1.size);have hz1:=hb1.size;clear hb2 HC HN;generalize hv1:w1.heap.size+1=v at *;generalize hv2:w1.heap.size=b at *;go_loopw [16] (fun i wr=>∃ k:Nat,i=.int .i64 k/\k<=l.length/\VecIn wr v b (l.take k)/\Below w.heap.size w wr) (fun i _=>l.length - (intOf i).toNat)
 case atStart=>exact ⟨0,rfl,Nat.zero_le _,hv,hbv⟩
 case round =>
  obtain ⟨k,rfl,hk,hvk,hbw⟩:=hrel;by_cases hlt:k<l.length
  ·obtain ⟨A,off,rfl,hda⟩:∃ A off,a=some ⟨A,off,none⟩/\DotsAt w A off l:=by
        rcases hd with h | ⟨A,off,h1,h2⟩
        ·exact z135
        ·exact ⟨A,off,h1,h2⟩
   have e0:=(hda.kept hbw).dev k hlt;have e1:=(hda.kept hbw).inc k hlt;have e2:=(hda.kept hbw).seq k hlt;have HT:=aa (NT HS.out.1 hlt);have HD:=aa (ig (HS.out.2 _ (List.getElem_mem hlt)));have hsk:o7 (l.take k):=HS.out.1.sublist (List.take_sublist _ _);have htl:(l.take k).length<=4096:=by rw [List.length_take];omega
   generalize l[k]=d at *;have hzw:=hbw.size;go_upto_region 8 with fail
   refine y54 ?_
   intro W hW hbW y0 y1
   have y2:W.drew.cell? ⟨wr.heap.size,2,none⟩=some (.int .i64 d.seq):=by rw [hW.out];go_simp
   have h2:=hvk.kept hbW;have ym:W.drew.cell? ⟨v,0,none⟩=some (.map (some b)):=(one_cell h2.cell).1;have hbt:Below w.heap.size w W.drew:=hbw.trans (hbW.mono hzw);have hbN:w.heap.size<=b/\v≠b:=⟨by omega,h2.ne⟩;clear hW e0 e1 e2 hvk;obtain ⟨w3,hrun,htab,hfr⟩:=Tab.setM (w:=W.drew) h2.tab hsk (by unfold maxLen;omega) HD.out.a d.seq;have HV:=aa h2.cell;have HTb:=aa htab;have HF:=aa hfr;clear htab hfr h2 hsk htl;refine wp_region_noPanic ?_;refine bG (fun W'=>W'.cell? ⟨wr.heap.size,0,none⟩=some (.int .i64 d.a.dev)/\W'.cell? ⟨wr.heap.size,1,none⟩=some (.int .i64 d.a.inc)/\W'.cell? ⟨wr.heap.size,2,none⟩=some (.int .i64 d.seq)/\W'.cell? ⟨v,0,none⟩=some (.map (some b))) [8] (by kernel_rfl) ?_;have hS:=a7 y0 (a7 y1 (a7 y2 ym));refine tL (v:=?_) 0 20 rfl (a8 ⟨by rfl,?_⟩) ?_
   case refine_2 => exact z47
   try simp only [pS]
   refine tL (v:=?_) 1 21 rfl (a8 ⟨by rfl,?_⟩) ?_
   case refine_2 => exact z47
   try simp only [pS]
   refine tL (v:=?_) 2 22 rfl (a8 ⟨by rfl,?_⟩) ?_
   case refine_2 => exact z47
   try simp only [pS]
   refine tL (v:=?_) 3 23 rfl (a8 ⟨by rfl,?_⟩) ?_
   case refine_2 => exact z47
   try simp only [pS]
   refine tL (v:=?_) 4 24 rfl (a8 ⟨by rfl,?_⟩) ?_
   case refine_2 => exact z47
   try simp only [pS]
   refine tL (v:=?_) 5 25 rfl (a8 ⟨by rfl,?_⟩) ?_
   case refine_2 => exact z47
   try simp only [pS]
   refine tL (v:=?_) 6 26 rfl (a8 ⟨by rfl,?_⟩) ?_
   case refine_2 => exact z47
   try simp only [pS]
   refine tL (v:=?_) 7 27 rfl (a8 ⟨by rfl,?_⟩) ?_
   case refine_2 => exact z47
   try simp only [pS]
   refine y67 ?_
   have HLT:=aa hlt;have HZ:Hid (VecIn w3 v b (l.take (k+1))/\Below w.heap.size w w3):=by
        refine ⟨⟨(HF.out.block v (lt_of_block HV.out) hbN.2).trans HV.out,?_⟩,hbt.trans (HF.out.below hbt.size (fun j hj=>by rw [show j=b from hj];exact hbN.1))⟩;have:=HTb.out;rw [HT.out] at this;exact this
   clear y0 y1 y2 ym hS hbt hlt
   exact z40
  ·obtain rfl:k=l.length:=by omega
   rw [List.take_length] at hvk;go_wp2;go_ret2;exact ⟨v,b,rfl,hvk,hbw,by omega,by omega⟩
/-! ### Covers -/
theorem Eu {w:World} {base:Nat} {t:TypeId} {v:Value} {l:List Dot} (h:w.ownsRow base t 3 v l.length (aI l)):∃ a cap,v=.slice a l.length cap/\DotsIn w a l:=by
 rcases h.2 with ⟨rfl,hn⟩ | ⟨g,cap,cur,rfl,_,hg,hn,_,hsz,htk⟩
 ·exact ⟨none,0,by rw [hn],a8 (List.length_eq_zero_iff.1 hn)⟩
 ·have hcell:∀ j u,(aI l)[j]?=some u->w.cell? ⟨g,j,none⟩=some u:=by
   exact z91
  have hv:=fun (i:Nat) (hi:i<l.length)=>gW l i hi;exact ⟨_,cap,rfl,ba ⟨g,0,rfl,⟨fun i hi=>by rw [av];exact hcell _ _ (hv i hi).1,fun i hi=>by rw [av];exact hcell _ _ (hv i hi).2.1,fun i hi=>by rw [av];exact hcell _ _ (hv i hi).2.2⟩⟩⟩
theorem F6 {m:Nat} {b:MB} {s:MS} (w:World) (h:MpIn w m b s) (hs:o7 s.ctx) (hl:s.ctx.length<=1073741824) :
 Calls prog 95 #[.pointer (some ⟨m,0,none⟩)] w fun e w'=>∃ x:Value,e=.returned x/\w'.ownsRow w.heap.size 202 3 x s.ctx.length (aI s.ctx)/\Below w.heap.size w w':=by
 have c3:=(bU h.cell).2.2.2;have HM:=aa (JI w h.vec hs hl);clear h hs hl;go_enter func95,ntmps95;go_wp2_with (go_at_call 139;(with_reducible refine HM.out.mono ?_);rintro e w1 ⟨x,rfl,hown,hb⟩)
 go_ret;exact ⟨x,rfl,hown,hb⟩
end Go.Proofs.YthphepeniaemoaaGreat
