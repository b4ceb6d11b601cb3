/- The vector of marks: its actors. Conditions: at most 2^30 marks. -/
import Derived.Test.YtepkclldbkhanaaGreatSrtK
import Derived.Test.YtepkclldbkhanaaGreatSetP
import Derived.Test.YtepkclldbkhanaaGreatOrmH
import Derived.Test.YtepkclldbkhanaaGreatOrmP
set_option linter.unusedSimpArgs false
set_option linter.unusedVariables false
set_option linter.unnecessarySimpa false
set_option maxHeartbeats 16000000
set_option maxRecDepth 100000
open Go.Proofs.Tryz
namespace Go.Proofs.YtepkclldbkhanaaGreat
open Go.RowKit
theorem Gl:∀ {l m:List Actor},(l.Pairwise fun x y=>bK x y=true)→(m.Pairwise fun x y=>bK x y=true)→l.Perm m→l=m
 | [],m,_,_,h=>h.nil_eq
 | x :: l,[],_,_,h=>by have:=h.length_eq;simp at this
 | x :: l,y :: m,hl,hm,h=>by
   obtain ⟨hx,hl2⟩:=List.pairwise_cons.1 hl;obtain ⟨hy,hm2⟩:=List.pairwise_cons.1 hm;have hxy:x=y:=by
     rcases List.mem_cons.1 (h.mem_iff.1 (List.mem_cons_self:x∈x :: l)) with e | h1
     ·exact e
     ·rcases List.mem_cons.1 (h.mem_iff.2 (List.mem_cons_self:y∈y :: m)) with e | h2
      ·exact e.symm
      ·have h3:=jf (hx y h2) (hy x h1)
       rw [iT] at h3
       cases h3
   subst hxy;rw [Gl hl2 hm2 h.cons_inv]
theorem Iq (l:List Dot):(wH l).map (·.1)=l.map (·.a):=by simp [wH]
theorem Gi {v b:Nat} {l:List Dot} (w:World) (h:VecIn w v b l) (hs:qP l) (hl:l.length≤1073741824) :
 Calls prog 158 #[.pointer (some ⟨v,0,none⟩)] w fun e w'=>∃ x:Value,e=.returned x∧w'.ownsRow w.heap.size 119 2 x l.length (iK (l.map (·.a)))∧(x=.slice none 0 0↔l=[])∧Below w.heap.size w w':=by
 have c0:w.cell? ⟨v,0,none⟩=some (.map (some b)):=by simp [World.cell?,h.cell]
 have HK:=Lib.hid (Dc (some b) w);have hal:=(Below.refl _ w).alloc (Nat.le_refl _) (.cells #[.map (some b)] 163);have HS:=Lib.hid (yX w.heap.size b (wH l) (w.alloc (.cells #[.map (some b)] 163)) (by simp) (Boxed.new w _ _).cell (h.tab.kept hal) (by unfold wH;rw [List.length_map];exact hl));have HA:=Lib.hid hs;clear h hs hl;go_enter func158,ntmps158;go_wp2_with (first
  | (go_at_call 183;(with_reducible refine HK.out.mono ?_);rintro e w1 ⟨rfl,rfl⟩)
  | (go_at_call 182;(with_reducible refine HS.out.mono ?_);rintro e w2 ⟨x,ts,rfl,hp,hsr,hown,hnil,hb2⟩))
 go_ret;have hsa:(l.map (·.a)).Pairwise fun x y=>bK x y=true:=List.pairwise_map.2 HA.out;obtain rfl:ts=l.map (·.a):=Gl hsr hsa (by rw [← Iq];exact hp);rw [List.length_map] at hown;exact ⟨x,rfl,jh hown (by simp),by rw [hnil,List.map_eq_nil_iff],hal.trans (hb2.mono (by simp))⟩
theorem Tryz.infoMark:(prog.info? 174).map (fun i=>(i.zero,i.size,i.bytes))=some (some (.agg #[.int .i64 0,.int .i64 0,.int .i64 0]),3,24):=by kernel_rfl
theorem rV:∀ (l:List Actor) (i:Nat) (h:i<l.length),(iK l)[i * 2]?=some (.int .i64 l[i].dev)∧(iK l)[i * 2+1]?=some (.int .i64 l[i].inc)
 | [],i,h=>by simp at h
 | d :: l,0,_=>by simp [iK]
 | d :: l,i+1,h=>by
   have ih:=rV l i (by simpa using h);have e:iK (d :: l)=[.int .i64 d.dev,.int .i64 d.inc]++iK l:=rfl;rw [e,List.getElem?_append_right (by simp;omega),List.getElem?_append_right (by simp;omega)];simp only [List.length_cons,List.length_nil,List.getElem_cons_succ];rw [show (i+1) * 2 - (0+1+1)=i * 2 by omega,show (i+1) * 2+1 - (0+1+1)=i * 2+1 by omega];exact ih
theorem PD {w:World} {base n:Nat} {v:Value} {l:List Actor} (hn:n=l.length) (h:w.ownsRow base 119 2 v n (iK l)):∃ a cap,v=.slice a n cap∧(l=[]∨∃ g,a=some ⟨g,0,none⟩∧∀ i (h:i<l.length),w.cell? ⟨g,i * 2,none⟩=some (.int .i64 l[i].dev)∧w.cell? ⟨g,i * 2+1,none⟩=some (.int .i64 l[i].inc)):=by
 subst hn;rcases h.2 with ⟨rfl,h0⟩ | ⟨g,cap,cur,rfl,_,hg,hn,_,hsz,htk⟩
 ·exact ⟨none,0,by rw [h0],Or.inl (List.length_eq_zero_iff.1 h0)⟩
 ·have hcell:∀ j u,(iK l)[j]?=some u→w.cell? ⟨g,j,none⟩=some u:=by
   exact z83
  exact ⟨_,cap,rfl,Or.inr ⟨g,rfl,fun i hi=>⟨hcell _ _ (rV l i hi).1,hcell _ _ (rV l i hi).2⟩⟩⟩
theorem z31 {p : Prop} (h : p := by
 go_wp2
 go_roundw
 case rel => exact ⟨k + 1, by go_num, HLT.out, HZ.out.1, HZ.out.2⟩
 case measure => have := HLT.out; simp [intOf] <;> omega) : p := h
theorem z22 {p : Prop} (h : p := by (rintro w hSw; have s0 := kept hSw y0; have s1 := kept hSw y1; have sm := kept hSw ym; have sl := hlook w (h2.tab.kept hSw); go_simp; try with_reducible rfl)) : p := h
theorem y41 {p q : Prop} (k : q) (h : PLift q → p := by
 intro kk
 refine au (fun W hW => ?_)
 have hbW : Below wr.heap.size wr W.drew := by rw [hW.out]; go_grown
 have y0 : W.drew.cell? ⟨wr.heap.size, 0, none⟩ = some (.int .i64 d.a.dev) := by rw [hW.out]; go_simp
 have y1 : W.drew.cell? ⟨wr.heap.size, 1, none⟩ = some (.int .i64 d.a.inc) := by rw [hW.out]; go_simp
 revert W hW hbW y0 y1
 exact kk.down) : p := h ⟨k⟩
theorem Ji {v b:Nat} {l:List Dot} (w:World) (h:VecIn w v b l) (hs:qP l) (hl:l.length≤1073741824) :
 Calls prog 124 #[.pointer (some ⟨v,0,none⟩)] w fun e w'=>∃ x:Value,e=.returned x∧w'.ownsRow w.heap.size 174 3 x l.length (aY l)∧Below w.heap.size w w':=by
 obtain ⟨i0,hi,hz0,hz1,hz2⟩:=info_parts Tryz.infoMark;have HA:=Lib.hid (Gi w h hs hl);clear hs;go_enter func124,ntmps124;go_wp2_with (go_at_call 158;(with_reducible refine HA.out.mono ?_);rintro e w1 ⟨x1,rfl,hown,hnil,hb1⟩;obtain ⟨aL,cL,rfl,hcs⟩:=PD (by rw [List.length_map]) hown)
 have h1:=h.kept hb1;clear hown hnil HA h;go_loopw [9,3] (fun i x wr=>∃ k:Nat,i=.int .i64 k∧k≤l.length∧wr.ownsRow w1.heap.size 174 3 x k (aY (l.take k))∧Below w1.heap.size w1 wr) (fun i _ _=>l.length - (intOf i).toNat)
 case atStart=>exact ⟨0,rfl,Nat.zero_le _,World.ownsRow_nil _ _ _ _,Below.refl _ _⟩
 case round =>
  obtain ⟨k,rfl,hk,hgr,hbr⟩:=hrel;by_cases hlt:k<l.length
  ·obtain ⟨A,rfl,hc⟩:∃ g,aL=some ⟨g,0,none⟩∧∀ i (h:i<(List.map (fun x:Dot=>x.a) l).length),w1.cell? ⟨g,i * 2,none⟩=some (.int .i64 (List.map (fun x:Dot=>x.a) l)[i].dev)∧w1.cell? ⟨g,i * 2+1,none⟩=some (.int .i64 (List.map (fun x:Dot=>x.a) l)[i].inc):=by
        rcases hcs with h0 | h0
        ·have:=congrArg List.length h0
         rw [List.length_map] at this;simp at this;subst this;simp at hlt
        ·exact h0
   obtain ⟨c0,c1⟩:=hc k (by rw [List.length_map];exact hlt);rw [List.getElem_map] at c0 c1;replace c0:=kept hbr c0;replace c1:=kept hbr c1;have hr:=h1.kept hbr;have hzr:=hbr.size;have HT:Hid (l.take (k+1)=l.take k++[l[k]]):=by
        exact z120
   have hmem:l[k]∈l:=List.getElem_mem hlt;have hTl:(l.take k).length=k:=by rw [List.length_take];omega
   have HLT:=Lib.hid hlt;generalize l[k]=d at *;generalize l.take k=T at hgr HT hTl;clear hlt;go_upto_region 5 with fail
   refine y41 ?_
   intro W hW hbW y0 y1
   have h2:=hr.kept hbW;have ym:W.drew.cell? ⟨v,0,none⟩=some (.map (some b)):=by simp [World.cell?,h2.cell]
   have Oj:=ownsRow_below hgr hbW;have hlook:∀ X:World,Tab prog 119 fO ActW jQ X b (wH l)→(Instr.lookup 163 (.map (some b)) (fO d.a) false).run prog X=.ok (.int .i64 d.seq) X:=fun X hX=>hX.look_hit uF underlying163 (z:=.int .i64 0) (by kernel_rfl) (p:=(d.a,d.seq)) (List.mem_map.2 ⟨d,hmem,rfl⟩) false;have hbT:Below w1.heap.size w1 W.drew:=hbr.trans (hbW.mono hzr);clear hW c0 c1 hr hgr hc;have hb0:Below W.drew.heap.size W.drew W.drew:=Below.refl _ _;refine wp_region_noPanic ?_;refine dD (fun X=>Below W.drew.heap.size W.drew X) [10] (by kernel_rfl) ?_;refine ai (i:=0) (oi:=⟨some 13,_,_,_,_,_⟩) (v:=?_) rfl (by kernel_rfl) (by kernel_rfl) (by kernel_rfl) (by kernel_rfl) (by kernel_rfl) (fun _ _ _ h=>h) (Or.inl ⟨by rfl,?_⟩) (by assumption) ?_
   case refine_2 => exact z22
   try simp only [pS]
   refine ai (i:=1) (oi:=⟨some 14,_,_,_,_,_⟩) (v:=?_) rfl (by kernel_rfl) (by kernel_rfl) (by kernel_rfl) (by kernel_rfl) (by kernel_rfl) (fun _ _ _ h=>h) (Or.inl ⟨by rfl,?_⟩) (by assumption) ?_
   case refine_2 => exact z22
   try simp only [pS]
   refine ai (i:=2) (oi:=⟨some 15,_,_,_,_,_⟩) (v:=?_) rfl (by kernel_rfl) (by kernel_rfl) (by kernel_rfl) (by kernel_rfl) (by kernel_rfl) (fun _ _ _ h=>h) (Or.inl ⟨by rfl,?_⟩) (by assumption) ?_
   case refine_2 => exact z22
   try simp only [pS]
   refine ai (i:=3) (oi:=⟨some 16,_,_,_,_,_⟩) (v:=?_) rfl (by kernel_rfl) (by kernel_rfl) (by kernel_rfl) (by kernel_rfl) (by kernel_rfl) (fun _ _ _ h=>h) (Or.inl ⟨by rfl,?_⟩) (by assumption) ?_
   case refine_2 => exact z22
   try simp only [pS]
   refine ai (i:=4) (oi:=⟨some 17,_,_,_,_,_⟩) (v:=?_) rfl (by kernel_rfl) (by kernel_rfl) (by kernel_rfl) (by kernel_rfl) (by kernel_rfl) (fun _ _ _ h=>h) (Or.inl ⟨by rfl,?_⟩) (by assumption) ?_
   case refine_2 => exact z22
   try simp only [pS]
   refine ai (i:=5) (oi:=⟨some 18,_,_,_,_,_⟩) (v:=?_) rfl (by kernel_rfl) (by kernel_rfl) (by kernel_rfl) (by kernel_rfl) (by kernel_rfl) (fun _ _ _ h=>h) (Or.inl ⟨by rfl,?_⟩) (by assumption) ?_
   case refine_2 => exact z22
   try simp only [pS]
   refine ai (i:=6) (oi:=⟨some 19,_,_,_,_,_⟩) (v:=?_) rfl (by kernel_rfl) (by kernel_rfl) (by kernel_rfl) (by kernel_rfl) (by kernel_rfl) (fun _ _ _ h=>h) (Or.inl ⟨by rfl,?_⟩) (by assumption) ?_
   case refine_2 => exact z22
   try simp only [pS]
   refine ai (i:=7) (oi:=⟨some 20,_,_,_,_,_⟩) (v:=?_) rfl (by kernel_rfl) (by kernel_rfl) (by kernel_rfl) (by kernel_rfl) (by kernel_rfl) (fun _ _ _ h=>h) (Or.inl ⟨by rfl,?_⟩) (by assumption) ?_
   case refine_2 => exact z22
   try simp only [pS]
   refine ai (i:=8) (oi:=⟨some 21,_,_,_,_,_⟩) (v:=?_) rfl (by kernel_rfl) (by kernel_rfl) (by kernel_rfl) (by kernel_rfl) (by kernel_rfl) (fun _ _ _ h=>h) (Or.inl ⟨by rfl,?_⟩) (by assumption) ?_
   case refine_2 => exact z22
   try simp only [pS]
   have hbA:Below W.drew.heap.size W.drew (W.drew.alloc (.cells #[.int .i64 d.a.dev,.int .i64 d.a.inc,.int .i64 d.seq] 174)):=hb0.alloc hb0.size _;have Qc:CellsIn (W.drew.alloc (.cells #[.int .i64 d.a.dev,.int .i64 d.a.inc,.int .i64 d.seq] 174)) (some ⟨W.drew.heap.size,0,none⟩) [.int .i64 d.a.dev,.int .i64 d.a.inc,.int .i64 d.seq]:=Or.inr ⟨_,_,rfl,fun j u hj=>by have:=kP W.drew [.int .i64 d.a.dev,.int .i64 d.a.inc,.int .i64 d.seq] 174 j u hj;rw [Addr.add_mid] at this;exact this⟩;refine cZ (i:=9) (o:=⟨some 22,_,_,_,_,_⟩) (by kernel_rfl) rfl ?_;intro K hK;refine fM (by rfl) 32 174 _ rfl #[.int .i64 d.a.dev,.int .i64 d.a.inc,.int .i64 d.seq] 3 rfl rfl (by decide) (by decide) underlying32 (by kernel_rfl) (by kernel_rfl) ?_;refine hK.out _ _ (Or.inr (hbA)) ?_;clear hK K;try simp only [pS]
   refine cZ (i:=10) (o:=⟨some 23,_,_,_,_,_⟩) (by kernel_rfl) rfl ?_;intro K hK;refine bG (by rfl) (.tmp 13) (.tmp 22) 32 rfl w1.heap.size 174 i0 _ 3 24 underlying32 hi hz0 hz1 hz2 rfl (by decide) _ k (aY T) rfl (Oj.alloc _) (some ⟨W.drew.heap.size,0,none⟩) 1 1 [.int .i64 d.a.dev,.int .i64 d.a.inc,.int .i64 d.seq] rfl rfl Qc (by simp [Value.oneCell']) (by unfold maxLen;omega) (by omega) (by have:=hbT.size;have:=hbA.size;omega) ?_;intro v6 w6 hown6 hg6;refine hK.out _ _ (Or.inl (by kernel_rfl)) ?_;clear hK K;try simp only [pS]
   refine cZ (i:=11) (o:=⟨some 3,_,_,_,_,_⟩) (by kernel_rfl) rfl ?_
   refine y9 ?_
   have hzT:=hbT.size;have hzA:=hbA.size;have hb6:Below w1.heap.size w1 w6:=(hbT.trans (hbA.mono hzT)).grown hg6 (by omega) (fun j hj=>(Oj.lt j hj).1);have HZ:=Lib.hid (And.intro (show w6.ownsRow w1.heap.size 174 3 v6 (k+1) (aY (l.take (k+1))) by rw [HT.out,mQ];exact hown6) hb6);clear hb6 hown6 hg6 Qc hbA y0 y1 ym hlook Oj hb0 h2 hTl HT
   exact z31
  ·obtain rfl:k=l.length:=by omega
   rw [List.take_length] at hgr;go_wp2;go_ret;exact ⟨_,rfl,jh hgr hb1.size,hb1.trans (hbr.mono hb1.size)⟩
theorem vG:∀ (l:List Dot) (p:Option Dot),dn p l=0→(∀ x∈l,bJ x=true)∧qP l∧∀ y,p=some y→∀ x∈l,bK y.a x.a=true
 | [],p,_=>⟨fun _ h=>(nomatch h),List.Pairwise.nil,fun _ _ _ h=>(nomatch h)⟩
 | x :: r,p,h=>by
   unfold dn at h;split at h
   ·rename_i h1
    split at h
    ·rename_i h2
     obtain ⟨i1,i2,i3⟩:=vG r (some x) h;refine ⟨fun y hy=>?_,List.pairwise_cons.2 ⟨i3 x rfl,i2⟩,fun y hy z hz=>?_⟩
     ·rcases List.mem_cons.1 hy with rfl | hy
      ·exact h1
      ·exact i1 y hy
     ·subst hy
      have h3:bK y.a x.a=true:=h2;rcases List.mem_cons.1 hz with rfl | hz
      ·exact h3
      ·exact jf h3 (i3 x rfl z hz)
    ·cases h
   ·cases h
theorem yh {l:List Dot} (h:aW l=0):l.length≤4096∧(∀ x∈l,bJ x=true)∧qP l:=by
 unfold aW at h;split at h
 ·cases h
 ·obtain ⟨h1,h2,_⟩:=vG l none h
  exact ⟨by omega,h1,h2⟩
theorem Dz:∀ {l:List Dot} {a:Actor} {n:Int},(∀ d∈l,bK d.a a=true)→setM l a n=l++[⟨a,n⟩]
 | [],a,n,_=>rfl
 | d :: l,a,n,h=>by
   have h1:=h d List.mem_cons_self;have h2:d.a≠a:=fun e=>by rw [e,iT] at h1;cases h1
   unfold setM;rw [if_neg h2,if_pos h1,Dz fun x hx=>h x (List.mem_cons_of_mem _ hx)];rfl
theorem MX {l:List Dot} (h:qP l) {k:Nat} (hk:k<l.length):setM (l.take k) l[k].a l[k].seq=l.take (k+1):=by
 rw [Dz,List.take_add_one,List.getElem?_eq_getElem hk]
 ·rfl
 ·intro d hd
  obtain ⟨i,hi,rfl⟩:=List.getElem_of_mem hd;rw [List.length_take] at hi;rw [List.getElem_take];exact List.pairwise_iff_getElem.1 h i k (by omega) hk (by omega)
/-! ### Of -/
theorem TD (a:Option Addr) (cap:Nat) (l:List Dot) (w:World) (hl:l.length≤1073741824) (hd:DotsIn w a l) (hok:aW l≠0) :
 Calls prog 98 #[.slice a l.length cap] w fun e w'=>e=.returned (.tuple #[.pointer none,.int .i64 (aW l)])∧Below w.heap.size w w':=by
 have HC:=Lib.hid (mD a cap l w hl hd);have hne:(aW l != 0)=true:=by rw [bne_iff_ne];exact hok
 generalize aW l=r at *;clear hok hd hl;go_enter func98,ntmps98;go_wp2_with (go_at_call 92;(with_reducible refine HC.out.mono ?_);rintro e w1 ⟨rfl,hb⟩)
 all_goals
  go_ret2;exact ⟨rfl,hb⟩
theorem Lt (a:Option Addr) (cap:Nat) (l:List Dot) (w:World) (hd:DotsIn w a l) (hok:aW l=0) :
 Calls prog 98 #[.slice a l.length cap] w fun e w'=>∃ v b,e=.returned (.tuple #[.pointer (some ⟨v,0,none⟩),.int .i64 0])∧VecIn w' v b l∧Below w.heap.size w w'∧w.heap.size≤v∧w.heap.size≤b:=by
 obtain ⟨hl,hall,hsr⟩:=yh hok;have HC0:=mD a cap l w (by omega) hd;rw [hok] at HC0;have HC:=Lib.hid HC0;have HN:=Lib.hid (fun X=>Gg X);have HS:=Lib.hid (And.intro hsr hall);clear HC0 hok hsr hall;go_enter func98,ntmps98;go_wp2_with (first
  | (go_at_call 92;(with_reducible refine HC.out.mono ?_);rintro e w1 ⟨rfl,hb1⟩)
  | (go_at_call 44;(with_reducible refine (HN.out _).mono ?_);rintro e w2 ⟨rfl,hv,hb2⟩))
 have hbv:Below w.heap.size w w2:=hb1.trans (hb2.mono hb1.size);have hz1:=hb1.size;clear hb2 HC HN;generalize hv1:w1.heap.size+1=v at *;generalize hv2:w1.heap.size=b at *;go_loopw [16] (fun i wr=>∃ k:Nat,i=.int .i64 k∧k≤l.length∧VecIn wr v b (l.take k)∧Below w.heap.size w wr) (fun i _=>l.length - (intOf i).toNat)
 case atStart=>exact ⟨0,rfl,Nat.zero_le _,hv,hbv⟩
 case round =>
  obtain ⟨k,rfl,hk,hvk,hbw⟩:=hrel;by_cases hlt:k<l.length
  ·obtain ⟨A,off,rfl,hda⟩:∃ A off,a=some ⟨A,off,none⟩∧DotsAt w A off l:=by
        rcases hd with h | ⟨A,off,h1,h2⟩
        ·exact z138
        ·exact ⟨A,off,h1,h2⟩
   have e0:=(hda.kept hbw).dev k hlt;have e1:=(hda.kept hbw).inc k hlt;have e2:=(hda.kept hbw).seq k hlt;have HT:=Lib.hid (MX HS.out.1 hlt);have HD:=Lib.hid (lJ (HS.out.2 _ (List.getElem_mem hlt)));have hsk:qP (l.take k):=HS.out.1.sublist (List.take_sublist _ _);have htl:(l.take k).length≤4096:=by rw [List.length_take];omega
   generalize l[k]=d at *;have hzw:=hbw.size;go_upto_region 8 with fail
   refine y41 ?_
   intro W hW hbW y0 y1
   have y2:W.drew.cell? ⟨wr.heap.size,2,none⟩=some (.int .i64 d.seq):=by rw [hW.out];go_simp
   have h2:=hvk.kept hbW;have ym:W.drew.cell? ⟨v,0,none⟩=some (.map (some b)):=(one_cell h2.cell).1;have hbt:Below w.heap.size w W.drew:=hbw.trans (hbW.mono hzw);have hbN:w.heap.size≤b∧v≠b:=⟨by omega,h2.ne⟩;clear hW e0 e1 e2 hvk;obtain ⟨w3,hrun,htab,hfr⟩:=Tab.setM (w:=W.drew) h2.tab hsk (by unfold maxLen;omega) HD.out.a d.seq;have HV:=Lib.hid h2.cell;have HTb:=Lib.hid htab;have HF:=Lib.hid hfr;clear htab hfr h2 hsk htl;refine wp_region_noPanic ?_;refine dD (fun W'=>W'.cell? ⟨wr.heap.size,0,none⟩=some (.int .i64 d.a.dev)∧W'.cell? ⟨wr.heap.size,1,none⟩=some (.int .i64 d.a.inc)∧W'.cell? ⟨wr.heap.size,2,none⟩=some (.int .i64 d.seq)∧W'.cell? ⟨v,0,none⟩=some (.map (some b))) [8] (by kernel_rfl) ?_;have hS:=And.intro y0 (And.intro y1 (And.intro y2 ym));refine ai (i:=0) (oi:=⟨some 20,_,_,_,_,_⟩) (v:=?_) rfl (by kernel_rfl) (by kernel_rfl) (by kernel_rfl) (by kernel_rfl) (by kernel_rfl) (fun _ _ _ h=>h) (Or.inl ⟨by rfl,?_⟩) (by assumption) ?_
   case refine_2 => exact z40
   try simp only [pS]
   refine ai (i:=1) (oi:=⟨some 21,_,_,_,_,_⟩) (v:=?_) rfl (by kernel_rfl) (by kernel_rfl) (by kernel_rfl) (by kernel_rfl) (by kernel_rfl) (fun _ _ _ h=>h) (Or.inl ⟨by rfl,?_⟩) (by assumption) ?_
   case refine_2 => exact z40
   try simp only [pS]
   refine ai (i:=2) (oi:=⟨some 22,_,_,_,_,_⟩) (v:=?_) rfl (by kernel_rfl) (by kernel_rfl) (by kernel_rfl) (by kernel_rfl) (by kernel_rfl) (fun _ _ _ h=>h) (Or.inl ⟨by rfl,?_⟩) (by assumption) ?_
   case refine_2 => exact z40
   try simp only [pS]
   refine ai (i:=3) (oi:=⟨some 23,_,_,_,_,_⟩) (v:=?_) rfl (by kernel_rfl) (by kernel_rfl) (by kernel_rfl) (by kernel_rfl) (by kernel_rfl) (fun _ _ _ h=>h) (Or.inl ⟨by rfl,?_⟩) (by assumption) ?_
   case refine_2 => exact z40
   try simp only [pS]
   refine ai (i:=4) (oi:=⟨some 24,_,_,_,_,_⟩) (v:=?_) rfl (by kernel_rfl) (by kernel_rfl) (by kernel_rfl) (by kernel_rfl) (by kernel_rfl) (fun _ _ _ h=>h) (Or.inl ⟨by rfl,?_⟩) (by assumption) ?_
   case refine_2 => exact z40
   try simp only [pS]
   refine ai (i:=5) (oi:=⟨some 25,_,_,_,_,_⟩) (v:=?_) rfl (by kernel_rfl) (by kernel_rfl) (by kernel_rfl) (by kernel_rfl) (by kernel_rfl) (fun _ _ _ h=>h) (Or.inl ⟨by rfl,?_⟩) (by assumption) ?_
   case refine_2 => exact z40
   try simp only [pS]
   refine ai (i:=6) (oi:=⟨some 26,_,_,_,_,_⟩) (v:=?_) rfl (by kernel_rfl) (by kernel_rfl) (by kernel_rfl) (by kernel_rfl) (by kernel_rfl) (fun _ _ _ h=>h) (Or.inl ⟨by rfl,?_⟩) (by assumption) ?_
   case refine_2 => exact z40
   try simp only [pS]
   refine ai (i:=7) (oi:=⟨some 27,_,_,_,_,_⟩) (v:=?_) rfl (by kernel_rfl) (by kernel_rfl) (by kernel_rfl) (by kernel_rfl) (by kernel_rfl) (fun _ _ _ h=>h) (Or.inl ⟨by rfl,?_⟩) (by assumption) ?_
   case refine_2 => exact z40
   try simp only [pS]
   refine cZ (i:=8) (o:=⟨none,_,_,_,_,_⟩) (by kernel_rfl) rfl ?_
   refine y9 ?_
   have HLT:=Lib.hid hlt;have HZ:Hid (VecIn w3 v b (l.take (k+1))∧Below w.heap.size w w3):=by
        refine ⟨⟨(HF.out.block v (lt_of_block HV.out) hbN.2).trans HV.out,?_⟩,hbt.trans (HF.out.below hbt.size (fun j hj=>by rw [show j=b from hj];exact hbN.1))⟩;have:=HTb.out;rw [HT.out] at this;exact this
   clear y0 y1 y2 ym hS hbt hlt
   exact z31
  ·obtain rfl:k=l.length:=by omega
   rw [List.take_length] at hvk;go_wp2;go_ret2;exact ⟨v,b,rfl,hvk,hbw,by omega,by omega⟩
/-! ### Covers -/
theorem ND {w:World} {base:Nat} {t:TypeId} {v:Value} {l:List Dot} (h:w.ownsRow base t 3 v l.length (aY l)):∃ a cap,v=.slice a l.length cap∧DotsIn w a l:=by
 rcases h.2 with ⟨rfl,hn⟩ | ⟨g,cap,cur,rfl,_,hg,hn,_,hsz,htk⟩
 ·exact ⟨none,0,by rw [hn],Or.inl (List.length_eq_zero_iff.1 hn)⟩
 ·have hcell:∀ j u,(aY l)[j]?=some u→w.cell? ⟨g,j,none⟩=some u:=by
   exact z83
  have hv:=fun (i:Nat) (hi:i<l.length)=>iH l i hi;exact ⟨_,cap,rfl,Or.inr ⟨g,0,rfl,⟨fun i hi=>by rw [Nat.zero_add];exact hcell _ _ (hv i hi).1,fun i hi=>by rw [Nat.zero_add];exact hcell _ _ (hv i hi).2.1,fun i hi=>by rw [Nat.zero_add];exact hcell _ _ (hv i hi).2.2⟩⟩⟩
theorem Fq {m:Nat} {b:MB} {s:MS} (w:World) (h:MpIn w m b s) (hs:qP s.ctx) (hl:s.ctx.length≤1073741824) :
 Calls prog 77 #[.pointer (some ⟨m,0,none⟩)] w fun e w'=>∃ x:Value,e=.returned x∧w'.ownsRow w.heap.size 174 3 x s.ctx.length (aY s.ctx)∧Below w.heap.size w w':=by
 have c3:=(eu h.cell).2.2.2;have HM:=Lib.hid (Ji w h.vec hs hl);clear h hs hl;go_enter func77,ntmps77;go_wp2_with (go_at_call 124;(with_reducible refine HM.out.mono ?_);rintro e w1 ⟨x,rfl,hown,hb⟩)
 go_ret;exact ⟨x,rfl,hown,hb⟩
theorem Ou (d:Dot) (l:List Dot) (a:Actor):jl (d :: l) a=if d.a=a then d.seq else jl l a:=by
 unfold jl;rw [List.find?_cons];by_cases h:d.a=a
 ·rw [decide_eq_true h,if_pos h]
 ·rw [decide_eq_false h,if_neg h]
/-! ### 17.Get -/
theorem z123 {p : Prop} (h : p := by
 clear he
 go_wp2
 go_quiet (fail)
 go_wp2
 go_roundw
 case rel => exact ⟨k + 1, by go_num, HLT.out, HE.out, below_drewN hbr nq⟩
 case measure => exact z64) : p := h
theorem Nw (a:Option Addr) (cap:Nat) (l:List Dot) (x:Actor) (w:World) (hl:l.length≤1073741824) (h:DotsIn w a l) :
 Calls prog 150 #[.slice a l.length cap,fO x] w fun e w'=>e=.returned (.int .i64 (jl l x))∧Below w.heap.size w w':=by
 go_enter func150,ntmps150;go_wp2;have c0:(w.alloc (.cells #[.int .i64 x.dev,.int .i64 x.inc] 119)).cell? ⟨w.heap.size,0,none⟩=some (.int .i64 x.dev):=by go_simp
 have c1:(w.alloc (.cells #[.int .i64 x.dev,.int .i64 x.inc] 119)).cell? ⟨w.heap.size,1,none⟩=some (.int .i64 x.inc):=by go_simp
 have hb0:Below w.heap.size w (w.alloc (.cells #[.int .i64 x.dev,.int .i64 x.inc] 119)):=(Below.refl _ _).alloc (Nat.le_refl _) _;have hz0:w.heap.size<(w.alloc (.cells #[.int .i64 x.dev,.int .i64 x.inc] 119)).heap.size:=by simp
 have h0:=h.kept hb0;generalize (w.alloc (.cells #[.int .i64 x.dev,.int .i64 x.inc] 119))=W0 at *;clear h;go_loopw [5] (fun i wr=>∃ k:Nat,i=.int .i64 k∧k≤l.length∧jl l x=jl (l.drop k) x∧Below W0.heap.size W0 wr) (fun i _=>l.length - (intOf i).toNat)
 case atStart=>exact ⟨0,rfl,Nat.zero_le _,rfl,Below.refl _ _⟩
 case round =>
  obtain ⟨k,rfl,hk,hP0,hbr⟩:=hrel;have HP:=Lib.hid hP0;clear hP0;replace c0:=kept hbr c0;replace c1:=kept hbr c1;have HB:=Lib.hid (hb0.trans (hbr.mono hb0.size));by_cases hlt:k<l.length
  ·obtain ⟨A,off,rfl,hda⟩:∃ A off,a=some ⟨A,off,none⟩∧DotsAt wr A off l:=by
        rcases h0.kept hbr with h | ⟨A,off,h1,h2⟩
        ·exact z138
        ·exact ⟨A,off,h1,h2⟩
   have e0:=hda.dev k hlt;have e1:=hda.inc k hlt;have e2:=hda.seq k hlt;have HT:Hid (jl (l.drop k) x=if l[k].a=x then l[k].seq else jl (l.drop (k+1)) x):=by unfold Hid;rw [List.drop_eq_getElem_cons hlt,Ou]
   have HLT:=Lib.hid hlt;have hEq:=fun (W:World)=>wG W 9998 l[k].a x;have hm:=mJ;generalize l[k]=d at *;clear hda;by_cases he:d.a=x
   ·rw [decide_eq_true he] at hEq
    have HE:Hid (jl l x=d.seq):=by unfold Hid;rw [HP.out,HT.out,if_pos he]
    clear he;go_wp2;go_quiet (fail)
    go_wp2;go_ret;exact ⟨by rw [HE.out];rfl,below_drewN HB.out nq⟩
   ·rw [decide_eq_false he] at hEq
    have HE:Hid (jl l x=jl (l.drop (k+1)) x):=by unfold Hid;rw [HP.out,HT.out,if_neg he]
    exact z123
  ·obtain rfl:k=l.length:=by omega
   have HE:Hid (jl l x=0):=by unfold Hid;rw [HP.out,List.drop_length];rfl
   go_wp2;go_ret;exact ⟨by rw [HE.out];rfl,HB.out⟩
/-! ### 17.Has -/
theorem DK (a:Option Addr) (cap:Nat) (l:List Dot) (d:Dot) (w:World) (hl:l.length≤1073741824) (h:DotsIn w a l) :
 Calls prog 111 #[.slice a l.length cap,bZ d] w fun e w'=>e=.returned (.bool (iJ l d))∧Below w.heap.size w w':=by
 have HR0:=fun (X:World)=>jV d X;have HG:=Lib.hid (fun (X:World) (h:DotsIn X a l)=>Nw a cap l d.a X hl h);have HE:Hid (iJ l d=(bJ d && decide (d.seq≤jl l d.a))):=rfl;generalize iJ l d=r at *
 cases hd:bJ d with
 | false =>
   rw [hd] at HR0;have HE2:Hid (r=false):=by unfold Hid;rw [HE.out,hd];rfl
   have HR:=Lib.hid HR0;clear HR0 hd HE;go_enter func111,ntmps111;go_upto_region 1 with fail
   refine aP (by kernel_rfl) (by kernel_rfl) (fun W hW=>?_);have hbw:Below w.heap.size w W:=by rw [hW.out];go_grown
   have x0:∀ i:After W,i.w.cell? ⟨w.heap.size,0,none⟩=some (.int .i64 d.a.dev):=fun i=>i.cell (by rw [hW.out];go_simp);have x1:∀ i:After W,i.w.cell? ⟨w.heap.size,1,none⟩=some (.int .i64 d.a.inc):=fun i=>i.cell (by rw [hW.out];go_simp);have x2:∀ i:After W,i.w.cell? ⟨w.heap.size,2,none⟩=some (.int .i64 d.seq):=fun i=>i.cell (by rw [hW.out];go_simp);clear hW h;go_big_quiet_step (fail)
   go_big_quiet_step (exact Calls.after (HR.out _))
   iterate 10 go_big_quiet_step (fail)
   refine wpQuiet_nil ?_;rintro _ ⟨i,rfl⟩;have hib:=i.h;generalize i.w=wi at hib ⊢;go_wp2;go_ret;exact ⟨aJ HE2.out.symm,below2 hbw hib⟩
 | true =>
   rw [hd] at HR0;have HE2:Hid (r=decide (d.seq≤jl l d.a)):=by unfold Hid;rw [HE.out,hd];rfl
   have HR:=Lib.hid HR0;clear HR0 hd HE;go_enter func111,ntmps111;go_upto_region 1 with fail
   refine aP (by kernel_rfl) (by kernel_rfl) (fun W hW=>?_);have hbw:Below w.heap.size w W:=by rw [hW.out];go_grown
   have h1:=h.kept hbw;have x0:∀ i:After W,i.w.cell? ⟨w.heap.size,0,none⟩=some (.int .i64 d.a.dev):=fun i=>i.cell (by rw [hW.out];go_simp);have x1:∀ i:After W,i.w.cell? ⟨w.heap.size,1,none⟩=some (.int .i64 d.a.inc):=fun i=>i.cell (by rw [hW.out];go_simp);have x2:∀ i:After W,i.w.cell? ⟨w.heap.size,2,none⟩=some (.int .i64 d.seq):=fun i=>i.cell (by rw [hW.out];go_simp);clear hW h;go_big_quiet_step (fail)
   go_big_quiet_step (exact Calls.after (HR.out _))
   iterate 4 go_big_quiet_step (fail)
   go_big_quiet_step (exact Calls.after (HG.out _ (h1.kept (After.h _))))
   iterate 5 go_big_quiet_step (fail)
   refine wpQuiet_nil ?_;rintro _ ⟨i,rfl⟩;have hib:=i.h;generalize i.w=wi at hib ⊢;go_wp2;go_ret;exact ⟨aJ HE2.out.symm,below2 hbw hib⟩
/-! ### 16.Has -/
theorem Nv (a:Option Addr) (cap:Nat) (l:List Dot) (x:Dot) (w:World) (hl:l.length≤1073741824) (h:DotsIn w a l) :
 Calls prog 126 #[.slice a l.length cap,bZ x] w fun e w'=>e=.returned (.bool (decide (x∈l)))∧Below w.heap.size w w':=by
 go_enter func126,ntmps126;go_wp2;have c0:(w.alloc (.cells #[.int .i64 x.a.dev,.int .i64 x.a.inc,.int .i64 x.seq] 121)).cell? ⟨w.heap.size,0,none⟩=some (.int .i64 x.a.dev):=by go_simp
 have c1:(w.alloc (.cells #[.int .i64 x.a.dev,.int .i64 x.a.inc,.int .i64 x.seq] 121)).cell? ⟨w.heap.size,1,none⟩=some (.int .i64 x.a.inc):=by go_simp
 have c2:(w.alloc (.cells #[.int .i64 x.a.dev,.int .i64 x.a.inc,.int .i64 x.seq] 121)).cell? ⟨w.heap.size,2,none⟩=some (.int .i64 x.seq):=by go_simp
 have hb0:Below w.heap.size w (w.alloc (.cells #[.int .i64 x.a.dev,.int .i64 x.a.inc,.int .i64 x.seq] 121)):=(Below.refl _ _).alloc (Nat.le_refl _) _;have hz0:w.heap.size<(w.alloc (.cells #[.int .i64 x.a.dev,.int .i64 x.a.inc,.int .i64 x.seq] 121)).heap.size:=by simp
 have h0:=h.kept hb0;generalize (w.alloc (.cells #[.int .i64 x.a.dev,.int .i64 x.a.inc,.int .i64 x.seq] 121))=W0 at *;clear h;go_loopw [5] (fun i wr=>∃ k:Nat,i=.int .i64 k∧k≤l.length∧(x∈l↔x∈l.drop k)∧Below W0.heap.size W0 wr) (fun i _=>l.length - (intOf i).toNat)
 case atStart=>exact ⟨0,rfl,Nat.zero_le _,Iff.rfl,Below.refl _ _⟩
 case round =>
  obtain ⟨k,rfl,hk,hP0,hbr⟩:=hrel;have HP:=Lib.hid hP0;clear hP0;replace c0:=kept hbr c0;replace c1:=kept hbr c1;replace c2:=kept hbr c2;have HB:=Lib.hid (hb0.trans (hbr.mono hb0.size));by_cases hlt:k<l.length
  ·obtain ⟨A,off,rfl,hda⟩:∃ A off,a=some ⟨A,off,none⟩∧DotsAt wr A off l:=by
        rcases h0.kept hbr with h | ⟨A,off,h1,h2⟩
        ·exact z138
        ·exact ⟨A,off,h1,h2⟩
   have e0:=hda.dev k hlt;have e1:=hda.inc k hlt;have e2:=hda.seq k hlt;have HT:Hid (x∈l.drop k↔x=l[k]∨x∈l.drop (k+1)):=by unfold Hid;rw [List.drop_eq_getElem_cons hlt,List.mem_cons]
   have HLT:=Lib.hid hlt;have hEq:=fun (W:World)=>Ip W 9997 l[k] x;have hm:=nM;generalize l[k]=d at *;clear hda;by_cases he:d=x
   ·rw [decide_eq_true he] at hEq
    have HE:Hid (decide (x∈l)=true):=decide_eq_true (HP.out.2 (HT.out.2 (Or.inl he.symm)));clear he;go_wp2;go_quiet (fail)
    go_wp2;go_ret;exact ⟨aJ HE.out.symm,below_drewN HB.out nq⟩
   ·rw [decide_eq_false he] at hEq
    have HE:Hid (x∈l↔x∈l.drop (k+1)):=HP.out.trans (HT.out.trans ⟨fun h=>h.resolve_left fun e=>he e.symm,Or.inr⟩)
    exact z123
  ·obtain rfl:k=l.length:=by omega
   have HE:Hid (decide (x∈l)=false):=decide_eq_false (fun h=>by have:=HP.out.1 h;rw [List.drop_length] at this;cases this);go_wp2;go_ret;exact ⟨aJ HE.out.symm,HB.out⟩
def gK (x:Actor) (n:Int) (st:List Dot×Bool) (d:Dot):List Dot×Bool :=
 ((if d.a=x then (if !st.2 && !bK d.a x then st.1++[⟨x,n⟩] else st.1) else (if !st.2 && !bK d.a x then st.1++[⟨x,n⟩] else st.1)++[d]),st.2 || !bK d.a x)
def zN (l:List Dot) (x:Actor) (n:Int):List Dot :=
 if (l.foldl (gK x n) ([],false)).2=true then (l.foldl (gK x n) ([],false)).1 else (l.foldl (gK x n) ([],false)).1++[⟨x,n⟩]
theorem EP (x:Actor) (n:Int):∀ (l o:List Dot),(∀ d∈l,bK x d.a=true)→l.foldl (gK x n) (o,true)=(o++l,true)
 | [],o,_=>by simp
 | d :: l,o,h=>by
   have h1:=h d List.mem_cons_self;have h2:d.a≠x:=fun e=>by rw [e,iT] at h1;cases h1
   rw [List.foldl_cons];have:gK x n (o,true) d=(o++[d],true):=by simp [gK,h2]
   rw [this,EP x n l _ (fun e he=>h e (List.mem_cons_of_mem _ he))];simp
theorem Gq (x:Actor) (n:Int):∀ (l o:List Dot),qP l→(if (l.foldl (gK x n) (o,false)).2=true then (l.foldl (gK x n) (o,false)).1 else (l.foldl (gK x n) (o,false)).1++[⟨x,n⟩])=o++setM l x n
 | [],o,_=>by simp [setM]
 | d :: l,o,h=>by
   obtain ⟨h1,h2⟩:=List.pairwise_cons.1 h;rw [List.foldl_cons];by_cases hx:d.a=x
   ·have hs:gK x n (o,false) d=(o++[⟨x,n⟩],true):=by simp [gK,hx,iT]
    rw [hs,EP x n l _ (fun e he=>by rw [← hx];exact h1 e he),if_pos rfl];unfold setM;rw [if_pos hx];simp
   ·cases hl:bK d.a x with
    | true =>
      have hs:gK x n (o,false) d=(o++[d],false):=by simp [gK,hx,hl]
      rw [hs,Gq x n l _ h2];rw [show setM (d :: l) x n=d :: setM l x n from by rw [setM,if_neg hx,if_pos hl]];simp
    | false =>
      have hs:gK x n (o,false) d=(o++[⟨x,n⟩]++[d],true):=by simp [gK,hx,hl]
      have hg:=lK hx hl;rw [hs,EP x n l _ (fun e he=>jf hg (h1 e he)),if_pos rfl];unfold setM;rw [if_neg hx,if_neg (by rw [hl];decide)];simp
theorem su {l:List Dot} (h:qP l) (x:Actor) (n:Int):zN l x n=setM l x n:=by
 have:=Gq x n l [] h;unfold zN;rw [this];rfl
end Go.Proofs.YtepkclldbkhanaaGreat
