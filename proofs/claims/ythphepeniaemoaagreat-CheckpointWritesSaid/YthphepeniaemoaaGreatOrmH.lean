/- The map of events: sorted. Conditions: as in the text. -/
import Derived.Test.YthphepeniaemoaaGreatOrmF
import Derived.Test.YthphepeniaemoaaGreatClone
import Derived.Great.BuildSlice
set_option linter.unusedSimpArgs false
set_option linter.unusedVariables false
set_option linter.unnecessarySimpa false
set_option maxHeartbeats 16000000
set_option maxRecDepth 100000
open Go.Proofs.Tryz
namespace Go.Proofs.YthphepeniaemoaaGreat
open Go.RowKit
/-- behind what hands back events -/
def Rx (L:List Ev) (w:World) (e:Ending) (w':World):Prop :=
 ∃ a ls cap,e=.returned (.slice a ls.length cap)/\EvsIn w' a ls/\(evsOf ls=L/\ls.length<=cap/\∀ x∈ls,TypD w' x.1 x.2.1)/\Below w.heap.size w w'
/-- the kept event of a dot -/
def evAt (K:List EvIt) (d:Dot):Ev:=((K.find? fun x=>decide (x.1.dot=d)).map (·.1)).getD ev0
theorem QJ {w:World} {b:Nat} {K:List EvIt} (h:KTab w b K) {x:EvIt} (hx:x∈K):evAt K x.1.dot=x.1:=by
 unfold evAt
 cases hf:K.find? fun y=>decide (y.1.dot=x.1.dot) with
 | none =>
   have:=List.find?_eq_none.1 hf x hx;simp at this
 | some y =>
   have hy:=List.mem_of_find?_eq_some hf;have hd:y.1.dot=x.1.dot:=by simpa using List.find?_some hf
   have hap:=List.pairwise_map.1 h.apart;obtain ⟨i,hi2,rfl⟩:=List.getElem_of_mem hy;obtain ⟨j,hj2,rfl⟩:=List.getElem_of_mem hx;have hh:=List.pairwise_iff_getElem.1 hap;rcases Nat.lt_trichotomy i j with hij | hij | hij
   ·exact absurd hd (hh i j hi2 hj2 hij)
   ·subst hij;rfl
   ·exact absurd hd.symm (hh j i hj2 hi2 hij)
theorem z34 {p : Prop} (h : p := by (rintro w hSw; have s0 := kept hSw y0; have s1 := kept hSw y1; have s2 := kept hSw y2; have sm := kept hSw ym; have sl := hlook w (h2.kept.kept hSw); go_simp; try with_reducible rfl)) : p := h
theorem Ib {m:Nat} {b:MB} {s:MS} (a:Option Addr) (cap:Nat) (l:List Dot) (w:World) (h:MpIn w m b s) (hl:l.length<=1073741824) (hov:∀ x∈s.K,x.1.over.length<=64) (hw:∀ d∈l,DotW d) (hex:∀ d∈l,∃ x∈s.K,x.1.dot=d) (hin:DotsIn w a l) :
 Calls prog 141 #[.pointer (some ⟨m,0,none⟩),.slice a l.length cap] w (Rx ((sortD l).map (evAt s.K)) w):=by
 obtain ⟨i0,hi,hz0,hz1,hz2⟩:=info_parts Tryz.infoEv;have HS:=aq (zt a cap l w hl hw hin);have hsl:=gX l;have hmem:∀ d∈sortD l,DotW d/\∃ x∈s.K,x.1.dot=d:=fun d hd=>⟨hw d (fV.1 hd),hex d (fV.1 hd)⟩;generalize sortD l=L at HS hsl hmem ⊢;clear hw hex hin;go_enter func141,ntmps141;go_wp2_with (go_at_call 149;(with_reducible refine HS.out.mono ?_);rintro e w1 ⟨v,rfl,hown,_,hb1⟩;obtain ⟨aL,cL,rfl,hinL⟩:=iF hown)
 have h1:=h.kept_w hb1;clear hown HS h;go_loopw [11,5] (fun i v wr=>∃ (k:Nat) (ls:List EvIt),i=.int .i64 k/\k<=L.length/\EvsGr w1.heap.size v ls wr/\evsOf ls=(L.take k).map (evAt s.K)/\Below w1.heap.size w1 wr) (fun i _ _=>L.length - (intOf i).toNat)
 case atStart=>exact ⟨0,[],rfl,Nat.zero_le _,EvsGr.nil _ _,rfl,bh _ _⟩
 case round =>
  obtain ⟨k,ls,rfl,hk,hgr,hev,hbr⟩:=hrel;have HEV:=aq hev;clear hev;by_cases hlt:k<L.length
  ·obtain ⟨A,off,rfl,c0,c1,c2⟩:=(hinL.kept hbr).at hlt
   obtain ⟨hdw,x,hx,hxd⟩:=hmem _ (List.getElem_mem hlt);have hzr:=hbr.size;have hr:=h1.kept_w hbr;have HT:Hid (L.take (k+1)=L.take k++[L[k]]):=by
        exact z81
   have HEA:Hid (evAt s.K L[k]=x.1):=by unfold Hid;rw [<- hxd];exact QJ hr.kept hx
   have HLT:=aq hlt;have hlk:ls.length=k:=by
        have:=congrArg List.length HEV.out;rw [aW,List.length_map,List.length_take] at this;omega
   have hkl:k<=1073741824:=by omega
   generalize L[k]=d at *;clear hlt;have ho:=hov x hx;obtain ⟨e,ea,ec⟩:=x;subst hxd;simp only at ho;go_upto_region 5 with fail
   refine aI (fun W hW=>?_);have hbW:Below wr.heap.size wr W.drew:=by rw [hW.out];go_grown
   have y0:W.drew.cell? ⟨wr.heap.size,0,none⟩=some (.int .i64 e.dot.a.dev):=by rw [hW.out];go_simp
   have y1:W.drew.cell? ⟨wr.heap.size,1,none⟩=some (.int .i64 e.dot.a.inc):=by rw [hW.out];go_simp
   have y2:W.drew.cell? ⟨wr.heap.size,2,none⟩=some (.int .i64 e.dot.seq):=by rw [hW.out];go_simp
   have h2:=hr.kept_w hbW;have ym:=(dC h2.cell).1;have Ox:=hgr.kept hbW;have hdo:=h2.overs _ hx;have hlook:∀ X:World,KTab X b.kb s.K->(Instr.lookup 119 (.map (some b.kb)) (bZ e.dot) false).run prog X=.ok (evV (e,ea,ec)) X:=fun X hX=>hX.look_hit jE underlying119 (JB X) (p:=(e.dot,(e,ea,ec))) (List.mem_map.2 ⟨_,hx,rfl⟩) false;have HCL:=aq (fun (X:World) (h:DotsIn X ea e.over)=>ug e ea ec X (by omega) (fun hn=>by rcases h with h | ⟨A,off,h3,_⟩;exact h;rw [hn] at h3;cases h3) h);have hbT:Below w1.heap.size w1 W.drew:=hbr.trans (hbW.mono hzr);clear hW c0 c1 c2 hr hgr;have hb0:Below W.drew.heap.size W.drew W.drew:=bh _ _;refine wp_region_noPanic ?_;refine bH (fun X=>Below W.drew.heap.size W.drew X) [9] (by kernel_rfl) ?_;refine tL (v:=?_) 0 15 rfl (bb ⟨by rfl,?_⟩) ?_
   case refine_2 => exact z34
   try simp only [pS]
   refine tL (v:=?_) 1 16 rfl (bb ⟨by rfl,?_⟩) ?_
   case refine_2 => exact z34
   try simp only [pS]
   refine tL (v:=?_) 2 17 rfl (bb ⟨by rfl,?_⟩) ?_
   case refine_2 => exact z34
   try simp only [pS]
   refine tL (v:=?_) 3 18 rfl (bb ⟨by rfl,?_⟩) ?_
   case refine_2 => exact z34
   try simp only [pS]
   refine tL (v:=?_) 4 19 rfl (bb ⟨by rfl,?_⟩) ?_
   case refine_2 => exact z34
   try simp only [pS]
   refine tL (v:=?_) 5 20 rfl (bb ⟨by rfl,?_⟩) ?_
   case refine_2 => exact z34
   try simp only [pS]
   refine tL (v:=?_) 6 21 rfl (bb ⟨by rfl,?_⟩) ?_
   case refine_2 => exact z34
   try simp only [pS]
   refine bD (i:=7) (o:=⟨some 22,_,_,_,_,_⟩) (by kernel_rfl) rfl ?_;intro K hK;go_simp;go_at_call 57;(with_reducible refine (HCL.out _ hdo).mono ?_)
   rintro x w5 ⟨a5,c5,rfl,hown5,hb5⟩;go_simp;refine hK.out _ _ (bd (hb5)) ?_;clear hK K;try simp only [pS]
   obtain ⟨hd5,ht5⟩:=MG hown5 rfl;have hg5:=(Ox.kept hb5).kept ((bh _ _).alloc (ar _) (.cells (az e a5 c5).toArray 82));have hbA:Below W.drew.heap.size W.drew (w5.alloc (.cells (az e a5 c5).toArray 82)):=hb5.alloc hb5.size _;have Qv:CellsIn (w5.alloc (.cells (az e a5 c5).toArray 82)) (some ⟨w5.heap.size,0,none⟩) (az e a5 c5):=bd ⟨_,_,rfl,fun j u hj=>by have:=MN w5 e a5 c5 82 j u hj;rw [Addr.add_mid] at this;exact this⟩;refine bD (i:=8) (o:=⟨some 23,_,_,_,_,_⟩) (by kernel_rfl) rfl ?_;intro K hK;refine bz (by rfl) 33 82 _ rfl (az e a5 c5).toArray 19 rfl rfl (by decide) (by decide) underlying33 (by kernel_rfl) (by kernel_rfl) ?_;refine hK.out _ _ (bd (hbA)) ?_;clear hK K;try simp only [pS]
   refine bD (i:=9) (o:=⟨some 24,_,_,_,_,_⟩) (by kernel_rfl) rfl ?_;intro K hK;refine au (by rfl) (.tmp 15) (.tmp 23) 33 rfl w1.heap.size 82 i0 _ 19 176 underlying33 hi hz0 hz1 hz2 rfl (by decide) _ ls.length (aX ls) rfl hg5.own (some ⟨w5.heap.size,0,none⟩) 1 1 (az e a5 c5) rfl rfl Qv (gZ e a5 c5) (by unfold maxLen;omega) (by omega) (by have:=hbT.size;have:=hbA.size;omega) ?_;intro v6 w6 hown6 hg6
   refine y66 ?_
   clear hK K
   refine bD (i:=10) (o:=⟨some 5,_,_,_,_,_⟩) (by kernel_rfl) rfl ?_
   refine y8 ?_
   have hgN:=EvsGr.app (x:=(e,a5,c5)) hg5 hown6 hg6 (hd5.kept ((bh _ _).alloc (ar _) _)) (ht5.imp id fun ⟨A',o',cs',f',q1,q2⟩=>⟨A',o',cs',f',q1,(((bh w5.heap.size w5).alloc (ar _) _).block A' (lt_of_block q2)).trans q2⟩);have hzT:=hbT.size;have hb6:Below w1.heap.size w1 w6:=(hbT.trans (hbA.mono hzT)).grown hg6 (by have:=hbA.size;omega) (fun j hj=>(hg5.own.lt j hj).1);have HZ:=aq (ba hgN hb6);clear hgN hb6 hown6 hg6 Qv hg5 hd5 ht5 hown5 hbA y0 y1 y2 ym hlook Ox hb0 HCL hdo h2;go_wp2;go_roundw
   case rel=>exact ⟨k+1,ls++[(e,a5,c5)],by go_num,HLT.out,HZ.out.1,by
        rw [HT.out,List.map_append,<- HEV.out];show (ls++[(e,a5,c5)]).map (·.1)=_;rw [List.map_append];show evsOf ls++[e]=evsOf ls++[evAt s.K e.dot];rw [HEA.out],HZ.out.2⟩
   case measure => exact z65
  ·obtain rfl:k=L.length:=by omega
   obtain ⟨aG,cG,hG,_,hcap⟩:=fP hgr.own;obtain ⟨aF,cF,rfl,hF⟩:=hgr.evs;have hE:evsOf ls=L.map (evAt s.K)/\ls.length<=cF/\∀ x∈ls,TypD wr x.1 x.2.1:=by
        have hE0:=HEV.out;rw [List.take_length] at hE0;simp only [Value.slice.injEq] at hG;exact ⟨hE0,by rw [hG.2.2];exact hcap,hgr.typ⟩
   have HE:=aq hE;clear hE hgr hG hcap;go_wp2;all_goals
        go_ret;exact ⟨aF,ls,cF,rfl,hF,HE.out,hb1.trans (hbr.mono hb1.size)⟩
def bU (s:MS):List Ev:=(sortD (s.K.map fun x=>x.1.dot)).map (evAt s.K)
theorem o6 {l m:List Dot} (h:∀ x,x∈l↔x∈m):sortD l=sortD m:=Aj (nH l) (nH m) fun x=>by rw [fV,fV,h]
theorem iT (l:List Dot) (d:Dot):aJ (l++[d])=aJ l++[.int .i64 d.a.dev,.int .i64 d.a.inc,.int .i64 d.seq]:=by simp [aJ]
theorem KC (K:List EvIt):(kC K).map (·.1)=K.map fun x=>x.1.dot:=by simp [kC]
theorem NY (l:List Dot):(ones l).map (·.1)=l:=by
 unfold ones;rw [List.map_map];exact List.map_id l
theorem _root_.Go.World.ownsRow.kept2 {S:Nat->Prop} {w w':World} {base:Nat} {e:TypeId} {size:Nat} {v:Value} {n:Nat} {xs:List Value} (h:w.ownsRow base e size v n xs) (hf:Fr S w w') (hn:∀ g,v.ownBlock=some g->¬ S g):w'.ownsRow base e size v n xs:=by
 refine ⟨h.1,?_⟩;rcases h.2 with hn2 | ⟨g,cap,cur,hv,hbs,hg,rest⟩
 ·exact .inl hn2
 ·exact .inr ⟨g,cap,cur,hv,hbs,(hf.block g (lt_of_block hg) (hn g (by rw [hv];rfl))).trans hg,rest⟩
theorem z51 {p : Prop} (h : p := by
 have HZ := aq (ba (show w4.ownsRow (w.heap.size + 1) 76 3 v2 (ks ++ [x]).length (aJ (ks ++ [x])) by rw [iT, av]; exact hown4) (ba hrg4 ((hbw3.trans (hb4.mono hbw3.size)).grown hgrow (by simp; omega) (fun j hj => by have := (hown3.lt j hj).1; omega))))
 clear hown4 hrg4 hgrow hown3 hrg3 y0 y1 y2
 go_wp2
 go_roundw
 case rel => exact ⟨rest', cnt2, ks ++ [x], HZ.out.2.1, HC2.out, HZ.out.1, HZ.out.2.2⟩
 case measure => rw [HZ.out.2.1.left_eq, HLE.out]; exact hlt) : p := h
theorem z117 {p : Prop} (h : p := by exact h4.block (hgrow.block _ h4.tab.lt (fun e => by have := (hown3.lt _ e.symm).1; omega)) (hgrow.block _ h4.lt (fun e => by have := (hown3.lt _ e.symm).1; omega))) : p := h
theorem y30 {p q : Prop} (k : q) (h : PLift q -> p := by
 intro kk
 refine aI (fun W3 hW3 => ?_)
 have hb3 : Below w2.heap.size w2 W3 := by rw [hW3.out]; go_grown
 have y0 : W3.cell? ⟨w2.heap.size, 0, none⟩ = some (.int .i64 x.a.dev) := by rw [hW3.out]; go_simp
 have y1 : W3.cell? ⟨w2.heap.size, 1, none⟩ = some (.int .i64 x.a.inc) := by rw [hW3.out]; go_simp
 have y2 : W3.cell? ⟨w2.heap.size, 2, none⟩ = some (.int .i64 x.seq) := by rw [hW3.out]; go_simp
 clear hW3
 have hown3 := ownsRow_below hown2 hb3
 have hrg3 := hrg2.kept hb3
 have hsz3 := hb3.size
 have hbw3 : Below w.heap.size w W3 := hb2.trans (hb3.mono hb2.size)
 revert W3 hb3 y0 y1 y2 hown3 hrg3 hsz3 hbw3
 exact kk.down) : p := h ⟨k⟩
theorem y74 {p q : Prop} (k : q) (h : PLift q -> p := by
 intro kk
 have hNlt := hrg.lt
 have hown2 := hown.kept2 hg2 (fun g hg => by have := (hown.lt g hg).1; show ¬ g = w.heap.size; omega)
 have hb2 : Below w.heap.size w w2 := hbw.trans (hg2.below hbw.size (fun k hk => by rw [show k = w.heap.size from hk]; exact ar _))
 have hsz2 := hg2.size
 revert hNlt hown2 hb2 hsz2
 exact kk.down) : p := h ⟨k⟩
theorem Ic {m:Nat} {b:MB} {s:MS} (w:World) (h:MpIn w m b s) (hK:s.K.length<=2048) (hov:∀ x∈s.K,x.1.over.length<=64) (hdk:∀ x∈s.K,DotW x.1.dot) :
 Calls prog 97 #[.pointer (some ⟨m,0,none⟩)] w (Rx (bU s) w):=by
 obtain ⟨i0,hi,hz0,hz1,hz2⟩:=info_parts Tryz.infoDot;obtain ⟨c0,c1,c2,c3⟩:=dC h.cell;have htab:=h.kept;have HH:=aq h;have HBK:=aq (h.low (jT b s.A));have hKl:(kC s.K).length<=2048:=by unfold kC;rw [List.length_map];exact hK
 clear c1 c2 c3 h;go_enter func97,ntmps97;go_wp2_with (at_range;refine pX jE _ rfl _ 119 rfl 82 underlying119 b.kb rfl htab ?_;intro w0 U4 hrg0 hb0 hs0)
 go_frame
 go_loopw [3] (fun v wr=>∃ rest cnt ks,TabIt prog 76 bZ DotW evV wr b.kb w.heap.size (kC s.K) rest cnt/\(ks++rest.map (·.1)).Perm ((kC s.K).map (·.1))/\wr.ownsRow (w.heap.size+1) 76 3 v ks.length (aJ ks)/\Below w.heap.size w wr) (fun _ wr=>wr.rangeLeft b.kb w.heap.size)
 case atStart=>exact ⟨(kC s.K),_,[],hrg0,List.Perm.refl _,World.ownsRow_nil _ _ _ _,hb0⟩
 case round =>
  obtain ⟨rest,cnt,ks,hrg,hC,hown,hbw⟩:=hrel;have hzw:w.heap.size+1<=wr.heap.size:=by have:=hrg.lt;omega
  have HLE:=aq hrg.left_eq;go_wp2_with (at_next;refine rO jE _ rfl _ rfl b.kb w.heap.size cnt rfl hrg ?_ ?_)
  rotate_left
  ·intro x e ea ec rest' w2 cnt2 hperm hpm hrg2 hlt hg2 hs2 hen
   have hlen:ks.length<(kC s.K).length:=by
        have h1:=hC.length_eq;have h2:=hperm.length_eq;simp at h1 h2 ⊢;omega
   have HC2:Hid (((ks++[x])++rest'.map (·.1)).Perm ((kC s.K).map (·.1))):=by
        exact z49
   refine y74 ?_
   intro hNlt hown2 hb2 hsz2
   clear hs2 hown hrg hg2
   go_upto_region 7 with fail
   refine y30 ?_
   intro W3 hb3 y0 y1 y2 hown3 hrg3 hsz3 hbw3
   clear hown2 hrg2 hb2
   go_wp2_with (at_builtin;refine wpList_append_own _ rfl _ _ 44 rfl (w.heap.size+1) 76 i0 (.agg #[.int .i64 0,.int .i64 0,.int .i64 0]) 3 24 underlying44 hi hz0 hz1 hz2 rfl (by decide) _ _ _ rfl (hown3.alloc _) ⟨W3.heap.size,0,none⟩ 1 1 [.int .i64 x.a.dev,.int .i64 x.a.inc,.int .i64 x.seq] rfl rfl (jb _ _ _) (by simp [Value.oneCell']) (by unfold maxLen;omega) (by omega) (by simp;omega) ?_;intro v2 w4 hown4 hgrow _)
   have hb4:Below W3.heap.size W3 (W3.alloc (.cells #[.int .i64 x.a.dev,.int .i64 x.a.inc,.int .i64 x.seq] 76)):=(bh _ _).alloc (ar _) _;have hrg4:TabIt prog 76 bZ DotW evV w4 b.kb w.heap.size (kC s.K) rest' cnt2:=by
        have h4:=hrg3.kept hb4;have hlo:b.kb<w.heap.size+1:=by have:=HBK.out;omega
        exact z117
   have HZ := aq (ba (show w4.ownsRow (w.heap.size + 1) 76 3 v2 (ks ++ [x]).length (aJ (ks ++ [x])) by rw [iT, av]; exact hown4) (ba hrg4 ((hbw3.trans (hb4.mono hbw3.size)).grown hgrow (by simp; omega) (fun j hj => by have := (hown3.lt j hj).1; omega))))
   clear hown4 hrg4 hgrow hown3 hrg3 y0 y1 y2
   go_wp2
   go_roundw
   case rel => exact ⟨rest', cnt2, ks ++ [x], HZ.out.2.1, HC2.out, HZ.out.1, HZ.out.2.2⟩
   case measure => rw [HZ.out.2.1.left_eq, HLE.out]; exact hlt
  ·intro hr0
   subst hr0;have hperm:ks.Perm ((kC s.K).map (·.1)):=by simpa using hC
   have hkl:ks.length<=1073741824:=by have:=hperm.length_eq;simp at this;omega
   obtain ⟨aL,cL,rfl,hinL⟩:=iF hown;rw [KC] at hperm;have HS:=aq (Ib aL cL ks wr (HH.out.kept_w hbw) hkl hov (fun d hd=>by obtain ⟨x,hx,rfl⟩:=List.mem_map.1 (hperm.mem_iff.1 hd);exact hdk x hx) (fun d hd=>by obtain ⟨x,hx,rfl⟩:=List.mem_map.1 (hperm.mem_iff.1 hd);exact ⟨x,hx,rfl⟩) hinL);have HE:Hid (bU s=(sortD ks).map (evAt s.K)):=by unfold Hid bU;rw [o6 (fun x=>hperm.mem_iff)]
   clear hperm hinL hown hrg hC;go_wp2_with (go_at_call 141;(with_reducible refine HS.out.mono ?_);rintro x w5 ⟨a5,ls,c5,rfl,h1,h2,h3⟩)
   go_ret;exact ⟨a5,ls,c5,rfl,h1,by rw [HE.out];exact h2,hbw.trans (h3.mono hbw.size)⟩
/-- behind an Apply that was done -/
structure Done (m:Nat) (b:MB) (s:MS) (e:Ev) (w w':World) (s':MS):Prop where
 map:MpIn w' m b s'
 inv:MInv s'
 keeps:KeepsC w w'
 below:∀ n,n<=w.heap.size->(∀ k,foot b s.A k->n<=k)->Below n w w'/\∀ k,foot b s'.A k->n<=k
 applied:Applied s e s'
theorem RetAp.done {m:Nat} {b:MB} {s:MS} {e:Ev} {w w':World} {x:Ending} (h:RetAp m b s e w x w') (hm:MpIn w m b s) (hi:MInv s) (hok:jI s e=true) :
 ∃ s',x=.returned (.tuple #[.bool true,.int .i64 0])/\Done m b s e w w' s':=by
 obtain ⟨s',rfl,h1,h2,h3,h4⟩:=h;rw [if_pos hok] at h4;have he:kZ s e=0:=by
  obtain ⟨q1,q2,q3,q4⟩:=jY hok;unfold kZ;rw [if_pos q1,q2,if_neg (by simp),if_pos q3,if_pos q4]
 refine ⟨s',by rw [hok,he],h1,hi.applied hok h4,hm.keeps h2 (fun _ h=>h),fun n hn hf=>⟨h2.below hn hf,fun k hk=>?_⟩,h4⟩;rcases h3 k hk with h5 | h5
 ·exact hf k h5
 ·omega
end Go.Proofs.YthphepeniaemoaaGreat
