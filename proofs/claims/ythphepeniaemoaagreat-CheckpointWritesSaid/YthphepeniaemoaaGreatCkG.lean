/- checkpoint.Bytes of no map, or out of range; the reference's Right. Conditions: none. -/
import Derived.Test.YthphepeniaemoaaGreatCkR
import Derived.Test.YthphepeniaemoaaGreatMkB
import Derived.Test.YthphepeniaemoaaGreatRefPut
import Derived.Deep.RegionHeld3
import Derived.Deep.RegionLaw
import Derived.Test.YthphepeniaemoaaGreatCanA
import Derived.Test.YthphepeniaemoaaGreatReadK
set_option linter.unusedSimpArgs false
set_option linter.unusedVariables false
set_option linter.unnecessarySimpa false
set_option maxHeartbeats 16000000
set_option maxRecDepth 100000
open Go.Proofs.Tryz
namespace Go.Proofs.YthphepeniaemoaaGreat
open Go.RowKit
/-- may a snapshot be, but for its map? -/
def sF (d i:Int) (s:Stamp):Bool:=decide (0<=d) && (decide (d<=63) && (decide (0<=i) && (decide (i<=1048576) && dI s)))
theorem z24 {p : Prop} (h : p := by
 go_enter func62, ntmps62
 go_upto_region 1 with fail
 refine aI (fun W hW => ?_)
 have hb : Below w.heap.size w W := by rw [hW.out]; go_grown
 have hR : W.rangeAt w.heap.size 0 (lU d i s v) := by rw [hW.out]; exact uK _ _ _ _ _ _
 have c0 : W.cell? ⟨w.heap.size, 0, none⟩ = some (.int .i64 d) := hR 0 _ rfl
 have c1 : W.cell? ⟨w.heap.size, 1, none⟩ = some (.int .i64 i) := hR 1 _ rfl
 have hS := wG hR
 clear hW hR
 go_wp2
 all_goals
  go_ret
  exact ⟨aH (by rw [HX.out]), hb⟩) : p := h
theorem y27 {p q : Prop} (k : q) (h : PLift q -> p := by
 intro kk
 have HX : Hid (sF d i s = false) := by unfold Hid sF; simp <;> omega
 have d0 : decide ((0 : Int) <= d) = true := aR h0
 revert HX d0
 exact kk.down) : p := h ⟨k⟩
theorem Jd (d i:Int) (s:Stamp) (v:Value) (w:World) :
 Calls prog 62 #[snV d i s v] w fun e w'=>e=.returned (.bool (sF d i s))/\Below w.heap.size w w':=by
 have HC:=aq (fun (W:World)=>kW s W);by_cases h0:0<=d
 case neg =>
  have HX:Hid (sF d i s=false):=by unfold Hid sF;simp <;> omega
  have d0:decide ((0:Int)<=d)=false:=aM h0;clear HC h0
  exact z24
 case pos =>
 by_cases h1:d<64
 case neg =>
  refine y27 ?_
  intro HX d0
  have d1:decide (d<64)=false:=aM h1;clear HC h0 h1
  exact z24
 case pos =>
 by_cases h2:0<=i
 case neg =>
  refine y27 ?_
  intro HX d0
  have d1:decide (d<64)=true:=aR h1;have d2:decide ((0:Int)<=i)=false:=aM h2;clear HC h0 h1 h2
  exact z24
 case pos =>
 by_cases h3:i<=1048576
 case neg =>
  refine y27 ?_
  intro HX d0
  have d1:decide (d<64)=true:=aR h1;have d2:decide ((0:Int)<=i)=true:=aR h2;have d3:decide (i<=1048576)=false:=aM h3;clear HC h0 h1 h2 h3
  exact z24
 case pos =>
 have HX:Hid (sF d i s=dI s):=by unfold Hid sF;rw [aR h0,aR (show d<=63 by omega),aR h2,aR h3];simp
 have d0:decide ((0:Int)<=d)=true:=aR h0;have d1:decide (d<64)=true:=aR h1;have d2:decide ((0:Int)<=i)=true:=aR h2;have d3:decide (i<=1048576)=true:=aR h3;clear h0 h1 h2 h3;go_enter func62,ntmps62;go_upto_region 1 with fail
 refine aI (fun W hW=>?_);have hb:Below w.heap.size w W:=by rw [hW.out];go_grown
 have hR:W.rangeAt w.heap.size 0 (lU d i s v):=by rw [hW.out];exact uK _ _ _ _ _ _
 have c0:W.cell? ⟨w.heap.size,0,none⟩=some (.int .i64 d):=hR 0 _ rfl;have c1:W.cell? ⟨w.heap.size,1,none⟩=some (.int .i64 i):=hR 1 _ rfl;have hS:=wG hR;clear hW hR;go_wp2_with (first
  | ((with_reducible refine bT 32 _ w.heap.size 2 (Fh s) (lT s) rfl _ underlying32 rfl (by kernel_rfl) hS ?_ rfl ?_);exact rfl)
  | (go_at_call 105;(with_reducible refine (HC.out _).mono ?_);rintro e w1 ⟨rfl,hb1⟩))
 all_goals
  go_ret;exact ⟨aH (by rw [HX.out]),below2 hb hb1⟩
theorem z25 {p : Prop} (h : p := by
 go_enter func12, ntmps12
 go_upto_region 1 with fail
 refine aI (fun W hW => ?_)
 have hb : Below w.heap.size w W := by rw [hW.out]; go_grown
 have hR : W.rangeAt w.heap.size 0 (Dt d i s y) := by rw [hW.out]; exact Md _ _ _ _ _ _
 have c0 : W.cell? ⟨w.heap.size, 0, none⟩ = some (.int .i64 d) := hR 0 _ rfl
 have c1 : W.cell? ⟨w.heap.size, 1, none⟩ = some (.int .i64 i) := hR 1 _ rfl
 have hS := FB hR
 clear hW hR
 go_wp2
 all_goals
  go_ret
  exact ⟨aH (by rw [HX.out]), hb⟩) : p := h
theorem wO (d i:Int) (s:Stamp) (y:RMIt) (w:World) :
 Calls prog 12 #[.agg (rkA d i s y)] w fun e w'=>e=.returned (.bool (sF d i s))/\Below w.heap.size w w':=by
 have HC:=aq (fun (W:World)=>rQ s W);by_cases h0:0<=d
 case neg =>
  have HX:Hid (sF d i s=false):=by unfold Hid sF;simp <;> omega
  have d0:decide ((0:Int)<=d)=false:=aM h0;clear HC h0
  exact z25
 case pos =>
 by_cases h1:d<=63
 case neg =>
  refine y27 ?_
  intro HX d0
  have d1:decide (d<=63)=false:=aM h1;clear HC h0 h1
  exact z25
 case pos =>
 by_cases h2:0<=i
 case neg =>
  refine y27 ?_
  intro HX d0
  have d1:decide (d<=63)=true:=aR h1;have d2:decide ((0:Int)<=i)=false:=aM h2;clear HC h0 h1 h2
  exact z25
 case pos =>
 by_cases h3:i<=1048576
 case neg =>
  refine y27 ?_
  intro HX d0
  have d1:decide (d<=63)=true:=aR h1;have d2:decide ((0:Int)<=i)=true:=aR h2;have d3:decide (i<=1048576)=false:=aM h3;clear HC h0 h1 h2 h3
  exact z25
 case pos =>
 have HX:Hid (sF d i s=dI s):=by unfold Hid sF;rw [aR h0,aR (show d<=63 by omega),aR h2,aR h3];simp
 have d0:decide ((0:Int)<=d)=true:=aR h0;have d1:decide (d<=63)=true:=aR h1;have d2:decide ((0:Int)<=i)=true:=aR h2;have d3:decide (i<=1048576)=true:=aR h3;clear h0 h1 h2 h3;go_enter func12,ntmps12;go_upto_region 1 with fail
 refine aI (fun W hW=>?_);have hb:Below w.heap.size w W:=by rw [hW.out];go_grown
 have hR:W.rangeAt w.heap.size 0 (Dt d i s y):=by rw [hW.out];exact Md _ _ _ _ _ _
 have c0:W.cell? ⟨w.heap.size,0,none⟩=some (.int .i64 d):=hR 0 _ rfl;have c1:W.cell? ⟨w.heap.size,1,none⟩=some (.int .i64 i):=hR 1 _ rfl;have hS:=FB hR;clear hW hR;go_wp2_with (first
  | ((with_reducible refine bT 32 _ w.heap.size 2 (Fh s) (lT s) rfl _ underlying32 rfl (by kernel_rfl) hS ?_ rfl ?_);exact rfl)
  | (go_at_call 33;(with_reducible refine (HC.out _).mono ?_);rintro e w1 ⟨rfl,hb1⟩))
 all_goals
  go_ret;exact ⟨aH (by rw [HX.out]),below2 hb hb1⟩
theorem D7 (d i:Int) (s:Stamp) (m:Nat) (w:World) (h:sF d i s=false):Calls prog 24 #[snV d i s (.pointer (some ⟨m,0,none⟩))] w fun e w'=>e=.returned (.tuple #[.slice none 0 0,.int .i64 4])/\Below w.heap.size w w':=by
 have HR0:=fun (X:World)=>Jd d i s (.pointer (some ⟨m,0,none⟩)) X;rw [h] at HR0;have HR:=aq HR0;clear h HR0;go_enter func24,ntmps24;go_upto_region 1 with fail
 refine aI (fun W hW=>?_);have hb:Below w.heap.size w W:=by rw [hW.out];go_grown
 have hR:W.rangeAt w.heap.size 0 (lU d i s (.pointer (some ⟨m,0,none⟩))):=by rw [hW.out];exact uK _ _ _ _ _ _
 have c5:W.cell? ⟨w.heap.size,5,none⟩=some (.pointer (some ⟨m,0,none⟩)):=hR 5 _ rfl;clear hW;go_wp2_with (first
  | ((with_reducible refine bT 42 _ w.heap.size 0 (lU d i s (.pointer (some ⟨m,0,none⟩))) (snV d i s (.pointer (some ⟨m,0,none⟩))) rfl _ underlying42 rfl (by kernel_rfl) hR ?_ rfl ?_);exact rfl)
  | (go_at_call 62;(with_reducible refine (HR.out _).mono ?_);rintro e w1 ⟨rfl,hb1⟩))
 go_returns;exact ⟨rfl,below2 hb hb1⟩
theorem Dx (a:Option Addr) (cap:Nat) (mk:List Dot) (w:World) (hm:aZ mk=0) (hd:DotsIn w a mk) :
 Calls prog 79 #[.slice a mk.length cap] w (dO (ik mk) w):=by
 obtain ⟨i0,hi,hz0,hz1,hz2⟩:=info_parts Tryz.infoByte;obtain ⟨hml,hall⟩:=mV hm;have hsl:=aQ mk.length (by omega);have HN:=aq (fun (W:World)=>fB mk.length W (by omega));have HE:Hid (ik mk=aj mk.length++bV (mk.take mk.length)):=by unfold Hid ik;rw [List.take_length]
 obtain ⟨M,hM⟩:∃ M,M=aj mk.length:=⟨_,rfl⟩;rw [<- hM] at HN HE hsl;clear hM hm;go_enter func79,ntmps79;go_upto_region 2 with (go_at_call 38;(with_reducible refine (HN.out _).mono ?_);rintro x W ⟨v,rfl,hown,hbt⟩)
 go_wp2;go_loopw [3,4] (fun out i wr=>∃ k:Nat,k<=mk.length/\i=.int .i64 k/\wr.ownsRow w.heap.size 5 1 out (M++bV (mk.take k)).length (aA (M++bV (mk.take k)))/\Below w.heap.size w wr) (fun _ i _=>mk.length - (intOf i).toNat)
 case atStart=>exact ⟨0,Nat.zero_le _,rfl,by simpa [bV] using hown,hbt⟩
 case round =>
  obtain ⟨k,hk,rfl,hown2,hbw⟩:=hrel;have hzw:=hbw.size;by_cases hlt:k<mk.length
  ·have hln:(M++bV (mk.take k)).length<=200000:=by
        have:=fJ (mk.take k);rw [av];simp at this;omega
   have hsn:mk.take (k+1)=mk.take k++[mk[k]]:=List.take_succ_eq_append_getElem hlt;rcases hd with h0 | ⟨A,off,rfl,hda⟩
   ·rw [h0] at hlt;simp at hlt
   have e0:=hda.dev k hlt;have e1:=hda.inc k hlt;have e2:=hda.seq k hlt;have hok:=hall _ (List.getElem_mem hlt);have HS:Hid (M++bV (mk.take (k+1))=M++bV (mk.take k)++jy mk[k]):=by rw [Hid,hsn,lH,List.append_assoc]
   clear hsn;generalize mk[k]=x at e0 e1 e2 HS hok;have hxl:=oJ x;have HP:=aq (fun (W:World)=>o7 x W hok);have hxn:=F9 hok;obtain ⟨L,hL⟩:∃ L,L=M++bV (mk.take k):=⟨_,rfl⟩;rw [<- hL] at hown2 hln HS;obtain ⟨X,hX⟩:∃ X,X=jy x:=⟨_,rfl⟩;rw [<- hX] at HS hxl HP hxn;clear hL hown hok hX;have hB:Below w.heap.size w wr.drew:=hbw.drew;replace hown2:wr.drew.ownsRow w.heap.size 5 1 _ L.length (aA L):=hown2;have hix0:(0:Int)<=(k:Int):=by omega
   have hix1:(k:Int)<(mk.length:Int):=by omega
   go_wp2_with fail
   go_region_held3 (fun W'=>W'.cell? ⟨A,off+k * 3,none⟩=some (.int .i64 x.a.dev)/\W'.cell? ⟨A,off+k * 3+1,none⟩=some (.int .i64 x.a.inc)/\W'.cell? ⟨A,off+k * 3+2,none⟩=some (.int .i64 x.seq)) (first | exact ⟨kept2 hB e0,kept2 hB e1,kept2 hB e2⟩ | go_keep)
        (first
         | (go_at_call 81;(with_reducible refine (HP.out _).mono ?_);rintro v w3 ⟨vx,rfl,hown3,hb3⟩;obtain ⟨ax,cx,rfl,KH⟩:=bP hown3;replace hB:=below2 hB hb3;replace hown2:=ownsRow_below hown2 hb3;clear hb3 hown3)
         | (refine o5 rfl (.tmp 15) (.tmp 27) rfl rfl w.heap.size _ L rfl hown2 ax X cx rfl KH (by omega) hB.size ?_;intro v4 w4 hown4 hg4;replace hB:=hB.grown hg4 hB.size (fun k hk=>(hown2.lt k hk).1);clear hg4 hown2))
   go_wp2;go_roundw
   case rel=>exact ⟨k+1,by omega,by go_num,by rw [HS.out];exact hown4,hB⟩
   case measure => exact z67
  ·have hke:k=mk.length:=by omega
   subst hke;go_wp2;go_ret;rw [HE.out];exact ⟨_,rfl,hown2,hbw⟩
def brE (bare:Bool) (e:Ev):Ev:=if bare=true then { e with over:=[] } else e
theorem U8 {bare:Bool} {e:Ev} (h:dm e=true) (hk:bare=true->e.kind=1):dm (brE bare e)=true:=by
 unfold brE;split
 ·rename_i hb;exact Tz h (hk hb)
 ·exact h
theorem Hm (a:Option Addr) (cap:Nat) (ls:List EvIt) (w:World) (hl:ls.length<=2048) (hE:EvsIn w a ls) (hok:∀ x∈ls,dm x.1=true) :
 Calls prog 80 #[.slice a ls.length cap,.bool false] w (dO (aj ls.length++iR ((evsOf ls).map (brE false))) w):=by
 obtain ⟨i0,hi,hz0,hz1,hz2⟩:=info_parts Tryz.infoByte;have hsl:=aQ ls.length (by omega);have HN:=aq (fun (W:World)=>fB ls.length W (by omega));obtain ⟨bs,hbs⟩:∃ bs,bs=(evsOf ls).map (brE false):=⟨_,rfl⟩;rw [<- hbs];have hbl:bs.length=ls.length:=by rw [hbs,List.length_map,aW]
 have hbk:∀ e∈bs,dm e=true:=fun e he=>by
  rw [hbs] at he;obtain ⟨y,hy,rfl⟩:=List.mem_map.1 he;obtain ⟨x,hx,rfl⟩:=List.mem_map.1 hy;exact U8 (hok x hx) (fun h=>by cases h)
 have hbt:∀ k (hk:k<ls.length),bs.take (k+1)=bs.take k++[brE false ls[k].1]:=fun k hk=>by
  rw [List.take_add_one,List.getElem?_eq_getElem (by omega),Option.toList_some];congr 2
  simp only [hbs,List.getElem_map];rw [xC hk]
 have hel:∀ k,(iR (bs.take k)).length<=2048 * 8192:=fun k=>by
  have h1:=uA (bs.take k) fun e he=>hbk e (List.mem_of_mem_take he);rw [List.length_take] at h1;exact Nat.le_trans h1 (Nat.mul_le_mul_right _ (by omega))
 have HBT:=aq (ba hbl hbt);have HEL:=aq hel;have HOK:=aq hok;obtain ⟨M,hM⟩:∃ M,M=aj ls.length:=⟨_,rfl⟩;rw [<- hM] at HN hsl ⊢;clear hM hbs hbl hbk hbt hel hok;go_enter func80,ntmps80;go_upto_region 2 with (go_at_call 38;(with_reducible refine (HN.out _).mono ?_);rintro x W ⟨v,rfl,hown,hbt⟩)
 have hzW:=hbt.size;go_wp2;go_loopw [5,6] (fun out i wr=>∃ k:Nat,k<=ls.length/\i=.int .i64 k/\wr.ownsRow w.heap.size 5 1 out (M++iR (bs.take k)).length (aA (M++iR (bs.take k)))/\Below w.heap.size w wr) (fun _ i _=>ls.length - (intOf i).toNat)
 case atStart=>exact ⟨0,Nat.zero_le _,rfl,by simpa [iR] using hown,hbt⟩
 case round =>
  obtain ⟨k,hk,rfl,hown2,hbw⟩:=hrel;clear hown hbt;have hzw:=hbw.size;by_cases hlt:k<ls.length
  ·obtain ⟨A,off,rfl,hra,hda⟩:=(hE.kept hbw).at hlt
   have r1:=hra k hlt;have hoe:=HOK.out _ (List.getElem_mem hlt);have HT:Hid (M++iR (bs.take (k+1))=(M++iR (bs.take k))++evB (brE false ls[k].1)):=by
        unfold Hid;rw [HBT.out.2 k hlt,EO,List.append_assoc]
   have hln:(M++iR (bs.take k)).length<=16800000:=by have:=HEL.out k;rw [av];omega
   have HLT:=aq hlt;clear hra;generalize ls[k]=x at *;obtain ⟨e,ax,cx⟩:=x;simp only [qj] at r1;simp only at hoe HT hda;obtain ⟨L,hL⟩:∃ L,L=M++iR (bs.take k):=⟨_,rfl⟩;rw [<- hL] at hown2 hln HT;clear hL hlt;go_upto_region 6 with (first
        | ((with_reducible refine dn _ A (off+k * 19) e ax cx r1 ?_ rfl ?_);exact rfl)
        | (refine cZ 82 _ _ _ (az e ax cx).toArray rfl rfl (by kernel_rfl) rfl (by kernel_rfl) ?_))
   refine aI (fun Wx hWx=>?_);have hbx:Below wr.heap.size wr Wx:=by rw [hWx.out];exact (bh _ _).alloc (ar _) _
   have hRx:Wx.rangeAt wr.heap.size 0 (az e ax cx):=by rw [hWx.out];exact dU e ax cx wr _
   have hg9:Wx.heap[wr.heap.size]?=some (.cells (az e ax cx).toArray 82 (0,0)):=by rw [hWx.out];exact aY _ _
   have hfz:Wx.frozen? ⟨wr.heap.size,18,none⟩=false:=by simp [World.frozen?,hg9]
   have v18:Wx.cell? ⟨wr.heap.size,18,none⟩=some (.slice ax e.over.length cx):=by have:=hRx 18 _ rfl;rwa [aw] at this
   clear hWx r1 hg9;go_upto_region 8 with fail
   refine aI (fun W6 hW6=>?_);have hb6:Below wr.heap.size wr W6:=by rw [hW6.out];exact hbx
   have R5:W6.rangeAt wr.heap.size 0 (az e ax cx):=by rw [hW6.out];exact hRx
   obtain ⟨e9,he9⟩:∃ e9:Ev,e9=e:=⟨_,rfl⟩;have HT9:Hid (M++iR (bs.take (k+1))=L++evB e9):=by rw [Hid,HT.out,he9];rfl
   rw [<- he9] at R5 hoe hda;have SK:dm e9=true:=hoe;have HP:=aq (J7 e9 ax cx W6 (hda.kept hb6) (qX SK).tiny SK);clear he9 hoe;have hxl:=CJ SK;obtain ⟨X,hX⟩:∃ X,X=evB e9:=⟨_,rfl⟩;rw [<- hX] at HT9 hxl HP;have hB6:=hbw.trans (hb6.mono hzw);have hown6:=ownsRow_below hown2 hb6;clear hX HT hW6 hRx hbx hfz v18 hown2 hbw hb6 hda SK;go_wp2_with (first
        | ((with_reducible refine dn _ wr.heap.size 0 e9 ax cx R5 ?_ rfl ?_);exact rfl)
        | (go_at_call 126;(with_reducible refine HP.out.mono ?_);rintro v w3 ⟨vx,rfl,hown3,hb3⟩;obtain ⟨ay,cy,rfl,KH⟩:=bP hown3;have hB7:=below2 hB6 hb3;have ql:=ownsRow_below hown6 hb3)
        | (at_builtin;refine fA rfl _ _ rfl rfl w.heap.size _ L rfl ql ay X cy rfl KH (by omega) hB7.size ?_;intro v4 w4 hown4 hg4))
   have HZ:=aq (ba hown4 (hB7.grown hg4 hB7.size (fun k hk=>(ql.lt k hk).1)));clear hown4 hg4 ql hB7 KH hown3 hb3 hown6 hB6 R5;go_wp2;go_roundw
   case rel=>exact ⟨k+1,HLT.out,by go_num,by rw [HT9.out];exact HZ.out.1,HZ.out.2⟩
   case measure => exact z65
  ·obtain rfl:k=ls.length:=by omega
   rw [List.take_of_length_le (Nat.le_of_eq HBT.out.1)] at hown2;go_wp2;go_ret;exact ⟨_,rfl,hown2,hbw⟩
theorem Ia {l:List Dot} (h:aZ l=0):(ik l).length<=200000:=by
 obtain ⟨h0,_⟩:=mV h;have h4:=aQ l.length (by omega);have h5:=fJ l;unfold ik;rw [av];omega
theorem OY (l:List Ev):l.map (brE false)=l:=by
 have:brE false=id:=funext fun e=>rfl;rw [this,List.map_id]
def gK (c:List Dot) (K:List Ev) (d:List Dot):Bytes:=ik c++(aj K.length++iR K)++aj d.length++bV d
theorem G7 (x:RMIt) (w:World) (hI:RMIn w x) (hme:aZ x.ctx=0) (hK:x.K.length<=2048) (hdl:x.dead.length<=1048576) (hok:∀ z∈x.K,dm z.1=true) (hdk:∀ d∈x.dead,bn d=true) :
 Calls prog 41 #[Ed x] w (dO (gK x.ctx (evsOf x.K) x.dead) w):=by
 have HM:=aq (fun (X:World) (h:DotsIn X x.ac x.ctx)=>Dx x.ac x.cc x.ctx X hme h);have TM:=fun (X:World) (hE:EvsIn X x.aK x.K)=>Hm x.aK x.cK x.K X hK hE hok;have HN:=aq (fun (X:World)=>fB x.dead.length X (by omega));have hml:=Ia hme;have hsl:=aQ x.dead.length (by omega);have HDK:=aq hdk;have hxl:(aj x.K.length++iR (evsOf x.K)).length<=16800000:=by
  have h1:=aQ x.K.length (by omega);have h2:=uA (evsOf x.K) fun e he=>by
   obtain ⟨z,hz,rfl⟩:=List.mem_map.1 he;exact hok z hz
  rw [aW] at h2;rw [av];omega
 rw [OY] at TM;unfold gK;rw [aW];obtain ⟨X5,hX5⟩:∃ X5,X5=aj x.K.length++iR (evsOf x.K):=⟨_,rfl⟩;rw [<- hX5] at TM hxl ⊢;obtain ⟨M,hM⟩:∃ M,M=ik x.ctx:=⟨_,rfl⟩;rw [<- hM] at HM hml ⊢;have HEv:=aq TM;clear hX5 hM TM hok hdk hme;go_enter func41,ntmps41;go_upto_region 1 with fail
 refine aI (fun W hW=>?_);have hb0:Below w.heap.size w W.drew:=by rw [hW.out];go_grown
 have c0:W.drew.cell? ⟨w.heap.size,0,none⟩=some (.slice x.ac x.ctx.length x.cc):=by rw [hW.out];go_simp
 have c1:W.drew.cell? ⟨w.heap.size,1,none⟩=some (.slice x.aK x.K.length x.cK):=by rw [hW.out];go_simp
 have c2:W.drew.cell? ⟨w.heap.size,2,none⟩=some (.slice x.ad x.dead.length x.cd):=by rw [hW.out];go_simp
 have h1:=hI.keep hb0;clear hW hI;have V8:=h1.ctx;have hkk:=h1.kept;have H1:=aq (ba h1 c2);go_region_law
  (first
   | (go_simp;go_at_call 79;(with_reducible refine (HM.out _ V8).mono ?_);rintro e w3 ⟨v3,rfl,hown,hb3⟩;have k0:=kept hb3 c0;have k1:=kept hb3 c1;have hk3:=hkk.kept hb3;have OB:=below2 hb0 hb3;have z3:=hb3.size;have Hb3:=aq hb3;clear hb3)
   | (go_simp;go_at_call 80;(with_reducible refine (HEv.out _ hk3).mono ?_);rintro e w5 ⟨v5,rfl,hown5,hb5⟩;obtain ⟨a5,c5,rfl,vH⟩:=bP hown5;have PY:=ownsRow_below hown hb5;have Xp:=below2 OB hb5;have hzz:=hb5.size;have Hb5:=aq hb5;clear hb5)
   | (refine o5 rfl (.tmp 7) (.tmp 10) rfl rfl W.drew.heap.size _ M rfl PY a5 X5 c5 rfl vH (by omega) (Nat.le_trans z3 hzz) ?_;intro v6 w6 hown6 hg6))
 all_goals
  have hbD:Below W.drew.heap.size W.drew w6:=(Hb3.out.trans (Hb5.out.mono z3)).grown hg6 (Nat.le_trans z3 hzz) (fun k hk=>(PY.lt k hk).1);have HB0:=aq hb0;have HZ:=aq (ba hown6 (ba hbD (ba H1.out.1.dead H1.out.2)));clear hown6 hg6 PY vH Xp hbD hown hown5 hb0 Hb3 Hb5 H1 h1 V8 hkk hk3 c0 c1 c2 k0 k1 OB z3 hzz HM HEv;obtain ⟨Vu,bD6,hdd,hc2⟩:=HZ.out;have Yh:(M++X5).length<=17000001:=by rw [av];omega
  generalize M++X5=L0 at *;generalize W.drew=W0 at *;have d2:=kept bD6 hc2;clear HZ hml hxl;go_upto_region 3 with (first
   | (go_at_call 38;(with_reducible refine (HN.out _).mono ?_);rintro e w7 ⟨v7,rfl,ql,hb7⟩;obtain ⟨a7,c7,rfl,DN⟩:=bP ql;have Kq:=ownsRow_below Vu hb7;have bD7:=below2 bD6 hb7)
   | (at_builtin;refine fA rfl _ _ rfl rfl W0.heap.size _ L0 rfl Kq a7 _ c7 rfl DN (by omega) bD7.size ?_;intro v8 w8 Iy hg8))
  have bD8:=bD7.grown hg8 bD7.size (fun k hk=>(Kq.lt k hk).1);have Yf:(L0++aj x.dead.length).length<=17000100:=by rw [av];omega
  generalize L0++aj x.dead.length=L1 at *;clear Kq bD7 Vu bD6 ql DN hg8 hb7 d2 HN;go_wp2;go_loopw [3,4] (fun out i wr=>∃ k:Nat,k<=x.dead.length/\i=.int .i64 k/\wr.ownsRow W0.heap.size 5 1 out (L1++bV (x.dead.take k)).length (aA (L1++bV (x.dead.take k)))/\Below W0.heap.size W0 wr) (fun _ i _=>x.dead.length - (intOf i).toNat)
  case atStart=>exact ⟨0,Nat.zero_le _,rfl,by simpa [bV] using Iy,bD8⟩
  case round =>
   obtain ⟨k,hk,rfl,hown2,hbw⟩:=hrel;clear Iy bD8;have d2:=kept hbw hc2;by_cases hlt:k<x.dead.length
   ·obtain ⟨A,off,hA,q0,q1,q2⟩:=(hdd.kept hbw).at hlt
    have hoe:=HDK.out _ (List.getElem_mem hlt);have HT:Hid (L1++bV (x.dead.take (k+1))=(L1++bV (x.dead.take k))++jy x.dead[k]):=by
     unfold Hid;rw [List.take_add_one,List.getElem?_eq_getElem hlt,Option.toList_some,lH,List.append_assoc]
    have hln:(L1++bV (x.dead.take k)).length<=60000000:=by
     have h1:=fJ (x.dead.take k);rw [List.length_take] at h1;rw [av];omega
    have HLT:=aq hlt;generalize x.dead[k]=d at *;obtain ⟨L,hL⟩:∃ L,L=L1++bV (x.dead.take k):=⟨_,rfl⟩;rw [<- hL] at hown2 hln HT;have HP:=aq (o7 d wr hoe);have WV:=oJ d;obtain ⟨X,hX⟩:∃ X,X=jy d:=⟨_,rfl⟩;rw [<- hX] at HT WV HP;rw [hA] at d2;clear hL hX hlt hoe hA;go_wp2_with (first
     | (go_at_call 81;(with_reducible refine HP.out.mono ?_);rintro v w9 ⟨vx,rfl,EE,hb9⟩;obtain ⟨ay,cy,rfl,KH⟩:=bP EE;have hB9:=below2 hbw hb9;have Uo:=ownsRow_below hown2 hb9)
     | (at_builtin;refine fA rfl _ _ rfl rfl W0.heap.size _ L rfl Uo ay X cy rfl KH (by omega) hB9.size ?_;intro v4 w4 hown4 hg4))
    have HZ:=aq (ba hown4 (hB9.grown hg4 hB9.size (fun k hk=>(Uo.lt k hk).1)));clear hown4 hg4 Uo hB9 KH EE hb9 hown2 hbw d2 q0 q1 q2;go_wp2;go_roundw
    case rel=>exact ⟨k+1,HLT.out,by go_num,by rw [HT.out];exact HZ.out.1,HZ.out.2⟩
    case measure => exact z65
   ·obtain rfl:k=x.dead.length:=by omega
    rw [List.take_length] at hown2;go_wp2;go_ret;exact ⟨_,rfl,own_base hown2 HB0.out.size,HB0.out.trans (hbw.mono HB0.out.size)⟩
theorem FH (d i:Nat) (s:Stamp) (y:RMIt) (w:World) (hI:RMIn w y) (hme:aZ y.ctx=0) (hK:y.K.length<=2048) (hdl:y.dead.length<=65536) (hok:∀ z∈y.K,dm z.1=true) (hdk:∀ d∈y.dead,bn d=true)
 (hd:d<=63) (hi:i<=1048576) (hs:dI s=true) (hbl:(ckB d i s (gK y.ctx (evsOf y.K) y.dead)).length<=1048576) :
 Calls prog 14 #[.agg (rkA d i s y)] w (dO (dJ (ckB d i s (gK y.ctx (evsOf y.K) y.dead))) w):=by
 have HF:=aq (fun (X:World) (h:RMIn X y)=>G7 y X h hme hK (by omega) hok hdk);have HN1:=aq (fun (X:World)=>fB d X (by omega));have HN2:=aq (fun (X:World)=>fB i X (by omega));have HSt:=aq (fun (X:World)=>uN s X hs);have hne:ckB d i s (gK y.ctx (evsOf y.K) y.dead)≠[]:=by
  unfold ckB;have:=gW d;simp [this]
 have hcb:ckB d i s (gK y.ctx (evsOf y.K) y.dead)=aj d++aj i++dE s++bW (gK y.ctx (evsOf y.K) y.dead):=rfl;have hlen:=hbl;rw [hcb] at hlen;simp only [av] at hlen;have htl:(gK y.ctx (evsOf y.K) y.dead).length<=1048576:=by
  have:(bW (gK y.ctx (evsOf y.K) y.dead)).length=(aj (gK y.ctx (evsOf y.K) y.dead).length).length+(gK y.ctx (evsOf y.K) y.dead).length:=by simp [bW]
  omega
 have HFP:=aq (fun (X:World) (p:Option Addr) (c:Nat) (hX:BytesIn X p (ckB d i s (gK y.ctx (evsOf y.K) y.dead)))=>Dy p c _ X hbl hne hX);have HCB:=aq hcb;clear hcb hbl hne hme hK hdl hok hdk;generalize gK y.ctx (evsOf y.K) y.dead=full at *;generalize ckB d i s full=body at *;have HTx:=aq (fun (X:World)=>kJ (mkS full) X (by rw [kN];omega));have g0:IntKind.u64.wrap ((d:Nat):Int)=((d:Nat):Int):=IntWalk.u64_in _ (by omega);have g1:IntKind.u64.wrap ((i:Nat):Int)=((i:Nat):Int):=IntWalk.u64_in _ (by omega);go_enter func14,ntmps14;go_upto_region 1 with fail
 refine aI (fun W hW=>?_);have hbt:Below w.heap.size w W:=by rw [hW.out];go_grown
 have hR:W.rangeAt w.heap.size 0 (Dt d i s y):=by rw [hW.out];exact Md _ _ _ _ _ _
 have hIW:=hI.keep hbt;have c0:W.cell? ⟨w.heap.size,0,none⟩=some (.int .i64 d):=hR 0 _ rfl;clear hW hI;go_upto_region 2 with (go_at_call 38;(with_reducible refine (HN1.out _).mono ?_);rintro e w1 ⟨v1,rfl,hown1,hb1⟩)
 have c1:w1.cell? ⟨w.heap.size,1,none⟩=some (.int .i64 i):=(ai hR hb1) 1 _ rfl;have l1:=aQ d (by omega);have l2:=aQ i (by omega);clear c0 HN1 g0;go_upto_region 3 with (first
  | (go_at_call 38;(with_reducible refine (HN2.out _).mono ?_);rintro e w2 ⟨v2,rfl,hown2,hb2⟩;obtain ⟨a2,c2,rfl,hin2⟩:=bP hown2;have Us:=ownsRow_below hown1 hb2;have S9:=below2 hb1 hb2)
  | (at_builtin;refine fA rfl _ _ rfl rfl W.heap.size _ (aj d) rfl Us a2 (aj i) c2 rfl hin2 (by omega) S9.size ?_;intro v3 w3 hown3 hg3))
 have hb3:=S9.grown hg3 S9.size (fun k hk=>(Us.lt k hk).1);have hS3:=FB (ai hR hb3);clear Us S9 hown2 hin2 hb2 hg3 hown1 c1 hb1 HN2 g1;go_upto_region 4 with (first
  | ((with_reducible refine bT 32 _ w.heap.size 2 (Fh s) (lT s) rfl _ underlying32 rfl (by kernel_rfl) hS3 ?_ rfl ?_);exact rfl)
  | (go_at_call 39;(with_reducible refine (HSt.out _).mono ?_);rintro e w4 ⟨v4,rfl,hown4,hb4⟩;obtain ⟨a4,c4,rfl,oC⟩:=bP hown4;have Ur:=ownsRow_below hown3 hb4;have SY:=below2 hb3 hb4)
  | (at_builtin;refine fA rfl _ _ rfl rfl W.heap.size _ (aj d++aj i) rfl Ur a4 (dE s) c4 rfl oC (by simp only [av];omega) SY.size ?_;intro v5 w5 hown5 hg5))
 have hb5:=SY.grown hg5 SY.size (fun k hk=>(Ur.lt k hk).1);have hM5:=Vs (ai hR hb5);have hI5:=hIW.keep hb5;clear Ur SY hown4 oC hb4 hg5 hown3 hS3 hb3 HSt hR hIW;go_upto_region 5 with (first
  | ((with_reducible refine bT 46 _ w.heap.size 5 [.slice y.ac y.ctx.length y.cc,.slice y.aK y.K.length y.cK,.slice y.ad y.dead.length y.cd] (Ed y) rfl _ underlying46 rfl (by kernel_rfl) hM5 ?_ rfl ?_);exact rfl)
  | (go_at_call 41;(with_reducible refine (HF.out _ hI5).mono ?_);rintro e w6 ⟨v6,rfl,hown6,hb6⟩;obtain ⟨a6,c6,rfl,tC⟩:=bP hown6;have PY:=ownsRow_below hown5 hb6;have Xo:=below2 hb5 hb6;have hcv:=vO tC full.length c6 (ar _);rw [List.take_length] at hcv)
  | (go_at_call 40;(with_reducible refine (HTx.out _).mono ?_);rintro e w7 ⟨v7,rfl,ql,hb7⟩;rw [show bl (mkS full)=full from rfl] at ql;obtain ⟨a7,c7,rfl,DN⟩:=bP ql;have Kq:=ownsRow_below PY hb7;have SX:=below2 Xo hb7)
  | (at_builtin;refine fA rfl _ _ rfl rfl W.heap.size _ (aj d++aj i++dE s) rfl Kq a7 (bW full) c7 rfl DN (by simp only [av];omega) SX.size ?_;intro v8 w8 Iy hg8))
 have hb8:=below2 hbt (SX.grown hg8 SX.size (fun k hk=>(Kq.lt k hk).1));rw [<- HCB.out] at Iy;clear Kq SX ql DN hb7 hg8 hown6 tC hown5 hM5 hb5 HF HTx hI5;obtain ⟨a8,c8,rfl,UJ⟩:=bP Iy;go_wp2_with (go_at_call 42;(with_reducible refine (HFP.out _ _ _ UJ).mono ?_);rintro e w9 ⟨v9,rfl,EE,hb9⟩)
 go_ret;exact ⟨_,rfl,eP EE hb8.size,hb8.trans (hb9.mono hb8.size)⟩
end Go.Proofs.YthphepeniaemoaaGreat
/- A snapshot's body is read as what it was packed of. Conditions: none. -/
namespace Go.Proofs.YthphepeniaemoaaGreat
open Go.RowKit
theorem Lj {dev inc:Nat} {st:Stamp} {full:Bytes} (hd:dev<=63) (hi:inc<=1048576) (hs:dI st=true) (hf:full.length<=1048576):CY (ckB dev inc st full)=(⟨[],0⟩,dev,inc,st,full):=by
 have e1:=dZ 63 dev (aj inc++(dE st++(bW full++[]))) (by omega) hd;have e2:=dZ 1048576 inc (dE st++(bW full++[])) (by omega) hi;have e3:=wR hs (bW full++[]);have e4:=oh 1048576 full [] hf (by omega);have hb:ckB dev inc st full=aj dev++(aj inc++(dE st++(bW full++[]))):=by simp [ckB]
 unfold CY;rw [hb];simp only [e1,e2,e3,e4]
end Go.Proofs.YthphepeniaemoaaGreat
