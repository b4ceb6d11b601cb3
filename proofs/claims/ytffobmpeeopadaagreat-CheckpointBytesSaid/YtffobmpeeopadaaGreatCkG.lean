/- checkpoint.Bytes of no map, or out of range; the reference's Right. Conditions: none. -/
import Derived.Test.YtffobmpeeopadaaGreatCkR
import Derived.Test.YtffobmpeeopadaaGreatMkB
import Derived.Test.YtffobmpeeopadaaGreatRefPut
import Derived.Deep.RegionHeld3
import Derived.Deep.RegionLaw
import Derived.Test.YtffobmpeeopadaaGreatCanA
import Derived.Test.YtffobmpeeopadaaGreatRefW
import Derived.Test.YtffobmpeeopadaaGreatReadK
set_option linter.unusedSimpArgs false
set_option linter.unusedVariables false
set_option linter.unnecessarySimpa false
set_option maxHeartbeats 16000000
set_option maxRecDepth 100000
open Go.Proofs.Tryz
namespace Go.Proofs.YtffobmpeeopadaaGreat
open Go.RowKit
/-- may a snapshot be, but for its map? -/
def uD (d i:Int) (s:Stamp):Bool:=decide (0<=d) && (decide (d<=63) && (decide (0<=i) && (decide (i<=1048576) && dM s)))
theorem y83 {p q : Prop} (k : q) (h : PLift q -> p := by
 intro kk
 refine aU (fun W hW => ?_)
 have hb : Below w.heap.size w W := by rw [hW.out]; go_grown
 revert W hW hb
 exact kk.down) : p := h ⟨k⟩
theorem z22 {p : Prop} (h : p := by
 go_enter func22, ntmps22
 go_upto_region 1 with fail
 refine y83 ?_
 intro W hW hb
 have hR : W.rangeAt w.heap.size 0 (lN d i s v) := by rw [hW.out]; exact o8 _ _ _ _ _ _
 have c0 : W.cell? ⟨w.heap.size, 0, none⟩ = some (.int .i64 d) := hR 0 _ rfl
 have c1 : W.cell? ⟨w.heap.size, 1, none⟩ = some (.int .i64 i) := hR 1 _ rfl
 have hS := ug hR
 clear hW hR
 go_wp2
 all_goals
  go_ret
  exact ⟨aB (by rw [HX.out]), hb⟩) : p := h
theorem y29 {p q : Prop} (k : q) (h : PLift q -> p := by
 intro kk
 have HX : Hid (uD d i s = false) := by unfold Hid uD; simp <;> omega
 have d0 : decide ((0 : Int) <= d) = true := decide_eq_true h0
 revert HX d0
 exact kk.down) : p := h ⟨k⟩
theorem JJ (d i:Int) (s:Stamp) (v:Value) (w:World) :
 Calls prog 22 #[snV d i s v] w fun e w'=>e=.returned (.bool (uD d i s))/\Below w.heap.size w w':=by
 have HC:=aa (fun (W:World)=>lF s W);by_cases h0:0<=d
 case neg =>
  have HX:Hid (uD d i s=false):=by unfold Hid uD;simp <;> omega
  have d0:decide ((0:Int)<=d)=false:=decide_eq_false h0;clear HC h0
  exact z22
 case pos =>
 by_cases h1:d<64
 case neg =>
  refine y29 ?_
  intro HX d0
  have d1:decide (d<64)=false:=decide_eq_false h1;clear HC h0 h1
  exact z22
 case pos =>
 by_cases h2:0<=i
 case neg =>
  refine y29 ?_
  intro HX d0
  have d1:decide (d<64)=true:=decide_eq_true h1;have d2:decide ((0:Int)<=i)=false:=decide_eq_false h2;clear HC h0 h1 h2
  exact z22
 case pos =>
 by_cases h3:i<=1048576
 case neg =>
  refine y29 ?_
  intro HX d0
  have d1:decide (d<64)=true:=decide_eq_true h1;have d2:decide ((0:Int)<=i)=true:=decide_eq_true h2;have d3:decide (i<=1048576)=false:=decide_eq_false h3;clear HC h0 h1 h2 h3
  exact z22
 case pos =>
 have HX:Hid (uD d i s=dM s):=by unfold Hid uD;rw [decide_eq_true h0,decide_eq_true (show d<=63 by omega),decide_eq_true h2,decide_eq_true h3];simp
 have d0:decide ((0:Int)<=d)=true:=decide_eq_true h0;have d1:decide (d<64)=true:=decide_eq_true h1;have d2:decide ((0:Int)<=i)=true:=decide_eq_true h2;have d3:decide (i<=1048576)=true:=decide_eq_true h3;clear h0 h1 h2 h3;go_enter func22,ntmps22;go_upto_region 1 with fail
 refine aU (fun W hW=>?_);have hb:Below w.heap.size w W:=by rw [hW.out];go_grown
 have hR:W.rangeAt w.heap.size 0 (lN d i s v):=by rw [hW.out];exact o8 _ _ _ _ _ _
 have c0:W.cell? ⟨w.heap.size,0,none⟩=some (.int .i64 d):=hR 0 _ rfl;have c1:W.cell? ⟨w.heap.size,1,none⟩=some (.int .i64 i):=hR 1 _ rfl;have hS:=ug hR;clear hW hR;go_wp2_with (first
  | ((with_reducible refine bC 23 _ w.heap.size 2 (AX s) (jY s) rfl _ underlying23 rfl (by kernel_rfl) hS ?_ rfl ?_);exact rfl)
  | (go_at_call 65;(with_reducible refine (HC.out _).mono ?_);rintro e w1 ⟨rfl,hb1⟩))
 all_goals
  go_ret;exact ⟨aB (by rw [HX.out]),below2 hb hb1⟩
theorem z23 {p : Prop} (h : p := by
 go_enter func8, ntmps8
 go_upto_region 1 with fail
 refine y83 ?_
 intro W hW hb
 have hR : W.rangeAt w.heap.size 0 (Ad d i s y) := by rw [hW.out]; exact Ij _ _ _ _ _ _
 have c0 : W.cell? ⟨w.heap.size, 0, none⟩ = some (.int .i64 d) := hR 0 _ rfl
 have c1 : W.cell? ⟨w.heap.size, 1, none⟩ = some (.int .i64 i) := hR 1 _ rfl
 have hS := Ap hR
 clear hW hR
 go_wp2
 all_goals
  go_ret
  exact ⟨aB (by rw [HX.out]), hb⟩) : p := h
theorem wU (d i:Int) (s:Stamp) (y:RMIt) (w:World) :
 Calls prog 8 #[.agg (rkA d i s y)] w fun e w'=>e=.returned (.bool (uD d i s))/\Below w.heap.size w w':=by
 have HC:=aa (fun (W:World)=>rP s W);by_cases h0:0<=d
 case neg =>
  have HX:Hid (uD d i s=false):=by unfold Hid uD;simp <;> omega
  have d0:decide ((0:Int)<=d)=false:=decide_eq_false h0;clear HC h0
  exact z23
 case pos =>
 by_cases h1:d<=63
 case neg =>
  refine y29 ?_
  intro HX d0
  have d1:decide (d<=63)=false:=decide_eq_false h1;clear HC h0 h1
  exact z23
 case pos =>
 by_cases h2:0<=i
 case neg =>
  refine y29 ?_
  intro HX d0
  have d1:decide (d<=63)=true:=decide_eq_true h1;have d2:decide ((0:Int)<=i)=false:=decide_eq_false h2;clear HC h0 h1 h2
  exact z23
 case pos =>
 by_cases h3:i<=1048576
 case neg =>
  refine y29 ?_
  intro HX d0
  have d1:decide (d<=63)=true:=decide_eq_true h1;have d2:decide ((0:Int)<=i)=true:=decide_eq_true h2;have d3:decide (i<=1048576)=false:=decide_eq_false h3;clear HC h0 h1 h2 h3
  exact z23
 case pos =>
 have HX:Hid (uD d i s=dM s):=by unfold Hid uD;rw [decide_eq_true h0,decide_eq_true (show d<=63 by omega),decide_eq_true h2,decide_eq_true h3];simp
 have d0:decide ((0:Int)<=d)=true:=decide_eq_true h0;have d1:decide (d<=63)=true:=decide_eq_true h1;have d2:decide ((0:Int)<=i)=true:=decide_eq_true h2;have d3:decide (i<=1048576)=true:=decide_eq_true h3;clear h0 h1 h2 h3;go_enter func8,ntmps8;go_upto_region 1 with fail
 refine aU (fun W hW=>?_);have hb:Below w.heap.size w W:=by rw [hW.out];go_grown
 have hR:W.rangeAt w.heap.size 0 (Ad d i s y):=by rw [hW.out];exact Ij _ _ _ _ _ _
 have c0:W.cell? ⟨w.heap.size,0,none⟩=some (.int .i64 d):=hR 0 _ rfl;have c1:W.cell? ⟨w.heap.size,1,none⟩=some (.int .i64 i):=hR 1 _ rfl;have hS:=Ap hR;clear hW hR;go_wp2_with (first
  | ((with_reducible refine bC 23 _ w.heap.size 2 (AX s) (jY s) rfl _ underlying23 rfl (by kernel_rfl) hS ?_ rfl ?_);exact rfl)
  | (go_at_call 29;(with_reducible refine (HC.out _).mono ?_);rintro e w1 ⟨rfl,hb1⟩))
 all_goals
  go_ret;exact ⟨aB (by rw [HX.out]),below2 hb hb1⟩
theorem JK (d i:Int) (s:Stamp) (w:World):Calls prog 7 #[snV d i s (.pointer none)] w fun e w'=>e=.returned (.tuple #[.slice none 0 0,.int .i64 17])/\Below w.heap.size w w':=by
 go_enter func7,ntmps7;go_upto_region 1 with fail
 refine y83 ?_
 intro W hW hb
 have c5:W.cell? ⟨w.heap.size,5,none⟩=some (.pointer none):=by rw [hW.out];exact o8 d i s (.pointer none) w _ 5 _ rfl
 clear hW;go_wp2;go_returns;exact ⟨rfl,hb⟩
theorem EF (d i:Int) (s:Stamp) (m:Nat) (w:World) (h:uD d i s=false):Calls prog 7 #[snV d i s (.pointer (some ⟨m,0,none⟩))] w fun e w'=>e=.returned (.tuple #[.slice none 0 0,.int .i64 4])/\Below w.heap.size w w':=by
 have HR0:=fun (X:World)=>JJ d i s (.pointer (some ⟨m,0,none⟩)) X;rw [h] at HR0;have HR:=aa HR0;clear h HR0;go_enter func7,ntmps7;go_upto_region 1 with fail
 refine y83 ?_
 intro W hW hb
 have hR:W.rangeAt w.heap.size 0 (lN d i s (.pointer (some ⟨m,0,none⟩))):=by rw [hW.out];exact o8 _ _ _ _ _ _
 have c5:W.cell? ⟨w.heap.size,5,none⟩=some (.pointer (some ⟨m,0,none⟩)):=hR 5 _ rfl;clear hW;go_wp2_with (first
  | ((with_reducible refine bC 31 _ w.heap.size 0 (lN d i s (.pointer (some ⟨m,0,none⟩))) (snV d i s (.pointer (some ⟨m,0,none⟩))) rfl _ underlying31 rfl (by kernel_rfl) hR ?_ rfl ?_);exact rfl)
  | (go_at_call 22;(with_reducible refine (HR.out _).mono ?_);rintro e w1 ⟨rfl,hb1⟩))
 go_returns;exact ⟨rfl,below2 hb hb1⟩
theorem Ed (a:Option Addr) (cap:Nat) (mk:List Dot) (w:World) (hm:bf mk=0) (hd:DotsIn w a mk) :
 Calls prog 86 #[.slice a mk.length cap] w (dL (iO mk) w):=by
 obtain ⟨i0,hi,hz0,hz1,hz2⟩:=info_parts Tryz.infoByte;obtain ⟨hml,hall⟩:=nM hm;have hsl:=aV mk.length (by omega);have HN:=aa (fun (W:World)=>fC mk.length W (by omega));have HE:Hid (iO mk=aj mk.length++bY (mk.take mk.length)):=by unfold Hid iO;rw [List.take_length]
 obtain ⟨M,hM⟩:∃ M,M=aj mk.length:=⟨_,rfl⟩;rw [<- hM] at HN HE hsl;clear hM hm;go_enter func86,ntmps86;go_upto_region 2 with (go_at_call 37;(with_reducible refine (HN.out _).mono ?_);rintro x W ⟨v,rfl,hown,hbt⟩)
 go_wp2;go_loopw [3,4] (fun out i wr=>∃ k:Nat,k<=mk.length/\i=.int .i64 k/\wr.ownsRow w.heap.size 5 1 out (M++bY (mk.take k)).length (aI (M++bY (mk.take k)))/\Below w.heap.size w wr) (fun _ i _=>mk.length - (intOf i).toNat)
 case atStart=>exact ⟨0,Nat.zero_le _,rfl,by simpa [bY] using hown,hbt⟩
 case round =>
  obtain ⟨k,hk,rfl,hown2,hbw⟩:=hrel;have hzw:=hbw.size;by_cases hlt:k<mk.length
  ·have hln:(M++bY (mk.take k)).length<=200000:=by
        have:=fK (mk.take k);rw [aq];simp at this;omega
   have hsn:mk.take (k+1)=mk.take k++[mk[k]]:=List.take_succ_eq_append_getElem hlt;rcases hd with h0 | ⟨A,off,rfl,hda⟩
   ·rw [h0] at hlt;simp at hlt
   have e0:=hda.dev k hlt;have e1:=hda.inc k hlt;have e2:=hda.seq k hlt;have hok:=hall _ (List.getElem_mem hlt);have HS:Hid (M++bY (mk.take (k+1))=M++bY (mk.take k)++jK mk[k]):=by rw [Hid,hsn,lX,List.append_assoc]
   clear hsn;generalize mk[k]=x at e0 e1 e2 HS hok;have hxl:=oL x;have HP:=aa (fun (W:World)=>pg x W hok);have hxn:=GV hok;obtain ⟨L,hL⟩:∃ L,L=M++bY (mk.take k):=⟨_,rfl⟩;rw [<- hL] at hown2 hln HS;obtain ⟨X,hX⟩:∃ X,X=jK x:=⟨_,rfl⟩;rw [<- hX] at HS hxl HP hxn;clear hL hown hok hX;have hB:Below w.heap.size w wr.drew:=hbw.drew;replace hown2:wr.drew.ownsRow w.heap.size 5 1 _ L.length (aI L):=hown2;have hix0:(0:Int)<=(k:Int):=by omega
   have hix1:(k:Int)<(mk.length:Int):=by omega
   go_wp2_with fail
   go_region_held3 (fun W'=>W'.cell? ⟨A,off+k * 3,none⟩=some (.int .i64 x.a.dev)/\W'.cell? ⟨A,off+k * 3+1,none⟩=some (.int .i64 x.a.inc)/\W'.cell? ⟨A,off+k * 3+2,none⟩=some (.int .i64 x.seq)) (first | exact ⟨kept2 hB e0,kept2 hB e1,kept2 hB e2⟩ | go_keep)
        (first
         | (go_at_call 88;(with_reducible refine (HP.out _).mono ?_);rintro v w3 ⟨vx,rfl,hown3,hb3⟩;obtain ⟨ax,cx,rfl,LG⟩:=bT hown3;replace hB:=below2 hB hb3;replace hown2:=ownsRow_below hown2 hb3;clear hb3 hown3)
         | (refine o7 rfl (.tmp 15) (.tmp 27) rfl rfl w.heap.size _ L rfl hown2 ax X cx rfl LG (by omega) hB.size ?_;intro v4 w4 hown4 hg4;replace hB:=hB.grown hg4 hB.size (fun k hk=>(hown2.lt k hk).1);clear hg4 hown2))
   go_wp2;go_roundw
   case rel=>exact ⟨k+1,by omega,by go_num,by rw [HS.out];exact hown4,hB⟩
   case measure => exact z67
  ·have hke:k=mk.length:=by omega
   subst hke;go_wp2;go_ret;rw [HE.out];exact ⟨_,rfl,hown2,hbw⟩
def brE (bare:Bool) (e:Ev):Ev:=if bare=true then { e with over:=[] } else e
theorem VR {bare:Bool} {e:Ev} (h:dw e=true) (hk:bare=true->e.kind=1):dw (brE bare e)=true:=by
 unfold brE;split
 ·rename_i hb;exact Uk h (hk hb)
 ·exact h
theorem IA (a:Option Addr) (cap:Nat) (ls:List EvIt) (w:World) (hl:ls.length<=2048) (hE:EvsIn w a ls) (hok:∀ x∈ls,dw x.1=true) :
 Calls prog 87 #[.slice a ls.length cap,.bool false] w (dL (aj ls.length++jd ((evsOf ls).map (brE false))) w):=by
 obtain ⟨i0,hi,hz0,hz1,hz2⟩:=info_parts Tryz.infoByte;have hsl:=aV ls.length (by omega);have HN:=aa (fun (W:World)=>fC ls.length W (by omega));obtain ⟨bs,hbs⟩:∃ bs,bs=(evsOf ls).map (brE false):=⟨_,rfl⟩;rw [<- hbs];have hbl:bs.length=ls.length:=by rw [hbs,List.length_map,aW]
 have hbk:∀ e∈bs,dw e=true:=fun e he=>by
  rw [hbs] at he;obtain ⟨y,hy,rfl⟩:=List.mem_map.1 he;obtain ⟨x,hx,rfl⟩:=List.mem_map.1 hy;exact VR (hok x hx) (fun h=>by cases h)
 have hbt:∀ k (hk:k<ls.length),bs.take (k+1)=bs.take k++[brE false ls[k].1]:=fun k hk=>by
  rw [List.take_add_one,List.getElem?_eq_getElem (by omega),Option.toList_some];congr 2
  simp only [hbs,List.getElem_map];rw [qB hk]
 have hel:∀ k,(jd (bs.take k)).length<=2048 * 8192:=fun k=>by
  have h1:=uw (bs.take k) fun e he=>hbk e (List.mem_of_mem_take he);rw [List.length_take] at h1;exact Nat.le_trans h1 (Nat.mul_le_mul_right _ (by omega))
 have HBT:=aa (And.intro hbl hbt);have HEL:=aa hel;have HOK:=aa hok;obtain ⟨M,hM⟩:∃ M,M=aj ls.length:=⟨_,rfl⟩;rw [<- hM] at HN hsl ⊢;clear hM hbs hbl hbk hbt hel hok;go_enter func87,ntmps87;go_upto_region 2 with (go_at_call 37;(with_reducible refine (HN.out _).mono ?_);rintro x W ⟨v,rfl,hown,hbt⟩)
 have hzW:=hbt.size;go_wp2;go_loopw [5,6] (fun out i wr=>∃ k:Nat,k<=ls.length/\i=.int .i64 k/\wr.ownsRow w.heap.size 5 1 out (M++jd (bs.take k)).length (aI (M++jd (bs.take k)))/\Below w.heap.size w wr) (fun _ i _=>ls.length - (intOf i).toNat)
 case atStart=>exact ⟨0,Nat.zero_le _,rfl,by simpa [jd] using hown,hbt⟩
 case round =>
  obtain ⟨k,hk,rfl,hown2,hbw⟩:=hrel;clear hown hbt;have hzw:=hbw.size;by_cases hlt:k<ls.length
  ·obtain ⟨A,off,rfl,hra,hda⟩:=(hE.kept hbw).at hlt
   have r1:=hra k hlt;have hoe:=HOK.out _ (List.getElem_mem hlt);have HT:Hid (M++jd (bs.take (k+1))=(M++jd (bs.take k))++evB (brE false ls[k].1)):=by
        unfold Hid;rw [HBT.out.2 k hlt,Fp,List.append_assoc]
   have hln:(M++jd (bs.take k)).length<=16800000:=by have:=HEL.out k;rw [aq];omega
   have HLT:=aa hlt;clear hra;generalize ls[k]=x at *;obtain ⟨e,ax,cx⟩:=x;simp only [kX] at r1;simp only at hoe HT hda;obtain ⟨L,hL⟩:∃ L,L=M++jd (bs.take k):=⟨_,rfl⟩;rw [<- hL] at hown2 hln HT;clear hL hlt;go_upto_region 6 with (first
        | ((with_reducible refine bg _ A (off+k * 19) e ax cx r1 ?_ rfl ?_);exact rfl)
        | (refine bH 61 _ _ _ (ai e ax cx).toArray rfl rfl (by kernel_rfl) rfl (by kernel_rfl) ?_))
   refine aU (fun Wx hWx=>?_);have hbx:Below wr.heap.size wr Wx:=by rw [hWx.out];exact (Below.refl _ _).alloc (al _) _
   have hRx:Wx.rangeAt wr.heap.size 0 (ai e ax cx):=by rw [hWx.out];exact dB e ax cx wr _
   have hg9:Wx.heap[wr.heap.size]?=some (.cells (ai e ax cx).toArray 61 (0,0)):=by rw [hWx.out];exact cu _ _
   have hfz:Wx.frozen? ⟨wr.heap.size,18,none⟩=false:=by simp [World.frozen?,hg9]
   have v18:Wx.cell? ⟨wr.heap.size,18,none⟩=some (.slice ax e.over.length cx):=by have:=hRx 18 _ rfl;rwa [ar] at this
   clear hWx r1 hg9;go_upto_region 8 with fail
   refine aU (fun W6 hW6=>?_);have hb6:Below wr.heap.size wr W6:=by rw [hW6.out];exact hbx
   have R5:W6.rangeAt wr.heap.size 0 (ai e ax cx):=by rw [hW6.out];exact hRx
   obtain ⟨e9,he9⟩:∃ e9:Ev,e9=e:=⟨_,rfl⟩;have HT9:Hid (M++jd (bs.take (k+1))=L++evB e9):=by rw [Hid,HT.out,he9];rfl
   rw [<- he9] at R5 hoe hda;have TK:dw e9=true:=hoe;have HP:=aa (KU e9 ax cx W6 (hda.kept hb6) (rq TK).tiny TK);clear he9 hoe;have hxl:=Dx TK;obtain ⟨X,hX⟩:∃ X,X=evB e9:=⟨_,rfl⟩;rw [<- hX] at HT9 hxl HP;have hB6:=hbw.trans (hb6.mono hzw);have hown6:=ownsRow_below hown2 hb6;clear hX HT hW6 hRx hbx hfz v18 hown2 hbw hb6 hda TK;go_wp2_with (first
        | ((with_reducible refine bg _ wr.heap.size 0 e9 ax cx R5 ?_ rfl ?_);exact rfl)
        | (go_at_call 137;(with_reducible refine HP.out.mono ?_);rintro v w3 ⟨vx,rfl,hown3,hb3⟩;obtain ⟨ay,cy,rfl,LG⟩:=bT hown3;have hB7:=below2 hB6 hb3;have uQ:=ownsRow_below hown6 hb3)
        | (at_builtin;refine fB rfl _ _ rfl rfl w.heap.size _ L rfl uQ ay X cy rfl LG (by omega) hB7.size ?_;intro v4 w4 hown4 hg4))
   have HZ:=aa (And.intro hown4 (hB7.grown hg4 hB7.size (fun k hk=>(uQ.lt k hk).1)));clear hown4 hg4 uQ hB7 LG hown3 hb3 hown6 hB6 R5;go_wp2;go_roundw
   case rel=>exact ⟨k+1,HLT.out,by go_num,by rw [HT9.out];exact HZ.out.1,HZ.out.2⟩
   case measure => exact z64
  ·obtain rfl:k=ls.length:=by omega
   rw [List.take_of_length_le (Nat.le_of_eq HBT.out.1)] at hown2;go_wp2;go_ret;exact ⟨_,rfl,hown2,hbw⟩
theorem IR {l:List Dot} (h:bf l=0):(iO l).length<=200000:=by
 obtain ⟨h0,_⟩:=nM h;have h4:=aV l.length (by omega);have h5:=fK l;unfold iO;rw [aq];omega
theorem P5 (l:List Ev):l.map (brE false)=l:=by
 have:brE false=id:=funext fun e=>rfl;rw [this,List.map_id]
def iq (c:List Dot) (K:List Ev) (d:List Dot):Bytes:=iO c++(aj K.length++jd K)++aj d.length++bY d
theorem Iu (x:RMIt) (w:World) (hI:RMIn w x) (hme:bf x.ctx=0) (hK:x.K.length<=2048) (hdl:x.dead.length<=1048576) (hok:∀ z∈x.K,dw z.1=true) (hdk:∀ d∈x.dead,bi d=true) :
 Calls prog 40 #[oz x] w (dL (iq x.ctx (evsOf x.K) x.dead) w):=by
 have HM:=aa (fun (X:World) (h:DotsIn X x.ac x.ctx)=>Ed x.ac x.cc x.ctx X hme h);have Uy:=fun (X:World) (hE:EvsIn X x.aK x.K)=>IA x.aK x.cK x.K X hK hE hok;have HN:=aa (fun (X:World)=>fC x.dead.length X (by omega));have hml:=IR hme;have hsl:=aV x.dead.length (by omega);have HDK:=aa hdk;have hxl:(aj x.K.length++jd (evsOf x.K)).length<=16800000:=by
  have h1:=aV x.K.length (by omega);have h2:=uw (evsOf x.K) fun e he=>by
   obtain ⟨z,hz,rfl⟩:=List.mem_map.1 he;exact hok z hz
  rw [aW] at h2;rw [aq];omega
 rw [P5] at Uy;unfold iq;rw [aW];obtain ⟨X5,hX5⟩:∃ X5,X5=aj x.K.length++jd (evsOf x.K):=⟨_,rfl⟩;rw [<- hX5] at Uy hxl ⊢;obtain ⟨M,hM⟩:∃ M,M=iO x.ctx:=⟨_,rfl⟩;rw [<- hM] at HM hml ⊢;have HEv:=aa Uy;clear hX5 hM Uy hok hdk hme;go_enter func40,ntmps40;go_upto_region 1 with fail
 refine aU (fun W hW=>?_);have hb0:Below w.heap.size w W.drew:=by rw [hW.out];go_grown
 have c0:W.drew.cell? ⟨w.heap.size,0,none⟩=some (.slice x.ac x.ctx.length x.cc):=by rw [hW.out];go_simp
 have c1:W.drew.cell? ⟨w.heap.size,1,none⟩=some (.slice x.aK x.K.length x.cK):=by rw [hW.out];go_simp
 have c2:W.drew.cell? ⟨w.heap.size,2,none⟩=some (.slice x.ad x.dead.length x.cd):=by rw [hW.out];go_simp
 have h1:=hI.keep hb0;clear hW hI;have TM:=h1.ctx;have hkk:=h1.kept;have H1:=aa (And.intro h1 c2);go_region_law
  (first
   | (go_simp;go_at_call 86;(with_reducible refine (HM.out _ TM).mono ?_);rintro e w3 ⟨v3,rfl,hown,hb3⟩;have k0:=kept hb3 c0;have k1:=kept hb3 c1;have hk3:=hkk.kept hb3;have Jk:=below2 hb0 hb3;have z3:=hb3.size;have Hb3:=aa hb3;clear hb3)
   | (go_simp;go_at_call 87;(with_reducible refine (HEv.out _ hk3).mono ?_);rintro e w5 ⟨v5,rfl,hown5,hb5⟩;obtain ⟨a5,c5,rfl,LJ⟩:=bT hown5;have QM:=ownsRow_below hown hb5;have Yu:=below2 Jk hb5;have hzz:=hb5.size;have Hb5:=aa hb5;clear hb5)
   | (refine o7 rfl (.tmp 7) (.tmp 10) rfl rfl W.drew.heap.size _ M rfl QM a5 X5 c5 rfl LJ (by omega) (Nat.le_trans z3 hzz) ?_;intro v6 w6 hown6 hg6))
 all_goals
  have hbD:Below W.drew.heap.size W.drew w6:=(Hb3.out.trans (Hb5.out.mono z3)).grown hg6 (Nat.le_trans z3 hzz) (fun k hk=>(QM.lt k hk).1);have HB0:=aa hb0;have HZ:=aa (And.intro hown6 (And.intro hbD (And.intro H1.out.1.dead H1.out.2)));clear hown6 hg6 QM LJ Yu hbD hown hown5 hb0 Hb3 Hb5 H1 h1 TM hkk hk3 c0 c1 c2 k0 k1 Jk z3 hzz HM HEv;obtain ⟨Wj,bD6,hdd,hc2⟩:=HZ.out;have Zk:(M++X5).length<=17000001:=by rw [aq];omega
  generalize M++X5=L0 at *;generalize W.drew=W0 at *;have d2:=kept bD6 hc2;clear HZ hml hxl;go_upto_region 3 with (first
   | (go_at_call 37;(with_reducible refine (HN.out _).mono ?_);rintro e w7 ⟨v7,rfl,uQ,hb7⟩;obtain ⟨a7,c7,rfl,xu⟩:=bT uQ;have KZ:=ownsRow_below Wj hb7;have bD7:=below2 bD6 hb7)
   | (at_builtin;refine fB rfl _ _ rfl rfl W0.heap.size _ L0 rfl KZ a7 _ c7 rfl xu (by omega) bD7.size ?_;intro v8 w8 Jd hg8))
  have bD8:=bD7.grown hg8 bD7.size (fun k hk=>(KZ.lt k hk).1);have Zi:(L0++aj x.dead.length).length<=17000100:=by rw [aq];omega
  generalize L0++aj x.dead.length=L1 at *;clear KZ bD7 Wj bD6 uQ xu hg8 hb7 d2 HN;go_wp2;go_loopw [3,4] (fun out i wr=>∃ k:Nat,k<=x.dead.length/\i=.int .i64 k/\wr.ownsRow W0.heap.size 5 1 out (L1++bY (x.dead.take k)).length (aI (L1++bY (x.dead.take k)))/\Below W0.heap.size W0 wr) (fun _ i _=>x.dead.length - (intOf i).toNat)
  case atStart=>exact ⟨0,Nat.zero_le _,rfl,by simpa [bY] using Jd,bD8⟩
  case round =>
   obtain ⟨k,hk,rfl,hown2,hbw⟩:=hrel;clear Jd bD8;have d2:=kept hbw hc2;by_cases hlt:k<x.dead.length
   ·obtain ⟨A,off,hA,q0,q1,q2⟩:=(hdd.kept hbw).at hlt
    have hoe:=HDK.out _ (List.getElem_mem hlt);have HT:Hid (L1++bY (x.dead.take (k+1))=(L1++bY (x.dead.take k))++jK x.dead[k]):=by
     unfold Hid;rw [List.take_add_one,List.getElem?_eq_getElem hlt,Option.toList_some,lX,List.append_assoc]
    have hln:(L1++bY (x.dead.take k)).length<=60000000:=by
     have h1:=fK (x.dead.take k);rw [List.length_take] at h1;rw [aq];omega
    have HLT:=aa hlt;generalize x.dead[k]=d at *;obtain ⟨L,hL⟩:∃ L,L=L1++bY (x.dead.take k):=⟨_,rfl⟩;rw [<- hL] at hown2 hln HT;have HP:=aa (pg d wr hoe);have Yc:=oL d;obtain ⟨X,hX⟩:∃ X,X=jK d:=⟨_,rfl⟩;rw [<- hX] at HT Yc HP;rw [hA] at d2;clear hL hX hlt hoe hA;go_wp2_with (first
     | (go_at_call 88;(with_reducible refine HP.out.mono ?_);rintro v w9 ⟨vx,rfl,E5,hb9⟩;obtain ⟨ay,cy,rfl,LG⟩:=bT E5;have hB9:=below2 hbw hb9;have U6:=ownsRow_below hown2 hb9)
     | (at_builtin;refine fB rfl _ _ rfl rfl W0.heap.size _ L rfl U6 ay X cy rfl LG (by omega) hB9.size ?_;intro v4 w4 hown4 hg4))
    have HZ:=aa (And.intro hown4 (hB9.grown hg4 hB9.size (fun k hk=>(U6.lt k hk).1)));clear hown4 hg4 U6 hB9 LG E5 hb9 hown2 hbw d2 q0 q1 q2;go_wp2;go_roundw
    case rel=>exact ⟨k+1,HLT.out,by go_num,by rw [HT.out];exact HZ.out.1,HZ.out.2⟩
    case measure => exact z64
   ·obtain rfl:k=x.dead.length:=by omega
    rw [List.take_length] at hown2;go_wp2;go_ret;exact ⟨_,rfl,own_base hown2 HB0.out.size,HB0.out.trans (hbw.mono HB0.out.size)⟩
theorem Gh (d i:Nat) (s:Stamp) (y:RMIt) (w:World) (hI:RMIn w y) (hme:bf y.ctx=0) (hK:y.K.length<=2048) (hdl:y.dead.length<=65536) (hok:∀ z∈y.K,dw z.1=true) (hdk:∀ d∈y.dead,bi d=true)
 (hd:d<=63) (hi:i<=1048576) (hs:dM s=true) (hbl:(ckB d i s (iq y.ctx (evsOf y.K) y.dead)).length<=1048576) :
 Calls prog 11 #[.agg (rkA d i s y)] w (dL (frameB (ckB d i s (iq y.ctx (evsOf y.K) y.dead))) w):=by
 have HF:=aa (fun (X:World) (h:RMIn X y)=>Iu y X h hme hK (by omega) hok hdk);have HN1:=aa (fun (X:World)=>fC d X (by omega));have HN2:=aa (fun (X:World)=>fC i X (by omega));have HSt:=aa (fun (X:World)=>uJ s X hs);have hne:ckB d i s (iq y.ctx (evsOf y.K) y.dead)≠[]:=by
  unfold ckB;have:=iJ d;simp [this]
 have hcb:ckB d i s (iq y.ctx (evsOf y.K) y.dead)=aj d++aj i++dG s++bZ (iq y.ctx (evsOf y.K) y.dead):=rfl;have hlen:=hbl;rw [hcb] at hlen;simp only [aq] at hlen;have htl:(iq y.ctx (evsOf y.K) y.dead).length<=1048576:=by
  have:(bZ (iq y.ctx (evsOf y.K) y.dead)).length=(aj (iq y.ctx (evsOf y.K) y.dead).length).length+(iq y.ctx (evsOf y.K) y.dead).length:=by simp [bZ]
  omega
 have HFP:=aa (fun (X:World) (p:Option Addr) (c:Nat) (hX:BytesIn X p (ckB d i s (iq y.ctx (evsOf y.K) y.dead)))=>Ee p c _ X hbl hne hX);have HCB:=aa hcb;clear hcb hbl hne hme hK hdl hok hdk;generalize iq y.ctx (evsOf y.K) y.dead=full at *;generalize ckB d i s full=body at *;have HTx:=aa (fun (X:World)=>lg (mkS full) X (by rw [lq];omega));have g0:IntKind.u64.wrap ((d:Nat):Int)=((d:Nat):Int):=IntWalk.u64_in _ (by omega);have g1:IntKind.u64.wrap ((i:Nat):Int)=((i:Nat):Int):=IntWalk.u64_in _ (by omega);go_enter func11,ntmps11;go_upto_region 1 with fail
 refine aU (fun W hW=>?_);have hbt:Below w.heap.size w W:=by rw [hW.out];go_grown
 have hR:W.rangeAt w.heap.size 0 (Ad d i s y):=by rw [hW.out];exact Ij _ _ _ _ _ _
 have hIW:=hI.keep hbt;have c0:W.cell? ⟨w.heap.size,0,none⟩=some (.int .i64 d):=hR 0 _ rfl;clear hW hI;go_upto_region 2 with (go_at_call 37;(with_reducible refine (HN1.out _).mono ?_);rintro e w1 ⟨v1,rfl,hown1,hb1⟩)
 have c1:w1.cell? ⟨w.heap.size,1,none⟩=some (.int .i64 i):=(ah hR hb1) 1 _ rfl;have l1:=aV d (by omega);have l2:=aV i (by omega);clear c0 HN1 g0;go_upto_region 3 with (first
  | (go_at_call 37;(with_reducible refine (HN2.out _).mono ?_);rintro e w2 ⟨v2,rfl,hown2,hb2⟩;obtain ⟨a2,c2,rfl,hin2⟩:=bT hown2;have U8:=ownsRow_below hown1 hb2;have Es:=below2 hb1 hb2)
  | (at_builtin;refine fB rfl _ _ rfl rfl W.heap.size _ (aj d) rfl U8 a2 (aj i) c2 rfl hin2 (by omega) Es.size ?_;intro v3 w3 hown3 hg3))
 have hb3:=Es.grown hg3 Es.size (fun k hk=>(U8.lt k hk).1);have hS3:=Ap (ah hR hb3);clear U8 Es hown2 hin2 hb2 hg3 hown1 c1 hb1 HN2 g1;go_upto_region 4 with (first
  | ((with_reducible refine bC 23 _ w.heap.size 2 (AX s) (jY s) rfl _ underlying23 rfl (by kernel_rfl) hS3 ?_ rfl ?_);exact rfl)
  | (go_at_call 38;(with_reducible refine (HSt.out _).mono ?_);rintro e w4 ⟨v4,rfl,hown4,hb4⟩;obtain ⟨a4,c4,rfl,GL⟩:=bT hown4;have U7:=ownsRow_below hown3 hb4;have TU:=below2 hb3 hb4)
  | (at_builtin;refine fB rfl _ _ rfl rfl W.heap.size _ (aj d++aj i) rfl U7 a4 (dG s) c4 rfl GL (by simp only [aq];omega) TU.size ?_;intro v5 w5 hown5 hg5))
 have hb5:=TU.grown hg5 TU.size (fun k hk=>(U7.lt k hk).1);have hM5:=UC (ah hR hb5);have hI5:=hIW.keep hb5;clear U7 TU hown4 GL hb4 hg5 hown3 hS3 hb3 HSt hR hIW;go_upto_region 5 with (first
  | ((with_reducible refine bC 35 _ w.heap.size 5 [.slice y.ac y.ctx.length y.cc,.slice y.aK y.K.length y.cK,.slice y.ad y.dead.length y.cd] (oz y) rfl _ underlying35 rfl (by kernel_rfl) hM5 ?_ rfl ?_);exact rfl)
  | (go_at_call 40;(with_reducible refine (HF.out _ hI5).mono ?_);rintro e w6 ⟨v6,rfl,hown6,hb6⟩;obtain ⟨a6,c6,rfl,Dc⟩:=bT hown6;have QM:=ownsRow_below hown5 hb6;have Yt:=below2 hb5 hb6;have hcv:=vV Dc full.length c6 (al _);rw [List.take_length] at hcv)
  | (go_at_call 39;(with_reducible refine (HTx.out _).mono ?_);rintro e w7 ⟨v7,rfl,uQ,hb7⟩;rw [show bl (mkS full)=full from rfl] at uQ;obtain ⟨a7,c7,rfl,xu⟩:=bT uQ;have KZ:=ownsRow_below QM hb7;have TT:=below2 Yt hb7)
  | (at_builtin;refine fB rfl _ _ rfl rfl W.heap.size _ (aj d++aj i++dG s) rfl KZ a7 (bZ full) c7 rfl xu (by simp only [aq];omega) TT.size ?_;intro v8 w8 Jd hg8))
 have hb8:=below2 hbt (TT.grown hg8 TT.size (fun k hk=>(KZ.lt k hk).1));rw [<- HCB.out] at Jd;clear KZ TT uQ xu hb7 hg8 hown6 Dc hown5 hM5 hb5 HF HTx hI5;obtain ⟨a8,c8,rfl,Vs⟩:=bT Jd;go_wp2_with (go_at_call 41;(with_reducible refine (HFP.out _ _ _ Vs).mono ?_);rintro e w9 ⟨v9,rfl,E5,hb9⟩)
 go_ret;exact ⟨_,rfl,dS E5 hb8.size,hb8.trans (hb9.mono hb8.size)⟩
end Go.Proofs.YtffobmpeeopadaaGreat
/- A snapshot's body is read as what it was packed of. Conditions: none. -/
namespace Go.Proofs.YtffobmpeeopadaaGreat
open Go.RowKit
theorem MK {dev inc:Nat} {st:Stamp} {full:Bytes} (hd:dev<=63) (hi:inc<=1048576) (hs:dM st=true) (hf:full.length<=1048576):yX (ckB dev inc st full)=(⟨[],0⟩,dev,inc,st,full):=by
 have e1:=dZ 63 dev (aj inc++(dG st++(bZ full++[]))) (by omega) hd;have e2:=dZ 1048576 inc (dG st++(bZ full++[])) (by omega) hi;have e3:=wV hs (bZ full++[]);have e4:=oC 1048576 full [] hf (by omega);have hb:ckB dev inc st full=aj dev++(aj inc++(dG st++(bZ full++[]))):=by simp [ckB]
 unfold yX;rw [hb];simp only [e1,e2,e3,e4]
end Go.Proofs.YtffobmpeeopadaaGreat
