/- What the references pack: numbers, texts, dots, stamps. Conditions: at most 2^29 bytes. -/
import Derived.Test.YthphepeniaemoaaGreatDec
import Derived.Test.YthphepeniaemoaaGreatClone
import Derived.Maps.AppendAt
set_option linter.unusedSimpArgs false
set_option linter.unusedVariables false
set_option linter.unnecessarySimpa false
set_option maxHeartbeats 16000000
set_option maxRecDepth 100000
open Go.Proofs.Tryz
namespace Go.Proofs.YthphepeniaemoaaGreat
open Go.RowKit
theorem jg {w:World} {base:Nat} {v:Value} {l:Bytes} (h:w.ownsRow base 5 1 v l.length (aA l)) (hl:l≠[]):∃ ad cap,v=.slice (some ad) l.length cap/\∀ j u,(aA l)[j]?=some u->w.cell? (ad.add j)=some u:=by
 obtain ⟨a,cap,rfl,hb⟩:=bP h;rcases hb with h0 | ⟨A,off,rfl,hb⟩
 ·exact absurd h0 hl
 ·exact ⟨⟨A,off,none⟩,cap,rfl,hb.news⟩
theorem gW (n:Nat):aj n≠[]:=by
 rw [aj];split <;> simp
theorem own_below {w w1:World} {base:Nat} {v:Value} {n:Nat} {xs:List Value} (h:w.ownsRow base 5 1 v n xs) (hb:Below w.heap.size w w1):w1.ownsRow base 5 1 v n xs:=ownsRow_below h hb
theorem y56 {p q : Prop} (k : q) (h : PLift q -> p := by
 intro kk
 have hown0 : (w.alloc (Obj.cells #[] 5)).ownsRow w.heap.size 5 1 (.slice (some ⟨w.heap.size, 0, none⟩) 0 0) ([] : Bytes).length (aA []) := World.ownsRow_made _ _ _ (ar _) (by decide) rfl
 have hb0 : Below w.heap.size w (w.alloc (Obj.cells #[] 5)) := (bh _ _).alloc (ar _) _
 revert hown0 hb0
 exact kk.down) : p := h ⟨k⟩
theorem AP (n:Nat) (w:World) (hn:n<18446744073709551616):Calls prog 78 #[.int .u64 n] w (dO (aj n) w):=by
 obtain ⟨i0,hi,hz0,hz1,hz2⟩:=info_parts Tryz.infoByte;have hlen:=aQ n hn;go_enter func78,ntmps78;go_wp2
 refine y56 ?_
 intro hown0 hb0
 go_loopw [0,3,4] (fun x out i wr=>∃ (m:Nat) (d:Bytes),x=.int .u64 m/\m<=n/\i=.int .i64 d.length/\d.length+(aj m).length=(aj n).length/\aj n=d++aj m/\wr.ownsRow w.heap.size 5 1 out d.length (aA d)/\Below w.heap.size w wr) (fun _ _ i _=>10 - (intOf i).toNat)
 case atStart=>exact ⟨n,[],rfl,ar _,rfl,by simp,rfl,hown0,hb0⟩
 case round =>
  obtain ⟨m,d,rfl,hm,rfl,hlen2,hpre,hown2,lm⟩:=hrel;have HP:=aq hpre;clear hpre;have hzw:=lm.size;have XN:0<(aj m).length:=List.length_pos_iff.2 (gW m);have hd9:d.length<10:=by omega
  by_cases h1:m<128
  ·have hS:=aq (kH m h1)
   have hx:Hid (Value.int .u8 (m:Int)=.int .u8 (UInt8.ofNat m).toNat):=by unfold Hid;congr 1;rw [UInt8.toNat_ofNat'];omega
   clear hlen2
   exact z44
  ·have hS:=aq (qL m h1)
   have hl0:(aj m).length=(aj (m / 128)).length+1:=by rw [hS.out];simp
   have hl2:(d++[UInt8.ofNat (m % 128+128)]).length+(aj (m / 128)).length=(aj n).length:=by simp;omega
   have HL2:=aq hl2;have hx:Hid (Value.int .u8 ((m:Int) % 128+128)=.int .u8 (UInt8.ofNat (m % 128+128)).toNat):=by unfold Hid;congr 1;rw [UInt8.toNat_ofNat'];omega
   clear hlen2 hl0 hl2;go_wp2_with (at_builtin;go_loud (refine wpList_append_own _ rfl _ _ 54 rfl w.heap.size 5 i0 (.int .u8 0) 1 1 underlying54 hi hz0 hz1 hz2 rfl (by decide) _ _ _ rfl (hown2.alloc _) ⟨wr.heap.size,0,none⟩ 1 1 [_] rfl rfl (cell_one_new _ _ _) (by simp [Value.oneCell']) (by unfold maxLen;omega) (by omega) (by simp;omega) ?_))
   intro v' w2 hown3 hgrow _;have hb3:=(lm.alloc hzw _).grown hgrow (by simp;omega) (fun k hk=>(hown2.lt k hk).1);go_wp2;go_roundw
   case rel=>exact ⟨m / 128,d++[UInt8.ofNat (m % 128+128)],by go_num,by omega,by simp,HL2.out,by rw [HP.out,hS.out];simp,by rw [hx.out] at hown3;simpa [bG,aA] using hown3,hb3⟩
   case measure => exact z67
theorem fB (n:Nat) (w:World) (hn:n<18446744073709551616):Calls prog 38 #[.int .u64 n] w (dO (aj n) w):=by
 have HP:=aq (fun (W:World)=>AP n W hn);go_enter func38,ntmps38;go_wp2_with (go_at_call 78;(with_reducible refine (HP.out _).mono ?_);rintro x w1 ⟨v,rfl,hown,hb⟩)
 go_ret;exact ⟨_,rfl,hown,hb⟩
theorem J6 (n:Int) (w:World) (h0 : -4398046511104<=n) (h1:n<=4398046511104):Calls prog 205 #[.int .i64 n] w fun x w'=>x=.returned (.int .u64 ((Lib.zigzag n:Nat):Int))/\w=w':=by
 by_cases hp:0<=n
 ·have HE:Hid (((Lib.zigzag n:Nat):Int)=n * 2):=by unfold Hid Lib.zigzag;rw [if_pos hp];omega
  go_enter func205,ntmps205;go_wp2;go_ret;exact ⟨eH (by rw [HE.out];try omega),rfl⟩
 ·have HE:Hid (((Lib.zigzag n:Nat):Int) = -n * 2 - 1):=by unfold Hid Lib.zigzag;rw [if_neg hp];omega
  have hd:decide (0<=n)=false:=aM hp;go_enter func205,ntmps205;go_wp2;go_ret;exact ⟨eH (by rw [HE.out];omega),rfl⟩
theorem GZ (n:Int) (w:World) (h0 : -4398046511104<=n) (h1:n<=4398046511104):Calls prog 170 #[.int .i64 n] w (dO (rV n) w):=by
 have hz:=Fb n h0 h1;have HF:=aq (fun (W:World)=>J6 n W h0 h1);have HP:=aq (fun (W:World)=>AP (Lib.zigzag n) W (by omega));go_enter func170,ntmps170;go_wp2_with (first
  | (go_at_call 205;(with_reducible refine (HF.out _).mono ?_);rintro x w1 ⟨rfl,rfl⟩)
  | (go_at_call 78;(with_reducible refine (HP.out _).mono ?_);rintro x w1 ⟨v,rfl,hown,hb⟩))
 go_ret;exact ⟨_,rfl,hown,hb⟩
theorem kJ (s:ByteArray) (w:World) (hs:s.size<=268435456):Calls prog 40 #[.string s] w (dO (bW (bl s)) w):=by
 obtain ⟨i0,hi,hz0,hz1,hz2⟩:=info_parts Tryz.infoByte;have hlen:=aQ s.size (by omega);have HP:=aq (fun (W:World)=>fB s.size W (by omega));have HE:Hid (bW (bl s)=aj s.size++bl s):=rfl;go_enter func40,ntmps40;go_upto_region 2 with (go_at_call 38;(with_reducible refine (HP.out _).mono ?_);rintro x W ⟨v,rfl,hown,hbt⟩)
 have hz:=hbt.size;obtain ⟨cap,w1,hrun,hb1,hz1',hcap,hby,_⟩:=CU (P:=prog) 9 54 5 underlying9 underlying54 underlying5 W s;replace hown:=own_below hown hb1;replace hbt:=hbt.trans (hb1.mono hz);have hnews:=hby.news;replace hz:=Nat.le_trans hz hb1.size;have hsz:(bl s).length=s.size:=rfl;clear hb1 hcap hby;go_wp2_with (at_builtin;refine wpList_append_own _ rfl _ _ 54 rfl w.heap.size 5 i0 (.int .u8 0) 1 1 underlying54 hi hz0 hz1 hz2 rfl (by decide) _ _ _ rfl hown ⟨W.heap.size,0,none⟩ _ _ (aA (bl s)) rfl (by rw [aU];simp) hnews (bI _) (by unfold maxLen;omega) (by omega) (by omega) ?_;intro v2 w2 hown2 hgrow _;have hown3:w2.ownsRow w.heap.size 5 1 v2 ((aj s.size)++(bl s)).length (aA ((aj s.size)++(bl s))):=(by rw [bG,av];exact hown2);have mG:=hbt.grown hgrow (by omega) (fun k hk=>(hown.lt k hk).1);have hz3:=Nat.le_trans hz hgrow.size;clear hown2 hgrow;replace hown:=hown3;replace hbt:=mG;replace hz:=hz3;clear hown3 mG hz3)
 go_ret;rw [HE.out];exact ⟨_,rfl,hown,hbt⟩
theorem Dz (B:Nat) (fs:List Bool) (w:World) (hf:fs.length<=8) (hb:nC w B fs):Calls prog 169 #[.slice (some ⟨B,0,none⟩) fs.length fs.length] w (dO [UInt8.ofNat (dQ fs)] w):=by
 go_enter func169,ntmps169;go_wp2;go_loop [3,4,5] (fun n b i=>∃ k:Nat,k<=fs.length/\i=.int .i64 k/\b=.int .i64 ((2 ^ k:Nat):Int)/\n=.int .i64 (dQ (fs.take k):Nat)) (fun _ _ i=>fs.length - (intOf i).toNat)
 case atStart=>exact ⟨0,Nat.zero_le _,rfl,rfl,rfl⟩
 case round =>
  obtain ⟨k,hk,rfl,rfl,rfl⟩:=hrel;have hn1:=uz (fs.take k);have hln:(fs.take k).length=k:=by simp;omega
  rw [hln] at hn1;have hp8:2 ^ k<=2 ^ 8:=Nat.pow_le_pow_right (by omega) (by omega);have hq8:(2:Nat) ^ 8=256:=by decide
  rw [hq8] at hp8;clear hq8;by_cases hlt:k<fs.length
  ·have hc:=hb k hlt
   have hs:=tY (fs.take k) fs[k];rw [<- List.take_succ_eq_append_getElem hlt,hln] at hs;have hps:Hid (2 ^ (k+1)=2 ^ k * 2):=Nat.pow_succ ..;obtain ⟨p,hp⟩:∃ p,p=2 ^ k:=⟨_,rfl⟩;rw [<- hp] at hs hps hn1 hp8 ⊢;obtain ⟨q,hq⟩:∃ q,q=dQ (fs.take k):=⟨_,rfl⟩;rw [<- hq] at hs hn1 ⊢;have HS:=aq hs;clear hs hq hp hln
   cases hbk:fs[k] with
   | true =>
     rw [hbk] at hc HS;clear hbk;go_wp2;go_round
     case rel=>exact ⟨k+1,by omega,by go_num,by rw [hps.out];go_num,by rw [HS.out,if_pos rfl];go_num⟩
     case measure => exact z67
   | false =>
     rw [hbk] at hc HS;clear hbk;go_wp2;go_round
     case rel=>exact ⟨k+1,by omega,by go_num,by rw [hps.out];go_num,by rw [HS.out,if_neg (by decide)];go_num⟩
     case measure => exact z67
  ·have htk:fs.take k=fs:=List.take_of_length_le (by omega)
   rw [htk] at hn1 ⊢;have hx:Hid ((dQ fs:Int)=((UInt8.ofNat (dQ fs)).toNat:Int)):=by unfold Hid;rw [UInt8.toNat_ofNat'];omega
   clear htk hln;generalize dQ fs=q at *;go_wp2;go_ret;refine ⟨_,rfl,?_,by go_grown⟩;refine ⟨rfl,bd ⟨w.heap.size,1,_,rfl,ar _,heap_alloc_last w _,by simp,by decide,rfl,?_⟩⟩;simp only [aA,List.map_cons,List.map_nil];rw [<- hx.out];rfl
theorem z11 {p : Prop} (h : p := by
 go_upto_region 1 with fail
 refine aI (fun W0 hW0 => ?_)
 have hb0 : Below w.heap.size w W0 := by rw [hW0.out]; go_grown
 have c0 : W0.cell? ⟨w.heap.size, 0, none⟩ = some (.int .i64 x) := by rw [hW0.out]; go_simp
 have c1 : W0.cell? ⟨w.heap.size, 1, none⟩ = some (.int .i64 y) := by rw [hW0.out]; go_simp
 have c2 : W0.cell? ⟨w.heap.size, 2, none⟩ = some (.int .i64 z) := by rw [hW0.out]; go_simp
 have hz0' : w.heap.size < W0.heap.size := by rw [hW0.out]; simp
 clear hW0
 go_upto_region 2 with (go_at_call 38; (with_reducible refine (H1.out _).mono ?_); rintro e w1 ⟨v, rfl, hown, hbt⟩; have hz := hbt.size)
 replace c1 := kept hbt c1
 have C2 := aq c2
 clear c2
 go_upto_region 3 with (first
  | (go_at_call 38; (with_reducible refine (H2.out _).mono ?_); rintro e w2 ⟨v2, rfl, hown2, hb⟩; replace hown := own_below hown hb; replace hbt := below2 hbt hb; replace hz := Nat.le_trans hz hb.size; obtain ⟨ad, cp, rfl, hnews⟩ := jg hown2 (gW y); clear hown2 hb)
  | (at_builtin; refine wpList_append_own _ rfl _ _ 54 rfl W0.heap.size 5 i0 (.int .u8 0) 1 1 underlying54 hi hz0 hz1 hz2 rfl (by decide) _ _ _ rfl hown ad _ _ (aA (aj y)) rfl (by rw [aU]; simp) hnews (bI _) (by unfold maxLen; omega) (by omega) (by omega) ?_; intro v2 w2 hown2 hgrow _; have hown3 : w2.ownsRow W0.heap.size 5 1 v2 ((aj x) ++ (aj y)).length (aA ((aj x) ++ (aj y))) := (by rw [bG, av]; exact hown2); have mG := hbt.grown hgrow (by omega) (fun k hk => (hown.lt k hk).1); have hz3 := Nat.le_trans hz hgrow.size; clear hown2 hgrow; replace hown := hown3; replace hbt := mG; replace hz := hz3; clear hown3 mG hz3)
  )
 have c2 := kept hbt C2.out
 go_wp2_with (first
  | (go_at_call 38; (with_reducible refine (H3.out _).mono ?_); rintro e w3 ⟨v3, rfl, hown2, hb⟩; replace hown := own_below hown hb; replace hbt := below2 hbt hb; replace hz := Nat.le_trans hz hb.size; obtain ⟨ad, cp, rfl, hnews⟩ := jg hown2 (gW z); clear hown2 hb)
  | (at_builtin; refine wpList_append_own _ rfl _ _ 54 rfl W0.heap.size 5 i0 (.int .u8 0) 1 1 underlying54 hi hz0 hz1 hz2 rfl (by decide) _ _ _ rfl hown ad _ _ (aA (aj z)) rfl (by rw [aU]; simp) hnews (bI _) (by unfold maxLen; omega) (by omega) (by omega) ?_; intro v2 w2 hown2 hgrow _; have hown3 : w2.ownsRow W0.heap.size 5 1 v2 ((aj x ++ aj y) ++ (aj z)).length (aA ((aj x ++ aj y) ++ (aj z))) := (by rw [bG, av]; exact hown2); have mG := hbt.grown hgrow (by omega) (fun k hk => (hown.lt k hk).1); have hz3 := Nat.le_trans hz hgrow.size; clear hown2 hgrow; replace hown := hown3; replace hbt := mG; replace hz := hz3; clear hown3 mG hz3)
  )
 go_ret
 rw [HE.out]
 exact ⟨_, rfl, eP hown (by omega), below2 hb0 hbt⟩) : p := h
theorem y29 {p q : Prop} (k : q) (h : PLift q -> p := by
 intro kk
 have hxb : x < 18446744073709551616 := by omega
 have hyb : y < 18446744073709551616 := by omega
 have hzb : z < 18446744073709551616 := by omega
 have hxs : x < 9223372036854775808 := by omega
 have hys : y < 9223372036854775808 := by omega
 have hzs : z < 9223372036854775808 := by omega
 have l1 := aQ x hxb
 have l2 := aQ y hyb
 have l3 := aQ z hzb
 have l12 : (aj x ++ aj y).length <= 20 := by rw [av]; omega
 have H1 := aq (fun (W : World) => fB x W hxb)
 have H2 := aq (fun (W : World) => fB y W hyb)
 have H3 := aq (fun (W : World) => fB z W hzb)
 revert hxb hyb hzb hxs hys hzs l1 l2 l3 l12 H1 H2 H3
 exact kk.down) : p := h ⟨k⟩
theorem o7 (d:Dot) (w:World) (hd:bn d=true):Calls prog 81 #[.agg #[.int .i64 d.a.dev,.int .i64 d.a.inc,.int .i64 d.seq]] w (dO (jy d) w):=by
 obtain ⟨i0,hi,hz0,hz1,hz2⟩:=info_parts Tryz.infoByte;have hq:=hd;unfold bn jk at hq;simp only [Bool.and_eq_true,decide_eq_true_eq] at hq;obtain ⟨x,hx⟩:∃ x:Nat,d.a.dev=x:=⟨(d.a.dev).toNat,by omega⟩;obtain ⟨y,hy⟩:∃ y:Nat,d.a.inc=y:=⟨(d.a.inc).toNat,by omega⟩;obtain ⟨z,hz'⟩:∃ z:Nat,d.seq=z:=⟨(d.seq).toNat,by omega⟩;have HE:Hid (jy d=(aj x++aj y)++aj z):=by unfold Hid jy;rw [if_pos hd,hx,hy,hz'];simp
 rw [hx,hy,hz'] at hq ⊢
 refine y29 ?_
 intro hxb hyb hzb hxs hys hzs l1 l2 l3 l12 H1 H2 H3
 clear hx hy hz' hq hd
 go_enter func81,ntmps81
 exact z11
theorem uN (d:Stamp) (w:World) (hd:dI d=true):Calls prog 39 #[.agg #[.int .i64 d.wall,.int .i64 d.count,.int .i64 d.dev]] w (dO (dE d) w):=by
 obtain ⟨i0,hi,hz0,hz1,hz2⟩:=info_parts Tryz.infoByte;have hq:=hd;unfold dI at hq;simp only [Bool.and_eq_true,decide_eq_true_eq] at hq;obtain ⟨x,hx⟩:∃ x:Nat,d.wall=x:=⟨(d.wall).toNat,by omega⟩;obtain ⟨y,hy⟩:∃ y:Nat,d.count=y:=⟨(d.count).toNat,by omega⟩;obtain ⟨z,hz'⟩:∃ z:Nat,d.dev=z:=⟨(d.dev).toNat,by omega⟩;have HE:Hid (dE d=(aj x++aj y)++aj z):=by unfold Hid dE;rw [if_pos hd,hx,hy,hz'];simp
 rw [hx,hy,hz'] at hq ⊢
 refine y29 ?_
 intro hxb hyb hzb hxs hys hzs l1 l2 l3 l12 H1 H2 H3
 clear hx hy hz' hq hd
 go_enter func39,ntmps39
 exact z11
theorem GY {w w':World} {b o:Nat} {cs:List Value} {g:Option Nat} (h:w.rangeAt b o cs) (hg:w.grownBy w' g) (hb:b<w.heap.size) (hne:some b≠g):w'.rangeAt b o cs:=fun j v hv=>(World.cell?_of_block (hg.block b hb hne)).trans (h j v hv)
theorem OZ (W:World) (b0 b1 b2 b3 b4:Bool) (t:TypeId):nC (W.alloc (Obj.cells #[.bool b0,.bool b1,.bool b2,.bool b3,.bool b4] t)) W.heap.size [b0,b1,b2,b3,b4]:=by
 intro j hj;rw [World.cell?_alloc_new];match j,hj with
 | 0,_ | 1,_ | 2,_ | 3,_ | 4,_=>rfl
theorem own_ne {v v2:Value} {n b:Nat} (hat:v2.ownBlock=v.ownBlock\/v2.ownBlock=some n) (hne:∀ g,v.ownBlock=some g->g≠b) (hb:b<n):∀ g,v2.ownBlock=some g->g≠b:=by
 intro g hg;rcases hat with h | h
 ·exact hne g (h.symm.trans hg)
 ·rw [h] at hg;cases hg;omega
theorem F9 {d:Dot} (h:bn d=true):jy d≠[]:=by
 unfold jy;rw [if_pos h];intro e;exact gW _ (List.append_eq_nil_iff.1 (List.append_eq_nil_iff.1 e).1).1
theorem Ns {d:Stamp} (h:dI d=true):dE d≠[]:=by
 unfold dE;rw [if_pos h];intro e;exact gW _ (List.append_eq_nil_iff.1 (List.append_eq_nil_iff.1 e).1).1
theorem wE (l:Bytes):bW l≠[]:=fun e=>gW _ (List.append_eq_nil_iff.1 e).1
/-- what has been packed so far, and the local cookie in block bc -/
structure OutInv (W0:World) (bc:Nat) (ck:Ck) (v:Value) (L:Bytes) (W:World):Prop where
 own:W.ownsRow W0.heap.size 5 1 v L.length (aA L)
 bel:Below W0.heap.size W0 W
 K:W.rangeAt bc 0 (uC ck)
 ne:∀ g,v.ownBlock=some g->g≠bc
 lt:bc<W.heap.size
theorem OutInv.step {W0:World} {bc:Nat} {ck:Ck} {v:Value} {L:Bytes} {w w':World} (h:OutInv W0 bc ck v L w) (hb:Below w.heap.size w w'):OutInv W0 bc ck v L w' :=
 ⟨own_below h.own hb,below2 h.bel hb,ai h.K hb,h.ne,Nat.lt_of_lt_of_le h.lt hb.size⟩
theorem OutInv.app {W0:World} {bc:Nat} {ck:Ck} {v v2:Value} {L M:Bytes} {w w2:World} (h:OutInv W0 bc ck v L w) (hown2:w2.ownsRow W0.heap.size 5 1 v2 (L.length+M.length) (aA L++aA M))
 (hg:w.grownBy w2 v.ownBlock) (hat:v2.ownBlock=v.ownBlock\/v2.ownBlock=some w.heap.size):OutInv W0 bc ck v2 (L++M) w2 :=
 ⟨by rw [bG,av];exact hown2,h.bel.grown hg h.bel.size (fun k hk=>(h.own.lt k hk).1),GY h.K hg h.lt (fun e=>h.ne _ e.symm rfl),own_ne hat h.ne h.lt,Nat.lt_of_lt_of_le h.lt hg.size⟩
theorem J7 (e:Ev) (a:Option Addr) (cap:Nat) (w:World) (qm:DotsIn w a e.over) (ht:EvTiny e) (he:dm e=true) :
 Calls prog 126 #[kV e a cap] w (dO (evB e) w):=by
 obtain ⟨i0,hi,hz0,hz1,hz2⟩:=info_parts Tryz.infoByte;have hfit:=qy he;have hq:=he;unfold dm overOk at hq;simp only [Bool.and_eq_true,decide_eq_true_eq] at hq;obtain ⟨x1,x2,hsd,⟨_,x4⟩,x5⟩:=hq;clear hsd;have hall:=qP _ _ _ x4;have WQ:=hfit.over;have nd:=F9 x1;have ns:=Ns x2;have d1:=oJ e.dot;have d2:=qI e.stamp;have d3:=aQ e.over.length (by omega);have d4:=fJ e.over;have VW:∃ fb:Bytes,fb=[UInt8.ofNat (dQ [e.kind == 1,e.ck.hostOnly,e.ck.secure,e.ck.httpOnly,e.ck.persistent])]:=⟨_,rfl⟩;obtain ⟨fb,hfb⟩:=VW;have hfl:fb.length<=1:=by rw [hfb];simp
 have Xi:fb≠[]:=by rw [hfb];simp
 have l12:(jy e.dot++dE e.stamp).length<=60:=by rw [av];omega
 have l13:((jy e.dot++dE e.stamp)++fb).length<=61:=by rw [av];omega
 have HB:Hid (evB e=((((jy e.dot++dE e.stamp)++fb)++aj e.over.length)++bV e.over)++lG e):=by
  rw [hfb];unfold Hid evB yI;simp
 have HFs:=aq hfb;have H1:=aq (fun (W:World)=>o7 e.dot W x1);have H2:=aq (fun (W:World)=>uN e.stamp W x2);have h3:∀ (W:World) (B:Nat),nC W B [e.kind == 1,e.ck.hostOnly,e.ck.secure,e.ck.httpOnly,e.ck.persistent]->Calls prog 169 #[.slice (some ⟨B,0,none⟩) 5 5] W (dO fb W):=fun W B h=>by rw [hfb];exact Dz B _ W (by simp) h
 have H3:=aq h3;have H4:=aq (fun (W:World)=>fB e.over.length W (by omega));have HDs:=aq (fun (W:World) (d:Dot) (h:bn d=true)=>o7 d W h);have hkind:=hfit.kind;have HA:=aq hall;have HIt:=aq hfit.item;clear h3 hfb he hall x4 x5 hfit;go_enter func126,ntmps126;go_upto_region 1 with fail
 refine aI (fun W0 hW0=>?_);have hb0:Below w.heap.size w W0:=by rw [hW0.out];go_grown
 have hR:W0.rangeAt w.heap.size 0 (az e a cap):=by rw [hW0.out];exact dU e a cap w _
 have hz0':w.heap.size<W0.heap.size:=by rw [hW0.out];simp
 have ho:=qm.kept hb0;clear hW0 qm;have HR:=aq hR;have q0:=hR 0 _ rfl;rw [aw] at q0;have Q0:=aq q0;have q1:=hR 1 _ rfl;rw [aw] at q1;have Q1:=aq q1;have q2:=hR 2 _ rfl;rw [aw] at q2;have Q2:=aq q2;have q3:=hR 3 _ rfl;rw [aw] at q3;have Q3:=aq q3;have q4:=hR 4 _ rfl;rw [aw] at q4;have Q4:=aq q4;have q5:=hR 5 _ rfl;rw [aw] at q5;have Q5:=aq q5;have q6:=hR 6 _ rfl;rw [aw] at q6;have Q6:=aq q6;have q7:=hR 7 _ rfl;rw [aw] at q7;have Q7:=aq q7;have q8:=hR 8 _ rfl;rw [aw] at q8;have Q8:=aq q8;have q9:=hR 9 _ rfl;rw [aw] at q9;have Q9:=aq q9;have q10:=hR 10 _ rfl;rw [aw] at q10;have Q10:=aq q10;have q11:=hR 11 _ rfl;rw [aw] at q11;have Q11:=aq q11;have q12:=hR 12 _ rfl;rw [aw] at q12;have Q12:=aq q12;have q13:=hR 13 _ rfl;rw [aw] at q13;have Q13:=aq q13;have q14:=hR 14 _ rfl;rw [aw] at q14;have Q14:=aq q14;have q15:=hR 15 _ rfl;rw [aw] at q15;have Q15:=aq q15;have q16:=hR 16 _ rfl;rw [aw] at q16;have Q16:=aq q16;have q17:=hR 17 _ rfl;rw [aw] at q17;have Q17:=aq q17;have q18:=hR 18 _ rfl;rw [aw] at q18;have Q18:=aq q18;clear hR q0 q1 q2 q3 q4 q5 q6 q7 q8 q9 q10 q11 q12 q13 q14 q15 q16 q17 q18;have q0:=Q0.out;have q1:=Q1.out;have q2:=Q2.out;go_upto_region 2 with (go_at_call 81;(with_reducible refine (H1.out _).mono ?_);rintro x w1 ⟨v,rfl,hown,hbt⟩;have hz:=hbt.size)
 clear q0 q1 q2;have q3:=kept hbt Q3.out;have q4:=kept hbt Q4.out;have q5:=kept hbt Q5.out;go_upto_region 3 with (first
  | (go_at_call 39;(with_reducible refine (H2.out _).mono ?_);rintro x w2 ⟨v2,rfl,hown2,hb⟩;replace hown:=own_below hown hb;replace hbt:=below2 hbt hb;replace hz:=Nat.le_trans hz hb.size;obtain ⟨ad,cp,rfl,hnews⟩:=jg hown2 ns;clear hown2 hb)
  | (at_builtin;refine wpList_append_own _ rfl _ _ 54 rfl W0.heap.size 5 i0 (.int .u8 0) 1 1 underlying54 hi hz0 hz1 hz2 rfl (by decide) _ _ _ rfl hown ad _ _ (aA (dE e.stamp)) rfl (by rw [aU];simp) hnews (bI _) (by unfold maxLen;omega) (by omega) (by omega) ?_;intro v2 w2 hown2 hgrow _;have hown3:w2.ownsRow W0.heap.size 5 1 v2 ((jy e.dot)++(dE e.stamp)).length (aA ((jy e.dot)++(dE e.stamp))):=(by rw [bG,av];exact hown2);have mG:=hbt.grown hgrow (by omega) (fun k hk=>(hown.lt k hk).1);have hz3:=Nat.le_trans hz hgrow.size;clear hown2 hgrow;replace hown:=hown3;replace hbt:=mG;replace hz:=hz3;clear hown3 mG hz3)
  )
 refine aI (fun W3 hW3=>?_);rw [<- hW3.out] at hown hbt hz;clear hW3 q3 q4 q5;have q10:=kept hbt Q10.out;have q11:=kept hbt Q11.out;have q12:=kept hbt Q12.out;have q13:=kept hbt Q13.out;have q14:=kept hbt Q14.out;have q15:=kept hbt Q15.out;have q16:=kept hbt Q16.out;have q17:=kept hbt Q17.out;have hltW:=hown.lt;go_upto_region 4 with (refine cZ 80 _ _ _ (uC e.ck).toArray rfl rfl (by kernel_rfl) rfl (by kernel_rfl) ?_)
 clear q10 q11 q12 q13 q14 q15 q16 q17;refine aI (fun W4 hW4=>?_);have hb4:Below W3.heap.size W3 W4:=by rw [hW4.out];exact (bh _ _).alloc (ar _) _
 have hK:W4.rangeAt W3.heap.size 0 (uC e.ck):=by rw [hW4.out];intro j u hj;rw [aw,World.cell?_alloc_new];simpa using hj
 have hbc:W3.heap.size<W4.heap.size:=by rw [hW4.out];simp
 have HI:OutInv W0 W3.heap.size e.ck v2 (jy e.dot++dE e.stamp) W4:=⟨own_below hown hb4,below2 hbt hb4,hK,fun g hg=>by have:=(hltW g hg).2;omega,hbc⟩;clear hW4 hb4 hltW hown hbt hz hK hbc;have q6:=kept HI.bel Q6.out;have k1:=HI.K 1 _ rfl;rw [aw] at k1;have k2:=HI.K 2 _ rfl;rw [aw] at k2;have k3:=HI.K 3 _ rfl;rw [aw] at k3;have k4:=HI.K 4 _ rfl;rw [aw] at k4;have hba:∀ o,Below W4.heap.size W4 (W4.alloc o):=fun o=>(bh W4.heap.size W4).alloc (ar _) o;go_upto_region 5 with (first
  | (go_at_call 169;(with_reducible refine (H3.out _ _ (OZ _ _ _ _ _ _ _)).mono ?_);rintro x wj ⟨vj,rfl,hown2,hb⟩;replace HI:=(HI.step (hba _)).step hb;obtain ⟨ad,cp,rfl,hnews⟩:=jg hown2 Xi;have hzz:=HI.bel.size;clear hown2 hb)
  | (at_builtin;refine wpList_append_own_at _ rfl _ _ 54 rfl W0.heap.size 5 i0 (.int .u8 0) 1 1 underlying54 hi hz0 hz1 hz2 rfl (by decide) _ _ _ rfl HI.own ad _ _ (aA fb) rfl (by rw [aU];simp) hnews (bI _) (by unfold maxLen;omega) (by omega) hzz ?_;intro v2 w2 hown2 hgrow _ hat;replace HI:=HI.app hown2 hgrow hat;clear hown2 hgrow hat hnews hzz)
  )
 clear q6 k1 k2 k3 k4 hba;have q18:=kept HI.bel Q18.out;go_upto_region 6 with (first
  | (go_at_call 38;(with_reducible refine (H4.out _).mono ?_);rintro x wj ⟨vj,rfl,hown2,hb⟩;replace HI:=HI.step hb;obtain ⟨ad,cp,rfl,hnews⟩:=jg hown2 (gW _);have hzz:=HI.bel.size;clear hown2 hb)
  | (at_builtin;refine wpList_append_own_at _ rfl _ _ 54 rfl W0.heap.size 5 i0 (.int .u8 0) 1 1 underlying54 hi hz0 hz1 hz2 rfl (by decide) _ _ _ rfl HI.own ad _ _ (aA (aj e.over.length)) rfl (by rw [aU];simp) hnews (bI _) (by unfold maxLen;omega) (by omega) hzz ?_;intro v2 w2 hown2 hgrow _ hat;replace HI:=HI.app hown2 hgrow hat;clear hown2 hgrow hat hnews hzz)
  )
 clear q18;obtain ⟨LL,hLL⟩:∃ LL,LL=((jy e.dot++dE e.stamp)++fb)++aj e.over.length:=⟨_,rfl⟩;have hLn:LL.length<=1000:=by rw [hLL];simp only [av];omega
 rw [<- hLL] at HI HB;clear hLL;have HO:=aq ho;have hd0:LL=LL++bV (e.over.take 0):=by simp [bV]
 rw [hd0] at HI;clear ho hd0;go_wp2;go_loopw [3,5] (fun out i wr=>∃ k:Nat,k<=e.over.length/\i=.int .i64 k/\OutInv W0 W3.heap.size e.ck out (LL++bV (e.over.take k)) wr) (fun _ i _=>e.over.length - (intOf i).toNat)
 case atStart=>exact ⟨0,Nat.zero_le _,rfl,HI⟩
 case round =>
  obtain ⟨k,hk,rfl,HI⟩:=hrel;have q18:=kept HI.bel Q18.out;by_cases hlt:k<e.over.length
  ·have hlk:=fJ (e.over.take k)
   rw [List.length_take,Nat.min_eq_left hk] at hlk;have hLk:(LL++bV (e.over.take k)).length<=4000:=by rw [av];omega
   have hsn:=lH (e.over.take k) e.over[k];rw [<- List.take_succ_eq_append_getElem hlt] at hsn;have HSn:=aq hsn;have hok:=HA.out _ (List.getElem_mem hlt);have hdl:=oJ e.over[k];rcases HO.out with h0 | ⟨A,off,rfl,hd⟩
   ·rw [h0] at hlt;simp at hlt
   have y0:=kept HI.bel (hd.dev k hlt);have y1:=kept HI.bel (hd.inc k hlt);have y2:=kept HI.bel (hd.seq k hlt);obtain ⟨dk,hdk⟩:∃ x,x=e.over[k]:=⟨_,rfl⟩;rw [<- hdk] at y0 y1 y2 hok HSn hdl;have HDk:=aq (fun (W:World)=>HDs.out W dk hok);have hdn:=F9 hok;clear hsn hdk hok;go_wp2_with (first
        | (go_at_call 81;(with_reducible refine (HDk.out _).mono ?_);rintro x wj ⟨vj,rfl,hown2,hb⟩;replace HI:=HI.step hb;obtain ⟨ad,cp,rfl,hnews⟩:=jg hown2 hdn;have hzz:=HI.bel.size;clear hown2 hb)
        | (at_builtin;refine wpList_append_own_at _ rfl _ _ 54 rfl W0.heap.size 5 i0 (.int .u8 0) 1 1 underlying54 hi hz0 hz1 hz2 rfl (by decide) _ _ _ rfl HI.own ad _ _ (aA (jy dk)) rfl (by rw [aU];simp) hnews (bI _) (by unfold maxLen;omega) (by omega) hzz ?_;intro v2 w2 hown2 hgrow _ hat;replace HI:=HI.app hown2 hgrow hat;clear hown2 hgrow hat hnews hzz)
        )
   go_roundw
   case rel=>exact ⟨k+1,by omega,by go_num,by rw [HSn.out,<- List.append_assoc];exact HI⟩
   case measure => exact z67
  ·have htk:e.over.take k=e.over:=List.take_of_length_le (by omega)
   rw [htk] at HI;clear htk;obtain ⟨L5,hL5⟩:∃ L5,L5=LL++bV e.over:=⟨_,rfl⟩;have Ye:L5.length<=4000:=by rw [hL5,av];omega
   rw [<- hL5] at HI HB;clear hL5;have q6:=kept HI.bel Q6.out;by_cases hk1:e.kind=1
   ·have e1:(e.kind != 1)=false:=by rw [bne_eq_false_iff_eq];exact hk1
    obtain ⟨⟨f1,f2⟩,⟨f3,f4⟩,f5,f6⟩:=HIt.out hk1;obtain ⟨y,hy⟩:∃ y:Nat,e.ck.creation=y:=⟨e.ck.creation.toNat,by omega⟩;obtain ⟨z,hz'⟩:∃ z:Nat,e.ck.access=z:=⟨e.ck.access.toNat,by omega⟩;have HE:Hid (evB e=((((((L5++bW (bl e.key.name))++bW (bl e.key.domain))++bW (bl e.key.path))++bW (bl e.ck.value))++rV e.ck.expiry)++aj y)++aj z):=by
     rw [Hid,HB.out];unfold lG;rw [if_pos hk1,hy,hz'];simp
    rw [hy] at f1 f2;rw [hz'] at f3 f4;have HY:=aq hy;have HZ:=aq hz';obtain ⟨s1,s2,s3,s4⟩:=ht
    refine y31 ?_
    intro t1 t2 t3 t4
    simp only [aB] at t1 t2 t3 t4;have t5:=Ac e.ck.expiry (by omega) (by omega);have t6:=aQ y (by omega);have t7:=aQ z (by omega);have yb:y<18446744073709551616:=by omega
    have zb:z<18446744073709551616:=by omega
    have HT1:=aq (fun (W:World)=>kJ e.key.name W (by omega));have HT2:=aq (fun (W:World)=>kJ e.key.domain W (by omega));have HT3:=aq (fun (W:World)=>kJ e.key.path W (by omega));have HT4:=aq (fun (W:World)=>kJ e.ck.value W (by omega));have HT5:=aq (fun (W:World)=>GZ e.ck.expiry W (by omega) (by omega));have HT6:=aq (fun (W:World)=>fB y W yb);have HT7:=aq (fun (W:World)=>fB z W zb);clear hy hz' hk1;go_upto_region 12 with fail
    clear q6 q18;have q7:=kept HI.bel Q7.out;go_upto_region 13 with (first
     | (go_at_call 40;(with_reducible refine (HT1.out _).mono ?_);rintro x wj ⟨vj,rfl,hown2,hb⟩;replace HI:=HI.step hb;obtain ⟨ad,cp,rfl,hnews⟩:=jg hown2 (wE _);have hzz:=HI.bel.size;clear hown2 hb)
     | (at_builtin;refine wpList_append_own_at _ rfl _ _ 54 rfl W0.heap.size 5 i0 (.int .u8 0) 1 1 underlying54 hi hz0 hz1 hz2 rfl (by decide) _ _ _ rfl HI.own ad _ _ (aA (bW (bl e.key.name))) rfl (by rw [aU];simp) hnews (bI _) (by unfold maxLen;omega) (by omega) hzz ?_;intro v2 w2 hown2 hgrow _ hat;replace HI:=HI.app hown2 hgrow hat;clear hown2 hgrow hat hnews hzz)
     )
    obtain ⟨M0,hM0⟩:∃ M,M=L5++(bW (bl e.key.name)):=⟨_,rfl⟩;have Yb:M0.length<=20000000:=by rw [hM0,av];omega
    rw [<- hM0] at HI HE;clear hM0 q7;have q8:=kept HI.bel Q8.out;go_upto_region 14 with (first
     | (go_at_call 40;(with_reducible refine (HT2.out _).mono ?_);rintro x wj ⟨vj,rfl,hown2,hb⟩;replace HI:=HI.step hb;obtain ⟨ad,cp,rfl,hnews⟩:=jg hown2 (wE _);have hzz:=HI.bel.size;clear hown2 hb)
     | (at_builtin;refine wpList_append_own_at _ rfl _ _ 54 rfl W0.heap.size 5 i0 (.int .u8 0) 1 1 underlying54 hi hz0 hz1 hz2 rfl (by decide) _ _ _ rfl HI.own ad _ _ (aA (bW (bl e.key.domain))) rfl (by rw [aU];simp) hnews (bI _) (by unfold maxLen;omega) (by omega) hzz ?_;intro v2 w2 hown2 hgrow _ hat;replace HI:=HI.app hown2 hgrow hat;clear hown2 hgrow hat hnews hzz)
     )
    obtain ⟨M1,hM1⟩:∃ M,M=M0++(bW (bl e.key.domain)):=⟨_,rfl⟩;have Ya:M1.length<=40000000:=by rw [hM1,av];omega
    rw [<- hM1] at HI HE;clear hM1 q8;have q9:=kept HI.bel Q9.out;go_upto_region 15 with (first
     | (go_at_call 40;(with_reducible refine (HT3.out _).mono ?_);rintro x wj ⟨vj,rfl,hown2,hb⟩;replace HI:=HI.step hb;obtain ⟨ad,cp,rfl,hnews⟩:=jg hown2 (wE _);have hzz:=HI.bel.size;clear hown2 hb)
     | (at_builtin;refine wpList_append_own_at _ rfl _ _ 54 rfl W0.heap.size 5 i0 (.int .u8 0) 1 1 underlying54 hi hz0 hz1 hz2 rfl (by decide) _ _ _ rfl HI.own ad _ _ (aA (bW (bl e.key.path))) rfl (by rw [aU];simp) hnews (bI _) (by unfold maxLen;omega) (by omega) hzz ?_;intro v2 w2 hown2 hgrow _ hat;replace HI:=HI.app hown2 hgrow hat;clear hown2 hgrow hat hnews hzz)
     )
    obtain ⟨M2,hM2⟩:∃ M,M=M1++(bW (bl e.key.path)):=⟨_,rfl⟩;have X9:M2.length<=60000000:=by rw [hM2,av];omega
    rw [<- hM2] at HI HE;clear hM2 q9;have k0:=HI.K 0 _ rfl;rw [aw] at k0;go_upto_region 16 with (first
     | (go_at_call 40;(with_reducible refine (HT4.out _).mono ?_);rintro x wj ⟨vj,rfl,hown2,hb⟩;replace HI:=HI.step hb;obtain ⟨ad,cp,rfl,hnews⟩:=jg hown2 (wE _);have hzz:=HI.bel.size;clear hown2 hb)
     | (at_builtin;refine wpList_append_own_at _ rfl _ _ 54 rfl W0.heap.size 5 i0 (.int .u8 0) 1 1 underlying54 hi hz0 hz1 hz2 rfl (by decide) _ _ _ rfl HI.own ad _ _ (aA (bW (bl e.ck.value))) rfl (by rw [aU];simp) hnews (bI _) (by unfold maxLen;omega) (by omega) hzz ?_;intro v2 w2 hown2 hgrow _ hat;replace HI:=HI.app hown2 hgrow hat;clear hown2 hgrow hat hnews hzz)
     )
    obtain ⟨M3,hM3⟩:∃ M,M=M2++(bW (bl e.ck.value)):=⟨_,rfl⟩;have X8:M3.length<=80000000:=by rw [hM3,av];omega
    rw [<- hM3] at HI HE;clear hM3 k0;have k5:=HI.K 5 _ rfl;rw [aw] at k5;go_upto_region 17 with (first
     | (go_at_call 170;(with_reducible refine (HT5.out _).mono ?_);rintro x wj ⟨vj,rfl,hown2,hb⟩;replace HI:=HI.step hb;obtain ⟨ad,cp,rfl,hnews⟩:=jg hown2 (gW _);have hzz:=HI.bel.size;clear hown2 hb)
     | (at_builtin;refine wpList_append_own_at _ rfl _ _ 54 rfl W0.heap.size 5 i0 (.int .u8 0) 1 1 underlying54 hi hz0 hz1 hz2 rfl (by decide) _ _ _ rfl HI.own ad _ _ (aA (rV e.ck.expiry)) rfl (by rw [aU];simp) hnews (bI _) (by unfold maxLen;omega) (by omega) hzz ?_;intro v2 w2 hown2 hgrow _ hat;replace HI:=HI.app hown2 hgrow hat;clear hown2 hgrow hat hnews hzz)
     )
    obtain ⟨M4,hM4⟩:∃ M,M=M3++(rV e.ck.expiry):=⟨_,rfl⟩;have X7:M4.length<=100000000:=by rw [hM4,av];omega
    rw [<- hM4] at HI HE;clear hM4 k5;have k6:=HI.K 6 _ rfl;rw [aw] at k6;rw [HY.out] at k6;go_upto_region 18 with (first
     | (go_at_call 38;(with_reducible refine (HT6.out _).mono ?_);rintro x wj ⟨vj,rfl,hown2,hb⟩;replace HI:=HI.step hb;obtain ⟨ad,cp,rfl,hnews⟩:=jg hown2 (gW _);have hzz:=HI.bel.size;clear hown2 hb)
     | (at_builtin;refine wpList_append_own_at _ rfl _ _ 54 rfl W0.heap.size 5 i0 (.int .u8 0) 1 1 underlying54 hi hz0 hz1 hz2 rfl (by decide) _ _ _ rfl HI.own ad _ _ (aA (aj y)) rfl (by rw [aU];simp) hnews (bI _) (by unfold maxLen;omega) (by omega) hzz ?_;intro v2 w2 hown2 hgrow _ hat;replace HI:=HI.app hown2 hgrow hat;clear hown2 hgrow hat hnews hzz)
     )
    obtain ⟨M5,hM5⟩:∃ M,M=M4++(aj y):=⟨_,rfl⟩;have X6:M5.length<=120000000:=by rw [hM5,av];omega
    rw [<- hM5] at HI HE;clear hM5 k6;have k7:=HI.K 7 _ rfl;rw [aw] at k7;rw [HZ.out] at k7;go_wp2_with (first
     | (go_at_call 38;(with_reducible refine (HT7.out _).mono ?_);rintro x wj ⟨vj,rfl,hown2,hb⟩;replace HI:=HI.step hb;obtain ⟨ad,cp,rfl,hnews⟩:=jg hown2 (gW _);have hzz:=HI.bel.size;clear hown2 hb)
     | (at_builtin;refine wpList_append_own_at _ rfl _ _ 54 rfl W0.heap.size 5 i0 (.int .u8 0) 1 1 underlying54 hi hz0 hz1 hz2 rfl (by decide) _ _ _ rfl HI.own ad _ _ (aA (aj z)) rfl (by rw [aU];simp) hnews (bI _) (by unfold maxLen;omega) (by omega) hzz ?_;intro v2 w2 hown2 hgrow _ hat;replace HI:=HI.app hown2 hgrow hat;clear hown2 hgrow hat hnews hzz)
     )
    go_ret;rw [HE.out];exact ⟨_,rfl,eP HI.own (by omega),below2 hb0 HI.bel⟩
   ·have e1:(e.kind != 1)=true:=by rw [bne_iff_ne];exact hk1
    have HE:Hid (evB e=L5):=by rw [Hid,HB.out];unfold lG;rw [if_neg hk1];simp
    clear hk1;go_wp2;go_ret;rw [HE.out];exact ⟨_,rfl,eP HI.own (by omega),below2 hb0 HI.bel⟩
end Go.Proofs.YthphepeniaemoaaGreat
