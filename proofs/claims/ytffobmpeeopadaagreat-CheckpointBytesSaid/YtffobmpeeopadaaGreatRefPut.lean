/- What the references pack: numbers, texts, dots, stamps. Conditions: at most 2^29 bytes. -/
import Derived.Test.YtffobmpeeopadaaGreatDec
import Derived.Test.YtffobmpeeopadaaGreatClone
import Derived.Maps.AppendAt
set_option linter.unusedSimpArgs false
set_option linter.unusedVariables false
set_option linter.unnecessarySimpa false
set_option maxHeartbeats 16000000
set_option maxRecDepth 100000
open Go.Proofs.Tryz
namespace Go.Proofs.YtffobmpeeopadaaGreat
open Go.RowKit
theorem jy {w:World} {base:Nat} {v:Value} {l:Bytes} (h:w.ownsRow base 5 1 v l.length (aI l)) (hl:l≠[]):∃ ad cap,v=.slice (some ad) l.length cap/\∀ j u,(aI l)[j]?=some u->w.cell? (ad.add j)=some u:=by
 obtain ⟨a,cap,rfl,hb⟩:=bT h;rcases hb with h0 | ⟨A,off,rfl,hb⟩
 ·exact absurd h0 hl
 ·exact ⟨⟨A,off,none⟩,cap,rfl,hb.news⟩
theorem iJ (n:Nat):aj n≠[]:=by
 rw [aj];split <;> simp
theorem own_below {w w1:World} {base:Nat} {v:Value} {n:Nat} {xs:List Value} (h:w.ownsRow base 5 1 v n xs) (hb:Below w.heap.size w w1):w1.ownsRow base 5 1 v n xs:=ownsRow_below h hb
theorem y56 {p q : Prop} (k : q) (h : PLift q -> p := by
 intro kk
 have hown0 : (w.alloc (Obj.cells #[] 5)).ownsRow w.heap.size 5 1 (.slice (some ⟨w.heap.size, 0, none⟩) 0 0) ([] : Bytes).length (aI []) := World.ownsRow_made _ _ _ (al _) (by decide) rfl
 have hb0 : Below w.heap.size w (w.alloc (Obj.cells #[] 5)) := (Below.refl _ _).alloc (al _) _
 revert hown0 hb0
 exact kk.down) : p := h ⟨k⟩
theorem Bz (n:Nat) (w:World) (hn:n<18446744073709551616):Calls prog 85 #[.int .u64 n] w (dL (aj n) w):=by
 obtain ⟨i0,hi,hz0,hz1,hz2⟩:=info_parts Tryz.infoByte;have hlen:=aV n hn;go_enter func85,ntmps85;go_wp2
 refine y56 ?_
 intro hown0 hb0
 go_loopw [0,3,4] (fun x out i wr=>∃ (m:Nat) (d:Bytes),x=.int .u64 m/\m<=n/\i=.int .i64 d.length/\d.length+(aj m).length=(aj n).length/\aj n=d++aj m/\wr.ownsRow w.heap.size 5 1 out d.length (aI d)/\Below w.heap.size w wr) (fun _ _ i _=>10 - (intOf i).toNat)
 case atStart=>exact ⟨n,[],rfl,al _,rfl,by simp,rfl,hown0,hb0⟩
 case round =>
  obtain ⟨m,d,rfl,hm,rfl,hlen2,hpre,hown2,lL⟩:=hrel;have HP:=aa hpre;clear hpre;have hzw:=lL.size;have YT:0<(aj m).length:=List.length_pos_iff.2 (iJ m);have hd9:d.length<10:=by omega
  by_cases h1:m<128
  ·have hS:=aa (kZ m h1)
   have hx:Hid (Value.int .u8 (m:Int)=.int .u8 (UInt8.ofNat m).toNat):=by unfold Hid;congr 1;rw [UInt8.toNat_ofNat'];omega
   clear hlen2
   exact z45
  ·have hS:=aa (qN m h1)
   have hl0:(aj m).length=(aj (m / 128)).length+1:=by rw [hS.out];simp
   have hl2:(d++[UInt8.ofNat (m % 128+128)]).length+(aj (m / 128)).length=(aj n).length:=by simp;omega
   have HL2:=aa hl2;have hx:Hid (Value.int .u8 ((m:Int) % 128+128)=.int .u8 (UInt8.ofNat (m % 128+128)).toNat):=by unfold Hid;congr 1;rw [UInt8.toNat_ofNat'];omega
   clear hlen2 hl0 hl2;go_wp2_with (at_builtin;go_loud (refine wpList_append_own _ rfl _ _ 40 rfl w.heap.size 5 i0 (.int .u8 0) 1 1 underlying40 hi hz0 hz1 hz2 rfl (by decide) _ _ _ rfl (hown2.alloc _) ⟨wr.heap.size,0,none⟩ 1 1 [_] rfl rfl (cell_one_new _ _ _) (by simp [Value.oneCell']) (by unfold maxLen;omega) (by omega) (by simp;omega) ?_))
   intro v' w2 hown3 hgrow _;have hb3:=(lL.alloc hzw _).grown hgrow (by simp;omega) (fun k hk=>(hown2.lt k hk).1);go_wp2;go_roundw
   case rel=>exact ⟨m / 128,d++[UInt8.ofNat (m % 128+128)],by go_num,by omega,by simp,HL2.out,by rw [HP.out,hS.out];simp,by rw [hx.out] at hown3;simpa [bQ,aI] using hown3,hb3⟩
   case measure => exact z67
theorem fC (n:Nat) (w:World) (hn:n<18446744073709551616):Calls prog 37 #[.int .u64 n] w (dL (aj n) w):=by
 have HP:=aa (fun (W:World)=>Bz n W hn);go_enter func37,ntmps37;go_wp2_with (go_at_call 85;(with_reducible refine (HP.out _).mono ?_);rintro x w1 ⟨v,rfl,hown,hb⟩)
 go_ret;exact ⟨_,rfl,hown,hb⟩
theorem KT (n:Int) (w:World) (h0 : -4398046511104<=n) (h1:n<=4398046511104):Calls prog 198 #[.int .i64 n] w fun x w'=>x=.returned (.int .u64 ((Lib.zigzag n:Nat):Int))/\w=w':=by
 by_cases hp:0<=n
 ·have HE:Hid (((Lib.zigzag n:Nat):Int)=n * 2):=by unfold Hid Lib.zigzag;rw [if_pos hp];omega
  go_enter func198,ntmps198;go_wp2;go_ret;exact ⟨dV (by rw [HE.out];try omega),rfl⟩
 ·have HE:Hid (((Lib.zigzag n:Nat):Int) = -n * 2 - 1):=by unfold Hid Lib.zigzag;rw [if_neg hp];omega
  have hd:decide (0<=n)=false:=decide_eq_false hp;go_enter func198,ntmps198;go_wp2;go_ret;exact ⟨dV (by rw [HE.out];omega),rfl⟩
theorem Ip (n:Int) (w:World) (h0 : -4398046511104<=n) (h1:n<=4398046511104):Calls prog 170 #[.int .i64 n] w (dL (rQ n) w):=by
 have hz:=FT n h0 h1;have HF:=aa (fun (W:World)=>KT n W h0 h1);have HP:=aa (fun (W:World)=>Bz (Lib.zigzag n) W (by omega));go_enter func170,ntmps170;go_wp2_with (first
  | (go_at_call 198;(with_reducible refine (HF.out _).mono ?_);rintro x w1 ⟨rfl,rfl⟩)
  | (go_at_call 85;(with_reducible refine (HP.out _).mono ?_);rintro x w1 ⟨v,rfl,hown,hb⟩))
 go_ret;exact ⟨_,rfl,hown,hb⟩
theorem lg (s:ByteArray) (w:World) (hs:s.size<=268435456):Calls prog 39 #[.string s] w (dL (bZ (bl s)) w):=by
 obtain ⟨i0,hi,hz0,hz1,hz2⟩:=info_parts Tryz.infoByte;have hlen:=aV s.size (by omega);have HP:=aa (fun (W:World)=>fC s.size W (by omega));have HE:Hid (bZ (bl s)=aj s.size++bl s):=rfl;go_enter func39,ntmps39;go_upto_region 2 with (go_at_call 37;(with_reducible refine (HP.out _).mono ?_);rintro x W ⟨v,rfl,hown,hbt⟩)
 have hz:=hbt.size;obtain ⟨cap,w1,hrun,hb1,hz1',hcap,hby,_⟩:=DJ (P:=prog) 9 40 5 underlying9 underlying40 underlying5 W s;replace hown:=own_below hown hb1;replace hbt:=hbt.trans (hb1.mono hz);have hnews:=hby.news;replace hz:=Nat.le_trans hz hb1.size;have hsz:(bl s).length=s.size:=rfl;clear hb1 hcap hby;go_wp2_with (at_builtin;refine wpList_append_own _ rfl _ _ 40 rfl w.heap.size 5 i0 (.int .u8 0) 1 1 underlying40 hi hz0 hz1 hz2 rfl (by decide) _ _ _ rfl hown ⟨W.heap.size,0,none⟩ _ _ (aI (bl s)) rfl (by rw [aZ];simp) hnews (bW _) (by unfold maxLen;omega) (by omega) (by omega) ?_;intro v2 w2 hown2 hgrow _;have hown3:w2.ownsRow w.heap.size 5 1 v2 ((aj s.size)++(bl s)).length (aI ((aj s.size)++(bl s))):=(by rw [bQ,aq];exact hown2);have mZ:=hbt.grown hgrow (by omega) (fun k hk=>(hown.lt k hk).1);have hz3:=Nat.le_trans hz hgrow.size;clear hown2 hgrow;replace hown:=hown3;replace hbt:=mZ;replace hz:=hz3;clear hown3 mZ hz3)
 go_ret;rw [HE.out];exact ⟨_,rfl,hown,hbt⟩
theorem Ef (B:Nat) (fs:List Bool) (w:World) (hf:fs.length<=8) (hb:nV w B fs):Calls prog 169 #[.slice (some ⟨B,0,none⟩) fs.length fs.length] w (dL [UInt8.ofNat (dO fs)] w):=by
 go_enter func169,ntmps169;go_wp2;go_loop [3,4,5] (fun n b i=>∃ k:Nat,k<=fs.length/\i=.int .i64 k/\b=.int .i64 ((2 ^ k:Nat):Int)/\n=.int .i64 (dO (fs.take k):Nat)) (fun _ _ i=>fs.length - (intOf i).toNat)
 case atStart=>exact ⟨0,Nat.zero_le _,rfl,rfl,rfl⟩
 case round =>
  obtain ⟨k,hk,rfl,rfl,rfl⟩:=hrel;have hn1:=uq (fs.take k);have hln:(fs.take k).length=k:=by simp;omega
  rw [hln] at hn1;have hp8:2 ^ k<=2 ^ 8:=Nat.pow_le_pow_right (by omega) (by omega);have hq8:(2:Nat) ^ 8=256:=by decide
  rw [hq8] at hp8;clear hq8;by_cases hlt:k<fs.length
  ·have hc:=hb k hlt
   have hs:=tJ (fs.take k) fs[k];rw [<- List.take_succ_eq_append_getElem hlt,hln] at hs;have hps:Hid (2 ^ (k+1)=2 ^ k * 2):=Nat.pow_succ ..;obtain ⟨p,hp⟩:∃ p,p=2 ^ k:=⟨_,rfl⟩;rw [<- hp] at hs hps hn1 hp8 ⊢;obtain ⟨q,hq⟩:∃ q,q=dO (fs.take k):=⟨_,rfl⟩;rw [<- hq] at hs hn1 ⊢;have HS:=aa hs;clear hs hq hp hln
   cases hbk:fs[k] with
   | true =>
     rw [hbk] at hc HS;clear hbk;go_wp2;go_round
     case rel=>exact ⟨k+1,by omega,by go_num,by rw [hps.out];go_num,by rw [HS.out,if_pos rfl];go_num⟩
     case measure => exact z67
   | false =>
     rw [hbk] at hc HS;clear hbk;go_wp2;go_round
     case rel=>exact ⟨k+1,by omega,by go_num,by rw [hps.out];go_num,by rw [HS.out,if_neg (by decide)];go_num⟩
     case measure => exact z67
  ·have htk:fs.take k=fs:=List.take_of_length_le (by omega)
   rw [htk] at hn1 ⊢;have hx:Hid ((dO fs:Int)=((UInt8.ofNat (dO fs)).toNat:Int)):=by unfold Hid;rw [UInt8.toNat_ofNat'];omega
   clear htk hln;generalize dO fs=q at *;go_wp2;go_ret;refine ⟨_,rfl,?_,by go_grown⟩;refine ⟨rfl,Or.inr ⟨w.heap.size,1,_,rfl,al _,heap_alloc_last w _,by simp,by decide,rfl,?_⟩⟩;simp only [aI,List.map_cons,List.map_nil];rw [<- hx.out];rfl
theorem z12 {p : Prop} (h : p := by
 go_upto_region 1 with fail
 refine aU (fun W0 hW0 => ?_)
 have hb0 : Below w.heap.size w W0 := by rw [hW0.out]; go_grown
 have c0 : W0.cell? ⟨w.heap.size, 0, none⟩ = some (.int .i64 x) := by rw [hW0.out]; go_simp
 have c1 : W0.cell? ⟨w.heap.size, 1, none⟩ = some (.int .i64 y) := by rw [hW0.out]; go_simp
 have c2 : W0.cell? ⟨w.heap.size, 2, none⟩ = some (.int .i64 z) := by rw [hW0.out]; go_simp
 have hz0' : w.heap.size < W0.heap.size := by rw [hW0.out]; simp
 clear hW0
 go_upto_region 2 with (go_at_call 37; (with_reducible refine (H1.out _).mono ?_); rintro e w1 ⟨v, rfl, hown, hbt⟩; have hz := hbt.size)
 replace c1 := kept hbt c1
 have C2 := aa c2
 clear c2
 go_upto_region 3 with (first
  | (go_at_call 37; (with_reducible refine (H2.out _).mono ?_); rintro e w2 ⟨v2, rfl, hown2, hb⟩; replace hown := own_below hown hb; replace hbt := below2 hbt hb; replace hz := Nat.le_trans hz hb.size; obtain ⟨ad, cp, rfl, hnews⟩ := jy hown2 (iJ y); clear hown2 hb)
  | (at_builtin; refine wpList_append_own _ rfl _ _ 40 rfl W0.heap.size 5 i0 (.int .u8 0) 1 1 underlying40 hi hz0 hz1 hz2 rfl (by decide) _ _ _ rfl hown ad _ _ (aI (aj y)) rfl (by rw [aZ]; simp) hnews (bW _) (by unfold maxLen; omega) (by omega) (by omega) ?_; intro v2 w2 hown2 hgrow _; have hown3 : w2.ownsRow W0.heap.size 5 1 v2 ((aj x) ++ (aj y)).length (aI ((aj x) ++ (aj y))) := (by rw [bQ, aq]; exact hown2); have mZ := hbt.grown hgrow (by omega) (fun k hk => (hown.lt k hk).1); have hz3 := Nat.le_trans hz hgrow.size; clear hown2 hgrow; replace hown := hown3; replace hbt := mZ; replace hz := hz3; clear hown3 mZ hz3)
  )
 have c2 := kept hbt C2.out
 go_wp2_with (first
  | (go_at_call 37; (with_reducible refine (H3.out _).mono ?_); rintro e w3 ⟨v3, rfl, hown2, hb⟩; replace hown := own_below hown hb; replace hbt := below2 hbt hb; replace hz := Nat.le_trans hz hb.size; obtain ⟨ad, cp, rfl, hnews⟩ := jy hown2 (iJ z); clear hown2 hb)
  | (at_builtin; refine wpList_append_own _ rfl _ _ 40 rfl W0.heap.size 5 i0 (.int .u8 0) 1 1 underlying40 hi hz0 hz1 hz2 rfl (by decide) _ _ _ rfl hown ad _ _ (aI (aj z)) rfl (by rw [aZ]; simp) hnews (bW _) (by unfold maxLen; omega) (by omega) (by omega) ?_; intro v2 w2 hown2 hgrow _; have hown3 : w2.ownsRow W0.heap.size 5 1 v2 ((aj x ++ aj y) ++ (aj z)).length (aI ((aj x ++ aj y) ++ (aj z))) := (by rw [bQ, aq]; exact hown2); have mZ := hbt.grown hgrow (by omega) (fun k hk => (hown.lt k hk).1); have hz3 := Nat.le_trans hz hgrow.size; clear hown2 hgrow; replace hown := hown3; replace hbt := mZ; replace hz := hz3; clear hown3 mZ hz3)
  )
 go_ret
 rw [HE.out]
 exact ⟨_, rfl, dS hown (by omega), below2 hb0 hbt⟩) : p := h
theorem y31 {p q : Prop} (k : q) (h : PLift q -> p := by
 intro kk
 have hxb : x < 18446744073709551616 := by omega
 have hyb : y < 18446744073709551616 := by omega
 have hzb : z < 18446744073709551616 := by omega
 have hxs : x < 9223372036854775808 := by omega
 have hys : y < 9223372036854775808 := by omega
 have hzs : z < 9223372036854775808 := by omega
 have l1 := aV x hxb
 have l2 := aV y hyb
 have l3 := aV z hzb
 have l12 : (aj x ++ aj y).length <= 20 := by rw [aq]; omega
 have H1 := aa (fun (W : World) => fC x W hxb)
 have H2 := aa (fun (W : World) => fC y W hyb)
 have H3 := aa (fun (W : World) => fC z W hzb)
 revert hxb hyb hzb hxs hys hzs l1 l2 l3 l12 H1 H2 H3
 exact kk.down) : p := h ⟨k⟩
theorem pg (d:Dot) (w:World) (hd:bi d=true):Calls prog 88 #[.agg #[.int .i64 d.a.dev,.int .i64 d.a.inc,.int .i64 d.seq]] w (dL (jK d) w):=by
 obtain ⟨i0,hi,hz0,hz1,hz2⟩:=info_parts Tryz.infoByte;have hq:=hd;unfold bi jh at hq;simp only [Bool.and_eq_true,decide_eq_true_eq] at hq;obtain ⟨x,hx⟩:∃ x:Nat,d.a.dev=x:=⟨(d.a.dev).toNat,by omega⟩;obtain ⟨y,hy⟩:∃ y:Nat,d.a.inc=y:=⟨(d.a.inc).toNat,by omega⟩;obtain ⟨z,hz'⟩:∃ z:Nat,d.seq=z:=⟨(d.seq).toNat,by omega⟩;have HE:Hid (jK d=(aj x++aj y)++aj z):=by unfold Hid jK;rw [if_pos hd,hx,hy,hz'];simp
 rw [hx,hy,hz'] at hq ⊢
 refine y31 ?_
 intro hxb hyb hzb hxs hys hzs l1 l2 l3 l12 H1 H2 H3
 clear hx hy hz' hq hd
 go_enter func88,ntmps88
 exact z12
theorem uJ (d:Stamp) (w:World) (hd:dM d=true):Calls prog 38 #[.agg #[.int .i64 d.wall,.int .i64 d.count,.int .i64 d.dev]] w (dL (dG d) w):=by
 obtain ⟨i0,hi,hz0,hz1,hz2⟩:=info_parts Tryz.infoByte;have hq:=hd;unfold dM at hq;simp only [Bool.and_eq_true,decide_eq_true_eq] at hq;obtain ⟨x,hx⟩:∃ x:Nat,d.wall=x:=⟨(d.wall).toNat,by omega⟩;obtain ⟨y,hy⟩:∃ y:Nat,d.count=y:=⟨(d.count).toNat,by omega⟩;obtain ⟨z,hz'⟩:∃ z:Nat,d.dev=z:=⟨(d.dev).toNat,by omega⟩;have HE:Hid (dG d=(aj x++aj y)++aj z):=by unfold Hid dG;rw [if_pos hd,hx,hy,hz'];simp
 rw [hx,hy,hz'] at hq ⊢
 refine y31 ?_
 intro hxb hyb hzb hxs hys hzs l1 l2 l3 l12 H1 H2 H3
 clear hx hy hz' hq hd
 go_enter func38,ntmps38
 exact z12
theorem Il {w w':World} {b o:Nat} {cs:List Value} {g:Option Nat} (h:w.rangeAt b o cs) (hg:w.grownBy w' g) (hb:b<w.heap.size) (hne:some b≠g):w'.rangeAt b o cs:=fun j v hv=>(World.cell?_of_block (hg.block b hb hne)).trans (h j v hv)
theorem P6 (W:World) (b0 b1 b2 b3 b4:Bool) (t:TypeId):nV (W.alloc (Obj.cells #[.bool b0,.bool b1,.bool b2,.bool b3,.bool b4] t)) W.heap.size [b0,b1,b2,b3,b4]:=by
 intro j hj;rw [World.cell?_alloc_new];match j,hj with
 | 0,_ | 1,_ | 2,_ | 3,_ | 4,_=>rfl
theorem own_ne {v v2:Value} {n b:Nat} (hat:v2.ownBlock=v.ownBlock\/v2.ownBlock=some n) (hne:∀ g,v.ownBlock=some g->g≠b) (hb:b<n):∀ g,v2.ownBlock=some g->g≠b:=by
 intro g hg;rcases hat with h | h
 ·exact hne g (h.symm.trans hg)
 ·rw [h] at hg;cases hg;omega
theorem GV {d:Dot} (h:bi d=true):jK d≠[]:=by
 unfold jK;rw [if_pos h];intro e;exact iJ _ (List.append_eq_nil_iff.1 (List.append_eq_nil_iff.1 e).1).1
theorem Oo {d:Stamp} (h:dM d=true):dG d≠[]:=by
 unfold dG;rw [if_pos h];intro e;exact iJ _ (List.append_eq_nil_iff.1 (List.append_eq_nil_iff.1 e).1).1
theorem wJ (l:Bytes):bZ l≠[]:=fun e=>iJ _ (List.append_eq_nil_iff.1 e).1
/-- what has been packed so far, and the local cookie in block bc -/
structure OutInv (W0:World) (bc:Nat) (ck:Ck) (v:Value) (L:Bytes) (W:World):Prop where
 own:W.ownsRow W0.heap.size 5 1 v L.length (aI L)
 bel:Below W0.heap.size W0 W
 K:W.rangeAt bc 0 (uB ck)
 ne:∀ g,v.ownBlock=some g->g≠bc
 lt:bc<W.heap.size
theorem OutInv.step {W0:World} {bc:Nat} {ck:Ck} {v:Value} {L:Bytes} {w w':World} (h:OutInv W0 bc ck v L w) (hb:Below w.heap.size w w'):OutInv W0 bc ck v L w' :=
 ⟨own_below h.own hb,below2 h.bel hb,ah h.K hb,h.ne,Nat.lt_of_lt_of_le h.lt hb.size⟩
theorem OutInv.app {W0:World} {bc:Nat} {ck:Ck} {v v2:Value} {L M:Bytes} {w w2:World} (h:OutInv W0 bc ck v L w) (hown2:w2.ownsRow W0.heap.size 5 1 v2 (L.length+M.length) (aI L++aI M))
 (hg:w.grownBy w2 v.ownBlock) (hat:v2.ownBlock=v.ownBlock\/v2.ownBlock=some w.heap.size):OutInv W0 bc ck v2 (L++M) w2 :=
 ⟨by rw [bQ,aq];exact hown2,h.bel.grown hg h.bel.size (fun k hk=>(h.own.lt k hk).1),Il h.K hg h.lt (fun e=>h.ne _ e.symm rfl),own_ne hat h.ne h.lt,Nat.lt_of_lt_of_le h.lt hg.size⟩
theorem KU (e:Ev) (a:Option Addr) (cap:Nat) (w:World) (qo:DotsIn w a e.over) (ht:EvTiny e) (he:dw e=true) :
 Calls prog 137 #[jC e a cap] w (dL (evB e) w):=by
 obtain ⟨i0,hi,hz0,hz1,hz2⟩:=info_parts Tryz.infoByte;have hfit:=qC he;have hq:=he;unfold dw overOk at hq;simp only [Bool.and_eq_true,decide_eq_true_eq] at hq;obtain ⟨x1,x2,hsd,⟨_,x4⟩,x5⟩:=hq;clear hsd;have hall:=qV _ _ _ x4;have X7:=hfit.over;have nd:=GV x1;have ns:=Oo x2;have d1:=oL e.dot;have d2:=qK e.stamp;have d3:=aV e.over.length (by omega);have d4:=fK e.over;have Xn:∃ fb:Bytes,fb=[UInt8.ofNat (dO [e.kind == 1,e.ck.hostOnly,e.ck.secure,e.ck.httpOnly,e.ck.persistent])]:=⟨_,rfl⟩;obtain ⟨fb,hfb⟩:=Xn;have hfl:fb.length<=1:=by rw [hfb];simp
 have Ym:fb≠[]:=by rw [hfb];simp
 have l12:(jK e.dot++dG e.stamp).length<=60:=by rw [aq];omega
 have l13:((jK e.dot++dG e.stamp)++fb).length<=61:=by rw [aq];omega
 have HB:Hid (evB e=((((jK e.dot++dG e.stamp)++fb)++aj e.over.length)++bY e.over)++lW e):=by
  rw [hfb];unfold Hid evB yS;simp
 have HFs:=aa hfb;have H1:=aa (fun (W:World)=>pg e.dot W x1);have H2:=aa (fun (W:World)=>uJ e.stamp W x2);have h3:∀ (W:World) (B:Nat),nV W B [e.kind == 1,e.ck.hostOnly,e.ck.secure,e.ck.httpOnly,e.ck.persistent]->Calls prog 169 #[.slice (some ⟨B,0,none⟩) 5 5] W (dL fb W):=fun W B h=>by rw [hfb];exact Ef B _ W (by simp) h
 have H3:=aa h3;have H4:=aa (fun (W:World)=>fC e.over.length W (by omega));have HDs:=aa (fun (W:World) (d:Dot) (h:bi d=true)=>pg d W h);have hkind:=hfit.kind;have HA:=aa hall;have HIt:=aa hfit.item;clear h3 hfb he hall x4 x5 hfit;go_enter func137,ntmps137;go_upto_region 1 with fail
 refine aU (fun W0 hW0=>?_);have hb0:Below w.heap.size w W0:=by rw [hW0.out];go_grown
 have hR:W0.rangeAt w.heap.size 0 (ai e a cap):=by rw [hW0.out];exact dB e a cap w _
 have hz0':w.heap.size<W0.heap.size:=by rw [hW0.out];simp
 have ho:=qo.kept hb0;clear hW0 qo;have HR:=aa hR;have q0:=hR 0 _ rfl;rw [ar] at q0;have Q0:=aa q0;have q1:=hR 1 _ rfl;rw [ar] at q1;have Q1:=aa q1;have q2:=hR 2 _ rfl;rw [ar] at q2;have Q2:=aa q2;have q3:=hR 3 _ rfl;rw [ar] at q3;have Q3:=aa q3;have q4:=hR 4 _ rfl;rw [ar] at q4;have Q4:=aa q4;have q5:=hR 5 _ rfl;rw [ar] at q5;have Q5:=aa q5;have q6:=hR 6 _ rfl;rw [ar] at q6;have Q6:=aa q6;have q7:=hR 7 _ rfl;rw [ar] at q7;have Q7:=aa q7;have q8:=hR 8 _ rfl;rw [ar] at q8;have Q8:=aa q8;have q9:=hR 9 _ rfl;rw [ar] at q9;have Q9:=aa q9;have q10:=hR 10 _ rfl;rw [ar] at q10;have Q10:=aa q10;have q11:=hR 11 _ rfl;rw [ar] at q11;have Q11:=aa q11;have q12:=hR 12 _ rfl;rw [ar] at q12;have Q12:=aa q12;have q13:=hR 13 _ rfl;rw [ar] at q13;have Q13:=aa q13;have q14:=hR 14 _ rfl;rw [ar] at q14;have Q14:=aa q14;have q15:=hR 15 _ rfl;rw [ar] at q15;have Q15:=aa q15;have q16:=hR 16 _ rfl;rw [ar] at q16;have Q16:=aa q16;have q17:=hR 17 _ rfl;rw [ar] at q17;have Q17:=aa q17;have q18:=hR 18 _ rfl;rw [ar] at q18;have Q18:=aa q18;clear hR q0 q1 q2 q3 q4 q5 q6 q7 q8 q9 q10 q11 q12 q13 q14 q15 q16 q17 q18;have q0:=Q0.out;have q1:=Q1.out;have q2:=Q2.out;go_upto_region 2 with (go_at_call 88;(with_reducible refine (H1.out _).mono ?_);rintro x w1 ⟨v,rfl,hown,hbt⟩;have hz:=hbt.size)
 clear q0 q1 q2;have q3:=kept hbt Q3.out;have q4:=kept hbt Q4.out;have q5:=kept hbt Q5.out;go_upto_region 3 with (first
  | (go_at_call 38;(with_reducible refine (H2.out _).mono ?_);rintro x w2 ⟨v2,rfl,hown2,hb⟩;replace hown:=own_below hown hb;replace hbt:=below2 hbt hb;replace hz:=Nat.le_trans hz hb.size;obtain ⟨ad,cp,rfl,hnews⟩:=jy hown2 ns;clear hown2 hb)
  | (at_builtin;refine wpList_append_own _ rfl _ _ 40 rfl W0.heap.size 5 i0 (.int .u8 0) 1 1 underlying40 hi hz0 hz1 hz2 rfl (by decide) _ _ _ rfl hown ad _ _ (aI (dG e.stamp)) rfl (by rw [aZ];simp) hnews (bW _) (by unfold maxLen;omega) (by omega) (by omega) ?_;intro v2 w2 hown2 hgrow _;have hown3:w2.ownsRow W0.heap.size 5 1 v2 ((jK e.dot)++(dG e.stamp)).length (aI ((jK e.dot)++(dG e.stamp))):=(by rw [bQ,aq];exact hown2);have mZ:=hbt.grown hgrow (by omega) (fun k hk=>(hown.lt k hk).1);have hz3:=Nat.le_trans hz hgrow.size;clear hown2 hgrow;replace hown:=hown3;replace hbt:=mZ;replace hz:=hz3;clear hown3 mZ hz3)
  )
 refine aU (fun W3 hW3=>?_);rw [<- hW3.out] at hown hbt hz;clear hW3 q3 q4 q5;have q10:=kept hbt Q10.out;have q11:=kept hbt Q11.out;have q12:=kept hbt Q12.out;have q13:=kept hbt Q13.out;have q14:=kept hbt Q14.out;have q15:=kept hbt Q15.out;have q16:=kept hbt Q16.out;have q17:=kept hbt Q17.out;have hltW:=hown.lt;go_upto_region 4 with (refine bH 59 _ _ _ (uB e.ck).toArray rfl rfl (by kernel_rfl) rfl (by kernel_rfl) ?_)
 clear q10 q11 q12 q13 q14 q15 q16 q17;refine aU (fun W4 hW4=>?_);have hb4:Below W3.heap.size W3 W4:=by rw [hW4.out];exact (Below.refl _ _).alloc (al _) _
 have hK:W4.rangeAt W3.heap.size 0 (uB e.ck):=by rw [hW4.out];intro j u hj;rw [ar,World.cell?_alloc_new];simpa using hj
 have hbc:W3.heap.size<W4.heap.size:=by rw [hW4.out];simp
 have HI:OutInv W0 W3.heap.size e.ck v2 (jK e.dot++dG e.stamp) W4:=⟨own_below hown hb4,below2 hbt hb4,hK,fun g hg=>by have:=(hltW g hg).2;omega,hbc⟩;clear hW4 hb4 hltW hown hbt hz hK hbc;have q6:=kept HI.bel Q6.out;have k1:=HI.K 1 _ rfl;rw [ar] at k1;have k2:=HI.K 2 _ rfl;rw [ar] at k2;have k3:=HI.K 3 _ rfl;rw [ar] at k3;have k4:=HI.K 4 _ rfl;rw [ar] at k4;have hba:∀ o,Below W4.heap.size W4 (W4.alloc o):=fun o=>(Below.refl W4.heap.size W4).alloc (al _) o;go_upto_region 5 with (first
  | (go_at_call 169;(with_reducible refine (H3.out _ _ (P6 _ _ _ _ _ _ _)).mono ?_);rintro x wj ⟨vj,rfl,hown2,hb⟩;replace HI:=(HI.step (hba _)).step hb;obtain ⟨ad,cp,rfl,hnews⟩:=jy hown2 Ym;have hzz:=HI.bel.size;clear hown2 hb)
  | (at_builtin;refine wpList_append_own_at _ rfl _ _ 40 rfl W0.heap.size 5 i0 (.int .u8 0) 1 1 underlying40 hi hz0 hz1 hz2 rfl (by decide) _ _ _ rfl HI.own ad _ _ (aI fb) rfl (by rw [aZ];simp) hnews (bW _) (by unfold maxLen;omega) (by omega) hzz ?_;intro v2 w2 hown2 hgrow _ hat;replace HI:=HI.app hown2 hgrow hat;clear hown2 hgrow hat hnews hzz)
  )
 clear q6 k1 k2 k3 k4 hba;have q18:=kept HI.bel Q18.out;go_upto_region 6 with (first
  | (go_at_call 37;(with_reducible refine (H4.out _).mono ?_);rintro x wj ⟨vj,rfl,hown2,hb⟩;replace HI:=HI.step hb;obtain ⟨ad,cp,rfl,hnews⟩:=jy hown2 (iJ _);have hzz:=HI.bel.size;clear hown2 hb)
  | (at_builtin;refine wpList_append_own_at _ rfl _ _ 40 rfl W0.heap.size 5 i0 (.int .u8 0) 1 1 underlying40 hi hz0 hz1 hz2 rfl (by decide) _ _ _ rfl HI.own ad _ _ (aI (aj e.over.length)) rfl (by rw [aZ];simp) hnews (bW _) (by unfold maxLen;omega) (by omega) hzz ?_;intro v2 w2 hown2 hgrow _ hat;replace HI:=HI.app hown2 hgrow hat;clear hown2 hgrow hat hnews hzz)
  )
 clear q18;obtain ⟨LL,hLL⟩:∃ LL,LL=((jK e.dot++dG e.stamp)++fb)++aj e.over.length:=⟨_,rfl⟩;have hLn:LL.length<=1000:=by rw [hLL];simp only [aq];omega
 rw [<- hLL] at HI HB;clear hLL;have HO:=aa ho;have hd0:LL=LL++bY (e.over.take 0):=by simp [bY]
 rw [hd0] at HI;clear ho hd0;go_wp2;go_loopw [3,5] (fun out i wr=>∃ k:Nat,k<=e.over.length/\i=.int .i64 k/\OutInv W0 W3.heap.size e.ck out (LL++bY (e.over.take k)) wr) (fun _ i _=>e.over.length - (intOf i).toNat)
 case atStart=>exact ⟨0,Nat.zero_le _,rfl,HI⟩
 case round =>
  obtain ⟨k,hk,rfl,HI⟩:=hrel;have q18:=kept HI.bel Q18.out;by_cases hlt:k<e.over.length
  ·have hlk:=fK (e.over.take k)
   rw [List.length_take,Nat.min_eq_left hk] at hlk;have hLk:(LL++bY (e.over.take k)).length<=4000:=by rw [aq];omega
   have hsn:=lX (e.over.take k) e.over[k];rw [<- List.take_succ_eq_append_getElem hlt] at hsn;have HSn:=aa hsn;have hok:=HA.out _ (List.getElem_mem hlt);have hdl:=oL e.over[k];rcases HO.out with h0 | ⟨A,off,rfl,hd⟩
   ·rw [h0] at hlt;simp at hlt
   have y0:=kept HI.bel (hd.dev k hlt);have y1:=kept HI.bel (hd.inc k hlt);have y2:=kept HI.bel (hd.seq k hlt);obtain ⟨dk,hdk⟩:∃ x,x=e.over[k]:=⟨_,rfl⟩;rw [<- hdk] at y0 y1 y2 hok HSn hdl;have HDk:=aa (fun (W:World)=>HDs.out W dk hok);have hdn:=GV hok;clear hsn hdk hok;go_wp2_with (first
        | (go_at_call 88;(with_reducible refine (HDk.out _).mono ?_);rintro x wj ⟨vj,rfl,hown2,hb⟩;replace HI:=HI.step hb;obtain ⟨ad,cp,rfl,hnews⟩:=jy hown2 hdn;have hzz:=HI.bel.size;clear hown2 hb)
        | (at_builtin;refine wpList_append_own_at _ rfl _ _ 40 rfl W0.heap.size 5 i0 (.int .u8 0) 1 1 underlying40 hi hz0 hz1 hz2 rfl (by decide) _ _ _ rfl HI.own ad _ _ (aI (jK dk)) rfl (by rw [aZ];simp) hnews (bW _) (by unfold maxLen;omega) (by omega) hzz ?_;intro v2 w2 hown2 hgrow _ hat;replace HI:=HI.app hown2 hgrow hat;clear hown2 hgrow hat hnews hzz)
        )
   go_roundw
   case rel=>exact ⟨k+1,by omega,by go_num,by rw [HSn.out,<- List.append_assoc];exact HI⟩
   case measure => exact z67
  ·have htk:e.over.take k=e.over:=List.take_of_length_le (by omega)
   rw [htk] at HI;clear htk;obtain ⟨L5,hL5⟩:∃ L5,L5=LL++bY e.over:=⟨_,rfl⟩;have Zh:L5.length<=4000:=by rw [hL5,aq];omega
   rw [<- hL5] at HI HB;clear hL5;have q6:=kept HI.bel Q6.out;by_cases hk1:e.kind=1
   ·have e1:(e.kind != 1)=false:=by rw [bne_eq_false_iff_eq];exact hk1
    obtain ⟨⟨f1,f2⟩,⟨f3,f4⟩,f5,f6⟩:=HIt.out hk1;obtain ⟨y,hy⟩:∃ y:Nat,e.ck.creation=y:=⟨e.ck.creation.toNat,by omega⟩;obtain ⟨z,hz'⟩:∃ z:Nat,e.ck.access=z:=⟨e.ck.access.toNat,by omega⟩;have HE:Hid (evB e=((((((L5++bZ (bl e.key.name))++bZ (bl e.key.domain))++bZ (bl e.key.path))++bZ (bl e.ck.value))++rQ e.ck.expiry)++aj y)++aj z):=by
     rw [Hid,HB.out];unfold lW;rw [if_pos hk1,hy,hz'];simp
    rw [hy] at f1 f2;rw [hz'] at f3 f4;have HY:=aa hy;have HZ:=aa hz';obtain ⟨s1,s2,s3,s4⟩:=ht
    refine y33 ?_
    intro t1 t2 t3 t4
    simp only [aH] at t1 t2 t3 t4;have t5:=Az e.ck.expiry (by omega) (by omega);have t6:=aV y (by omega);have t7:=aV z (by omega);have yb:y<18446744073709551616:=by omega
    have zb:z<18446744073709551616:=by omega
    have HT1:=aa (fun (W:World)=>lg e.key.name W (by omega));have HT2:=aa (fun (W:World)=>lg e.key.domain W (by omega));have HT3:=aa (fun (W:World)=>lg e.key.path W (by omega));have HT4:=aa (fun (W:World)=>lg e.ck.value W (by omega));have HT5:=aa (fun (W:World)=>Ip e.ck.expiry W (by omega) (by omega));have HT6:=aa (fun (W:World)=>fC y W yb);have HT7:=aa (fun (W:World)=>fC z W zb);clear hy hz' hk1;go_upto_region 12 with fail
    clear q6 q18;have q7:=kept HI.bel Q7.out;go_upto_region 13 with (first
     | (go_at_call 39;(with_reducible refine (HT1.out _).mono ?_);rintro x wj ⟨vj,rfl,hown2,hb⟩;replace HI:=HI.step hb;obtain ⟨ad,cp,rfl,hnews⟩:=jy hown2 (wJ _);have hzz:=HI.bel.size;clear hown2 hb)
     | (at_builtin;refine wpList_append_own_at _ rfl _ _ 40 rfl W0.heap.size 5 i0 (.int .u8 0) 1 1 underlying40 hi hz0 hz1 hz2 rfl (by decide) _ _ _ rfl HI.own ad _ _ (aI (bZ (bl e.key.name))) rfl (by rw [aZ];simp) hnews (bW _) (by unfold maxLen;omega) (by omega) hzz ?_;intro v2 w2 hown2 hgrow _ hat;replace HI:=HI.app hown2 hgrow hat;clear hown2 hgrow hat hnews hzz)
     )
    obtain ⟨M0,hM0⟩:∃ M,M=L5++(bZ (bl e.key.name)):=⟨_,rfl⟩;have Ze:M0.length<=20000000:=by rw [hM0,aq];omega
    rw [<- hM0] at HI HE;clear hM0 q7;have q8:=kept HI.bel Q8.out;go_upto_region 14 with (first
     | (go_at_call 39;(with_reducible refine (HT2.out _).mono ?_);rintro x wj ⟨vj,rfl,hown2,hb⟩;replace HI:=HI.step hb;obtain ⟨ad,cp,rfl,hnews⟩:=jy hown2 (wJ _);have hzz:=HI.bel.size;clear hown2 hb)
     | (at_builtin;refine wpList_append_own_at _ rfl _ _ 40 rfl W0.heap.size 5 i0 (.int .u8 0) 1 1 underlying40 hi hz0 hz1 hz2 rfl (by decide) _ _ _ rfl HI.own ad _ _ (aI (bZ (bl e.key.domain))) rfl (by rw [aZ];simp) hnews (bW _) (by unfold maxLen;omega) (by omega) hzz ?_;intro v2 w2 hown2 hgrow _ hat;replace HI:=HI.app hown2 hgrow hat;clear hown2 hgrow hat hnews hzz)
     )
    obtain ⟨M1,hM1⟩:∃ M,M=M0++(bZ (bl e.key.domain)):=⟨_,rfl⟩;have Zd:M1.length<=40000000:=by rw [hM1,aq];omega
    rw [<- hM1] at HI HE;clear hM1 q8;have q9:=kept HI.bel Q9.out;go_upto_region 15 with (first
     | (go_at_call 39;(with_reducible refine (HT3.out _).mono ?_);rintro x wj ⟨vj,rfl,hown2,hb⟩;replace HI:=HI.step hb;obtain ⟨ad,cp,rfl,hnews⟩:=jy hown2 (wJ _);have hzz:=HI.bel.size;clear hown2 hb)
     | (at_builtin;refine wpList_append_own_at _ rfl _ _ 40 rfl W0.heap.size 5 i0 (.int .u8 0) 1 1 underlying40 hi hz0 hz1 hz2 rfl (by decide) _ _ _ rfl HI.own ad _ _ (aI (bZ (bl e.key.path))) rfl (by rw [aZ];simp) hnews (bW _) (by unfold maxLen;omega) (by omega) hzz ?_;intro v2 w2 hown2 hgrow _ hat;replace HI:=HI.app hown2 hgrow hat;clear hown2 hgrow hat hnews hzz)
     )
    obtain ⟨M2,hM2⟩:∃ M,M=M1++(bZ (bl e.key.path)):=⟨_,rfl⟩;have Zc:M2.length<=60000000:=by rw [hM2,aq];omega
    rw [<- hM2] at HI HE;clear hM2 q9;have k0:=HI.K 0 _ rfl;rw [ar] at k0;go_upto_region 16 with (first
     | (go_at_call 39;(with_reducible refine (HT4.out _).mono ?_);rintro x wj ⟨vj,rfl,hown2,hb⟩;replace HI:=HI.step hb;obtain ⟨ad,cp,rfl,hnews⟩:=jy hown2 (wJ _);have hzz:=HI.bel.size;clear hown2 hb)
     | (at_builtin;refine wpList_append_own_at _ rfl _ _ 40 rfl W0.heap.size 5 i0 (.int .u8 0) 1 1 underlying40 hi hz0 hz1 hz2 rfl (by decide) _ _ _ rfl HI.own ad _ _ (aI (bZ (bl e.ck.value))) rfl (by rw [aZ];simp) hnews (bW _) (by unfold maxLen;omega) (by omega) hzz ?_;intro v2 w2 hown2 hgrow _ hat;replace HI:=HI.app hown2 hgrow hat;clear hown2 hgrow hat hnews hzz)
     )
    obtain ⟨M3,hM3⟩:∃ M,M=M2++(bZ (bl e.ck.value)):=⟨_,rfl⟩;have Zb:M3.length<=80000000:=by rw [hM3,aq];omega
    rw [<- hM3] at HI HE;clear hM3 k0;have k5:=HI.K 5 _ rfl;rw [ar] at k5;go_upto_region 17 with (first
     | (go_at_call 170;(with_reducible refine (HT5.out _).mono ?_);rintro x wj ⟨vj,rfl,hown2,hb⟩;replace HI:=HI.step hb;obtain ⟨ad,cp,rfl,hnews⟩:=jy hown2 (iJ _);have hzz:=HI.bel.size;clear hown2 hb)
     | (at_builtin;refine wpList_append_own_at _ rfl _ _ 40 rfl W0.heap.size 5 i0 (.int .u8 0) 1 1 underlying40 hi hz0 hz1 hz2 rfl (by decide) _ _ _ rfl HI.own ad _ _ (aI (rQ e.ck.expiry)) rfl (by rw [aZ];simp) hnews (bW _) (by unfold maxLen;omega) (by omega) hzz ?_;intro v2 w2 hown2 hgrow _ hat;replace HI:=HI.app hown2 hgrow hat;clear hown2 hgrow hat hnews hzz)
     )
    obtain ⟨M4,hM4⟩:∃ M,M=M3++(rQ e.ck.expiry):=⟨_,rfl⟩;have Za:M4.length<=100000000:=by rw [hM4,aq];omega
    rw [<- hM4] at HI HE;clear hM4 k5;have k6:=HI.K 6 _ rfl;rw [ar] at k6;rw [HY.out] at k6;go_upto_region 18 with (first
     | (go_at_call 37;(with_reducible refine (HT6.out _).mono ?_);rintro x wj ⟨vj,rfl,hown2,hb⟩;replace HI:=HI.step hb;obtain ⟨ad,cp,rfl,hnews⟩:=jy hown2 (iJ _);have hzz:=HI.bel.size;clear hown2 hb)
     | (at_builtin;refine wpList_append_own_at _ rfl _ _ 40 rfl W0.heap.size 5 i0 (.int .u8 0) 1 1 underlying40 hi hz0 hz1 hz2 rfl (by decide) _ _ _ rfl HI.own ad _ _ (aI (aj y)) rfl (by rw [aZ];simp) hnews (bW _) (by unfold maxLen;omega) (by omega) hzz ?_;intro v2 w2 hown2 hgrow _ hat;replace HI:=HI.app hown2 hgrow hat;clear hown2 hgrow hat hnews hzz)
     )
    obtain ⟨M5,hM5⟩:∃ M,M=M4++(aj y):=⟨_,rfl⟩;have Y9:M5.length<=120000000:=by rw [hM5,aq];omega
    rw [<- hM5] at HI HE;clear hM5 k6;have k7:=HI.K 7 _ rfl;rw [ar] at k7;rw [HZ.out] at k7;go_wp2_with (first
     | (go_at_call 37;(with_reducible refine (HT7.out _).mono ?_);rintro x wj ⟨vj,rfl,hown2,hb⟩;replace HI:=HI.step hb;obtain ⟨ad,cp,rfl,hnews⟩:=jy hown2 (iJ _);have hzz:=HI.bel.size;clear hown2 hb)
     | (at_builtin;refine wpList_append_own_at _ rfl _ _ 40 rfl W0.heap.size 5 i0 (.int .u8 0) 1 1 underlying40 hi hz0 hz1 hz2 rfl (by decide) _ _ _ rfl HI.own ad _ _ (aI (aj z)) rfl (by rw [aZ];simp) hnews (bW _) (by unfold maxLen;omega) (by omega) hzz ?_;intro v2 w2 hown2 hgrow _ hat;replace HI:=HI.app hown2 hgrow hat;clear hown2 hgrow hat hnews hzz)
     )
    go_ret;rw [HE.out];exact ⟨_,rfl,dS HI.own (by omega),below2 hb0 HI.bel⟩
   ·have e1:(e.kind != 1)=true:=by rw [bne_iff_ne];exact hk1
    have HE:Hid (evB e=L5):=by rw [Hid,HB.out];unfold lW;rw [if_neg hk1];simp
    clear hk1;go_wp2;go_ret;rw [HE.out];exact ⟨_,rfl,dS HI.own (by omega),below2 hb0 HI.bel⟩
end Go.Proofs.YtffobmpeeopadaaGreat
