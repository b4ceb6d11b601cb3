/- The map of events: Deads. Conditions: as in the text. -/
import Derived.Test.YthphepeniaemoaaGreatOrmH
import Derived.Laws.IdiomRangeMap
import Derived.Maps.AppendAt
set_option linter.unusedSimpArgs false
set_option linter.unusedVariables false
set_option linter.unnecessarySimpa false
set_option maxHeartbeats 16000000
set_option maxRecDepth 100000
open Go.Proofs.Tryz
namespace Go.Proofs.YthphepeniaemoaaGreat
open Go.RowKit
/-- behind what hands back dots of the call's own -/
def TQ (L:List Dot) (w:World) (e:Ending) (w':World):Prop :=
 ∃ v,e=.returned v/\w'.ownsRow w.heap.size 76 3 v L.length (aI L)/\(v=.slice none 0 0↔L=[])/\Below w.heap.size w w'
theorem BF {m:Nat} {b:MB} {s:MS} (w:World) (h:MpIn w m b s) (hK:s.dead.length<=536870912) (hdk:∀ x∈s.dead,DotW x) :
 Calls prog 103 #[.pointer (some ⟨m,0,none⟩)] w (TQ (sortD s.dead) w):=by
 obtain ⟨i0,hi,hz0,hz1,hz2⟩:=info_parts Tryz.infoDot;obtain ⟨c0,c1,c2,c3⟩:=bU h.cell;have htab:=h.dead;have HBK:=aa (h.low (iW b s.A));have hKl:(ones s.dead).length<=536870912:=by unfold ones;rw [List.length_map];exact hK
 clear c0 c1 c3 h;go_enter func103,ntmps103;go_wp2_with (at_range;refine iK jb _ rfl _ 121 rfl 3 underlying121 b.db rfl htab ?_;intro w0 Po hrg0 hb0 hs0)
 go_frame
 go_loopw [3] (fun v wr=>∃ rest cnt ks,TabIt prog 76 bT DotW jQ wr b.db w.heap.size (ones s.dead) rest cnt/\(ks++rest.map (·.1)).Perm ((ones s.dead).map (·.1))/\wr.ownsRow (w.heap.size+1) 76 3 v ks.length (aI ks)/\Below w.heap.size w wr) (fun _ wr=>wr.rangeLeft b.db w.heap.size)
 case atStart=>exact ⟨(ones s.dead),_,[],hrg0,List.Perm.refl _,World.ownsRow_nil _ _ _ _,hb0⟩
 case round =>
  obtain ⟨rest, cnt, ks, hrg, hC, hown, hbw⟩ := hrel
  have hzw : w.heap.size + 1 <= wr.heap.size := by have := hrg.lt; omega
  have HLE := aa hrg.left_eq
  go_wp2_with (at_next;refine iC jb _ rfl _ rfl b.db w.heap.size cnt rfl hrg ?_ ?_)
  rotate_left
  ·intro x n rest' w2 cnt2 hperm hpm hrg2 hlt hg2 hs2 hen
   have hlen:ks.length<(ones s.dead).length:=by
        exact z86
   have HC2:Hid (((ks++[x])++rest'.map (·.1)).Perm ((ones s.dead).map (·.1))):=by
        exact z41
   have hNlt:=hrg.lt
   refine y24 ?_
   intro hown2 hb2
   have hsz2:=hg2.size;clear hs2 hown hrg hg2;go_upto_region 7 with fail
   refine y18 ?_
   intro W3 hb3 y0 y1 y2 hown3 hrg3 hsz3
   have hbw3:Below w.heap.size w W3:=hb2.trans (hb3.mono hb2.size);clear hown2 hrg2 hb2;go_wp2_with (at_builtin;refine wpList_append_own _ rfl _ _ 44 rfl (w.heap.size+1) 76 i0 (.agg #[.int .i64 0,.int .i64 0,.int .i64 0]) 3 24 underlying44 hi hz0 hz1 hz2 rfl (by decide) _ _ _ rfl (hown3.alloc _) ⟨W3.heap.size,0,none⟩ 1 1 [.int .i64 x.a.dev,.int .i64 x.a.inc,.int .i64 x.seq] rfl rfl (gX _ _ _) (by simp [Value.oneCell']) (by unfold maxLen;omega) (by omega) (by simp;omega) ?_;intro v2 w4 hown4 hgrow _)
   refine y35 ?_
   intro hb4
   have hrg4:TabIt prog 76 bT DotW jQ w4 b.db w.heap.size (ones s.dead) rest' cnt2:=by
        have h4:=hrg3.kept hb4;have hlo:b.db<w.heap.size+1:=by have:=HBK.out;omega
        exact z57
   have HZ := aa (a7 (show w4.ownsRow (w.heap.size + 1) 76 3 v2 (ks ++ [x]).length (aI (ks ++ [x])) by rw [gV, ar]; exact hown4) (a7 hrg4 ((hbw3.trans (hb4.mono hbw3.size)).grown hgrow (by simp; omega) (fun j hj => by have := (hown3.lt j hj).1; omega))))
   clear hown4 hrg4 hgrow hown3 hrg3 y0 y1 y2
   go_wp2
   go_roundw
   case rel => exact ⟨rest', cnt2, ks ++ [x], HZ.out.2.1, HC2.out, HZ.out.1, HZ.out.2.2⟩
   case measure => rw [HZ.out.2.1.left_eq, HLE.out]; exact hlt
  ·intro hr0
   subst hr0;have hperm:ks.Perm ((ones s.dead).map (·.1)):=by simpa using hC
   have hkl:ks.length<=1073741824:=by have:=hperm.length_eq;simp at this;omega
   obtain ⟨aL,cL,rfl,hinL⟩:=gz hown;rw [xW] at hperm;have HS:=aa (zt aL cL ks wr hkl (fun d hd=>hdk d (hperm.mem_iff.1 hd)) hinL);have HE:Hid (sortD s.dead=sortD ks):=kG (fun x=>hperm.mem_iff.symm);clear hperm hinL hown hrg hC;go_wp2_with (go_at_call 149;(with_reducible refine HS.out.mono ?_);rintro x w5 ⟨v5,rfl,h1,h2,h3⟩)
   go_ret;exact ⟨v5,rfl,by rw [HE.out];exact fE h1 hbw.size,by rw [HE.out];exact h2,hbw.trans (h3.mono hbw.size)⟩
def BL (K:List EvIt) (d:Dot):List EvIt:=K.filter fun y=>decide (y.1.dot≠d)
theorem EC:∀ {K:List EvIt} {x:EvIt},(K.map (·.1.dot)).Nodup->x∈K->K.Perm (x :: BL K x.1.dot)
 | [],_,_,h=>(nomatch h)
 | y :: K,x,hn,hx=>by
   rw [List.map_cons,List.nodup_cons] at hn;rcases List.mem_cons.1 hx with rfl | hx2
   ·have:BL (x :: K) x.1.dot=K:=by
        unfold BL;rw [List.filter_cons_of_neg (by simp)];refine List.filter_eq_self.2 fun z hz=>aR fun e=>hn.1 (List.mem_map.2 ⟨z,hz,e⟩)
    rw [this]
   ·have hne:y.1.dot≠x.1.dot:=fun e=>hn.1 (List.mem_map.2 ⟨x,hx2,e.symm⟩)
    have:BL (y :: K) x.1.dot=y :: BL K x.1.dot:=by
        unfold BL;rw [List.filter_cons_of_pos (by simpa using hne)]
    rw [this];exact ((EC hn.2 hx2).cons y).trans (List.Perm.swap ..)
theorem KTab.nodup {w:World} {b:Nat} {K:List EvIt} (h:KTab w b K):(K.map (·.1.dot)).Nodup:=by
 have:=List.pairwise_map.1 h.apart;exact List.pairwise_map.2 this
theorem KTab.drop {w:World} {b:Nat} {K:List EvIt} (h:KTab w b K) {x:EvIt} (hx:x∈K) (ty:TypeId) :
 ∃ w',(Builtin.delete_ #[119,76] ty #[.map (some b),bT x.1.dot]).run prog w=.ok (.tuple #[]) w'/\KTab w' b (BL K x.1.dot)/\Fr (isR b) w w':=by
 have hp:=(EC h.nodup hx).map fun x:EvIt=>(x.1.dot,x);exact Tab.drop_old jb (Tab.perm h hp) underlying119 ty
def inK (K:List EvIt) (d:Dot):Bool:=K.any fun x=>decide (x.1.dot=d)
theorem SX {K:List EvIt} {x:EvIt} (h:x∈K):inK K x.1.dot=true:=List.any_eq_true.2 ⟨x,h,aR rfl⟩
/-- may a dead dot be cleared? -/
def Xm (s:MS) (d:Dot):Bool:=decide (d∈s.dead) && (iI s.ctx d && !inK s.K d)
def Xn (s:MS) (d:Dot):MS:=if Xm s d=true then { s with dead:=s.dead.filter fun x=>decide (x≠d) } else s
section
variable {P:Program} {α β:Type} {k:TypeId} {kv:α->Value} {ok:α->Prop} {vv:β->Value} {ops:Array Oper} {o:Oper} {a:Act} {Q:Exit->Act->World->Prop}
/-- 'range m' as a late operation of a drawn region -/
theorem Ak {K:Act->World->Prop} {E:Prop} {w:World} (hw:Region.wanted o (yielded ops a.tmps)=true) (Kd:Kind P k kv ok) (mo:Operand) (t:TypeId) (hop:o.op=Op.range t mo) (e:TypeId) (ht:P.underlying t=some (.map k e)) (b:Nat) {m:List (α×β)}
 (hm:a.eval mo=.map (some b)) (h:Tab P k kv ok vv w b m)
 (hK:∀ w' cnt,TabIt P k kv ok vv w' b w.heap.size m m cnt->Below w.heap.size w w'->w'.heap.size=w.heap.size+1->K (a.put o.dst (.pointer (some ⟨w.heap.size,0,none⟩))) w') :
 if Region.wanted o (yielded ops a.tmps)=true then Oper.wp P o a w K Q else E:=by
 rw [if_pos hw];obtain ⟨D,h1,h2⟩:=h;obtain ⟨w',hrun,r1,r2,r3⟩:=h1.range Kd.law ht;unfold Oper.wp;simp [execOp,hop,hm,hrun,Result.andThen];exact hK w' _ ⟨D,_,r1,h2,h2.has,fun _ h=>h,h2.apart⟩ (below_grown r2) r3
end
def keyOfS (s:MS) (k:Key):List Ev:=(sortD (atK s.pairs k)).map (evAt s.K)
theorem z17 {p : Prop} (h : p := by (rintro w hSw; have s0 := kept hSw x0; have s1 := kept hSw x1; have s2 := kept hSw x2; have sm := kept hSw xm; have sl := hlk w (h2.alive.kept hSw); go_simp; try with_reducible rfl)) : p := h
theorem Qq {m:Nat} {b:MB} {s:MS} (k:Key) (hkw:KeyW k) (w:World) (h:MpIn w m b s) (hi0:MInv s) :
 Calls prog 185 #[.pointer (some ⟨m,0,none⟩),fM k] w (Dv (keyOfS s k) w):=by
 obtain ⟨i0,hi,hz0,hz1,hz2⟩:=info_parts Tryz.infoDot;have hbd:=(hi0.bounds h).2 k;have hov:∀ x∈s.K,x.1.over.length<=64:=fun x hx=>(dK (hi0.kept x hx).1).2.2.1;have hex:∀ d∈atK s.pairs k,∃ x∈s.K,x.1.dot=d:=fun d hd=>by
  obtain ⟨x,hx,_,h2,_⟩:=(hi0.pairs k d).1 (ik.1 hd);exact ⟨x,hx,h2⟩
 have hdw:∀ d∈atK s.pairs k,DotW d:=fun d hd=>by
  obtain ⟨x,hx,rfl⟩:=hex d hd;exact ig (dK (hi0.kept x hx).1).1
 have hmiss:(∀ p∈s.A,p.1≠k)->atK s.pairs k=[]:=fun hno=>by
  cases hl:atK s.pairs k with
  | nil=>rfl
  | cons d l =>
    obtain ⟨n,hn⟩:=h.keys (k,d) (ik.1 (by rw [hl];exact List.mem_cons_self));exact absurd rfl (hno _ hn)
 have HKO:Hid (keyOfS s k=(sortD (atK s.pairs k)).map (evAt s.K)):=rfl;clear hi0;go_enter func185,ntmps185;go_upto_region 4 with fail
 refine aN (fun W hW=>?_);have hbw:Below w.heap.size w W.drew:=by rw [hW.out];go_grown
 have h2:MpIn W.drew m b s:=h.kept_w hbw;have x0:W.drew.cell? ⟨w.heap.size,0,none⟩=some (.string k.name):=by rw [hW.out];go_simp
 have x1:W.drew.cell? ⟨w.heap.size,1,none⟩=some (.string k.domain):=by rw [hW.out];go_simp
 have x2:W.drew.cell? ⟨w.heap.size,2,none⟩=some (.string k.path):=by rw [hW.out];go_simp
 have xm:W.drew.cell? ⟨m,1,none⟩=some (.map (some b.ab)):=(bU h2.cell).2.1;clear hW h;have HBW:=aa hbw;clear hbw;by_cases hex2:∃ n,(k,n)∈s.A
 ·obtain ⟨nb,hnA⟩:=hex2
  have hlk:∀ X:World,ATab X b.ab s.A->(Instr.lookup 120 (.map (some b.ab)) (fM k) false).run prog X=.ok (.map (some nb)) X:=fun X hX=>Tab.look_hit (w:=X) rD hX underlying120 (z:=.map none) (by kernel_rfl) hnA false;have htab:=h2.inner _ hnA;generalize atK s.pairs k=L at hbd hex hdw hmiss HKO htab;clear hmiss;refine wp_region_noPanic ?_;refine bG (fun X=>Below W.drew.heap.size W.drew X) [] (by kernel_rfl) ?_;have hb0:Below W.drew.heap.size W.drew W.drew:=bb _ _;obtain ⟨wB,hwB⟩:∃ X,X=W.drew:=⟨_,rfl⟩;rw [<- hwB] at h2 x0 x1 x2 xm HBW htab hb0 ⊢;clear hwB;refine tL (v:=?_) 0 9 rfl (a8 ⟨by rfl,?_⟩) ?_
  case refine_2 => exact z17
  try simp only [pS]
  refine tL (v:=?_) 1 10 rfl (a8 ⟨by rfl,?_⟩) ?_
  case refine_2 => exact z17
  try simp only [pS]
  refine tL (v:=?_) 2 11 rfl (a8 ⟨by rfl,?_⟩) ?_
  case refine_2 => exact z17
  try simp only [pS]
  refine tL (v:=?_) 3 12 rfl (a8 ⟨by rfl,?_⟩) ?_
  case refine_2 => exact z17
  try simp only [pS]
  refine tL (v:=?_) 4 13 rfl (a8 ⟨by rfl,?_⟩) ?_
  case refine_2 => exact z17
  try simp only [pS]
  refine tL (v:=?_) 5 14 rfl (a8 ⟨by rfl,?_⟩) ?_
  case refine_2 => exact z17
  try simp only [pS]
  refine bD (i:=6) (o:=⟨some 15,_,_,_,_,_⟩) (by kernel_rfl) rfl ?_;intro K hK;refine Ak (by rfl) jb _ 121 rfl 3 underlying121 nb rfl htab ?_;intro w0 Po hrg0 hb9 hs0;refine hK.out _ _ (ba (hb9)) ?_;clear hK K;try simp only [pS]
  refine y80 ?_
  have HH:=aa h2;have HBK:=aa (h2.low (jL b hnA));have hKl:(ones L).length<=2048:=by unfold ones;rw [List.length_map];exact hbd
  have hb0:=hb9;clear hlk h2 x0 x1 x2 xm hb9;go_wp2;try go_frame
  go_loopw [5] (fun v wr=>∃ rest cnt ks,TabIt prog 76 bT DotW jQ wr nb wB.heap.size (ones L) rest cnt/\(ks++rest.map (·.1)).Perm ((ones L).map (·.1))/\wr.ownsRow (wB.heap.size+1) 76 3 v ks.length (aI ks)/\Below wB.heap.size wB wr) (fun _ wr=>wr.rangeLeft nb wB.heap.size)
  case atStart=>exact ⟨(ones L),_,[],hrg0,List.Perm.refl _,World.ownsRow_nil _ _ _ _,hb0⟩
  case round =>
   obtain ⟨rest,cnt,ks,hrg,hC,hown,hbw⟩:=hrel;have hzw:wB.heap.size+1<=wr.heap.size:=by have:=hrg.lt;omega
   have HLE:=aa hrg.left_eq;go_wp2_with (at_next;refine iC jb _ rfl _ rfl nb wB.heap.size cnt rfl hrg ?_ ?_)
   rotate_left
   ·intro x v1 rest' w2 cnt2 hperm hpm hrg2 hlt hg2 hs2 hen
    have hlen:ks.length<(ones L).length:=by
     exact z86
    have HC2:Hid (((ks++[x])++rest'.map (·.1)).Perm ((ones L).map (·.1))):=by
     have h3:(ks++rest.map (·.1)).Perm ((ks++[x])++rest'.map (·.1)):=by
          have:=(hperm.map (·.1)).append_left ks;simpa using this
     exact h3.symm.trans hC
    have hNlt:=hrg.lt;have hown2:=hown.kept2 hg2 (fun g hg=>by have:=(hown.lt g hg).1;show ¬ g=wB.heap.size;omega);have hb2:Below wB.heap.size wB w2:=hbw.trans (hg2.below hbw.size (fun k hk=>by rw [show k=wB.heap.size from hk];exact aq _));have hsz2:=hg2.size;clear hs2 hown hrg hg2;go_upto_region 7 with fail
    refine y18 ?_
    intro W3 hb3 y0 y1 y2 hown3 hrg3 hsz3
    have hbw3:Below wB.heap.size wB W3:=hb2.trans (hb3.mono hb2.size);clear hown2 hrg2 hb2;go_wp2_with (at_builtin;refine wpList_append_own _ rfl _ _ 44 rfl (wB.heap.size+1) 76 i0 (.agg #[.int .i64 0,.int .i64 0,.int .i64 0]) 3 24 underlying44 hi hz0 hz1 hz2 rfl (by decide) _ _ _ rfl (hown3.alloc _) ⟨W3.heap.size,0,none⟩ 1 1 [.int .i64 x.a.dev,.int .i64 x.a.inc,.int .i64 x.seq] rfl rfl (gX _ _ _) (by simp [Value.oneCell']) (by unfold maxLen;omega) (by omega) (by simp;omega) ?_;intro v2 w4 hown4 hgrow _)
    refine y35 ?_
    intro hb4
    have hrg4:TabIt prog 76 bT DotW jQ w4 nb wB.heap.size (ones L) rest' cnt2:=by
     have h4:=hrg3.kept hb4;have hlo:nb<wB.heap.size+1:=by have:=HBK.out;omega
     exact z57
    have HZ:=aa (a7 (show w4.ownsRow (wB.heap.size+1) 76 3 v2 (ks++[x]).length (aI (ks++[x])) by rw [gV,ar];exact hown4) (a7 hrg4 ((hbw3.trans (hb4.mono hbw3.size)).grown hgrow (by simp;omega) (fun j hj=>by have:=(hown3.lt j hj).1;omega))))
    clear hown4 hrg4 hgrow hown3 hrg3 y0 y1 y2
    go_wp2
    go_roundw
    case rel => exact ⟨rest', cnt2, ks ++ [x], HZ.out.2.1, HC2.out, HZ.out.1, HZ.out.2.2⟩
    case measure => rw [HZ.out.2.1.left_eq, HLE.out]; exact hlt
   ·intro hr0
    subst hr0;have hperm:ks.Perm ((ones L).map (·.1)):=by simpa using hC
    have hkl:ks.length<=1073741824:=by have:=hperm.length_eq;simp at this;omega
    obtain ⟨aL,cL,rfl,hinL⟩:=gz hown;rw [xW] at hperm;have HS:=aa (oJ aL cL ks wr (HH.out.kept_w hbw) hkl hov (fun d hd=>hdw d (hperm.mem_iff.1 hd)) (fun d hd=>hex d (hperm.mem_iff.1 hd)) hinL);have HE:Hid (keyOfS s k=(sortD ks).map (evAt s.K)):=by unfold Hid;rw [HKO.out,kG (fun x=>hperm.mem_iff)]
    clear hperm hinL hown hrg hC;go_wp2_with (go_at_call 141;(with_reducible refine HS.out.mono ?_);rintro x w5 ⟨a5,ls,c5,rfl,h1,h2,h3⟩)
    go_ret;exact ⟨a5,ls,c5,rfl,h1,by rw [HE.out];exact h2,HBW.out.trans ((hbw.trans (h3.mono hbw.size)).mono HBW.out.size)⟩
 ·have hno:∀ p∈s.A,p.1≠k:=fun p hp e=>hex2 ⟨p.2,by rw [<- e];exact hp⟩
  have hlk:∀ X:World,ATab X b.ab s.A->(Instr.lookup 120 (.map (some b.ab)) (fM k) false).run prog X=.ok (.map none) X:=fun X hX=>Tab.look_miss (w:=X) rD hX underlying120 (z:=.map none) (by kernel_rfl) hkw hno false;have HKE:Hid (keyOfS s k=[]):=by rw [Hid,HKO.out,hmiss hno];rfl
  clear hmiss hbd hex hdw HKO hno hex2;refine wp_region_noPanic ?_;refine bG (fun X=>Below W.drew.heap.size W.drew X) [] (by kernel_rfl) ?_;have hb0:Below W.drew.heap.size W.drew W.drew:=bb _ _;obtain ⟨wB,hwB⟩:∃ X,X=W.drew:=⟨_,rfl⟩;rw [<- hwB] at h2 x0 x1 x2 xm HBW hb0 ⊢;clear hwB;have hrg:=run_range_nilMap (P:=prog) wB 121 _ _ underlying121;have hnx:=fun ty=>run_next_nilMap (P:=prog) wB ty 0 0 #[];have hal:=(bb _ wB).alloc (aq _) (.mapIter none 0 #[] 0);have HS:=aa (show Calls prog 141 #[.pointer (some ⟨m,0,none⟩),.slice none 0 0] (wB.alloc (.mapIter none 0 #[] 0)) (Dv [] (wB.alloc (.mapIter none 0 #[] 0))) from oJ none 0 [] _ (h2.kept_w hal) (Nat.zero_le _) hov (fun d hd=>(nomatch hd)) (fun d hd=>(nomatch hd)) (a8 rfl));refine tL (v:=?_) 0 9 rfl (a8 ⟨by rfl,?_⟩) ?_
  case refine_2 => exact z17
  try simp only [pS]
  refine tL (v:=?_) 1 10 rfl (a8 ⟨by rfl,?_⟩) ?_
  case refine_2 => exact z17
  try simp only [pS]
  refine tL (v:=?_) 2 11 rfl (a8 ⟨by rfl,?_⟩) ?_
  case refine_2 => exact z17
  try simp only [pS]
  refine tL (v:=?_) 3 12 rfl (a8 ⟨by rfl,?_⟩) ?_
  case refine_2 => exact z17
  try simp only [pS]
  refine tL (v:=?_) 4 13 rfl (a8 ⟨by rfl,?_⟩) ?_
  case refine_2 => exact z17
  try simp only [pS]
  refine tL (v:=?_) 5 14 rfl (a8 ⟨by rfl,?_⟩) ?_
  case refine_2 => exact z17
  try simp only [pS]
  refine bD (i:=6) (o:=⟨some 15,_,_,_,_,_⟩) (by kernel_rfl) rfl ?_;intro K hK;go_simp;refine hK.out _ _ (ba (hal)) ?_;clear hK K;try simp only [pS]
  refine y80 ?_
  clear hlk h2 x0 x1 x2 xm hb0 hrg
  go_wp2;refine wp_loop_rounds 1 ?_;rw [rounds_succ];go_wp2_with (go_at_call 141;(with_reducible refine HS.out.mono ?_);rintro x w5 ⟨a5,ls,c5,rfl,h1,h2,h3⟩)
  go_ret;exact ⟨a5,ls,c5,rfl,h1,by rw [HKE.out];exact h2,HBW.out.trans ((hal.trans (h3.mono hal.size)).mono HBW.out.size)⟩
/-- the alive events, by their dots -/
def fH (s:MS):List Ev:=(sortD (s.pairs.map (·.2))).map (evAt s.K)
def atP (s:MS) (p:Key×Nat):List Dot:=atK s.pairs p.1
theorem zk {α β:Type} {f:α->List β} {n:Nat}:∀ (l:List α),(∀ x∈l,(f x).length<=n)->(l.flatMap f).length<=l.length * n
 | [],_=>by simp
 | x :: l,h=>by
   have h1:=h x List.mem_cons_self;have h2:=zk l (fun y hy=>h y (List.mem_cons_of_mem _ hy));rw [List.flatMap_cons,ar,List.length_cons,Nat.add_mul];omega
theorem Nu {w:World} {m:Nat} {b:MB} {s:MS} (h:MpIn w m b s) (d:Dot):d∈s.A.flatMap (atP s)↔d∈s.pairs.map (·.2):=by
 rw [List.mem_flatMap,List.mem_map];constructor
 ·rintro ⟨p,hp,hd⟩
  exact ⟨(p.1,d),ik.1 hd,rfl⟩
 ·rintro ⟨q,hq,rfl⟩
  obtain ⟨n,hn⟩:=h.keys q hq;exact ⟨_,hn,ik.2 hq⟩
theorem KC {m:Nat} {b:MB} {s:MS} (w:World) (h:MpIn w m b s) (hi0:MInv s) (hdk:∀ x∈s.K,DotW x.1.dot) (hov:∀ x∈s.K,x.1.over.length<=64) :
 Calls prog 98 #[.pointer (some ⟨m,0,none⟩)] w (Dv (fH s) w):=by
 obtain ⟨i0,hi,hz0,hz1,hz2⟩:=info_parts Tryz.infoDot;obtain ⟨c0,c1,c2,c3⟩:=bU h.cell;have htab:=h.alive;have HH:=aa h;have HBK:=aa (h.low (gZ b s.A));obtain ⟨hbd1,hbd2⟩:=hi0.bounds h;have hfl:(s.A.flatMap (atP s)).length<=4194304:=by
  have h1:=zk (f:=atP s) (n:=2048) s.A (fun p _=>hbd2 p.1);have h2:=Nat.mul_le_mul_right 2048 hbd1;omega
 have Xz:Hid (∀ d∈s.A.flatMap (atP s),∃ x∈s.K,x.1.dot=d):=fun d hd=>by
  obtain ⟨q,hq,rfl⟩:=List.mem_map.1 ((Nu h d).1 hd);obtain ⟨x,hx,_,h3,_⟩:=(hi0.pairs q.1 q.2).1 hq;exact ⟨x,hx,h3⟩
 have HAP:=aa (fun (l:List Dot) (hl:l.Perm (s.A.flatMap (atP s)))=>show (sortD l).map (evAt s.K)=fH s from by
  unfold fH;rw [kG (fun d=>hl.mem_iff.trans (Nu h d))])
 have HI:=aa hi0;have HDK:=aa (a7 hdk hov);clear c0 c2 c3 h hi0 hdk hov hbd1 hbd2;go_enter func98,ntmps98;go_wp2_with (at_range;refine iK rD _ rfl _ 120 rfl 121 underlying120 b.ab rfl htab ?_;intro w0 Po hrg0 hb0 hs0)
 go_frame
 go_loopw [3] (fun v wr=>∃ rest cnt ks,TabIt prog 78 fM KeyW Kw wr b.ab w.heap.size s.A rest cnt/\(ks++rest.flatMap (atP s)).Perm (s.A.flatMap (atP s))/\wr.ownsRow (w.heap.size+1) 76 3 v ks.length (aI ks)/\Below w.heap.size w wr) (fun _ wr=>wr.rangeLeft b.ab w.heap.size)
 case atStart=>exact ⟨s.A,_,[],hrg0,List.Perm.refl _,World.ownsRow_nil _ _ _ _,hb0⟩
 case round =>
  obtain ⟨rest, cnt, ks, hrg, hC, hown, hbw⟩ := hrel
  have hzw : w.heap.size + 1 <= wr.heap.size := by have := hrg.lt; omega
  have HLE := aa hrg.left_eq
  obtain ⟨wo,rfl⟩:∃ wo:World,wo=wr:=⟨_,rfl⟩;go_wp2_with (at_next;refine iC rD _ rfl _ rfl b.ab w.heap.size cnt rfl hrg ?_ ?_)
  rotate_left
  ·intro kp np rest' w2 cnt2 hperm hpm hrg2 hlt hg2 hs2 hen
   have HC2:Hid ((ks++atK s.pairs kp++rest'.flatMap (atP s)).Perm (s.A.flatMap (atP s))):=by
        have h3:(rest.flatMap (atP s)).Perm (((kp,np) :: rest').flatMap (atP s)):=hperm.flatMap_right _;have h4:=h3.append_left ks;rw [List.flatMap_cons,<- List.append_assoc] at h4;exact h4.symm.trans hC
   refine y24 ?_
   intro hown2 hb2
   have hnp:np<w.heap.size:=HH.out.low (jL b hpm);have hin:DTab w2 np (atK s.pairs kp):=(HH.out.inner (kp,np) hpm).block (hb2.block np hnp);have hll:(ks++atK s.pairs kp).length<=4194304:=by
        have h5:=HC2.out.length_eq;rw [ar] at h5;omega
   have HLT:=aa hlt;generalize atK s.pairs kp=L at *;clear hs2 hown hrg hg2 hpm hperm hC hlt;go_wp2_with (at_range;refine iK jb _ rfl _ 121 rfl 3 underlying121 np rfl hin ?_;intro w3 cnt3 hrg3 hb3 hs3)
   have hown0:=ownsRow_below hown2 hb3;have VZ:=hrg2.kept hb3;have hbO:Below w.heap.size w w3:=hb2.trans (hb3.mono hb2.size);have Yl:w.heap.size+1<=w2.heap.size:=by have:=hrg2.lt;omega
   have HNE:Hid (∀ (v:Value),w2.ownsRow (w.heap.size+1) 76 3 v ks.length (aI ks)->∀ g,v.ownBlock=some g->g≠w2.heap.size):=fun v h9 g hg=>by have:=(h9.lt g hg).2;omega
   go_frame
   go_loopw [3] (fun v wq=>∃ rs2 c2 ks2,TabIt prog 76 bT DotW jQ wq np w2.heap.size (ones L) rs2 c2/\(ks2++rs2.map (·.1)).Perm (ks++L)/\wq.ownsRow (w.heap.size+1) 76 3 v ks2.length (aI ks2)/\(∀ g,v.ownBlock=some g->g≠w2.heap.size)/\TabIt prog 78 fM KeyW Kw wq b.ab w.heap.size s.A rest' cnt2/\Below w.heap.size w wq) (fun _ wq=>wq.rangeLeft np w2.heap.size)
   case atStart=>exact ⟨ones L,_,ks,hrg3,by rw [xW],hown0,HNE.out _ hown2,VZ,hbO⟩
   case round =>
        obtain ⟨rs2,c2,ks2,QD,hCI,Na,hne,SY,hbq⟩:=hrel;have X8:=aa QD.left_eq;have hzq:w2.heap.size<wr.heap.size:=QD.lt;clear hown2 hown0 hrg2 hrg3 VZ hbO hb3 hin HNE;go_wp2_with (at_next;refine iC jb _ rfl _ rfl np w2.heap.size c2 rfl QD ?_ ?_)
        rotate_left
        ·intro x n rs3 w5 c3 QG Yp V3 hlt3 hg5 hs5 Yz
         have hlen:ks2.length<(ks++L).length:=by
          have h1:=hCI.length_eq;have h2:=QG.length_eq;simp at h1 h2 ⊢;omega
         have HC3:Hid (((ks2++[x])++rs3.map (·.1)).Perm (ks++L)):=by
          have h3:(ks2++rs2.map (·.1)).Perm ((ks2++[x])++rs3.map (·.1)):=by
           have:=(QG.map (·.1)).append_left ks2;simpa using this
          exact h3.symm.trans hCI
         have hown5:=Na.kept2 hg5 (fun g hg=>hne g hg);have Ub:=SY.fr hg5 (by show ¬ b.ab=w2.heap.size;have:=HBK.out;omega) (by show ¬ w.heap.size=w2.heap.size;omega);have hb5:Below w.heap.size w w5:=hbq.trans (hg5.below hbq.size (fun k hk=>by rw [show k=w2.heap.size from hk];omega));have hsz5:=hg5.size;have HL3:=aa hlt3;clear hs5 Na QD hg5 SY hlt3;go_upto_region 10 with fail
         refine aN (fun W3 hW3=>?_);have hb3:Below w5.heap.size w5 W3:=by rw [hW3.out];go_grown
         have y0:W3.cell? ⟨w5.heap.size,0,none⟩=some (.int .i64 x.a.dev):=by rw [hW3.out];go_simp
         have y1:W3.cell? ⟨w5.heap.size,1,none⟩=some (.int .i64 x.a.inc):=by rw [hW3.out];go_simp
         have y2:W3.cell? ⟨w5.heap.size,2,none⟩=some (.int .i64 x.seq):=by rw [hW3.out];go_simp
         clear hW3;have hown3:=ownsRow_below hown5 hb3;have hrg3:=V3.kept hb3;have Ud:=Ub.kept hb3;have hsz3:=hb3.size;have hbw3:Below w.heap.size w W3:=hb5.trans (hb3.mono hb5.size);clear hown5 V3 Ub hb5;go_wp2_with (at_builtin;go_loud (refine wpList_append_own_at _ rfl _ _ 44 rfl (w.heap.size+1) 76 i0 (.agg #[.int .i64 0,.int .i64 0,.int .i64 0]) 3 24 underlying44 hi hz0 hz1 hz2 rfl (by decide) _ _ _ rfl (hown3.alloc _) ⟨W3.heap.size,0,none⟩ 1 1 [.int .i64 x.a.dev,.int .i64 x.a.inc,.int .i64 x.seq] rfl rfl (gX _ _ _) (by simp [Value.oneCell']) (by unfold maxLen;omega) (by omega) (by simp;omega) ?_);intro v2 w4 hown4 hgrow _ hat)
         refine y35 ?_
         intro hb4
         have Yr:np≠w.heap.size:=by omega
         have IC:∀ k,(∀ g,(some k:Option Nat)=some g->g<w.heap.size+1\/g=w2.heap.size)->k<W3.heap.size->w4.heap[k]?=(W3.alloc (.cells #[.int .i64 x.a.dev,.int .i64 x.a.inc,.int .i64 x.seq] 76)).heap[k]?:=fun k hk Yt=>hgrow.block k (by simp;omega) (fun e=>by
          rcases hk k rfl with h9 | h9
          ·have:=(hown3.lt k e.symm).1;omega
          ·exact hne k e.symm h9)
         have hrg4:TabIt prog 76 bT DotW jQ w4 np w2.heap.size (ones L) rs3 c3:=(hrg3.kept hb4).block (IC _ (fun g hg=>by cases hg;exact a8 (by omega)) (by omega)) (IC _ (fun g hg=>by cases hg;exact ba rfl) (by omega));have Uc:TabIt prog 78 fM KeyW Kw w4 b.ab w.heap.size s.A rest' cnt2:=(Ud.kept hb4).block (IC _ (fun g hg=>by cases hg;exact a8 (by have:=HBK.out;omega)) (by have:=HBK.out;omega)) (IC _ (fun g hg=>by cases hg;exact a8 (by omega)) (by omega));have Wj:∀ g,v2.ownBlock=some g->g≠w2.heap.size:=fun g hg=>by
          rcases hat with h9 | h9
          ·exact hne g (h9.symm.trans hg)
          ·rw [h9] at hg
           simp only [Option.some.injEq,World.size_alloc] at hg;omega
         have HZ:=aa (a7 (show w4.ownsRow (w.heap.size+1) 76 3 v2 (ks2++[x]).length (aI (ks2++[x])) by rw [gV,ar];exact hown4) (a7 hrg4 (a7 Wj (a7 Uc ((hbw3.trans (hb4.mono hbw3.size)).grown hgrow (by simp;omega) (fun j hj=>by have:=(hown3.lt j hj).1;omega))))));clear hown4 hrg4 Uc hgrow hown3 hrg3 Ud y0 y1 y2 Wj hat IC hbw3 hb4 hb3;go_wp2;go_roundw
         case rel=>exact ⟨rs3,c3,ks2++[x],HZ.out.2.1,HC3.out,HZ.out.1,HZ.out.2.2.1,HZ.out.2.2.2.1,HZ.out.2.2.2.2⟩
         case measure=>rw [HZ.out.2.1.left_eq,X8.out];exact HL3.out
        ·intro hr0
         subst hr0;have QF:ks2.Perm (ks++L):=by simpa using hCI
         have HZ:Hid (TabIt prog 78 fM KeyW Kw wr b.ab w.heap.size s.A rest' cnt2/\(ks2++rest'.flatMap (atP s)).Perm (s.A.flatMap (atP s))/\Below w.heap.size w wr):=⟨SY,(QF.append_right _).trans HC2.out,hbq⟩;have HO:=aa Na;clear SY hbq QF hCI QD Na;go_wp2;go_roundw
         case rel=>exact ⟨rest',cnt2,ks2,HZ.out.1,HZ.out.2.1,HO.out,HZ.out.2.2⟩
         case measure=>rw [HZ.out.1.left_eq,HLE.out];exact HLT.out
  ·intro hr0
   subst hr0;have hperm:ks.Perm (s.A.flatMap (atP s)):=by simpa using hC
   have hkl:ks.length<=4194304:=by have:=hperm.length_eq;omega
   obtain ⟨aL,cL,rfl,hinL⟩:=gz hown;have HS:=aa (oJ aL cL ks wo (HH.out.kept_w hbw) (by omega) HDK.out.2 (fun d hd=>by obtain ⟨x,hx,rfl⟩:=Xz.out d (hperm.mem_iff.1 hd);exact HDK.out.1 x hx) (fun d hd=>Xz.out d (hperm.mem_iff.1 hd)) hinL);have HE:=aa (HAP.out ks hperm);clear hperm hinL hown hrg hC;go_wp2_with (go_at_call 141;(with_reducible refine HS.out.mono ?_);rintro x w5 ⟨a5,ls,c5,rfl,h1,h2,h3⟩)
   go_ret;exact ⟨a5,ls,c5,rfl,h1,⟨by rw [h2.1];exact HE.out,h2.2⟩,hbw.trans (h3.mono hbw.size)⟩
theorem z46 {p : Prop} (h : p := by
 unfold Hid
 rw [List.take_add_one, List.getElem?_eq_getElem (by rw [aQ]; exact hlt), su hlt]
 rfl) : p := h
end Go.Proofs.YthphepeniaemoaaGreat
