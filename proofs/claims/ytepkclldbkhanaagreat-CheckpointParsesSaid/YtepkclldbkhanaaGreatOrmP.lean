/- The map of events: Deads. Conditions: as in the text. -/
import Derived.Test.YtepkclldbkhanaaGreatOrmH
import Derived.Laws.IdiomRangeMap
import Derived.Maps.AppendAt
set_option linter.unusedSimpArgs false
set_option linter.unusedVariables false
set_option linter.unnecessarySimpa false
set_option maxHeartbeats 16000000
set_option maxRecDepth 100000
open Go.Proofs.Tryz
namespace Go.Proofs.YtepkclldbkhanaaGreat
open Go.RowKit
/-- behind what hands back dots of the call's own -/
def SI (L:List Dot) (w:World) (e:Ending) (w':World):Prop :=
 ∃ v,e=.returned v∧w'.ownsRow w.heap.size 121 3 v L.length (aY L)∧(v=.slice none 0 0↔L=[])∧Below w.heap.size w w'
theorem AP {m:Nat} {b:MB} {s:MS} (w:World) (h:MpIn w m b s) (hK:s.dead.length≤536870912) (hdk:∀ x∈s.dead,DotW x) :
 Calls prog 68 #[.pointer (some ⟨m,0,none⟩)] w (SI (sortD s.dead) w):=by
 obtain ⟨i0,hi,hz0,hz1,hz2⟩:=info_parts Tryz.infoDot;obtain ⟨c0,c1,c2,c3⟩:=eu h.cell;have htab:=h.dead;have HBK:=Lib.hid (h.low (oN b s.A));have hKl:(ones s.dead).length≤536870912:=by unfold ones;rw [List.length_map];exact hK
 clear c0 c1 c3 h;go_enter func68,ntmps68;go_wp2_with (at_range;refine iL jm _ rfl _ 95 rfl 3 underlying95 b.db rfl htab ?_;intro w0 OE hrg0 hb0 hs0)
 go_frame
 go_loopw [3] (fun v wr=>∃ rest cnt ks,TabIt prog 121 bZ DotW jQ wr b.db w.heap.size (ones s.dead) rest cnt∧(ks++rest.map (·.1)).Perm ((ones s.dead).map (·.1))∧wr.ownsRow (w.heap.size+1) 121 3 v ks.length (aY ks)∧Below w.heap.size w wr) (fun _ wr=>wr.rangeLeft b.db w.heap.size)
 case atStart=>exact ⟨(ones s.dead),_,[],hrg0,List.Perm.refl _,World.ownsRow_nil _ _ _ _,hb0⟩
 case round =>
  obtain ⟨rest, cnt, ks, hrg, hC, hown, hbw⟩ := hrel
  have hzw : w.heap.size + 1 ≤ wr.heap.size := by have := hrg.lt; omega
  have HLE := Lib.hid hrg.left_eq
  go_wp2_with (at_next;refine iC jm _ rfl _ rfl b.db w.heap.size cnt rfl hrg ?_ ?_)
  rotate_left
  ·intro x n rest' w2 cnt2 hperm hpm hrg2 hlt hg2 hs2 hen
   have hlen:ks.length<(ones s.dead).length:=by
        have h1 := hC.length_eq
        have h2 := hperm.length_eq
        simp at h1 h2 ⊢
        omega
   have HC2:Hid (((ks++[x])++rest'.map (·.1)).Perm ((ones s.dead).map (·.1))):=by
        have h3 : (ks ++ rest.map (·.1)).Perm ((ks ++ [x]) ++ rest'.map (·.1)) := by
         have := (hperm.map (·.1)).append_left ks
         simpa using this
        exact h3.symm.trans hC
   have hNlt:=hrg.lt
   have hown2 := hown.kept2 hg2 (fun g hg => by have := (hown.lt g hg).1; show ¬ g = w.heap.size; omega)
   have hb2 : Below w.heap.size w w2 := hbw.trans (hg2.below hbw.size (fun k hk => by rw [show k = w.heap.size from hk]; exact Nat.le_refl _))
   have hsz2:=hg2.size;clear hs2 hown hrg hg2;go_upto_region 7 with fail
   refine au (fun W3 hW3 => ?_)
   have hb3 : Below w2.heap.size w2 W3 := by rw [hW3.out]; go_grown
   have y0 : W3.cell? ⟨w2.heap.size, 0, none⟩ = some (.int .i64 x.a.dev) := by rw [hW3.out]; go_simp
   have y1 : W3.cell? ⟨w2.heap.size, 1, none⟩ = some (.int .i64 x.a.inc) := by rw [hW3.out]; go_simp
   have y2 : W3.cell? ⟨w2.heap.size, 2, none⟩ = some (.int .i64 x.seq) := by rw [hW3.out]; go_simp
   clear hW3
   have hown3 := ownsRow_below hown2 hb3
   have hrg3 := hrg2.kept hb3
   have hsz3 := hb3.size
   have hbw3:Below w.heap.size w W3:=hb2.trans (hb3.mono hb2.size);clear hown2 hrg2 hb2;go_wp2_with (at_builtin;refine wpList_append_own _ rfl _ _ 34 rfl (w.heap.size+1) 121 i0 (.agg #[.int .i64 0,.int .i64 0,.int .i64 0]) 3 24 underlying34 hi hz0 hz1 hz2 rfl (by decide) _ _ _ rfl (hown3.alloc _) ⟨W3.heap.size,0,none⟩ 1 1 [.int .i64 x.a.dev,.int .i64 x.a.inc,.int .i64 x.seq] rfl rfl (kP _ _ _) (by simp [Value.oneCell']) (by unfold maxLen;omega) (by omega) (by simp;omega) ?_;intro v2 w4 hown4 hgrow _)
   have hb4 : Below W3.heap.size W3 (W3.alloc (.cells #[.int .i64 x.a.dev, .int .i64 x.a.inc, .int .i64 x.seq] 121)) := (Below.refl _ _).alloc (Nat.le_refl _) _
   have hrg4:TabIt prog 121 bZ DotW jQ w4 b.db w.heap.size (ones s.dead) rest' cnt2:=by
        have h4:=hrg3.kept hb4;have hlo:b.db<w.heap.size+1:=by have:=HBK.out;omega
        exact h4.block (hgrow.block _ h4.tab.lt (fun e => by have := (hown3.lt _ e.symm).1; omega)) (hgrow.block _ h4.lt (fun e => by have := (hown3.lt _ e.symm).1; omega))
   have HZ := Lib.hid (And.intro (show w4.ownsRow (w.heap.size + 1) 121 3 v2 (ks ++ [x]).length (aY (ks ++ [x])) by rw [mQ, List.length_append]; exact hown4) (And.intro hrg4 ((hbw3.trans (hb4.mono hbw3.size)).grown hgrow (by simp; omega) (fun j hj => by have := (hown3.lt j hj).1; omega))))
   clear hown4 hrg4 hgrow hown3 hrg3 y0 y1 y2
   go_wp2
   go_roundw
   case rel => exact ⟨rest', cnt2, ks ++ [x], HZ.out.2.1, HC2.out, HZ.out.1, HZ.out.2.2⟩
   case measure => rw [HZ.out.2.1.left_eq, HLE.out]; exact hlt
  ·intro hr0
   subst hr0;have hperm:ks.Perm ((ones s.dead).map (·.1)):=by simpa using hC
   have hkl:ks.length≤1073741824:=by have:=hperm.length_eq;simp at this;omega
   obtain ⟨aL,cL,rfl,hinL⟩:=iF hown;rw [xw] at hperm;have HS:=Lib.hid (yF aL cL ks wr hkl (fun d hd=>hdk d (hperm.mem_iff.1 hd)) hinL);have HE:Hid (sortD s.dead=sortD ks):=kH (fun x=>hperm.mem_iff.symm);clear hperm hinL hown hrg hC;go_wp2_with (go_at_call 118;(with_reducible refine HS.out.mono ?_);rintro x w5 ⟨v5,rfl,h1,h2,h3⟩)
   go_ret;exact ⟨v5,rfl,by rw [HE.out];exact jh h1 hbw.size,by rw [HE.out];exact h2,hbw.trans (h3.mono hbw.size)⟩
def AY (K:List bH) (d:Dot):List bH:=K.filter fun y=>decide (y.1.dot≠d)
theorem DY:∀ {K:List bH} {x:bH},(K.map (·.1.dot)).Nodup→x∈K→K.Perm (x :: AY K x.1.dot)
 | [],_,_,h=>(nomatch h)
 | y :: K,x,hn,hx=>by
   rw [List.map_cons,List.nodup_cons] at hn;rcases List.mem_cons.1 hx with rfl | hx2
   ·have:AY (x :: K) x.1.dot=K:=by
        unfold AY;rw [List.filter_cons_of_neg (by simp)];refine List.filter_eq_self.2 fun z hz=>decide_eq_true fun e=>hn.1 (List.mem_map.2 ⟨z,hz,e⟩)
    rw [this]
   ·have hne:y.1.dot≠x.1.dot:=fun e=>hn.1 (List.mem_map.2 ⟨x,hx2,e.symm⟩)
    have:AY (y :: K) x.1.dot=y :: AY K x.1.dot:=by
        unfold AY;rw [List.filter_cons_of_pos (by simpa using hne)]
    rw [this];exact ((DY hn.2 hx2).cons y).trans (List.Perm.swap ..)
theorem KTab.nodup {w:World} {b:Nat} {K:List bH} (h:KTab w b K):(K.map (·.1.dot)).Nodup:=by
 have:=List.pairwise_map.1 h.apart;exact List.pairwise_map.2 this
theorem KTab.drop {w:World} {b:Nat} {K:List bH} (h:KTab w b K) {x:bH} (hx:x∈K) (ty:TypeId) :
 ∃ w',(Builtin.delete_ #[93,121] ty #[.map (some b),bZ x.1.dot]).run prog w=.ok (.tuple #[]) w'∧KTab w' b (AY K x.1.dot)∧Fr (isR b) w w':=by
 have hp:=(DY h.nodup hx).map fun x:bH=>(x.1.dot,x);exact Tab.drop_old jm (Tab.perm h hp) underlying93 ty
def inK (K:List bH) (d:Dot):Bool:=K.any fun x=>decide (x.1.dot=d)
theorem Rt {K:List bH} {x:bH} (h:x∈K):inK K x.1.dot=true:=List.any_eq_true.2 ⟨x,h,decide_eq_true rfl⟩
/-- may a dead dot be cleared? -/
def Wj (s:MS) (d:Dot):Bool:=decide (d∈s.dead) && (iJ s.ctx d && !inK s.K d)
def Wl (s:MS) (d:Dot):MS:=if Wj s d=true then { s with dead:=s.dead.filter fun x=>decide (x≠d) } else s
section
variable {P:Program} {α β:Type} {k:TypeId} {kv:α→Value} {ok:α→Prop} {vv:β→Value} {ops:Array Oper} {o:Oper} {a:Act} {Q:Exit→Act→World→Prop}
/-- 'range m' as a late operation of a drawn region -/
theorem zF {K:Act→World→Prop} {E:Prop} {w:World} (hw:Region.wanted o (yielded ops a.tmps)=true) (Kd:Kind P k kv ok) (mo:Operand) (t:TypeId) (hop:o.op=Op.range t mo) (e:TypeId) (ht:P.underlying t=some (.map k e)) (b:Nat) {m:List (α×β)}
 (hm:a.eval mo=.map (some b)) (h:Tab P k kv ok vv w b m)
 (hK:∀ w' cnt,TabIt P k kv ok vv w' b w.heap.size m m cnt→Below w.heap.size w w'→w'.heap.size=w.heap.size+1→K (a.put o.dst (.pointer (some ⟨w.heap.size,0,none⟩))) w') :
 if Region.wanted o (yielded ops a.tmps)=true then Oper.wp P o a w K Q else E:=by
 rw [if_pos hw];obtain ⟨D,h1,h2⟩:=h;obtain ⟨w',hrun,r1,r2,r3⟩:=h1.range Kd.law ht;unfold Oper.wp;simp [execOp,hop,hm,hrun,Result.andThen];exact hK w' _ ⟨D,_,r1,h2,h2.has,fun _ h=>h,h2.apart⟩ (below_grown r2) r3
end
def keyOfS (s:MS) (k:Key):List Ev:=(sortD (atK s.pairs k)).map (evAt s.K)
theorem z13 {p : Prop} (h : p := by (rintro w hSw; have s0 := kept hSw x0; have s1 := kept hSw x1; have s2 := kept hSw x2; have sm := kept hSw xm; have sl := hlk w (h2.alive.kept hSw); go_simp; try with_reducible rfl)) : p := h
theorem PO {m:Nat} {b:MB} {s:MS} (k:Key) (hkw:KeyW k) (w:World) (h:MpIn w m b s) (hi0:MInv s) :
 Calls prog 162 #[.pointer (some ⟨m,0,none⟩),iw k] w (CG (keyOfS s k) w):=by
 obtain ⟨i0,hi,hz0,hz1,hz2⟩:=info_parts Tryz.infoDot;have hbd:=(hi0.bounds h).2 k;have hov:∀ x∈s.K,x.1.over.length≤64:=fun x hx=>(fE (hi0.kept x hx).1).2.2.1;have hex:∀ d∈atK s.pairs k,∃ x∈s.K,x.1.dot=d:=fun d hd=>by
  obtain ⟨x,hx,_,h2,_⟩:=(hi0.pairs k d).1 (kw.1 hd);exact ⟨x,hx,h2⟩
 have hdw:∀ d∈atK s.pairs k,DotW d:=fun d hd=>by
  obtain ⟨x,hx,rfl⟩:=hex d hd;exact lJ (fE (hi0.kept x hx).1).1
 have hmiss:(∀ p∈s.A,p.1≠k)→atK s.pairs k=[]:=fun hno=>by
  cases hl:atK s.pairs k with
  | nil=>rfl
  | cons d l =>
    obtain ⟨n,hn⟩:=h.keys (k,d) (kw.1 (by rw [hl];exact List.mem_cons_self));exact absurd rfl (hno _ hn)
 have HKO:Hid (keyOfS s k=(sortD (atK s.pairs k)).map (evAt s.K)):=rfl;clear hi0;go_enter func162,ntmps162;go_upto_region 4 with fail
 refine au (fun W hW=>?_);have hbw:Below w.heap.size w W.drew:=by rw [hW.out];go_grown
 have h2:MpIn W.drew m b s:=h.kept_w hbw;have x0:W.drew.cell? ⟨w.heap.size,0,none⟩=some (.string k.name):=by rw [hW.out];go_simp
 have x1:W.drew.cell? ⟨w.heap.size,1,none⟩=some (.string k.domain):=by rw [hW.out];go_simp
 have x2:W.drew.cell? ⟨w.heap.size,2,none⟩=some (.string k.path):=by rw [hW.out];go_simp
 have xm:W.drew.cell? ⟨m,1,none⟩=some (.map (some b.ab)):=(eu h2.cell).2.1;clear hW h;have HBW:=Lib.hid hbw;clear hbw;by_cases hex2:∃ n,(k,n)∈s.A
 ·obtain ⟨nb,hnA⟩:=hex2
  have hlk:∀ X:World,ATab X b.ab s.A→(Instr.lookup 94 (.map (some b.ab)) (iw k) false).run prog X=.ok (.map (some nb)) X:=fun X hX=>Tab.look_hit (w:=X) Ba hX underlying94 (z:=.map none) (by kernel_rfl) hnA false;have htab:=h2.inner _ hnA;generalize atK s.pairs k=L at hbd hex hdw hmiss HKO htab;clear hmiss;refine wp_region_noPanic ?_;refine dD (fun X=>Below W.drew.heap.size W.drew X) [] (by kernel_rfl) ?_;have hb0:Below W.drew.heap.size W.drew W.drew:=Below.refl _ _;obtain ⟨wB,hwB⟩:∃ X,X=W.drew:=⟨_,rfl⟩;rw [← hwB] at h2 x0 x1 x2 xm HBW htab hb0 ⊢;clear hwB;refine ai (i:=0) (oi:=⟨some 9,_,_,_,_,_⟩) (v:=?_) rfl (by kernel_rfl) (by kernel_rfl) (by kernel_rfl) (by kernel_rfl) (by kernel_rfl) (fun _ _ _ h=>h) (Or.inl ⟨by rfl,?_⟩) (by assumption) ?_
  case refine_2 => exact z13
  try simp only [pS]
  refine ai (i:=1) (oi:=⟨some 10,_,_,_,_,_⟩) (v:=?_) rfl (by kernel_rfl) (by kernel_rfl) (by kernel_rfl) (by kernel_rfl) (by kernel_rfl) (fun _ _ _ h=>h) (Or.inl ⟨by rfl,?_⟩) (by assumption) ?_
  case refine_2 => exact z13
  try simp only [pS]
  refine ai (i:=2) (oi:=⟨some 11,_,_,_,_,_⟩) (v:=?_) rfl (by kernel_rfl) (by kernel_rfl) (by kernel_rfl) (by kernel_rfl) (by kernel_rfl) (fun _ _ _ h=>h) (Or.inl ⟨by rfl,?_⟩) (by assumption) ?_
  case refine_2 => exact z13
  try simp only [pS]
  refine ai (i:=3) (oi:=⟨some 12,_,_,_,_,_⟩) (v:=?_) rfl (by kernel_rfl) (by kernel_rfl) (by kernel_rfl) (by kernel_rfl) (by kernel_rfl) (fun _ _ _ h=>h) (Or.inl ⟨by rfl,?_⟩) (by assumption) ?_
  case refine_2 => exact z13
  try simp only [pS]
  refine ai (i:=4) (oi:=⟨some 13,_,_,_,_,_⟩) (v:=?_) rfl (by kernel_rfl) (by kernel_rfl) (by kernel_rfl) (by kernel_rfl) (by kernel_rfl) (fun _ _ _ h=>h) (Or.inl ⟨by rfl,?_⟩) (by assumption) ?_
  case refine_2 => exact z13
  try simp only [pS]
  refine ai (i:=5) (oi:=⟨some 14,_,_,_,_,_⟩) (v:=?_) rfl (by kernel_rfl) (by kernel_rfl) (by kernel_rfl) (by kernel_rfl) (by kernel_rfl) (fun _ _ _ h=>h) (Or.inl ⟨by rfl,?_⟩) (by assumption) ?_
  case refine_2 => exact z13
  try simp only [pS]
  refine cZ (i:=6) (o:=⟨some 15,_,_,_,_,_⟩) (by kernel_rfl) rfl ?_;intro K hK;refine zF (by rfl) jm _ 95 rfl 3 underlying95 nb rfl htab ?_;intro w0 OE hrg0 hb9 hs0;refine hK.out _ _ (Or.inr (hb9)) ?_;clear hK K
  refine y65 ?_
  have HH:=Lib.hid h2;have HBK:=Lib.hid (h2.low (sV b hnA));have hKl:(ones L).length≤2048:=by unfold ones;rw [List.length_map];exact hbd
  have hb0:=hb9;clear hlk h2 x0 x1 x2 xm hb9;go_wp2;try go_frame
  go_loopw [5] (fun v wr=>∃ rest cnt ks,TabIt prog 121 bZ DotW jQ wr nb wB.heap.size (ones L) rest cnt∧(ks++rest.map (·.1)).Perm ((ones L).map (·.1))∧wr.ownsRow (wB.heap.size+1) 121 3 v ks.length (aY ks)∧Below wB.heap.size wB wr) (fun _ wr=>wr.rangeLeft nb wB.heap.size)
  case atStart=>exact ⟨(ones L),_,[],hrg0,List.Perm.refl _,World.ownsRow_nil _ _ _ _,hb0⟩
  case round =>
   obtain ⟨rest,cnt,ks,hrg,hC,hown,hbw⟩:=hrel;have hzw:wB.heap.size+1≤wr.heap.size:=by have:=hrg.lt;omega
   have HLE:=Lib.hid hrg.left_eq;go_wp2_with (at_next;refine iC jm _ rfl _ rfl nb wB.heap.size cnt rfl hrg ?_ ?_)
   rotate_left
   ·intro x v1 rest' w2 cnt2 hperm hpm hrg2 hlt hg2 hs2 hen
    have hlen:ks.length<(ones L).length:=by
     exact z77
    have HC2:Hid (((ks++[x])++rest'.map (·.1)).Perm ((ones L).map (·.1))):=by
     have h3:(ks++rest.map (·.1)).Perm ((ks++[x])++rest'.map (·.1)):=by
          have:=(hperm.map (·.1)).append_left ks;simpa using this
     exact h3.symm.trans hC
    have hNlt:=hrg.lt;have hown2:=hown.kept2 hg2 (fun g hg=>by have:=(hown.lt g hg).1;show ¬ g=wB.heap.size;omega);have hb2:Below wB.heap.size wB w2:=hbw.trans (hg2.below hbw.size (fun k hk=>by rw [show k=wB.heap.size from hk];exact Nat.le_refl _));have hsz2:=hg2.size;clear hs2 hown hrg hg2;go_upto_region 7 with fail
    refine y15 ?_
    intro W3 hb3 y0 y1 y2 hown3 hrg3 hsz3
    have hbw3:Below wB.heap.size wB W3:=hb2.trans (hb3.mono hb2.size);clear hown2 hrg2 hb2;go_wp2_with (at_builtin;refine wpList_append_own _ rfl _ _ 34 rfl (wB.heap.size+1) 121 i0 (.agg #[.int .i64 0,.int .i64 0,.int .i64 0]) 3 24 underlying34 hi hz0 hz1 hz2 rfl (by decide) _ _ _ rfl (hown3.alloc _) ⟨W3.heap.size,0,none⟩ 1 1 [.int .i64 x.a.dev,.int .i64 x.a.inc,.int .i64 x.seq] rfl rfl (kP _ _ _) (by simp [Value.oneCell']) (by unfold maxLen;omega) (by omega) (by simp;omega) ?_;intro v2 w4 hown4 hgrow _)
    refine y28 ?_
    intro hb4
    have hrg4:TabIt prog 121 bZ DotW jQ w4 nb wB.heap.size (ones L) rest' cnt2:=by
     have h4:=hrg3.kept hb4;have hlo:nb<wB.heap.size+1:=by have:=HBK.out;omega
     exact z47
    have HZ:=Lib.hid (And.intro (show w4.ownsRow (wB.heap.size+1) 121 3 v2 (ks++[x]).length (aY (ks++[x])) by rw [mQ,List.length_append];exact hown4) (And.intro hrg4 ((hbw3.trans (hb4.mono hbw3.size)).grown hgrow (by simp;omega) (fun j hj=>by have:=(hown3.lt j hj).1;omega))))
    clear hown4 hrg4 hgrow hown3 hrg3 y0 y1 y2
    go_wp2
    go_roundw
    case rel => exact ⟨rest', cnt2, ks ++ [x], HZ.out.2.1, HC2.out, HZ.out.1, HZ.out.2.2⟩
    case measure => rw [HZ.out.2.1.left_eq, HLE.out]; exact hlt
   ·intro hr0
    subst hr0;have hperm:ks.Perm ((ones L).map (·.1)):=by simpa using hC
    have hkl:ks.length≤1073741824:=by have:=hperm.length_eq;simp at this;omega
    obtain ⟨aL,cL,rfl,hinL⟩:=iF hown;rw [xw] at hperm;have HS:=Lib.hid (oL aL cL ks wr (HH.out.kept_w hbw) hkl hov (fun d hd=>hdw d (hperm.mem_iff.1 hd)) (fun d hd=>hex d (hperm.mem_iff.1 hd)) hinL);have HE:Hid (keyOfS s k=(sortD ks).map (evAt s.K)):=by unfold Hid;rw [HKO.out,kH (fun x=>hperm.mem_iff)]
    clear hperm hinL hown hrg hC;go_wp2_with (go_at_call 114;(with_reducible refine HS.out.mono ?_);rintro x w5 ⟨a5,ls,c5,rfl,h1,h2,h3⟩)
    go_ret;exact ⟨a5,ls,c5,rfl,h1,by rw [HE.out];exact h2,HBW.out.trans ((hbw.trans (h3.mono hbw.size)).mono HBW.out.size)⟩
 ·have hno:∀ p∈s.A,p.1≠k:=fun p hp e=>hex2 ⟨p.2,by rw [← e];exact hp⟩
  have hlk:∀ X:World,ATab X b.ab s.A→(Instr.lookup 94 (.map (some b.ab)) (iw k) false).run prog X=.ok (.map none) X:=fun X hX=>Tab.look_miss (w:=X) Ba hX underlying94 (z:=.map none) (by kernel_rfl) hkw hno false;have HKE:Hid (keyOfS s k=[]):=by rw [Hid,HKO.out,hmiss hno];rfl
  clear hmiss hbd hex hdw HKO hno hex2;refine wp_region_noPanic ?_;refine dD (fun X=>Below W.drew.heap.size W.drew X) [] (by kernel_rfl) ?_;have hb0:Below W.drew.heap.size W.drew W.drew:=Below.refl _ _;obtain ⟨wB,hwB⟩:∃ X,X=W.drew:=⟨_,rfl⟩;rw [← hwB] at h2 x0 x1 x2 xm HBW hb0 ⊢;clear hwB;have hrg:=run_range_nilMap (P:=prog) wB 95 _ _ underlying95;have hnx:=fun ty=>run_next_nilMap (P:=prog) wB ty 0 0 #[];have hal:=(Below.refl _ wB).alloc (Nat.le_refl _) (.mapIter none 0 #[] 0);have HS:=Lib.hid (show Calls prog 114 #[.pointer (some ⟨m,0,none⟩),.slice none 0 0] (wB.alloc (.mapIter none 0 #[] 0)) (CG [] (wB.alloc (.mapIter none 0 #[] 0))) from oL none 0 [] _ (h2.kept_w hal) (Nat.zero_le _) hov (fun d hd=>(nomatch hd)) (fun d hd=>(nomatch hd)) (Or.inl rfl));refine ai (i:=0) (oi:=⟨some 9,_,_,_,_,_⟩) (v:=?_) rfl (by kernel_rfl) (by kernel_rfl) (by kernel_rfl) (by kernel_rfl) (by kernel_rfl) (fun _ _ _ h=>h) (Or.inl ⟨by rfl,?_⟩) (by assumption) ?_
  case refine_2 => exact z13
  try simp only [pS]
  refine ai (i:=1) (oi:=⟨some 10,_,_,_,_,_⟩) (v:=?_) rfl (by kernel_rfl) (by kernel_rfl) (by kernel_rfl) (by kernel_rfl) (by kernel_rfl) (fun _ _ _ h=>h) (Or.inl ⟨by rfl,?_⟩) (by assumption) ?_
  case refine_2 => exact z13
  try simp only [pS]
  refine ai (i:=2) (oi:=⟨some 11,_,_,_,_,_⟩) (v:=?_) rfl (by kernel_rfl) (by kernel_rfl) (by kernel_rfl) (by kernel_rfl) (by kernel_rfl) (fun _ _ _ h=>h) (Or.inl ⟨by rfl,?_⟩) (by assumption) ?_
  case refine_2 => exact z13
  try simp only [pS]
  refine ai (i:=3) (oi:=⟨some 12,_,_,_,_,_⟩) (v:=?_) rfl (by kernel_rfl) (by kernel_rfl) (by kernel_rfl) (by kernel_rfl) (by kernel_rfl) (fun _ _ _ h=>h) (Or.inl ⟨by rfl,?_⟩) (by assumption) ?_
  case refine_2 => exact z13
  try simp only [pS]
  refine ai (i:=4) (oi:=⟨some 13,_,_,_,_,_⟩) (v:=?_) rfl (by kernel_rfl) (by kernel_rfl) (by kernel_rfl) (by kernel_rfl) (by kernel_rfl) (fun _ _ _ h=>h) (Or.inl ⟨by rfl,?_⟩) (by assumption) ?_
  case refine_2 => exact z13
  try simp only [pS]
  refine ai (i:=5) (oi:=⟨some 14,_,_,_,_,_⟩) (v:=?_) rfl (by kernel_rfl) (by kernel_rfl) (by kernel_rfl) (by kernel_rfl) (by kernel_rfl) (fun _ _ _ h=>h) (Or.inl ⟨by rfl,?_⟩) (by assumption) ?_
  case refine_2 => exact z13
  try simp only [pS]
  refine cZ (i:=6) (o:=⟨some 15,_,_,_,_,_⟩) (by kernel_rfl) rfl ?_;intro K hK;go_simp;refine hK.out _ _ (Or.inr (hal)) ?_;clear hK K
  refine y65 ?_
  clear hlk h2 x0 x1 x2 xm hb0 hrg
  go_wp2;refine wp_loop_rounds 1 ?_;rw [rounds_succ];go_wp2_with (go_at_call 114;(with_reducible refine HS.out.mono ?_);rintro x w5 ⟨a5,ls,c5,rfl,h1,h2,h3⟩)
  go_ret;exact ⟨a5,ls,c5,rfl,h1,by rw [HKE.out];exact h2,HBW.out.trans ((hal.trans (h3.mono hal.size)).mono HBW.out.size)⟩
/-- the alive events, by their dots -/
def fK (s:MS):List Ev:=(sortD (s.pairs.map (·.2))).map (evAt s.K)
def atP (s:MS) (p:Key×Nat):List Dot:=atK s.pairs p.1
theorem yz {α β:Type} {f:α→List β} {n:Nat}:∀ (l:List α),(∀ x∈l,(f x).length≤n)→(l.flatMap f).length≤l.length * n
 | [],_=>by simp
 | x :: l,h=>by
   have h1:=h x List.mem_cons_self;have h2:=yz l (fun y hy=>h y (List.mem_cons_of_mem _ hy));rw [List.flatMap_cons,List.length_append,List.length_cons,Nat.add_mul];omega
theorem Md {w:World} {m:Nat} {b:MB} {s:MS} (h:MpIn w m b s) (d:Dot):d∈s.A.flatMap (atP s)↔d∈s.pairs.map (·.2):=by
 rw [List.mem_flatMap,List.mem_map];constructor
 ·rintro ⟨p,hp,hd⟩
  exact ⟨(p.1,d),kw.1 hd,rfl⟩
 ·rintro ⟨q,hq,rfl⟩
  obtain ⟨n,hn⟩:=h.keys q hq;exact ⟨_,hn,kw.2 hq⟩
theorem JY {m:Nat} {b:MB} {s:MS} (w:World) (h:MpIn w m b s) (hi0:MInv s) (hdk:∀ x∈s.K,DotW x.1.dot) (hov:∀ x∈s.K,x.1.over.length≤64) :
 Calls prog 79 #[.pointer (some ⟨m,0,none⟩)] w (CG (fK s) w):=by
 obtain ⟨i0,hi,hz0,hz1,hz2⟩:=info_parts Tryz.infoDot;obtain ⟨c0,c1,c2,c3⟩:=eu h.cell;have htab:=h.alive;have HH:=Lib.hid h;have HBK:=Lib.hid (h.low (ku b s.A));obtain ⟨hbd1,hbd2⟩:=hi0.bounds h;have hfl:(s.A.flatMap (atP s)).length≤4194304:=by
  have h1:=yz (f:=atP s) (n:=2048) s.A (fun p _=>hbd2 p.1);have h2:=Nat.mul_le_mul_right 2048 hbd1;omega
 have WF:Hid (∀ d∈s.A.flatMap (atP s),∃ x∈s.K,x.1.dot=d):=fun d hd=>by
  obtain ⟨q,hq,rfl⟩:=List.mem_map.1 ((Md h d).1 hd);obtain ⟨x,hx,_,h3,_⟩:=(hi0.pairs q.1 q.2).1 hq;exact ⟨x,hx,h3⟩
 have HAP:=Lib.hid (fun (l:List Dot) (hl:l.Perm (s.A.flatMap (atP s)))=>show (sortD l).map (evAt s.K)=fK s from by
  unfold fK;rw [kH (fun d=>hl.mem_iff.trans (Md h d))])
 have HI:=Lib.hid hi0;have HDK:=Lib.hid (And.intro hdk hov);clear c0 c2 c3 h hi0 hdk hov hbd1 hbd2;go_enter func79,ntmps79;go_wp2_with (at_range;refine iL Ba _ rfl _ 94 rfl 95 underlying94 b.ab rfl htab ?_;intro w0 OE hrg0 hb0 hs0)
 go_frame
 go_loopw [3] (fun v wr=>∃ rest cnt ks,TabIt prog 123 iw KeyW JW wr b.ab w.heap.size s.A rest cnt∧(ks++rest.flatMap (atP s)).Perm (s.A.flatMap (atP s))∧wr.ownsRow (w.heap.size+1) 121 3 v ks.length (aY ks)∧Below w.heap.size w wr) (fun _ wr=>wr.rangeLeft b.ab w.heap.size)
 case atStart=>exact ⟨s.A,_,[],hrg0,List.Perm.refl _,World.ownsRow_nil _ _ _ _,hb0⟩
 case round =>
  obtain ⟨rest, cnt, ks, hrg, hC, hown, hbw⟩ := hrel
  have hzw : w.heap.size + 1 ≤ wr.heap.size := by have := hrg.lt; omega
  have HLE := Lib.hid hrg.left_eq
  obtain ⟨wo,rfl⟩:∃ wo:World,wo=wr:=⟨_,rfl⟩;go_wp2_with (at_next;refine iC Ba _ rfl _ rfl b.ab w.heap.size cnt rfl hrg ?_ ?_)
  rotate_left
  ·intro kp np rest' w2 cnt2 hperm hpm hrg2 hlt hg2 hs2 hen
   have HC2:Hid ((ks++atK s.pairs kp++rest'.flatMap (atP s)).Perm (s.A.flatMap (atP s))):=by
        have h3:(rest.flatMap (atP s)).Perm (((kp,np) :: rest').flatMap (atP s)):=hperm.flatMap_right _;have h4:=h3.append_left ks;rw [List.flatMap_cons,← List.append_assoc] at h4;exact h4.symm.trans hC
   refine y20 ?_
   intro hown2 hb2
   have hnp:np<w.heap.size:=HH.out.low (sV b hpm);have hin:DTab w2 np (atK s.pairs kp):=(HH.out.inner (kp,np) hpm).block (hb2.block np hnp);have hll:(ks++atK s.pairs kp).length≤4194304:=by
        have h5:=HC2.out.length_eq;rw [List.length_append] at h5;omega
   have HLT:=Lib.hid hlt;generalize atK s.pairs kp=L at *;clear hs2 hown hrg hg2 hpm hperm hC hlt;go_wp2_with (at_range;refine iL jm _ rfl _ 95 rfl 3 underlying95 np rfl hin ?_;intro w3 cnt3 hrg3 hb3 hs3)
   have hown0:=ownsRow_below hown2 hb3;have Vg:=hrg2.kept hb3;have hbO:Below w.heap.size w w3:=hb2.trans (hb3.mono hb2.size);have XC:w.heap.size+1≤w2.heap.size:=by have:=hrg2.lt;omega
   have HNE:Hid (∀ (v:Value),w2.ownsRow (w.heap.size+1) 121 3 v ks.length (aY ks)→∀ g,v.ownBlock=some g→g≠w2.heap.size):=fun v h9 g hg=>by have:=(h9.lt g hg).2;omega
   go_frame
   go_loopw [3] (fun v wq=>∃ rs2 c2 ks2,TabIt prog 121 bZ DotW jQ wq np w2.heap.size (ones L) rs2 c2∧(ks2++rs2.map (·.1)).Perm (ks++L)∧wq.ownsRow (w.heap.size+1) 121 3 v ks2.length (aY ks2)∧(∀ g,v.ownBlock=some g→g≠w2.heap.size)∧TabIt prog 123 iw KeyW JW wq b.ab w.heap.size s.A rest' cnt2∧Below w.heap.size w wq) (fun _ wq=>wq.rangeLeft np w2.heap.size)
   case atStart=>exact ⟨ones L,_,ks,hrg3,by rw [xw],hown0,HNE.out _ hown2,Vg,hbO⟩
   case round =>
        obtain ⟨rs2,c2,ks2,PY,hCI,LQ,hne,Ru,hbq⟩:=hrel;have Xq:=Lib.hid PY.left_eq;have hzq:w2.heap.size<wr.heap.size:=PY.lt;clear hown2 hown0 hrg2 hrg3 Vg hbO hb3 hin HNE;go_wp2_with (at_next;refine iC jm _ rfl _ rfl np w2.heap.size c2 rfl PY ?_ ?_)
        rotate_left
        ·intro x n rs3 w5 c3 P5 XE Vh hlt3 hg5 hs5 XO
         have hlen:ks2.length<(ks++L).length:=by
          have h1:=hCI.length_eq;have h2:=P5.length_eq;simp at h1 h2 ⊢;omega
         have HC3:Hid (((ks2++[x])++rs3.map (·.1)).Perm (ks++L)):=by
          have h3:(ks2++rs2.map (·.1)).Perm ((ks2++[x])++rs3.map (·.1)):=by
           have:=(P5.map (·.1)).append_left ks2;simpa using this
          exact h3.symm.trans hCI
         have hown5:=LQ.kept2 hg5 (fun g hg=>hne g hg);have Td:=Ru.fr hg5 (by show ¬ b.ab=w2.heap.size;have:=HBK.out;omega) (by show ¬ w.heap.size=w2.heap.size;omega);have hb5:Below w.heap.size w w5:=hbq.trans (hg5.below hbq.size (fun k hk=>by rw [show k=w2.heap.size from hk];omega));have hsz5:=hg5.size;have HL3:=Lib.hid hlt3;clear hs5 LQ PY hg5 Ru hlt3;go_upto_region 10 with fail
         refine au (fun W3 hW3=>?_);have hb3:Below w5.heap.size w5 W3:=by rw [hW3.out];go_grown
         have y0:W3.cell? ⟨w5.heap.size,0,none⟩=some (.int .i64 x.a.dev):=by rw [hW3.out];go_simp
         have y1:W3.cell? ⟨w5.heap.size,1,none⟩=some (.int .i64 x.a.inc):=by rw [hW3.out];go_simp
         have y2:W3.cell? ⟨w5.heap.size,2,none⟩=some (.int .i64 x.seq):=by rw [hW3.out];go_simp
         clear hW3;have hown3:=ownsRow_below hown5 hb3;have hrg3:=Vh.kept hb3;have Ti:=Td.kept hb3;have hsz3:=hb3.size;have hbw3:Below w.heap.size w W3:=hb5.trans (hb3.mono hb5.size);clear hown5 Vh Td hb5;go_wp2_with (at_builtin;go_loud (refine wpList_append_own_at _ rfl _ _ 34 rfl (w.heap.size+1) 121 i0 (.agg #[.int .i64 0,.int .i64 0,.int .i64 0]) 3 24 underlying34 hi hz0 hz1 hz2 rfl (by decide) _ _ _ rfl (hown3.alloc _) ⟨W3.heap.size,0,none⟩ 1 1 [.int .i64 x.a.dev,.int .i64 x.a.inc,.int .i64 x.seq] rfl rfl (kP _ _ _) (by simp [Value.oneCell']) (by unfold maxLen;omega) (by omega) (by simp;omega) ?_);intro v2 w4 hown4 hgrow _ hat)
         refine y28 ?_
         intro hb4
         have XF:np≠w.heap.size:=by omega
         have Hu:∀ k,(∀ g,(some k:Option Nat)=some g→g<w.heap.size+1∨g=w2.heap.size)→k<W3.heap.size→w4.heap[k]?=(W3.alloc (.cells #[.int .i64 x.a.dev,.int .i64 x.a.inc,.int .i64 x.seq] 121)).heap[k]?:=fun k hk XG=>hgrow.block k (by simp;omega) (fun e=>by
          rcases hk k rfl with h9 | h9
          ·have:=(hown3.lt k e.symm).1;omega
          ·exact hne k e.symm h9)
         have hrg4:TabIt prog 121 bZ DotW jQ w4 np w2.heap.size (ones L) rs3 c3:=(hrg3.kept hb4).block (Hu _ (fun g hg=>by cases hg;exact Or.inl (by omega)) (by omega)) (Hu _ (fun g hg=>by cases hg;exact Or.inr rfl) (by omega));have Tf:TabIt prog 123 iw KeyW JW w4 b.ab w.heap.size s.A rest' cnt2:=(Ti.kept hb4).block (Hu _ (fun g hg=>by cases hg;exact Or.inl (by have:=HBK.out;omega)) (by have:=HBK.out;omega)) (Hu _ (fun g hg=>by cases hg;exact Or.inl (by omega)) (by omega));have Vq:∀ g,v2.ownBlock=some g→g≠w2.heap.size:=fun g hg=>by
          rcases hat with h9 | h9
          ·exact hne g (h9.symm.trans hg)
          ·rw [h9] at hg
           simp only [Option.some.injEq,World.size_alloc] at hg;omega
         have HZ:=Lib.hid (And.intro (show w4.ownsRow (w.heap.size+1) 121 3 v2 (ks2++[x]).length (aY (ks2++[x])) by rw [mQ,List.length_append];exact hown4) (And.intro hrg4 (And.intro Vq (And.intro Tf ((hbw3.trans (hb4.mono hbw3.size)).grown hgrow (by simp;omega) (fun j hj=>by have:=(hown3.lt j hj).1;omega))))));clear hown4 hrg4 Tf hgrow hown3 hrg3 Ti y0 y1 y2 Vq hat Hu hbw3 hb4 hb3;go_wp2;go_roundw
         case rel=>exact ⟨rs3,c3,ks2++[x],HZ.out.2.1,HC3.out,HZ.out.1,HZ.out.2.2.1,HZ.out.2.2.2.1,HZ.out.2.2.2.2⟩
         case measure=>rw [HZ.out.2.1.left_eq,Xq.out];exact HL3.out
        ·intro hr0
         subst hr0;have PZ:ks2.Perm (ks++L):=by simpa using hCI
         have HZ:Hid (TabIt prog 123 iw KeyW JW wr b.ab w.heap.size s.A rest' cnt2∧(ks2++rest'.flatMap (atP s)).Perm (s.A.flatMap (atP s))∧Below w.heap.size w wr):=⟨Ru,(PZ.append_right _).trans HC2.out,hbq⟩;have HO:=Lib.hid LQ;clear Ru hbq PZ hCI PY LQ;go_wp2;go_roundw
         case rel=>exact ⟨rest',cnt2,ks2,HZ.out.1,HZ.out.2.1,HO.out,HZ.out.2.2⟩
         case measure=>rw [HZ.out.1.left_eq,HLE.out];exact HLT.out
  ·intro hr0
   subst hr0;have hperm:ks.Perm (s.A.flatMap (atP s)):=by simpa using hC
   have hkl:ks.length≤4194304:=by have:=hperm.length_eq;omega
   obtain ⟨aL,cL,rfl,hinL⟩:=iF hown;have HS:=Lib.hid (oL aL cL ks wo (HH.out.kept_w hbw) (by omega) HDK.out.2 (fun d hd=>by obtain ⟨x,hx,rfl⟩:=WF.out d (hperm.mem_iff.1 hd);exact HDK.out.1 x hx) (fun d hd=>WF.out d (hperm.mem_iff.1 hd)) hinL);have HE:=Lib.hid (HAP.out ks hperm);clear hperm hinL hown hrg hC;go_wp2_with (go_at_call 114;(with_reducible refine HS.out.mono ?_);rintro x w5 ⟨a5,ls,c5,rfl,h1,h2,h3⟩)
   go_ret;exact ⟨a5,ls,c5,rfl,h1,⟨by rw [h2.1];exact HE.out,h2.2⟩,hbw.trans (h3.mono hbw.size)⟩
theorem z56 {p : Prop} (h : p := by
 unfold Hid
 rw [List.take_add_one, List.getElem?_eq_getElem (by rw [bi]; exact hlt), wC hlt]
 rfl) : p := h
end Go.Proofs.YtepkclldbkhanaaGreat
