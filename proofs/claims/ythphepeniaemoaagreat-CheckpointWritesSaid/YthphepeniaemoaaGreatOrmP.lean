/- The map of events: Deads. Conditions: as in the text. -/
import Derived.Test.YthphepeniaemoaaGreatOrmH
import Derived.Laws.IdiomRangeMap
import Derived.Maps.AppendAt
set_option linter.unusedSimpArgs false
set_option linter.unusedVariables false
set_option linter.unnecessarySimpa false
set_option maxHeartbeats 16000000
set_option maxRecDepth 100000
open Go.Proofs.Tryz
namespace Go.Proofs.YthphepeniaemoaaGreat
open Go.RowKit
/-- behind what hands back dots of the call's own -/
def TF (L:List Dot) (w:World) (e:Ending) (w':World):Prop :=
 ∃ v,e=.returned v/\w'.ownsRow w.heap.size 76 3 v L.length (aJ L)/\(v=.slice none 0 0↔L=[])/\Below w.heap.size w w'
theorem Ky {m:Nat} {b:MB} {s:MS} (w:World) (h:MpIn w m b s) (hK:s.dead.length<=536870912) (hdk:∀ x∈s.dead,DotW x) :
 Calls prog 103 #[.pointer (some ⟨m,0,none⟩)] w (TF (sortD s.dead) w):=by
 obtain ⟨i0,hi,hz0,hz1,hz2⟩:=info_parts Tryz.infoDot;obtain ⟨c0,c1,c2,c3⟩:=dC h.cell;have htab:=h.dead;have HBK:=aq (h.low (jh b s.A));have hKl:(ones s.dead).length<=536870912:=by unfold ones;rw [List.length_map];exact hK
 clear c0 c1 c3 h;go_enter func103,ntmps103;go_wp2_with (at_range;refine pX jE _ rfl _ 121 rfl 3 underlying121 b.db rfl htab ?_;intro w0 U4 hrg0 hb0 hs0)
 go_frame
 go_loopw [3] (fun v wr=>∃ rest cnt ks,TabIt prog 76 bZ DotW mF wr b.db w.heap.size (ones s.dead) rest cnt/\(ks++rest.map (·.1)).Perm ((ones s.dead).map (·.1))/\wr.ownsRow (w.heap.size+1) 76 3 v ks.length (aJ ks)/\Below w.heap.size w wr) (fun _ wr=>wr.rangeLeft b.db w.heap.size)
 case atStart=>exact ⟨(ones s.dead),_,[],hrg0,List.Perm.refl _,World.ownsRow_nil _ _ _ _,hb0⟩
 case round =>
  obtain ⟨rest,cnt,ks,hrg,hC,hown,hbw⟩:=hrel;have hzw:w.heap.size+1<=wr.heap.size:=by have:=hrg.lt;omega
  have HLE:=aq hrg.left_eq;go_wp2_with (at_next;refine rO jE _ rfl _ rfl b.db w.heap.size cnt rfl hrg ?_ ?_)
  rotate_left
  ·intro x n rest' w2 cnt2 hperm hpm hrg2 hlt hg2 hs2 hen
   have hlen:ks.length<(ones s.dead).length:=by
        have h1:=hC.length_eq;have h2:=hperm.length_eq;simp at h1 h2 ⊢;omega
   have HC2:Hid (((ks++[x])++rest'.map (·.1)).Perm ((ones s.dead).map (·.1))):=by
        exact z49
   refine y74 ?_
   intro hNlt hown2 hb2 hsz2
   clear hs2 hown hrg hg2
   go_upto_region 7 with fail
   refine y30 ?_
   intro W3 hb3 y0 y1 y2 hown3 hrg3 hsz3 hbw3
   clear hown2 hrg2 hb2
   go_wp2_with (at_builtin;refine wpList_append_own _ rfl _ _ 44 rfl (w.heap.size+1) 76 i0 (.agg #[.int .i64 0,.int .i64 0,.int .i64 0]) 3 24 underlying44 hi hz0 hz1 hz2 rfl (by decide) _ _ _ rfl (hown3.alloc _) ⟨W3.heap.size,0,none⟩ 1 1 [.int .i64 x.a.dev,.int .i64 x.a.inc,.int .i64 x.seq] rfl rfl (jb _ _ _) (by simp [Value.oneCell']) (by unfold maxLen;omega) (by omega) (by simp;omega) ?_;intro v2 w4 hown4 hgrow _)
   have hb4:Below W3.heap.size W3 (W3.alloc (.cells #[.int .i64 x.a.dev,.int .i64 x.a.inc,.int .i64 x.seq] 76)):=(bh _ _).alloc (ar _) _;have hrg4:TabIt prog 76 bZ DotW mF w4 b.db w.heap.size (ones s.dead) rest' cnt2:=by
        have h4:=hrg3.kept hb4;have hlo:b.db<w.heap.size+1:=by have:=HBK.out;omega
        exact z117
   have HZ := aq (ba (show w4.ownsRow (w.heap.size + 1) 76 3 v2 (ks ++ [x]).length (aJ (ks ++ [x])) by rw [iT, av]; exact hown4) (ba hrg4 ((hbw3.trans (hb4.mono hbw3.size)).grown hgrow (by simp; omega) (fun j hj => by have := (hown3.lt j hj).1; omega))))
   clear hown4 hrg4 hgrow hown3 hrg3 y0 y1 y2
   go_wp2
   go_roundw
   case rel => exact ⟨rest', cnt2, ks ++ [x], HZ.out.2.1, HC2.out, HZ.out.1, HZ.out.2.2⟩
   case measure => rw [HZ.out.2.1.left_eq, HLE.out]; exact hlt
  ·intro hr0
   subst hr0;have hperm:ks.Perm ((ones s.dead).map (·.1)):=by simpa using hC
   have hkl:ks.length<=1073741824:=by have:=hperm.length_eq;simp at this;omega
   obtain ⟨aL,cL,rfl,hinL⟩:=iF hown;rw [NY] at hperm;have HS:=aq (zt aL cL ks wr hkl (fun d hd=>hdk d (hperm.mem_iff.1 hd)) hinL);have HE:Hid (sortD s.dead=sortD ks):=o6 (fun x=>hperm.mem_iff.symm);clear hperm hinL hown hrg hC;go_wp2_with (go_at_call 149;(with_reducible refine HS.out.mono ?_);rintro x w5 ⟨v5,rfl,h1,h2,h3⟩)
   go_ret;exact ⟨v5,rfl,by rw [HE.out];exact eP h1 hbw.size,by rw [HE.out];exact h2,hbw.trans (h3.mono hbw.size)⟩
def BB (K:List EvIt) (d:Dot):List EvIt:=K.filter fun y=>decide (y.1.dot≠d)
theorem Eu:∀ {K:List EvIt} {x:EvIt},(K.map (·.1.dot)).Nodup->x∈K->K.Perm (x :: BB K x.1.dot)
 | [],_,_,h=>(nomatch h)
 | y :: K,x,hn,hx=>by
   rw [List.map_cons,List.nodup_cons] at hn;rcases List.mem_cons.1 hx with rfl | hx2
   ·have:BB (x :: K) x.1.dot=K:=by
        unfold BB;rw [List.filter_cons_of_neg (by simp)];refine List.filter_eq_self.2 fun z hz=>aR fun e=>hn.1 (List.mem_map.2 ⟨z,hz,e⟩)
    rw [this]
   ·have hne:y.1.dot≠x.1.dot:=fun e=>hn.1 (List.mem_map.2 ⟨x,hx2,e.symm⟩)
    have:BB (y :: K) x.1.dot=y :: BB K x.1.dot:=by
        unfold BB;rw [List.filter_cons_of_pos (by simpa using hne)]
    rw [this];exact ((Eu hn.2 hx2).cons y).trans (List.Perm.swap ..)
theorem KTab.nodup {w:World} {b:Nat} {K:List EvIt} (h:KTab w b K):(K.map (·.1.dot)).Nodup:=by
 have:=List.pairwise_map.1 h.apart;exact List.pairwise_map.2 this
theorem KTab.drop {w:World} {b:Nat} {K:List EvIt} (h:KTab w b K) {x:EvIt} (hx:x∈K) (ty:TypeId) :
 ∃ w',(Builtin.delete_ #[119,76] ty #[.map (some b),bZ x.1.dot]).run prog w=.ok (.tuple #[]) w'/\KTab w' b (BB K x.1.dot)/\Fr (isR b) w w':=by
 have hp:=(Eu h.nodup hx).map fun x:EvIt=>(x.1.dot,x);exact Tab.drop_old jE (Tab.perm h hp) underlying119 ty
def inK (K:List EvIt) (d:Dot):Bool:=K.any fun x=>decide (x.1.dot=d)
theorem SI {K:List EvIt} {x:EvIt} (h:x∈K):inK K x.1.dot=true:=List.any_eq_true.2 ⟨x,h,aR rfl⟩
/-- may a dead dot be cleared? -/
def WF (s:MS) (d:Dot):Bool:=decide (d∈s.dead) && (iq s.ctx d && !inK s.K d)
def WG (s:MS) (d:Dot):MS:=if WF s d=true then { s with dead:=s.dead.filter fun x=>decide (x≠d) } else s
section
variable {P:Program} {α β:Type} {k:TypeId} {kv:α->Value} {ok:α->Prop} {vv:β->Value} {ops:Array Oper} {o:Oper} {a:Act} {Q:Exit->Act->World->Prop}
end
def keyOfS (s:MS) (k:Key):List Ev:=(sortD (atK s.pairs k)).map (evAt s.K)
/-- the alive events, by their dots -/
def TB (s:MS):List Ev:=(sortD (s.pairs.map (·.2))).map (evAt s.K)
end Go.Proofs.YthphepeniaemoaaGreat
