/- Maps as lists of entries: ranged over within a fence. Conditions: none. -/
import Derived.Test.YthphepeniaemoaaGreatEq
import Derived.Sort.MapsRangeIn
import Derived.RangeFuncSeq
import Derived.Test.YthphepeniaemoaaGreatCel
import Derived.RangeFuncNested
import Derived.RangeFuncBound
import Derived.RangeFuncCalls
import Derived.RangeFuncLeaves
import Derived.Shelf.Abstract
import Derived.Shelf.AbstractIn
import Derived.WalkKit
import Derived.OwnWalkIn
import Derived.TacticsInMore
import Derived.LoopNIn
import Derived.LoopIn
import Derived.Sort.CutIn
import Derived.Test.YthphepeniaemoaaGreatClone
import Derived.Maps.AppendAt
import Derived.Test.YthphepeniaemoaaGreatDot
import Derived.Test.YthphepeniaemoaaGreatLoad
set_option linter.unusedSimpArgs false
set_option linter.unusedVariables false
set_option linter.unnecessarySimpa false
set_option maxHeartbeats 16000000
set_option maxRecDepth 100000
open Go.Proofs.Tryz
namespace Go.Proofs.YthphepeniaemoaaGreat
open Go.RowKit
section
variable {P:Program} {k:TypeId} {α β:Type} {kv:α->Value} {ok:α->Prop} {vv:β->Value}
theorem TabIt.of_walks {w w':World} {b r cnt:Nat} {m rest:List (α×β)} (h:TabIt P k kv ok vv w b r m rest cnt) (hk:KeepsWalks w w'):TabIt P k kv ok vv w' b r m rest cnt:=by
 obtain ⟨D,left,h1,h2⟩:=h;exact ⟨D,left,h1.of_walks hk,h2⟩
theorem TabIt.iter_walk {w:World} {b r cnt:Nat} {m rest:List (α×β)} (h:TabIt P k kv ok vv w b r m rest cnt):∃ o:Obj,w.heap[r]?=some o/\o.isWalk=true:=by
 obtain ⟨D,left,h1,h2⟩:=h;exact h1.iter_walk
theorem kS {w w':World} (h:Below w.heap.size w w') (row:Option Nat):w.grownBy w' row:=⟨h.os,h.tape,h.output,h.size,fun i hi _=>h.block i hi⟩
variable {F:Fence} {n:Nat} {ops:Array Oper} {rest0:List Oper} {o:Oper} {a:Act} {Q:Exit->Act->World->Prop}
theorem nS (K:Kind P k kv ok) (w:World) (hg:o.guard=none) (mo:Operand) (t:TypeId) (hop:o.op=Op.range t mo) (e:TypeId) (ht:P.underlying t=some (.map k e)) (b:Nat) {m:List (α×β)}
 (hm:a.eval mo=.map (some b)) (h:Tab P k kv ok vv w b m)
 (hK:∀ w' cnt,TabIt P k kv ok vv w' b w.heap.size m m cnt->Below w.heap.size w w'->w'.heap.size=w.heap.size+1->wpListIn F n P ops Q rest0 (a.put o.dst (.pointer (some ⟨w.heap.size,0,none⟩))) w') :
 wpListIn F n P ops Q (o :: rest0) a w:=by
 obtain ⟨D,h1,h2⟩:=h;exact wpListIn_range_own w hg mo t hop k e K.law ht GX b _ D hm h1 fun w' hr hgr hs=>hK w' _ ⟨D,_,hr,h2,h2.has,fun _ h=>h,h2.apart⟩ (below_grown hgr) hs
theorem TabIt.step (K:Kind P k kv ok) {w:World} {b r cnt:Nat} {m rest:List (α×β)} (h:TabIt P k kv ok vv w b r m rest cnt) (ty:TypeId) :
 (rest=[]/\(Instr.next (.pointer (some ⟨r,0,none⟩)) false ty).run P w=.ok (.tuple #[.bool false]) w) \/
 ∃ (p:α×β) (rest':List (α×β)) (w':World) (cnt':Nat),rest.Perm (p :: rest')/\p∈m/\TabIt P k kv ok vv w' b r m rest' cnt'/\cnt'<cnt/\w.grownBy w' (some r)/\w'.heap.size=w.heap.size /\
   (Instr.next (.pointer (some ⟨r,0,none⟩)) false ty).run P w=.ok (.tuple #[.bool true,kv p.1,vv p.2]) w'/\(Instr.entry (.pointer (some ⟨r,0,none⟩))).run P w'=.ok (.tuple #[kv p.1,vv p.2]) w':=by
 obtain ⟨D,left,hr,hD,hleft,hsub,hap⟩:=h;rcases hr.next K.law ty with ⟨h0,hl,hrun⟩ | ⟨key,v,kl,y,w',cnt',hkey,hlk,hv,hat,hrun,hrg,hlt,hgr,hsz,hen⟩
 ·refine bb ⟨?_,hrun⟩
  exact z106
 ·rw [hleft,List.any_eq_true] at hlk
  obtain ⟨p,hp,hpk⟩:=hlk;have hpm:=hsub p hp;have hok:=hD.okk p hpm;have hkl:klit P k (kv p.1)=kl:=WideAt.sameKey_eq hpk;obtain rfl:key=kv p.1:=K.law.inj hkey (by rw [<- hkl];exact K.lit hok)
  refine y60 ?_
  intro hy hvv
  subst hvv;obtain ⟨rest',hperm⟩:=jV hp;have hap':=(hperm.pairwise_iff (fun {_ _} hne=>Ne.symm hne)).1 hap;have KT:=List.pairwise_cons.1 hap';refine bd ⟨p,rest',w',cnt',hperm,hpm,⟨D,_,hrg,hD,fun l=>?_,fun q hq=>hsub q (hperm.mem_iff.2 (List.mem_cons_of_mem _ hq)),KT.2⟩,hlt,hgr,hsz,hrun,hen⟩
  exact z55
theorem oW (K:Kind P k kv ok) (w:World) (hg:o.guard=none) (it:Operand) (hop:o.op=Op.next it false) (b r cnt:Nat) {m rest:List (α×β)}
 (hit:a.eval it=.pointer (some ⟨r,0,none⟩)) (h:TabIt P k kv ok vv w b r m rest cnt)
 (hDone:rest=[]->wpListIn F n P ops Q rest0 (a.put o.dst (.tuple #[.bool false])) w)
 (hMore:∀ (p:α×β) (rest':List (α×β)) (w':World) (cnt':Nat),rest.Perm (p :: rest')->p∈m->TabIt P k kv ok vv w' b r m rest' cnt'->cnt'<cnt->w.grownBy w' (some r)->w'.heap.size=w.heap.size ->
  (Instr.entry (.pointer (some ⟨r,0,none⟩))).run P w'=.ok (.tuple #[kv p.1,vv p.2]) w'->wpListIn F n P ops Q rest0 (a.put o.dst (.tuple #[.bool true,kv p.1,vv p.2])) w') :
 wpListIn F n P ops Q (o :: rest0) a w:=by
 refine wpListIn_plain hg fun K' hK'=>?_;unfold Oper.wpIn;refine ⟨by simp [Oper.about,hop],?_⟩;rw [Oper.semAt_plain F _ _ (by rw [hop];intro c hc';cases hc')];rcases h.step K o.type with ⟨h0,hrun⟩ | ⟨p,rest',w',cnt',h1,h2,h3,h4,h5,h6,hrun,h7⟩
 ·simp [execOp,hop,hit,hrun,Result.andThen]
  exact hK' _ _ (hDone h0)
 ·simp [execOp,hop,hit,hrun,Result.andThen]
  exact hK' _ _ (hMore p rest' w' cnt' h1 h2 h3 h4 h5 h6 h7)
end
theorem wpIn_name {F:Fence} {n:Nat} {P:Program} {c:Code} {Q:Exit->Act->World->Prop} {a:Act} {w:World} (h:∀ W,Hid (W=w)->Code.wpIn F n P c Q a W):Code.wpIn F n P c Q a w:=h w rfl
end Go.Proofs.YthphepeniaemoaaGreat
/- The keys of a map, one by one: maps.Keys and its iterator, at dots and at actors. Conditions: none. -/
namespace Go.Proofs.YthphepeniaemoaaGreat
open Go.RowKit Go.Shelf
theorem z49 {p : Prop} (h : p := by
 have h3 : (ks ++ rest.map (·.1)).Perm ((ks ++ [x]) ++ rest'.map (·.1)) := by
  have := (hperm.map (·.1)).append_left ks
  simpa using this
 exact h3.symm.trans hC) : p := h
theorem z120 {p : Prop} (h : p := by
 gi_wp2
 go_roundw
 case rel => exact ⟨rest', cnt2, ks ++ [x], hrg4, hC2, hJ4⟩
 case measure => rw [hrg4.left_eq, hrg.left_eq]; exact hlt) : p := h
theorem z142 {p : Prop} (h : p := by
 gi_wp2
 refine bodyPost_ret (results_none rfl _ _ _) rfl ?_
 exact ⟨⟨_, rfl⟩, .inr ⟨ks ++ [x], trivial, Wq⟩⟩) : p := h
theorem y44 {p q : Prop} (k : q) (h : PLift q -> p := by
 intro kk
 have hlen : ks.length < m.length := by
      have h1 := hC.length_eq
      have h2 := hperm.length_eq
      simp at h1 h2
      omega
 have hC2 : ((ks ++ [x]) ++ rest'.map (·.1)).Perm (m.map (·.1)) := by
      exact z49
 have hJ2 : J ks w2 := hJ ks wr w2 (some W.heap.size) hJs hg2 (fun r e => by cases e; exact ⟨ar _, hrg.iter_walk⟩)
 revert hlen hC2 hJ2
 exact kk.down) : p := h ⟨k⟩
theorem SG {β:Type} {vv:β->Value} (n:Nat) (hn:1<=n) (l Bm b:Nat) (m:List (Dot×β)) (J Jx:List Dot->World->Prop)
 (hY:∀ pre x W,J pre W->pre.length<m.length->YieldAt Fence.wide (n - 1) prog l #[bZ x] W fun e W' =>
  (e=.returned (.bool true)/\J (pre++[x]) W'/\KeepsWalks W W')\/(e=.returned (.bool false)/\Jx (pre++[x]) W'))
 (W:World) (hJ:AbidesFrom W.heap.size J) (hm:W.cell? ⟨Bm,0,none⟩=some (.map (some b))) (htab:Tab prog 76 bZ DotW vv W b m) (h0:J [] W) :
 CallsIn Fence.wide n prog 236 #[.func (.yield l) #[] #[],.pointer (some ⟨Bm,0,none⟩)] W fun e W'=>(∃ v,e=.returned v) /\
  ((∃ ks:List Dot,ks.Perm (m.map (·.1))/\J ks W')\/(∃ pre,True/\Jx pre W')):=by
 refine callsIn_of_wp func236 rfl trivial ?_ rfl;simp only [ntmps236,List.size_toArray,List.length_cons,List.length_nil,Nat.reduceAdd,Nat.reduceSub,Array.replicate_succ,Array.replicate_zero,List.push_toArray,List.append_toArray,List.nil_append,List.cons_append];gi_wp2_with (first
  | (gi_at_range;refine nS jE _ rfl _ 121 rfl 3 underlying121 b rfl htab ?_;intro w0 U4 hrg0 hb0 hs0)
  | gi_in)
 go_frame
 gi_loopw [3] (fun _ wr=>∃ (rest:List (Dot×β)) (cnt:Nat) (ks:List Dot),TabIt prog 76 bZ DotW vv wr b W.heap.size m rest cnt/\(ks++rest.map (·.1)).Perm (m.map (·.1))/\J ks wr)
  (fun _ wr=>wr.rangeLeft b W.heap.size)
 case atStart =>
  exact ⟨m,_,[],hrg0,List.Perm.refl _,hJ [] W w0 none h0 (kS hb0 none) (fun r e=>by cases e)⟩
 case round =>
  obtain ⟨rest,cnt,ks,hrg,hC,hJs⟩:=hrel;gi_wp2_with (first
   | (gi_at_next;refine oW jE _ rfl _ rfl b W.heap.size cnt rfl hrg ?_ ?_)
   | gi_in)
  ·intro hr0
   subst hr0;gi_wp2
   go_end0;exact ⟨⟨_,rfl⟩,.inl ⟨ks,by simpa using hC,hJs⟩⟩
  ·intro x y rest' w2 cnt2 hperm hpm hrg2 hlt hg2 hs2 hen
   refine y44 ?_
   intro hlen hC2 hJ2
   clear hs2
   gi_upto_region 3 with gi_in
   refine wpIn_name (fun W3 hW3=>?_);have hb3:Below w2.heap.size w2 W3:=by rw [hW3.out];go_grown
   have x0:W3.cell? ⟨w2.heap.size,0,none⟩=some (.int .i64 x.a.dev):=by rw [hW3.out];go_simp
   have x1:W3.cell? ⟨w2.heap.size,1,none⟩=some (.int .i64 x.a.inc):=by rw [hW3.out];go_simp
   have x2:W3.cell? ⟨w2.heap.size,2,none⟩=some (.int .i64 x.seq):=by rw [hW3.out];go_simp
   clear hW3;have hJ3:J ks W3:=hJ ks w2 W3 none hJ2 (kS hb3 none) (fun r e=>by cases e);have hrg3:=hrg2.kept hb3;obtain ⟨fn,tmps,assign,body,hy,hR⟩:=hY ks x W3 hJ3 hlen;gi_wp2
   refine hR.mono ?_;rintro e W4 (⟨rfl,hJ4,hk4⟩ | ⟨rfl,Wq⟩)
   ·have hrg4:=hrg3.of_walks hk4
    clear x0 x1 x2
    exact z120
   ·clear x0 x1 x2
    exact z142
theorem Oo {β:Type} {vv:β->Value} (n:Nat) (hn:1<=n) (l Bm b:Nat) (m:List (Actor×β)) (J Jx:List Actor->World->Prop)
 (hY:∀ pre x W,J pre W->pre.length<m.length->YieldAt Fence.wide (n - 1) prog l #[fD x] W fun e W' =>
  (e=.returned (.bool true)/\J (pre++[x]) W'/\KeepsWalks W W')\/(e=.returned (.bool false)/\Jx (pre++[x]) W'))
 (W:World) (hJ:AbidesFrom W.heap.size J) (hm:W.cell? ⟨Bm,0,none⟩=some (.map (some b))) (htab:Tab prog 74 fD ActW vv W b m) (h0:J [] W) :
 CallsIn Fence.wide n prog 258 #[.func (.yield l) #[] #[],.pointer (some ⟨Bm,0,none⟩)] W fun e W'=>(∃ v,e=.returned v) /\
  ((∃ ks:List Actor,ks.Perm (m.map (·.1))/\J ks W')\/(∃ pre,True/\Jx pre W')):=by
 refine callsIn_of_wp func258 rfl trivial ?_ rfl;simp only [ntmps258,List.size_toArray,List.length_cons,List.length_nil,Nat.reduceAdd,Nat.reduceSub,Array.replicate_succ,Array.replicate_zero,List.push_toArray,List.append_toArray,List.nil_append,List.cons_append];gi_wp2_with (first
  | (gi_at_range;refine nS vF _ rfl _ 179 rfl 3 underlying179 b rfl htab ?_;intro w0 U4 hrg0 hb0 hs0)
  | gi_in)
 go_frame
 gi_loopw [3] (fun _ wr=>∃ (rest:List (Actor×β)) (cnt:Nat) (ks:List Actor),TabIt prog 74 fD ActW vv wr b W.heap.size m rest cnt/\(ks++rest.map (·.1)).Perm (m.map (·.1))/\J ks wr)
  (fun _ wr=>wr.rangeLeft b W.heap.size)
 case atStart =>
  exact ⟨m,_,[],hrg0,List.Perm.refl _,hJ [] W w0 none h0 (kS hb0 none) (fun r e=>by cases e)⟩
 case round =>
  obtain ⟨rest,cnt,ks,hrg,hC,hJs⟩:=hrel;gi_wp2_with (first
   | (gi_at_next;refine oW vF _ rfl _ rfl b W.heap.size cnt rfl hrg ?_ ?_)
   | gi_in)
  ·intro hr0
   subst hr0;gi_wp2
   go_end0;exact ⟨⟨_,rfl⟩,.inl ⟨ks,by simpa using hC,hJs⟩⟩
  ·intro x y rest' w2 cnt2 hperm hpm hrg2 hlt hg2 hs2 hen
   refine y44 ?_
   intro hlen hC2 hJ2
   clear hs2
   gi_upto_region 3 with gi_in
   refine wpIn_name (fun W3 hW3=>?_);have hb3:Below w2.heap.size w2 W3:=by rw [hW3.out];go_grown
   have x0:W3.cell? ⟨w2.heap.size,0,none⟩=some (.int .i64 x.dev):=by rw [hW3.out];go_simp
   have x1:W3.cell? ⟨w2.heap.size,1,none⟩=some (.int .i64 x.inc):=by rw [hW3.out];go_simp
   clear hW3;have hJ3:J ks W3:=hJ ks w2 W3 none hJ2 (kS hb3 none) (fun r e=>by cases e);have hrg3:=hrg2.kept hb3;obtain ⟨fn,tmps,assign,body,hy,hR⟩:=hY ks x W3 hJ3 hlen;gi_wp2
   refine hR.mono ?_;rintro e W4 (⟨rfl,hJ4,hk4⟩ | ⟨rfl,Wq⟩)
   ·have hrg4:=hrg3.of_walks hk4
    clear x0 x1 
    exact z120
   ·clear x0 x1 
    exact z142
end Go.Proofs.YthphepeniaemoaaGreat
/- The keys of a map, collected: slices.AppendSeq, slices.Collect, at dots and at actors. Conditions: at most 2^30 keys. -/
namespace Go.Proofs.YthphepeniaemoaaGreat
open Go.RowKit Go.Shelf
def iy (l:List Actor):List Value:=l.flatMap fun a=>[.int .i64 a.dev,.int .i64 a.inc]
theorem Tryz.infoActor:(prog.info? 74).map (fun i=>(i.zero,i.size,i.bytes))=some (some (.agg #[.int .i64 0,.int .i64 0]),2,16):=by kernel_rfl
theorem jb (w:World) (cs:List Value) (t:TypeId):∀ j u,cs[j]?=some u->(w.alloc (.cells cs.toArray t)).cell? ((⟨w.heap.size,0,none⟩:Addr).add j)=some u:=by
 exact z119
theorem OW {w:World} {b:Nat} {c0 c1:Value} {t:TypeId} (h:w.heap[b]?=some (.cells #[c0,c1] t (0,0))):w.cell? ⟨b,0,none⟩=some c0/\w.cell? ⟨b,1,none⟩=some c1:=by simp [World.cell?,h]
theorem OV {w:World} {b:Nat} {c0 c1 c2:Value} {t:TypeId} (h:w.heap[b]?=some (.cells #[c0,c1,c2] t (0,0))):w.cell? ⟨b,0,none⟩=some c0/\w.cell? ⟨b,1,none⟩=some c1/\w.cell? ⟨b,2,none⟩=some c2:=by simp [World.cell?,h]
theorem E5 {β:Type} (B:Nat) (f:β->Array Value) (t:TypeId):Own (fun s W=>W.heap[B]?=some (.cells (f s) t (0,0))):=fun s X Y row hs hg hrow=>by
 refine (hg.block B (Array.getElem?_eq_some_iff.1 hs).1 (fun e=>?_)).trans hs;obtain ⟨o,ho,hc⟩:=hrow B e.symm;rw [hs] at ho;cases ho;cases hc
theorem DK {β:Type} {vv:β->Value} (n:Nat) (hn:1<=n) (Bm b:Nat) (m:List (Dot×β)) (w:World) (hBm:Bm<w.heap.size) (hm:w.cell? ⟨Bm,0,none⟩=some (.map (some b))) (htab:Tab prog 76 bZ DotW vv w b m) :
 SeqStopsK Fence.wide n prog 236 #[.pointer (some ⟨Bm,0,none⟩)] (fun x:Dot=>#[bZ x]) KeepsWalks (fun ks=>ks.Perm (m.map (·.1))) (fun _=>True) m.length w:=fun l J Jx W hW hJ _ hY h0 =>
 SG n hn l Bm b m J Jx hY W hJ ((hW.cell (p:=⟨Bm,0,none⟩) hBm).trans hm) (htab.kept hW) h0
theorem z78 {p : Prop} (h : p := by
 rintro D zs W hD hS ⟨⟨v, bS1, hr1, hn1⟩, hB1⟩ hK
 have cS := bS1.cell
 gi_wp2
 refine ⟨by simp, .inl ⟨_, _, rfl, run_takeDeferred hK, ?_⟩⟩
 exact ⟨_, results_tmp rfl _ _ _, v, zs, rfl, hS, ownsRow_putObj hr1 _ hK rfl, hn1, hB1.trans (belowK_b (w := w) (ar _) W D _ _ (by omega) hK rfl rfl)⟩) : p := h
theorem z76 {p : Prop} (h : p := by
 rintro l pre x W K ⟨⟨v, bS1, hr1, hn1⟩, hB1⟩ hK
 gi_wp2_with (rw [Oper.semAt_eq _ _ _ (fun c h => by cases h)]; go_simp; try go_bits)
 exact hK _ _ ((KeepsOthers.alloc _ _).from _) (KeepsWalks.alloc _ _) ⟨⟨v, bS1.alloc _, hr1.alloc _, hn1⟩, hB1.alloc hB1.size _⟩ ⟨W.heap.size, bS1.lt, World.alloc_heap_new W _, rfl⟩) : p := h
theorem O3 {β:Type} {vv:β->Value} (n:Nat) (hn:4<=n) (Bm b:Nat) (m:List (Dot×β)) (w:World) (hBm:Bm<w.heap.size) (hm:w.cell? ⟨Bm,0,none⟩=some (.map (some b))) (htab:Tab prog 76 bZ DotW vv w b m) (hN:m.length<=1073741824) :
 CallsIn Fence.wide n prog 264 #[.slice none 0 0,.func (.func 236) #[] #[.pointer (some ⟨Bm,0,none⟩)]] w fun e w'=>∃ (v:Value) (ks:List Dot),e=.returned v/\ks.Perm (m.map (·.1)) /\
  w'.ownsRow w.heap.size 76 3 v ks.length (aJ ks)/\(v=.slice none 0 0↔ks=[])/\Below w.heap.size w w':=by
 have h1:1<=n:=by omega
 obtain ⟨i0,hi,hz0,hz1,hz2⟩:=info_parts Tryz.infoDot;refine callsIn_of_wp_marks func264 rfl trivial ?_ rfl;simp only [ntmps264,List.size_toArray,List.length_cons,List.length_nil,Nat.reduceAdd,Nat.reduceSub,Array.replicate_succ,Array.replicate_zero,List.push_toArray,List.append_toArray,List.nil_append,List.cons_append];gi_wp2
 have bS:=Boxed.new w 44 (.slice none 0 0);have hB0:Below w.heap.size w (w.alloc (.cells #[.slice none 0 0] 44)):=(bh _ w).alloc (ar _) _;have hsz:(w.alloc (.cells #[.slice none 0 0] 44)).heap.size=w.heap.size+1:=by simp
 obtain ⟨W0,hW0⟩:∃ W0,w.alloc (.cells #[.slice none 0 0] 44)=W0:=⟨_,rfl⟩;rw [hW0] at bS hB0 hsz ⊢;clear hW0;refine wpIn_rangeFunc_ownH (n:=n) rfl h1 (gf:=236) (lb:=#[.pointer (some ⟨Bm,0,none⟩)]) rfl trivial (enters_of func236 (by kernel_rfl) rfl)
  (DK (n - 1) (by omega) Bm b m W0 (by omega) ((hB0.cell (p:=⟨Bm,0,none⟩) hBm).trans hm) (htab.kept hB0)) walksK_t walksK_b (bh _ _) (fun _=>rfl)
  (fun pre W=>(∃ v,Boxed W w.heap.size 44 v/\W.ownsRow w.heap.size 76 3 v pre.length (aJ pre)/\(v=.slice none 0 0↔pre=[]))/\Below w.heap.size w W)
  (fun _ _ _=>False)
  (OwnFrom.and (Own.from (holdsRow_own w.heap.size w.heap.size 44 76 3 (fun pre:List Dot=>pre.length) (fun pre=>aJ pre) (fun pre v=>v=.slice none 0 0↔pre=[])) _) (ownFrom_below (ar _) (by omega)))
  (fun _ _ _ _ _ hs _ _=>hs)
  ⟨⟨_,bS,World.ownsRow_nil _ _ _ _,by simp⟩,hB0⟩
  (fun x a' W=>∃ Bx,w.heap.size<Bx/\W.heap[Bx]?=some (.cells #[.int .i64 x.a.dev,.int .i64 x.a.inc,.int .i64 x.seq] 76 (0,0))/\a'={ tmps:=#[.slice none 0 0,.func (.func 236) #[] #[.pointer (some ⟨Bm,0,none⟩)],.pointer (some ⟨w.heap.size,0,none⟩),undef,.slice none 0 0,.pointer (some ⟨Bx,0,none⟩),.func (.func 236) #[] #[.pointer (some ⟨Bm,0,none⟩)],bZ x,undef,undef,undef,undef,undef],defers:=[] })
  (fun x a' _ X Y row hs hg hr=>by obtain ⟨Bx,h1,h2,h3⟩:=hs;exact ⟨Bx,h1,E5 Bx (fun (_:Unit)=>#[.int .i64 x.a.dev,.int .i64 x.a.inc,.int .i64 x.seq]) 76 () X Y row h2 hg (fun r e=>(hr r e).2),h3⟩)
  ?assign ?body ?done ?stop
 case assign =>
  exact z76
 case body =>
  rintro l pre x a' W hl ⟨r,hr⟩ ⟨⟨v,bS1,hr1,hn1⟩,hB1⟩ ⟨Bx,hBx,bX,rfl⟩ hlt;have cS:=bS1.cell;obtain ⟨x0,x1,x2⟩:=OV bX;have h1':1<=n - 1 - 1:=by omega
  clear bX;gi_wp2_with (first
   | (gi_at_builtin;refine wpListIn_append_own _ rfl _ _ 44 rfl w.heap.size 76 i0 (.agg #[.int .i64 0,.int .i64 0,.int .i64 0]) 3 24 underlying44 hi hz0 hz1 hz2 rfl (by decide) _ _ _ rfl (hr1.alloc _) ⟨W.heap.size,0,none⟩ 1 1 [.int .i64 x.a.dev,.int .i64 x.a.inc,.int .i64 x.seq] rfl rfl (jb _ _ _) (by simp [Value.oneCell']) (by unfold maxLen;omega) (by omega) (by have:=hB1.size;simp;omega) ?_;intro v' w1 hown' hgrow _;obtain ⟨g',cap',rfl⟩:=ownsRow_succ hown';obtain ⟨hv1,hv2,hr2,hk2,hb2⟩:=bS1.appended (by decide) hr1 hB1.size (ar _) hown' hgrow;have hc1:=hv1.cell;have hf1:=hv1.frozen)
   | (rw [Oper.semAt_eq _ _ _ (fun c h=>by cases h)];go_simp;try go_bits))
  exact ⟨hk2.from _,⟨hk2.size,fun k o h hw=>hk2.same k o h (by cases o <;> simp_all [Obj.isWalk,Obj.isCells])⟩,⟨⟨_,hv2,by simpa [aJ] using hr2,by simp⟩,hB1.trans hb2⟩⟩
 case done =>
  exact z78
 case stop =>
  rintro D c pre W _ _ h _;exact h.elim
theorem zN {β:Type} {vv:β->Value} (n:Nat) (hn:1<=n) (Bm b:Nat) (m:List (Actor×β)) (w:World) (hBm:Bm<w.heap.size) (hm:w.cell? ⟨Bm,0,none⟩=some (.map (some b))) (htab:Tab prog 74 fD ActW vv w b m) :
 SeqStopsK Fence.wide n prog 258 #[.pointer (some ⟨Bm,0,none⟩)] (fun x:Actor=>#[fD x]) KeepsWalks (fun ks=>ks.Perm (m.map (·.1))) (fun _=>True) m.length w:=fun l J Jx W hW hJ _ hY h0 =>
 Oo n hn l Bm b m J Jx hY W hJ ((hW.cell (p:=⟨Bm,0,none⟩) hBm).trans hm) (htab.kept hW) h0
theorem Jn {β:Type} {vv:β->Value} (n:Nat) (hn:4<=n) (Bm b:Nat) (m:List (Actor×β)) (w:World) (hBm:Bm<w.heap.size) (hm:w.cell? ⟨Bm,0,none⟩=some (.map (some b))) (htab:Tab prog 74 fD ActW vv w b m) (hN:m.length<=1073741824) :
 CallsIn Fence.wide n prog 275 #[.slice none 0 0,.func (.func 258) #[] #[.pointer (some ⟨Bm,0,none⟩)]] w fun e w'=>∃ (v:Value) (ks:List Actor),e=.returned v/\ks.Perm (m.map (·.1)) /\
  w'.ownsRow w.heap.size 74 2 v ks.length (iy ks)/\(v=.slice none 0 0↔ks=[])/\Below w.heap.size w w':=by
 have h1:1<=n:=by omega
 obtain ⟨i0,hi,hz0,hz1,hz2⟩:=info_parts Tryz.infoActor;refine callsIn_of_wp_marks func275 rfl trivial ?_ rfl;simp only [ntmps275,List.size_toArray,List.length_cons,List.length_nil,Nat.reduceAdd,Nat.reduceSub,Array.replicate_succ,Array.replicate_zero,List.push_toArray,List.append_toArray,List.nil_append,List.cons_append];gi_wp2
 have bS:=Boxed.new w 262 (.slice none 0 0);have hB0:Below w.heap.size w (w.alloc (.cells #[.slice none 0 0] 262)):=(bh _ w).alloc (ar _) _;have hsz:(w.alloc (.cells #[.slice none 0 0] 262)).heap.size=w.heap.size+1:=by simp
 obtain ⟨W0,hW0⟩:∃ W0,w.alloc (.cells #[.slice none 0 0] 262)=W0:=⟨_,rfl⟩;rw [hW0] at bS hB0 hsz ⊢;clear hW0;refine wpIn_rangeFunc_ownH (n:=n) rfl h1 (gf:=258) (lb:=#[.pointer (some ⟨Bm,0,none⟩)]) rfl trivial (enters_of func258 (by kernel_rfl) rfl)
  (zN (n - 1) (by omega) Bm b m W0 (by omega) ((hB0.cell (p:=⟨Bm,0,none⟩) hBm).trans hm) (htab.kept hB0)) walksK_t walksK_b (bh _ _) (fun _=>rfl)
  (fun pre W=>(∃ v,Boxed W w.heap.size 262 v/\W.ownsRow w.heap.size 74 2 v pre.length (iy pre)/\(v=.slice none 0 0↔pre=[]))/\Below w.heap.size w W)
  (fun _ _ _=>False)
  (OwnFrom.and (Own.from (holdsRow_own w.heap.size w.heap.size 262 74 2 (fun pre:List Actor=>pre.length) (fun pre=>iy pre) (fun pre v=>v=.slice none 0 0↔pre=[])) _) (ownFrom_below (ar _) (by omega)))
  (fun _ _ _ _ _ hs _ _=>hs)
  ⟨⟨_,bS,World.ownsRow_nil _ _ _ _,by simp⟩,hB0⟩
  (fun x a' W=>∃ Bx,w.heap.size<Bx/\W.heap[Bx]?=some (.cells #[.int .i64 x.dev,.int .i64 x.inc] 74 (0,0))/\a'={ tmps:=#[.slice none 0 0,.func (.func 258) #[] #[.pointer (some ⟨Bm,0,none⟩)],.pointer (some ⟨w.heap.size,0,none⟩),undef,.slice none 0 0,.pointer (some ⟨Bx,0,none⟩),.func (.func 258) #[] #[.pointer (some ⟨Bm,0,none⟩)],fD x,undef,undef,undef,undef,undef],defers:=[] })
  (fun x a' _ X Y row hs hg hr=>by obtain ⟨Bx,h1,h2,h3⟩:=hs;exact ⟨Bx,h1,E5 Bx (fun (_:Unit)=>#[.int .i64 x.dev,.int .i64 x.inc]) 74 () X Y row h2 hg (fun r e=>(hr r e).2),h3⟩)
  ?assign ?body ?done ?stop
 case assign =>
  exact z76
 case body =>
  rintro l pre x a' W hl ⟨r,hr⟩ ⟨⟨v,bS1,hr1,hn1⟩,hB1⟩ ⟨Bx,hBx,bX,rfl⟩ hlt;have cS:=bS1.cell;obtain ⟨x0,x1⟩:=OW bX;have h1':1<=n - 1 - 1:=by omega
  clear bX;gi_wp2_with (first
   | (gi_at_builtin;refine wpListIn_append_own _ rfl _ _ 262 rfl w.heap.size 74 i0 (.agg #[.int .i64 0,.int .i64 0]) 2 16 underlying262 hi hz0 hz1 hz2 rfl (by decide) _ _ _ rfl (hr1.alloc _) ⟨W.heap.size,0,none⟩ 1 1 [.int .i64 x.dev,.int .i64 x.inc] rfl rfl (jb _ _ _) (by simp [Value.oneCell']) (by unfold maxLen;omega) (by omega) (by have:=hB1.size;simp;omega) ?_;intro v' w1 hown' hgrow _;obtain ⟨g',cap',rfl⟩:=ownsRow_succ hown';obtain ⟨hv1,hv2,hr2,hk2,hb2⟩:=bS1.appended (by decide) hr1 hB1.size (ar _) hown' hgrow;have hc1:=hv1.cell;have hf1:=hv1.frozen)
   | (rw [Oper.semAt_eq _ _ _ (fun c h=>by cases h)];go_simp;try go_bits))
  exact ⟨hk2.from _,⟨hk2.size,fun k o h hw=>hk2.same k o h (by cases o <;> simp_all [Obj.isWalk,Obj.isCells])⟩,⟨⟨_,hv2,by simpa [iy] using hr2,by simp⟩,hB1.trans hb2⟩⟩
 case done =>
  exact z78
 case stop =>
  rintro D c pre W _ _ h _;exact h.elim
/-! ### may marks be? -/
def qi:Option Dot->Dot->Bool
 | none,_=>true
 | some y,x=>bC y.a x.a
def eF:Option Dot->List Dot->Int
 | _,[]=>0
 | p,x :: r=>if bn x=true then (if qi p x=true then eF (some x) r else 6) else 4
def aZ (l:List Dot):Int:=if 4096<l.length then 3 else eF none l
theorem Bl (l:List Dot) (k:Nat) (h:k<l.length):eF (bu l k) (l.drop k)=if bn l[k]=true then (if qi (bu l k) l[k]=true then eF (bu l (k+1)) (l.drop (k+1)) else 6) else 4:=by
 rw [List.drop_eq_getElem_cons h,eF];have:bu l (k+1)=some l[k]:=by simp [bu,h]
 rw [this]
theorem I8 (a b:Actor):decide (0<=eG a b) = !bC a b:=by
 unfold eG bC orI rY;rw [Bool.eq_iff_iff];simp;repeat' split
 all_goals omega
theorem I9 (a b:Actor) : -1<=eG a b/\eG a b<=1:=by
 unfold eG orI rY;repeat' split
 all_goals omega
theorem wB (a:Actor) (n:Int) (w:World) :
 Calls prog 156 #[.agg #[.int .i64 a.dev,.int .i64 a.inc],.int .i64 n] w fun e w'=>e=.returned (.bool (bn ⟨a,n⟩))/\Below w.heap.size w w':=by
 have HR:=aq (fun (W:World)=>ig ⟨a,n⟩ W);go_enter func156,ntmps156;go_wp2_with (go_at_call 104;(with_reducible refine (HR.out _).mono ?_);rintro x w1 ⟨rfl,hb⟩)
 go_ret;exact ⟨rfl,below2 (by go_grown) hb⟩
theorem z141 {p : Prop} (h : p := by
 clear HP
 go_wp2
 go_ret
 exact ⟨eH HE.out.symm, hbw⟩) : p := h
theorem mP (a:Option Addr) (cap:Nat) (l:List Dot) (w:World) (hl:l.length<=1073741824) (hd:DotsIn w a l) :
 Calls prog 175 #[.slice a l.length cap] w fun e w'=>e=.returned (.int .i64 (aZ l))/\Below w.heap.size w w':=by
 by_cases h40:l.length<=4096
 ·have HM:Hid (aZ l=eF (bu l 0) (l.drop 0)):=by unfold Hid aZ;rw [if_neg (by omega)];rfl
  go_enter func175,ntmps175;go_wp2;go_loopw [10] (fun i wr=>∃ k:Nat,k<=l.length/\i=.int .i64 k/\aZ l=eF (bu l k) (l.drop k)/\Below w.heap.size w wr) (fun i _=>l.length - (intOf i).toNat)
  case atStart=>exact ⟨0,Nat.zero_le _,rfl,HM.out,bh _ _⟩
  case round =>
   obtain ⟨k,hk,rfl,hpre,hbw⟩:=hrel;have HP:=aq hpre;clear hpre HM;have hzw:=hbw.size;by_cases hlt:k<l.length
   ·have hst:=Bl l k hlt
    rcases hd with h | ⟨A,off,rfl,hda⟩
    ·rw [h] at hlt;simp at hlt
    have e0:=(hda.kept hbw).dev k hlt;have e1:=(hda.kept hbw).inc k hlt;have e2:=(hda.kept hbw).seq k hlt;have HT:Hid (aZ l=if bn l[k]=true then (if qi (bu l k) l[k]=true then eF (bu l (k+1)) (l.drop (k+1)) else 6) else 4):=by rw [Hid,HP.out,hst]
    clear hst HP;generalize l[k]=x at e0 e1 e2 HT;go_upto_region 6 with fail
    refine aI (fun W1 hW1=>?_);have hB1:Below wr.heap.size wr W1:=by rw [hW1.out];go_grown
    refine y19 ?_
    intro x0 x1 x2
    have hBB:=hbw.trans (hB1.mono hzw);clear hW1 e0 e1 e2;have hR0:=fun (W:World)=>wB x.a x.seq W
    cases h1:bn x with
    | false =>
      have HE:Hid (aZ l=4):=by rw [Hid,HT.out,h1];rfl
      rw [show bn ⟨x.a,x.seq⟩=bn x from rfl,h1] at hR0;have HR:=aq hR0;clear hR0 h1 HT;go_wp2_with (go_at_call 156;(with_reducible refine (HR.out _).mono ?_);rintro v w1 ⟨rfl,hb⟩)
      go_ret;exact ⟨eH HE.out.symm,hBB.trans (hb.mono hBB.size)⟩
    | true =>
      have HT1:Hid (aZ l=if qi (bu l k) x=true then eF (bu l (k+1)) (l.drop (k+1)) else 6):=by rw [Hid,HT.out,h1];rfl
      rw [show bn ⟨x.a,x.seq⟩=bn x from rfl,h1] at hR0;have HR:=aq hR0;clear hR0 h1 HT;go_upto_region 8 with (go_at_call 156;(with_reducible refine (HR.out _).mono ?_);rintro v w1 ⟨rfl,hb⟩)
      have II:=hBB.trans (hb.mono hBB.size);replace x0:=kept hb x0;replace x1:=kept hb x1;replace x2:=kept hb x2;clear hb hB1 hBB HR;rcases Nat.eq_zero_or_pos k with hk0 | hk0
      ·refine y75 ?_
       intro Ou hdk
       have HE:Hid (aZ l=eF (bu l (k+1)) (l.drop (k+1))):=by rw [Hid,HT1.out];subst hk0;rfl
       clear HT1 hk0;have HC:Hid True:=trivial;refine aN (by kernel_rfl) (by kernel_rfl) (fun W2 hW2=>?_);have b0:∀ i:After W2,i.w.cell? ⟨wr.heap.size,0,none⟩=some (.int .i64 x.a.dev):=fun i=>i.cell (by rw [hW2.out];exact x0);have b1:∀ i:After W2,i.w.cell? ⟨wr.heap.size,1,none⟩=some (.int .i64 x.a.inc):=fun i=>i.cell (by rw [hW2.out];exact x1);have b2:∀ i:After W2,i.w.cell? ⟨wr.heap.size,2,none⟩=some (.int .i64 x.seq):=fun i=>i.cell (by rw [hW2.out];exact x2);skip
       iterate 11 go_big_quiet_step (fail)
       go_big_quiet_step (exact Calls.after (HC.out _))
       iterate 3 go_big_quiet_step (fail)
       refine wpQuiet_nil ?_;rintro _ ⟨i,rfl⟩;have hib:=i.h;clear b0 b1 b2;skip
       generalize i.w=wi at hib ⊢;rw [hW2.out] at hib;go_wp2;go_roundw
       case rel=>exact ⟨k+1,by omega,by go_num,HE.out,II.trans (hib.mono II.size)⟩
       case measure => exact z67
      ·obtain ⟨j,rfl⟩:∃ j,k=j+1:=⟨k - 1,by omega⟩
       have hj:j<l.length:=by omega
       have f0:=(hda.kept II).dev j hj;have f1:=(hda.kept II).inc j hj;have hpv:bu l (j+1)=some l[j]:=by simp [bu,hj]
       rw [hpv] at HT1;generalize l[j]=y at f0 f1 HT1;have hC0:=fun (W:World)=>xO y.a x.a W;have hcl:=I8 y.a x.a;have hci:=I9 y.a x.a;generalize eG y.a x.a=c at hC0 hcl hci;obtain ⟨XY,XX⟩:=hci;have HC:=aq hC0
       refine y23 ?_
       intro hdk hww
       clear hC0 hpv
       cases h2:bC y.a x.a with
       | false =>
         have HE:Hid (aZ l=6):=by rw [Hid,HT1.out];simp [qi,h2]
         rw [h2] at hcl;simp only [Bool.not_false] at hcl;clear h2 HT1;refine aN (by kernel_rfl) (by kernel_rfl) (fun W2 hW2=>?_);have b0:∀ i:After W2,i.w.cell? ⟨wr.heap.size,0,none⟩=some (.int .i64 x.a.dev):=fun i=>i.cell (by rw [hW2.out];exact x0);have b1:∀ i:After W2,i.w.cell? ⟨wr.heap.size,1,none⟩=some (.int .i64 x.a.inc):=fun i=>i.cell (by rw [hW2.out];exact x1);have b2:∀ i:After W2,i.w.cell? ⟨wr.heap.size,2,none⟩=some (.int .i64 x.seq):=fun i=>i.cell (by rw [hW2.out];exact x2);have g0:∀ i:After W2,i.w.cell? ⟨A,off+j * 3,none⟩=some (.int .i64 y.a.dev):=fun i=>i.cell (by rw [hW2.out];exact f0);have g1:∀ i:After W2,i.w.cell? ⟨A,off+j * 3+1,none⟩=some (.int .i64 y.a.inc):=fun i=>i.cell (by rw [hW2.out];exact f1);iterate 11 go_big_quiet_step (fail)
         go_big_quiet_step (exact Calls.after (HC.out _))
         iterate 3 go_big_quiet_step (fail)
         refine wpQuiet_nil ?_;rintro _ ⟨i,rfl⟩;have hib:=i.h;clear b0 b1 b2;clear g0 g1 hww;generalize i.w=wi at hib ⊢;rw [hW2.out] at hib;go_wp2;go_ret;exact ⟨eH HE.out.symm,II.trans (hib.mono II.size)⟩
       | true =>
         have HE:Hid (aZ l=eF (bu l (j+1+1)) (l.drop (j+1+1))):=by rw [Hid,HT1.out];simp [qi,h2]
         rw [h2] at hcl;simp only [Bool.not_true] at hcl;clear h2 HT1;refine aN (by kernel_rfl) (by kernel_rfl) (fun W2 hW2=>?_);have b0:∀ i:After W2,i.w.cell? ⟨wr.heap.size,0,none⟩=some (.int .i64 x.a.dev):=fun i=>i.cell (by rw [hW2.out];exact x0);have b1:∀ i:After W2,i.w.cell? ⟨wr.heap.size,1,none⟩=some (.int .i64 x.a.inc):=fun i=>i.cell (by rw [hW2.out];exact x1);have b2:∀ i:After W2,i.w.cell? ⟨wr.heap.size,2,none⟩=some (.int .i64 x.seq):=fun i=>i.cell (by rw [hW2.out];exact x2);have g0:∀ i:After W2,i.w.cell? ⟨A,off+j * 3,none⟩=some (.int .i64 y.a.dev):=fun i=>i.cell (by rw [hW2.out];exact f0);have g1:∀ i:After W2,i.w.cell? ⟨A,off+j * 3+1,none⟩=some (.int .i64 y.a.inc):=fun i=>i.cell (by rw [hW2.out];exact f1);iterate 11 go_big_quiet_step (fail)
         go_big_quiet_step (exact Calls.after (HC.out _))
         iterate 3 go_big_quiet_step (fail)
         refine wpQuiet_nil ?_;rintro _ ⟨i,rfl⟩;have hib:=i.h;clear b0 b1 b2;clear g0 g1 hww;generalize i.w=wi at hib ⊢;rw [hW2.out] at hib;go_wp2;go_roundw
         case rel=>exact ⟨j+1+1,by omega,by go_num,HE.out,II.trans (hib.mono II.size)⟩
         case measure => exact z67
   ·have HE:Hid (aZ l=0):=by rw [Hid,HP.out,List.drop_eq_nil_of_le (by omega)];cases bu l k <;> rfl
    exact z141
 ·have HE:Hid (aZ l=3):=by unfold Hid aZ;rw [if_pos (by omega)]
  go_enter func175,ntmps175;go_wp2;go_ret;exact ⟨eH HE.out.symm,by go_grown⟩
end Go.Proofs.YthphepeniaemoaaGreat
