/- Memory: blocks stored whole, cells set, results that lie in blocks. Conditions: none. -/
import Derived.Test.YtepkclldbkhanaaGreatLoad
import Derived.Test.YtepkclldbkhanaaGreatEq
import Derived.OneCell
import Derived.Test.YtepkclldbkhanaaGreatKit
import Derived.Lib.AppendStr
import Derived.IntWalk
import Derived.Deep.WholeRow
set_option linter.unusedSimpArgs false
set_option linter.unusedVariables false
set_option linter.unnecessarySimpa false
set_option maxHeartbeats 16000000
set_option maxRecDepth 100000
open Go.Proofs.Tryz
namespace Go.Proofs.YtepkclldbkhanaaGreat
open Go.RowKit
theorem z97 {p : Prop} (h : p := by
 rw [Nat.zero_add]
 simp only [World.cell?, hg]
 simpa using hv) : p := h
/-- a function whose one result is a struct that lies in a block of its own hands back that block's cells -/
theorem dP {P:Program} {fn:Func} {R:Ending→World→Prop} {a:Act} {w:World} (p:Tmp) (ty t:TypeId) (g:Nat) (c:Array Value) (d:TypeDesc) (hr:fn.results=#[.cell p ty])
 (hp:a.tmps.getD p undef=.pointer (some ⟨g,0,none⟩)) (hg:w.heap[g]?=some (.cells c t (0,0))) (hu:P.underlying ty=some d) (hd:d.isRow=true) (hi:(P.info? ty).map (·.size)=some c.size)
 (hde:a.defers=[]) (hR:R (.returned (.agg c)) w):bodyPost P fn R .ret a w:=by
 have h1:w.rangeAt g 0 c.toList:=fun j v hv=>by
  exact z97
 have h2:=run_loadVar_mid (P:=P) w g 0 ty c.toList d h1 hu hd (by simpa using hi);refine bodyPost_ret ?_ hde hR;have hp':a.tmps[p]?.getD undef=.pointer (some ⟨g,0,none⟩):=by simpa using hp
 simp [results,hr,hp',asAddr,h2,Sem.run_bind,Result.andThen]
theorem kJ {w w':World} {base:Nat} {e:TypeId} {size:Nat} {v:Value} {n:Nat} {xs:List Value} (h:w.ownsRow base e size v n xs) (hk:∀ k,base≤k→w'.heap[k]?=w.heap[k]?):w'.ownsRow base e size v n xs:=by
 refine ⟨h.1,?_⟩;rcases h.2 with hn | ⟨g,cap,cur,hv,hbs,hg,rest⟩
 ·exact .inl hn
 ·exact .inr ⟨g,cap,cur,hv,hbs,by rw [hk g hbs];exact hg,rest⟩
theorem jh {w:World} {base b2:Nat} {e:TypeId} {size:Nat} {v:Value} {n:Nat} {xs:List Value} (h:w.ownsRow base e size v n xs) (hb:b2≤base):w.ownsRow b2 e size v n xs:=by
 exact z130
theorem below_setRow {B:Nat} {W w:World} (h:Below B W w) {g:Nat} (hg:B≤g) (cs:Array Value):Below B W (w.setRow g cs) :=
 h.trans ⟨rfl,rfl,rfl,by simp [World.setRow],fun k hk=>by simp [World.setRow,Array.getElem?_modify];omega⟩
theorem Nj {w:World} {b:Nat} {e:Ev} {a a':Option Addr} {cap cap':Nat} (h:w.rangeAt b 0 (ag e a cap)):(w.setCell ⟨b,18,none⟩ (.slice a' e.over.length cap')).rangeAt b 0 (ag e a' cap'):=by
 intro j v hv;rw [Nat.zero_add];by_cases hj:j=18
 ·subst hj
  simp [ag] at hv;subst hv;exact World.cell?_setCell_same _ _ _ (h 18 _ rfl)
 ·rw [World.cell?_setCell_other _ _ _ _ (by simp [Ne.symm hj])]
  have h1:(ag e a cap)[j]?=some v:=by
   rw [← hv];match j,hj with
   | 0,_ | 1,_ | 2,_ | 3,_ | 4,_ | 5,_ | 6,_ | 7,_ | 8,_ | 9,_ | 10,_ | 11,_ | 12,_ | 13,_ | 14,_ | 15,_ | 16,_ | 17,_=>rfl
   | j+19,_=>rfl
  have:=h j v h1;rwa [Nat.zero_add] at this
theorem aB {P:Program} {ops:Array Oper} {rest:List Oper} {a:Act} {w:World} {Q:Exit→Act→World→Prop} {type:TypeId} {pos:String} {after:Array Edge} (ty:TypeId) (x y:Operand) (c c':Array Value)
 (hx:a.eval x=.pointer (some ⟨w.heap.size,0,none⟩)) (hy:a.eval y=.agg c') (hi:(P.info? ty).map (·.size)=some c'.size) (hold:c.size=c'.size) (h1:c'.all (·.oneCell')=true)
 (h:wpList P ops Q rest a (w.alloc (.cells c' ty))):wpList P ops Q (⟨none,.store ty x y,type,pos,after,none⟩ :: rest) a (w.alloc (.cells c ty)):=by
 refine wpList_store_row rfl ty x y rfl w.heap.size c' hx hy ty c (heap_alloc_last w _) hi hold h1 ?_;rw [World.setRow_alloc_new];exact h
theorem cu {P:Program} {ops:Array Oper} {rest:List Oper} {a:Act} {w:World} {Q:Exit→Act→World→Prop} {type:TypeId} {pos:String} {after:Array Edge} (ty:TypeId) (x y:Operand) (c c':Array Value) (N:Nat) (hN:w.heap.size=N)
 (hx:a.eval x=.pointer (some ⟨N,0,none⟩)) (hy:a.eval y=.agg c') (hi:(P.info? ty).map (·.size)=some c'.size) (hold:c.size=c'.size) (h1:c'.all (·.oneCell')=true)
 (h:wpList P ops Q rest a (w.alloc (.cells c' ty))):wpList P ops Q (⟨none,.store ty x y,type,pos,after,none⟩ :: rest) a (w.alloc (.cells c ty)):=by
 subst hN;exact aB ty x y c c' hx hy hi hold h1 h
abbrev bH:=Ev×Option Addr×Nat
abbrev lD (x:bH):List Value:=ag x.1 x.2.1 x.2.2
structure EvsIn (w:World) (a:Option Addr) (ls:List bH):Prop where
 rows:ls=[]∨∃ A off,a=some ⟨A,off,none⟩∧∀ i (h:i<ls.length),w.rangeAt A (off+i * 19) (lD ls[i])
 dots:∀ x∈ls,DotsIn w x.2.1 x.1.over
theorem EvsIn.kept {w w':World} {a:Option Addr} {ls:List bH} (h:EvsIn w a ls) (hb:Below w.heap.size w w'):EvsIn w' a ls :=
 ⟨h.rows.imp id fun ⟨A,off,h1,h2⟩=>⟨A,off,h1,fun i hi=>aj (h2 i hi) hb⟩,fun x hx=>(h.dots x hx).kept hb⟩
theorem EvsIn.at {w:World} {a:Option Addr} {ls:List bH} (h:EvsIn w a ls) {k:Nat} (hk:k<ls.length) :
 ∃ A off,a=some ⟨A,off,none⟩∧(∀ i (h:i<ls.length),w.rangeAt A (off+i * 19) (lD ls[i]))∧DotsIn w ls[k].2.1 ls[k].1.over:=by
 rcases h.rows with h1 | ⟨A,off,h1,h2⟩
 ·subst h1;simp at hk
 ·exact ⟨A,off,h1,h2,h.dots _ (List.getElem_mem hk)⟩
/-- the events alone -/
def aU (ls:List bH):List Ev:=ls.map (·.1)
theorem bi (ls:List bH):(aU ls).length=ls.length:=by simp [aU]
theorem wC {ls:List bH} {k:Nat} (h:k<ls.length):(aU ls)[k]'(by rw [bi];exact h)=ls[k].1:=by simp [aU]
def fA (ls:List bH):Prop:=∀ x∈ls,EvSmall x.1
/-! ### are they the same -/
theorem y23 {p q : Prop} (k : q) (h : PLift q → p := by
 intro kk
 refine aP (by kernel_rfl) (by kernel_rfl) (fun W2 hW2 => ?_)
 have R1 : W2.rangeAt A (off + k * 19) (ag e ax cx) := by rw [hW2.out]; exact r1
 have R2 : W2.rangeAt B (ofb + k * 19) (ag f ay cy) := by rw [hW2.out]; exact r2
 have D1 : ∀ i : After W2, DotsIn i.w ax e.over := fun i => (show DotsIn W2 ax e.over by rw [hW2.out]; exact hda).kept i.h
 have D2 : ∀ i : After W2, DotsIn i.w ay f.over := fun i => (show DotsIn W2 ay f.over by rw [hW2.out]; exact hdb).kept i.h
 iterate 3 go_big_quiet_step (fail)
 revert W2 hW2 R1 R2 D1 D2
 exact kk.down) : p := h ⟨k⟩
theorem qA (a b:Option Addr) (ca cb:Nat) (l m:List bH) (w:World) (hl:l.length≤1073741824) (hm:m.length≤1073741824) (hsl:fA l) (hsm:fA m) (ha:EvsIn w a l) (hb:EvsIn w b m) :
 Calls prog 78 #[.slice a l.length ca,.slice b m.length cb] w fun x w'=>x=.returned (.bool (decide (aU l=aU m)))∧Below w.heap.size w w':=by
 by_cases hlen:l.length=m.length
 ·refine y19 ?_
  intro hb1 hb2 hl1 hl2
  clear hlen
  go_enter func78,ntmps78;go_wp2;go_loopw [5] (fun i wr=>∃ k:Nat,k≤l.length∧i=.int .i64 k∧(aU l).take k=(aU m).take k∧Below w.heap.size w wr) (fun i _=>l.length - (intOf i).toNat)
  case atStart => exact z153
  case round =>
   obtain ⟨k,hk,rfl,hpre,hbw⟩:=hrel;have HP:=Lib.hid hpre;clear hpre;have hzw:=hbw.size;by_cases hlt:k<l.length
   ·have hlm:k<m.length:=by omega
    obtain ⟨A,off,rfl,hra,hda⟩:=(ha.kept hbw).at hlt;obtain ⟨B,ofb,rfl,hrb,hdb⟩:=(hb.kept hbw).at hlm;have r1:=hra k hlt;have r2:=hrb k hlm;have s1:=(hsl _ (List.getElem_mem hlt)).over;have s2:=(hsm _ (List.getElem_mem hlm)).over;have g1:=@wC l k hlt;have g2:=@wC m k hlm;have HN:=fun he:l[k].1=m[k].1=>Dx (k:=k) (by rw [bi];exact hlt) (by rw [bi];exact hlm) HP.out (by rw [g1,g2];exact he);have HD:=fun he:¬ l[k].1=m[k].1=>decide_eq_false (EG (k:=k) (l:=aU l) (m:=aU m) (by rw [bi];exact hlt) (by rw [bi];exact hlm) (by rw [g1,g2];exact he));clear hra hrb g1 g2 HP;generalize l[k]=x at *;generalize m[k]=y at *;obtain ⟨e,ax,cx⟩:=x;obtain ⟨f,ay,cy⟩:=y;simp only [lD] at *;have hS0:=fun (W:World) (h1:DotsIn W ax e.over) (h2:DotsIn W ay f.over)=>Gx e f ax ay cx cy W s1 s2 h1 h2;by_cases he:e=f
    ·have HE:=Lib.hid (HN he)
     rw [decide_eq_true he] at hS0;have HS:=Lib.hid hS0;clear hS0 he HN HD;go_upto_region 6 with fail
     refine y23 ?_
     intro W2 hW2 R1 R2 D1 D2
     ((with_reducible refine jA _ A (off+k * 19) e ax cx R1 ?_ rfl ?_);exact rfl;go_simp)
     iterate 3 go_big_quiet_step (fail)
     ((with_reducible refine jA _ B (ofb+k * 19) f ay cy R2 ?_ rfl ?_);exact rfl;go_simp)
     go_big_quiet_step (exact Calls.after (HS.out _ (D1 _) (D2 _)))
     go_big_quiet_step (fail)
     refine wpQuiet_nil ?_;first | (intro _ hi;obtain ⟨i,rfl⟩:=hi) | intro i
     have hib:=i.h;clear D1 D2 R1 R2;generalize i.w=wi at hib ⊢;rw [hW2.out] at hib;go_wp2;go_roundw
     case rel=>exact ⟨k+1,by omega,by go_num,HE.out,hbw.trans (hib.mono hzw)⟩
     case measure => exact z65
    ·have HE:=Lib.hid (HD he)
     rw [decide_eq_false he] at hS0;have HS:=Lib.hid hS0;clear hS0 he HN HD;go_upto_region 6 with fail
     refine y23 ?_
     intro W2 hW2 R1 R2 D1 D2
     ((with_reducible refine jA _ A (off+k * 19) e ax cx R1 ?_ rfl ?_);exact rfl;go_simp)
     iterate 3 go_big_quiet_step (fail)
     ((with_reducible refine jA _ B (ofb+k * 19) f ay cy R2 ?_ rfl ?_);exact rfl;go_simp)
     go_big_quiet_step (exact Calls.after (HS.out _ (D1 _) (D2 _)))
     go_big_quiet_step (fail)
     refine wpQuiet_nil ?_;first | (intro _ hi;obtain ⟨i,rfl⟩:=hi) | intro i
     have hib:=i.h;clear D1 D2 R1 R2;generalize i.w=wi at hib ⊢;rw [hW2.out] at hib;go_wp2;go_ret;exact ⟨aJ HE.out.symm,hbw.trans (hib.mono hzw)⟩
   ·have hlm:¬ k<m.length:=by omega
    have HE:Hid (decide (aU l=aU m)=true):=decide_eq_true (Gj (k:=k) (by rw [bi];exact hlt) (by rw [bi];exact hlm) HP.out);go_wp2;go_ret;exact ⟨aJ HE.out.symm,hbw⟩
 ·have HE:Hid (decide (aU l=aU m)=false):=decide_eq_false (Fv (by rw [bi,bi];exact hlen))
  refine y26 ?_
  intro hb1 hb2
  clear hlen
  go_enter func78,ntmps78
  exact z43
def aY (l:List Dot):List Value:=l.flatMap fun d=>[.int .i64 d.a.dev,.int .i64 d.a.inc,.int .i64 d.seq]
theorem gW:∀ l:List Dot,(aY l).length=l.length * 3
 | []=>rfl
 | d :: l=>by
   have:=gW l;simp only [aY,List.flatMap_cons,List.length_append,List.length_cons,List.length_nil] at this ⊢;omega
theorem Ir (l:List Dot):∀ u∈aY l,u.oneCell'=true:=by
 intro u hu;simp only [aY,List.mem_flatMap,List.mem_cons,List.not_mem_nil,or_false] at hu;obtain ⟨d,_,rfl | rfl | rfl⟩:=hu <;> rfl
theorem z54 {p : Prop} (h : p := by
 rw [e, List.getElem?_append_right (by simp; omega), List.getElem?_append_right (by simp; omega), List.getElem?_append_right (by simp; omega)]
 simp only [List.length_cons, List.length_nil, List.getElem_cons_succ]
 rw [show (i + 1) * 3 - (0 + 1 + 1 + 1) = i * 3 by omega, show (i + 1) * 3 + 1 - (0 + 1 + 1 + 1) = i * 3 + 1 by omega, show (i + 1) * 3 + 2 - (0 + 1 + 1 + 1) = i * 3 + 2 by omega]
 exact ih) : p := h
theorem iH:∀ (l:List Dot) (i:Nat) (h:i<l.length),(aY l)[i * 3]?=some (.int .i64 l[i].a.dev)∧(aY l)[i * 3+1]?=some (.int .i64 l[i].a.inc)∧(aY l)[i * 3+2]?=some (.int .i64 l[i].seq)
 | [],i,h=>by simp at h
 | d :: l,0,_=>by simp [aY]
 | d :: l,i+1,h=>by
   have ih:=iH l i (by simpa using h);have e:aY (d :: l)=[.int .i64 d.a.dev,.int .i64 d.a.inc,.int .i64 d.seq]++aY l:=rfl
   exact z54
theorem DotsAt.news {w:World} {A off:Nat} {l:List Dot} (h:DotsAt w A off l):∀ j u,(aY l)[j]?=some u→w.cell? ((⟨A,off,none⟩:Addr).add j)=some u:=by
 intro j u hj;have hlt:j<l.length * 3:=by
  have:=(List.getElem?_eq_some_iff.1 hj).1;rwa [gW] at this
 obtain ⟨g0,g1,g2⟩:=iH l (j / 3) (by omega);rw [Addr.add_mid];have h3:j=j / 3 * 3∨j=j / 3 * 3+1∨j=j / 3 * 3+2:=by omega
 rcases h3 with e | e | e
 ·rw [← e,hj] at g0
  have:=h.dev (j / 3) (by omega);rw [← e] at this;rw [this,g0]
 ·rw [← e,hj] at g1
  have:=h.inc (j / 3) (by omega);rw [Nat.add_assoc,← e] at this;rw [this,g1]
 ·rw [← e,hj] at g2
  have:=h.seq (j / 3) (by omega);rw [Nat.add_assoc,← e] at this;rw [this,g2]
/-- what hands back dots in memory of its own -/
def SH (l:List Dot) (w:World) (e:Ending) (w':World):Prop :=
 ∃ v,e=.returned v∧w'.ownsRow w.heap.size 121 3 v l.length (aY l)∧Below w.heap.size w w'
theorem Tryz.infoDot:(prog.info? 121).map (fun i=>(i.zero,i.size,i.bytes))=some (some (.agg #[.int .i64 0,.int .i64 0,.int .i64 0]),3,24):=by kernel_rfl
theorem z83 {p : Prop} (h : p := by
 intro j u hj
 rw [← htk, List.getElem?_take] at hj
 split at hj
 ·simp only [World.cell?, hg]
  simpa using hj
 ·cases hj) : p := h
theorem iF {w:World} {base:Nat} {v:Value} {l:List Dot} (h:w.ownsRow base 121 3 v l.length (aY l)):∃ a cap,v=.slice a l.length cap∧DotsIn w a l:=by
 rcases h.2 with ⟨rfl,h0⟩ | ⟨g,cap,cur,rfl,_,hg,hn,_,hsz,htk⟩
 ·exact ⟨none,0,by rw [h0],Or.inl (List.length_eq_zero_iff.1 h0)⟩
 ·have hcell:∀ j u,(aY l)[j]?=some u→w.cell? ⟨g,j,none⟩=some u:=by
   exact z83
  refine ⟨_,cap,rfl,Or.inr ⟨g,0,rfl,⟨fun i hi=>?_,fun i hi=>?_,fun i hi=>?_⟩⟩⟩
  ·have:=hcell _ _ (iH l i hi).1;simpa using this
  ·have:=hcell _ _ (iH l i hi).2.1;simpa using this
  ·have:=hcell _ _ (iH l i hi).2.2;simpa using this
theorem Dw (a:Option Addr) (cap:Nat) (l:List Dot) (w:World) (hl:l.length≤1073741824) (hn:a=none→l=[]) (h:DotsIn w a l) :
 Calls prog 145 #[.slice a l.length cap] w (SH l w):=by
 obtain ⟨i0,hi,hz0,hz1,hz2⟩:=info_parts Tryz.infoDot;have hnil:=fun (W:World)=>Lib.run_eql_slice_nil (P:=prog) W 34 121 a l.length cap 0 0 underlying34
 cases a with
 | none =>
   have hl0:l=[]:=hn rfl;subst hl0;simp only [List.length_nil] at hnil ⊢;go_enter func145,ntmps145;go_wp2;go_ret;exact ⟨_,rfl,World.ownsRow_nil _ _ _ _,Below.refl _ _⟩
 | some ad =>
   have hnews:∀ j u,(aY l)[j]?=some u→w.cell? (ad.add j)=some u:=by
    rcases h with rfl | ⟨A,off,h1,h2⟩
    ·intro j u hj;simp [aY] at hj
    ·obtain rfl:ad=⟨A,off,none⟩:=by simpa using h1
     exact h2.news
   have HN:Hid (∀ j u,(aY l)[j]?=some u→(w.alloc (Obj.cells #[] 121)).cell? (ad.add j)=some u):=fun j u hj=>kept ((Below.refl _ _).alloc (Nat.le_refl _) _) (hnews j u hj);have hown:(w.alloc (Obj.cells #[] 121)).ownsRow w.heap.size 121 3 (.slice (some ⟨w.heap.size,0,none⟩) 0 0) 0 []:=World.ownsRow_made _ _ _ (Nat.le_refl _) (by decide) rfl;have hbv:=gW l;clear hnews h hn;go_enter func145,ntmps145;go_wp2_with (at_builtin;go_loud (refine wpList_append_own _ rfl _ _ 34 rfl w.heap.size 121 i0 (.agg #[.int .i64 0,.int .i64 0,.int .i64 0]) 3 24 underlying34 hi hz0 hz1 hz2 rfl (by decide) _ _ _ rfl hown ad l.length cap (aY l) rfl hbv HN.out (Ir l) (by unfold maxLen;omega) (by omega) (by simp) ?_))
   intro v' w2 hown2 hgrow _;have hb2:=((Below.refl w.heap.size w).alloc (Nat.le_refl _) (Obj.cells #[] 121)).grown hgrow (by simp) (fun k hk=>(hown.lt k hk).1);go_wp2;go_ret;exact ⟨_,rfl,by simpa using hown2,hb2⟩
/-- behind event.Clone -/
def I7 (e:Ev) (w:World) (x:Ending) (w':World):Prop :=
 ∃ a cap,x=.returned (jY e a cap)∧w'.ownsRow w.heap.size 121 3 (.slice a e.over.length cap) e.over.length (aY e.over)∧Below w.heap.size w w'
theorem yE (e:Ev) (a:Option Addr) (cap:Nat) (w:World) (hl:e.over.length≤1073741824) (hn:a=none→e.over=[]) (h:DotsIn w a e.over) :
 Calls prog 101 #[jY e a cap] w (I7 e w):=by
 have HC:=Lib.hid (fun (W:World) (h:DotsIn W a e.over)=>Dw a cap e.over W hl hn h);go_enter func101,ntmps101;go_upto_region 1 with fail
 refine au (fun W hW=>?_);have hbt:Below w.heap.size w W:=by rw [hW.out];go_grown
 have hz:W.heap.size=w.heap.size+2:=by rw [hW.out];simp
 have hR:W.rangeAt w.heap.size 0 (ag e a cap):=by rw [hW.out];exact World.rangeAt_alloc (eP e a cap w _) _
 have hf:W.frozen? ⟨w.heap.size,18,none⟩=false:=by rw [hW.out];go_simp
 obtain ⟨C,hC,hCs⟩:∃ C:Array Value,W.heap[w.heap.size+1]?=some (.cells C 127 (0,0))∧C.size=19:=by rw [hW.out];exact ⟨_,by simpa using heap_alloc_last (w.alloc _) _,rfl⟩
 have q18:=hR 18 _ rfl;rw [Nat.zero_add] at q18;have ho:=h.kept hbt;clear hW h hn;go_upto_region 2 with (go_at_call 145;(with_reducible refine (HC.out _ ho).mono ?_);rintro x w1 ⟨v,rfl,hown,hb⟩;obtain ⟨a',cap',rfl,_⟩:=iF hown;replace q18:=kept hb q18;replace hR:=aj hR hb;replace hf:w1.frozen? ⟨w.heap.size,18,none⟩=false:=(hb.frozen (p:=⟨w.heap.size,18,none⟩) (by simp only;omega)).trans hf;replace hC:=(hb.block (w.heap.size+1) (by omega)).trans hC;have hz1:=hb.size;replace hbt:=below2 hbt hb;clear hb)
 refine au (fun W2 hW2=>?_);have hR2:W2.rangeAt w.heap.size 0 (ag e a' cap'):=by rw [hW2.out];exact Nj hR
 have o7:Below w.heap.size w W2:=by rw [hW2.out];exact hbt.setCell (by simp) _
 have hC2:W2.heap[w.heap.size+1]?=some (.cells C 127 (0,0)):=by rw [hW2.out,heap_setCell_other _ _ _ _ (by simp)];exact hC
 have hown2:W2.ownsRow W.heap.size 121 3 (.slice a' e.over.length cap') e.over.length (aY e.over):=by rw [hW2.out];exact kJ hown (fun k hk=>heap_setCell_other _ _ _ _ (by simp only;omega))
 clear hW2 hR hbt hC hown hf q18;go_wp2_with (first
  | ((with_reducible refine bu _ w.heap.size e a' cap' hR2 ?_ rfl ?_);exact rfl)
  | (refine wpList_store_row rfl 127 _ _ rfl (w.heap.size+1) (ag e a' cap').toArray rfl rfl 127 C hC2 (by kernel_rfl) hCs (by kernel_rfl) ?_))
 refine dP 2 127 127 (w.heap.size+1) (ag e a' cap').toArray _ rfl rfl (setRow_heap _ _ _ _ _ _ hC2) underlying127 rfl (by kernel_rfl) rfl ?_;exact ⟨a',cap',rfl,jh (kJ hown2 (fun k hk=>aI _ _ _ _ (by omega))) (by omega),below_setRow o7 (by omega) _⟩
/-- slices of events of one's own -/
def aV (l:List bH):List Value:=l.flatMap lD
theorem oP (x:Ev) (a:Option Addr) (cap:Nat):(ag x a cap).length=19:=rfl
theorem jy (l:List bH) (x:bH):aV (l++[x])=aV l++lD x:=by simp [aV]
theorem dR (x:Ev) (a:Option Addr) (cap:Nat):∀ u∈ag x a cap,u.oneCell'=true:=by
 intro u hu;simp only [ag,List.mem_cons,List.not_mem_nil,or_false] at hu;rcases hu with rfl | rfl | rfl | rfl | rfl | rfl | rfl | rfl | rfl | rfl | rfl | rfl | rfl | rfl | rfl | rfl | rfl | rfl | rfl <;> rfl
theorem wE:∀ (l:List bH) (i j:Nat) (u:Value) (hi:i<l.length),(lD l[i])[j]?=some u→(aV l)[i * 19+j]?=some u
 | [],i,_,_,hi,_=>by simp at hi
 | x :: r,i,j,u,hi,h=>by
   have e:aV (x :: r)=lD x++aV r:=by simp [aV]
   have hj:j<19:=by
     have:=(List.getElem?_eq_some_iff.1 h).1;rwa [oP] at this
   rw [e]
   cases i with
   | zero =>
     rw [List.getElem?_append_left (by rw [oP];omega)];simpa using h
   | succ i =>
     rw [List.getElem?_append_right (by rw [oP];omega),oP,show (i+1) * 19+j - 19=i * 19+j by omega];exact wE r i j u (by simpa using hi) (by simpa using h)
theorem kK {w:World} {base:Nat} {t:TypeId} {v:Value} {ls:List bH} (h:w.ownsRow base t 19 v ls.length (aV ls)) (hd:∀ x∈ls,DotsIn w x.2.1 x.1.over):∃ a cap,v=.slice a ls.length cap∧EvsIn w a ls:=by
 rcases h.2 with ⟨rfl,hn⟩ | ⟨g,cap,cur,hv,rest⟩
 ·have:ls=[]:=List.length_eq_zero_iff.1 hn
  subst this;exact ⟨none,0,rfl,⟨Or.inl rfl,hd⟩⟩
 ·refine ⟨some ⟨g,0,none⟩,cap,hv,⟨Or.inr ⟨g,0,rfl,fun i hi j u hu=>?_⟩,hd⟩⟩
  have:=World.ownsRow.cells (g:=g) h (by rw [hv];rfl) (i * 19+j) u (wE ls i j u hi hu);rw [Addr.add_mid,Nat.zero_add] at this;rwa [Nat.zero_add]
theorem z126 {p : Prop} (h : p := by
 intro j u hj
 rw [Addr.add_mid, Nat.zero_add, World.cell?_alloc_new]
 simpa using hj) : p := h
theorem tu (w:World) (x:Ev) (a:Option Addr) (c:Nat) (t:TypeId):∀ j u,(ag x a c)[j]?=some u→(w.alloc (Obj.cells (ag x a c).toArray t)).cell? ((⟨w.heap.size,0,none⟩:Addr).add j)=some u:=by
 exact z126
theorem Tryz.infoEv:(prog.info? 127).map (fun i=>(i.zero,i.size,i.bytes))=some (some (.agg (ag ev0 none 0).toArray),19,176):=by kernel_rfl
/-- events that grow in a row of one's own, each one's dots in a row of dots -/
structure EvsGr (base:Nat) (v:Value) (ls:List bH) (W:World):Prop where
 own:W.ownsRow base 127 19 v ls.length (aV ls)
 dots:∀ x∈ls,DotsIn W x.2.1 x.1.over
 typ:∀ x∈ls,x.1.over=[]∨∃ A off cs f,x.2.1=some ⟨A,off,none⟩∧W.heap[A]?=some (.cells cs 121 f)
theorem EvsGr.nil (base:Nat) (W:World):EvsGr base (.slice none 0 0) [] W:=⟨World.ownsRow_nil _ _ _ _,fun x hx=>(nomatch hx),fun x hx=>(nomatch hx)⟩
theorem EvsGr.kept {base:Nat} {v:Value} {ls:List bH} {w w':World} (h:EvsGr base v ls w) (hb:Below w.heap.size w w'):EvsGr base v ls w' :=
 ⟨ownsRow_below h.own hb,fun x hx=>(h.dots x hx).kept hb,fun x hx=>(h.typ x hx).imp id fun ⟨A,off,cs,f,h1,h2⟩=>⟨A,off,cs,f,h1,(hb.block A (lt_of_block h2)).trans h2⟩⟩
theorem EvsGr.app {base:Nat} {v v2:Value} {ls:List bH} {x:bH} {w w2:World} (h:EvsGr base v ls w) (hown:w2.ownsRow base 127 19 v2 (ls.length+1) (aV ls++lD x)) (hg:w.grownBy w2 v.ownBlock)
 (hd:DotsIn w x.2.1 x.1.over) (ht:x.1.over=[]∨∃ A off cs f,x.2.1=some ⟨A,off,none⟩∧w.heap[A]?=some (.cells cs 121 f)):EvsGr base v2 (ls++[x]) w2:=by
 have hne:∀ (A:Nat) (cs:Array Value) (f:Nat×Nat),w.heap[A]?=some (Obj.cells cs 121 f)→w2.heap[A]?=w.heap[A]?:=fun A cs f hA=>hg.block A (lt_of_block hA) (fun e=>by
  rcases h.own.2 with ⟨rfl,_⟩ | ⟨g,cap,cur,rfl,_,hgb,_⟩
  ·simp [Value.ownBlock] at e
  ·obtain rfl:A=g:=by simpa [Value.ownBlock] using e
   rw [hA] at hgb;simp only [Option.some.injEq,Obj.cells.injEq] at hgb;exact absurd hgb.2.1 (by decide))
 have key:∀ y:bH,DotsIn w y.2.1 y.1.over→(y.1.over=[]∨∃ A off cs f,y.2.1=some ⟨A,off,none⟩∧w.heap[A]?=some (.cells cs 121 f))→DotsIn w2 y.2.1 y.1.over∧(y.1.over=[]∨∃ A off cs f,y.2.1=some ⟨A,off,none⟩∧w2.heap[A]?=some (.cells cs 121 f)):=by
  intro y h1 h2;rcases h2 with h2 | ⟨A,off,cs,f,h3,h4⟩
  ·exact ⟨Or.inl h2,Or.inl h2⟩
  ·have hE:=hne A cs f h4
   refine ⟨?_,Or.inr ⟨A,off,cs,f,h3,hE.trans h4⟩⟩;rcases h1 with h1 | ⟨A',off',h5,h6⟩
   ·exact Or.inl h1
   ·rw [h3] at h5
    simp only [Option.some.injEq,Addr.mk.injEq,and_true] at h5;obtain ⟨rfl,rfl⟩:=h5;exact Or.inr ⟨A,off,h3,⟨fun i hi=>(World.cell?_of_block hE).trans (h6.dev i hi),fun i hi=>(World.cell?_of_block hE).trans (h6.inc i hi),fun i hi=>(World.cell?_of_block hE).trans (h6.seq i hi)⟩⟩
 have hall:∀ y∈ls++[x],_:=fun y hy=>key y (by
  rcases List.mem_append.1 hy with hy | hy
  ·exact h.dots y hy
  ·simp only [List.mem_singleton] at hy;subst hy;exact hd) (by
  rcases List.mem_append.1 hy with hy | hy
  ·exact h.typ y hy
  ·simp only [List.mem_singleton] at hy;subst hy;exact ht)
 exact ⟨by rw [jy,List.length_append];exact hown,fun y hy=>(hall y hy).1,fun y hy=>(hall y hy).2⟩
theorem EvsGr.evs {base:Nat} {v:Value} {ls:List bH} {w:World} (h:EvsGr base v ls w):∃ a cap,v=.slice a ls.length cap∧EvsIn w a ls:=kK h.own h.dots
/-- a row of dots of one's own: its block's type -/
theorem QZ {w:World} {base c n:Nat} {a:Option Addr} {l:List Dot} (h:w.ownsRow base 121 3 (.slice a n c) n (aY l)) (hn:n=l.length):DotsIn w a l∧(l=[]∨∃ A off cs f,a=some ⟨A,off,none⟩∧w.heap[A]?=some (.cells cs 121 f)):=by
 subst hn;obtain ⟨a',c',he,hd⟩:=iF h;simp only [Value.slice.injEq] at he;refine ⟨by rw [he.1];exact hd,?_⟩;rcases h.2 with ⟨_,h0⟩ | ⟨g,cap,cur,hv,_,hg,_⟩
 ·exact Or.inl (List.length_eq_zero_iff.1 h0)
 ·simp only [Value.slice.injEq] at hv
  exact Or.inr ⟨g,0,cur,_,hv.1,hg⟩
theorem z114 {p : Prop} (h : p := by
 rcases h.2 with ⟨h0, hn⟩ | ⟨g, c, cur, he, _, _, hc, _⟩
 ·omega
 ·cases he; exact hc) : p := h
theorem z137 {p : Prop} (h : p := by
 go_wp2
 go_ret
 exact ⟨rfl, rfl⟩) : p := h
end Go.Proofs.YtepkclldbkhanaaGreat
