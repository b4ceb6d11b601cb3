/- The map of events in memory: its parts; Has, Dead, Len, Room. Conditions: as in the text. -/
import Derived.Test.YthphepeniaemoaaGreatVec
import Derived.Test.YthphepeniaemoaaGreatSrtK
import Derived.Test.YthphepeniaemoaaGreatClone
import Derived.Test.YthphepeniaemoaaGreatLoad
import Derived.WalkSpells
set_option linter.unusedSimpArgs false
set_option linter.unusedVariables false
set_option linter.unnecessarySimpa false
set_option maxHeartbeats 16000000
set_option maxRecDepth 100000
open Go.Proofs.Tryz
namespace Go.Proofs.YthphepeniaemoaaGreat
open Go.RowKit
/-- blocks of cells stay as they are -/
def KeepsC (w w':World):Prop:=∀ (k:Nat) (cs:Array Value) (t:TypeId) (f:Nat×Nat),w.heap[k]?=some (Obj.cells cs t f)->w'.heap[k]?=some (Obj.cells cs t f)
theorem KeepsC.cell {w w':World} (h:KeepsC w w') {p:Addr} {v:Value} (hc:w.cell? p=some v):w'.cell? p=some v:=by
 cases ho:w.heap[p.block]? with
 | none=>simp [World.cell?,ho] at hc
 | some o =>
   cases o with
   | cells cs t f =>
     have:=h _ _ _ _ ho;exact (World.cell?_of_block (this.trans ho.symm)).trans hc
   | _=>simp [World.cell?,ho] at hc
theorem KeepsC.trans {a b c:World} (h:KeepsC a b) (k:KeepsC b c):KeepsC a c:=fun i cs t f hi=>k i cs t f (h i cs t f hi)
theorem KeepsC.of_below {w w':World} (h:Below w.heap.size w w'):KeepsC w w':=fun k cs t f hk=>(h.block k (lt_of_block hk)).trans hk
theorem KeepsC.range {w w':World} (h:KeepsC w w') {b o:Nat} {cs:List Value} (hr:w.rangeAt b o cs):w'.rangeAt b o cs:=fun j v hv=>h.cell (hr j v hv)
theorem KeepsC.dots {w w':World} (h:KeepsC w w') {a:Option Addr} {l:List Dot} (hd:DotsIn w a l):DotsIn w' a l :=
 hd.imp id fun ⟨A,off,h1,h2⟩=>⟨A,off,h1,⟨fun i hi=>h.cell (h2.dev i hi),fun i hi=>h.cell (h2.inc i hi),fun i hi=>h.cell (h2.seq i hi)⟩⟩
theorem KeepsC.evs {w w':World} (h:KeepsC w w') {a:Option Addr} {ls:List EvIt} (he:EvsIn w a ls):EvsIn w' a ls :=
 ⟨he.rows.imp id fun ⟨A,off,h1,h2⟩=>⟨A,off,h1,fun i hi=>h.range (h2 i hi)⟩,fun x hx=>h.dots (he.dots x hx)⟩
abbrev WS (n:Nat):Value:=.map (some n)
abbrev evV (x:EvIt):Value:=kV x.1 x.2.1 x.2.2
def kC (K:List EvIt):List (Dot×EvIt):=K.map fun x=>(x.1.dot,x)
def ones (l:List Dot):List (Dot×Int):=l.map fun d=>(d,1)
/-- the dots of a key -/
def atK (pairs:List (Key×Dot)) (k:Key):List Dot:=(pairs.filter fun q=>decide (q.1=k)).map (·.2)
abbrev DTab (w:World) (b:Nat) (l:List Dot):Prop:=Tab prog 76 bZ DotW mF w b (ones l)
abbrev KTab (w:World) (b:Nat) (K:List EvIt):Prop:=Tab prog 76 bZ DotW evV w b (kC K)
abbrev JA (w:World) (b:Nat) (A:List (Key×Nat)):Prop:=Tab prog 78 kQ KeyW WS w b A
/-- a map's fixed blocks -/
structure MB where
 kb:Nat
 ab:Nat
 db:Nat
 v:Nat
 vb:Nat
/-- what a map holds: context, kept events, dead dots, alive dots by keys -/
structure MS where
 ctx:List Dot
 K:List EvIt
 dead:List Dot
 A:List (Key×Nat)
 pairs:List (Key×Dot)
def blocks (b:MB) (A:List (Key×Nat)):List Nat:=b.kb :: b.ab :: b.db :: b.vb :: A.map (·.2)
abbrev foot (b:MB) (A:List (Key×Nat)):Nat->Prop:=fun k=>k∈blocks b A
theorem jT (b:MB) (A:List (Key×Nat)):foot b A b.kb:=by simp [foot,blocks]
theorem iO (b:MB) (A:List (Key×Nat)):foot b A b.ab:=by simp [foot,blocks]
theorem jh (b:MB) (A:List (Key×Nat)):foot b A b.db:=by simp [foot,blocks]
theorem uy (b:MB) (A:List (Key×Nat)):foot b A b.vb:=by simp [foot,blocks]
theorem lN (b:MB) {A:List (Key×Nat)} {p:Key×Nat} (h:p∈A):foot b A p.2:=by
 simp only [foot,blocks,List.mem_cons,List.mem_map];exact bd (bd (bd (bd ⟨p,h,rfl⟩)))
structure MpIn (w:World) (m:Nat) (b:MB) (s:MS):Prop where
 cell:w.heap[m]?=some (.cells #[.map (some b.kb),.map (some b.ab),.map (some b.db),.pointer (some ⟨b.v,0,none⟩)] 125 (0,0))
 vec:VecIn w b.v b.vb s.ctx
 kept:KTab w b.kb s.K
 overs:∀ x∈s.K,DotsIn w x.2.1 x.1.over
 dead:DTab w b.db s.dead
 alive:JA w b.ab s.A
 inner:∀ p∈s.A,DTab w p.2 (atK s.pairs p.1)
 some:∀ p∈s.A,atK s.pairs p.1≠[]
 keys:∀ q∈s.pairs,∃ n,(q.1,n)∈s.A
 nodup:(blocks b s.A).Nodup
theorem MpIn.maps {w:World} {m:Nat} {b:MB} {s:MS} (h:MpIn w m b s) {k:Nat} (hk:foot b s.A k):∃ es cl,w.heap[k]?=Option.some (.map es cl):=by
 simp only [foot,blocks,List.mem_cons,List.mem_map] at hk;rcases hk with rfl | rfl | rfl | rfl | ⟨p,hp,rfl⟩
 ·exact h.kept.mapped
 ·exact h.alive.mapped
 ·exact h.dead.mapped
 ·exact h.vec.tab.mapped
 ·exact (h.inner p hp).mapped
theorem MpIn.keeps {w w':World} {m:Nat} {b:MB} {s:MS} (h:MpIn w m b s) {S:Nat->Prop} (hf:Fr S w w') (hS:∀ k,S k->foot b s.A k):KeepsC w w':=fun k cs t f hk=>by
 refine (hf.block k (lt_of_block hk) (fun hs=>?_)).trans hk;obtain ⟨es,cl,h1⟩:=h.maps (hS k hs);rw [hk] at h1
 cases h1
theorem MpIn.low {w:World} {m:Nat} {b:MB} {s:MS} (h:MpIn w m b s) {k:Nat} (hk:foot b s.A k):k<w.heap.size:=by
 obtain ⟨es,cl,h1⟩:=h.maps hk;exact lt_of_block h1
theorem MpIn.kept_w {w w':World} {m:Nat} {b:MB} {s:MS} (h:MpIn w m b s) (hb:Below w.heap.size w w'):MpIn w' m b s :=
 ⟨(hb.block m (lt_of_block h.cell)).trans h.cell,h.vec.kept hb,h.kept.kept hb,fun x hx=>(h.overs x hx).kept hb,h.dead.kept hb,h.alive.kept hb,fun p hp=>(h.inner p hp).kept hb,h.some,h.keys,h.nodup⟩
/-- another map's operations leave this one alone -/
theorem MpIn.other {w w':World} {m:Nat} {b:MB} {s:MS} (h:MpIn w m b s) {S:Nat->Prop} (hf:Fr S w w') (hK:KeepsC w w') (hS:∀ k,S k->¬ foot b s.A k):MpIn w' m b s:=by
 have hn:∀ k,foot b s.A k->¬ S k:=fun k hk hs=>hS k hs hk;refine ⟨hK _ _ _ _ h.cell,⟨hK _ _ _ _ h.vec.cell,h.vec.tab.fr hf (hn _ (uy _ _))⟩,h.kept.fr hf (hn _ (jT _ _)),fun x hx=>hK.dots (h.overs x hx),h.dead.fr hf (hn _ (jh _ _)),
  h.alive.fr hf (hn _ (iO _ _)),fun p hp=>(h.inner p hp).fr hf (hn _ (lN _ hp)),h.some,h.keys,h.nodup⟩
theorem dC {w:World} {m:Nat} {x0 x1 x2 x3:Value} {t:TypeId} (h:w.heap[m]?=some (.cells #[x0,x1,x2,x3] t (0,0))):w.cell? ⟨m,0,none⟩=some x0/\w.cell? ⟨m,1,none⟩=some x1/\w.cell? ⟨m,2,none⟩=some x2/\w.cell? ⟨m,3,none⟩=some x3:=by
 simp [World.cell?,h]
/-! ### Has -/
/-! ### Dead -/
theorem Hz {l:List Dot} {d:Dot} (h:d∈l):(d,(1:Int))∈ones l:=List.mem_map.2 ⟨d,h,rfl⟩
theorem DTab.look {w:World} {b:Nat} {l:List Dot} (h:DTab w b l) {d:Dot} (hd:DotW d):∃ n:Int,(Instr.lookup 121 (.map (some b)) (bZ d) true).run prog w=.ok (.tuple #[.int .i64 n,.bool (decide (d∈l))]) w:=by
 by_cases hm:d∈l
 ·rw [aR hm]
  exact ⟨1,h.look_hit jE underlying121 (z:=.int .i64 0) (by kernel_rfl) (Hz hm) true⟩
 ·rw [aM hm]
  exact ⟨0,h.look_miss jE underlying121 (z:=.int .i64 0) (by kernel_rfl) hd (fun p hp=>by obtain ⟨x,hx,rfl⟩:=List.mem_map.1 hp;exact fun e=>hm (by rw [<- e];exact hx)) true⟩
theorem Es {m:Nat} {b:MB} {s:MS} (d:Dot) (hd:DotW d) (w:World) (h:MpIn w m b s):Calls prog 58 #[.pointer (some ⟨m,0,none⟩),bZ d] w fun e w'=>e=.returned (.bool (decide (d∈s.dead)))/\Below w.heap.size w w':=by
 obtain ⟨q,hq⟩:∃ q,q=decide (d∈s.dead):=⟨_,rfl⟩;rw [<- hq];have HQ:=aq hq;clear hq;go_enter func58,ntmps58;go_upto_region 3 with fail
 refine y65 ?_
 intro W hW hbw
 have h1:=h.kept_w hbw
 refine y37 ?_
 intro x0 x1 x2
 have y2:∀ i:After W,i.w.cell? ⟨m,2,none⟩=some (.map (some b.db)):=fun i=>i.cell (dC h1.cell).2.2.1;have hL:∃ n:Int,∀ i:After W,(Instr.lookup 121 (.map (some b.db)) (bZ d) true).run prog i.w=.ok (.tuple #[.int .i64 n,.bool q]) i.w:=by
  rw [HQ.out];by_cases hm:d∈s.dead
  ·rw [aR hm]
   exact ⟨1,fun i=>(h1.dead.kept i.h).look_hit jE underlying121 (z:=.int .i64 0) (by kernel_rfl) (Hz hm) true⟩
  ·rw [aM hm]
   exact ⟨0,fun i=>(h1.dead.kept i.h).look_miss jE underlying121 (z:=.int .i64 0) (by kernel_rfl) hd (fun p hp=>by obtain ⟨x,hx,rfl⟩:=List.mem_map.1 hp;exact fun e=>hm (by rw [<- e];exact hx)) true⟩
 obtain ⟨n,hL⟩:=hL;clear hW h h1;iterate 5 go_big_quiet_step (fail)
 refine gp (by rfl) _ (fun X hX=>by obtain ⟨i,rfl⟩:=hX;exact lF _ _ _ _ rfl _ (hL i)) ?_;try simp only [pS]
 iterate 5 go_big_quiet_step (fail)
 refine wpQuiet_nil ?_;rintro _ ⟨i,rfl⟩;have hib:=i.h;generalize i.w=wi at hib ⊢;go_wp2;all_goals
  go_ret;exact ⟨rfl,below2 hbw hib⟩
/-! ### Len, Room -/
theorem Qc {m:Nat} {b:MB} {s:MS} (w:World) (h:MpIn w m b s):Calls prog 20 #[.pointer (some ⟨m,0,none⟩)] w fun e w'=>e=.returned (.int .i64 s.K.length)/\w=w':=by
 obtain ⟨c0,c1,c2,c3⟩:=dC h.cell;have hL:=fun ty=>h.kept.len underlying119 ty;simp only [kC,List.length_map] at hL;clear h c1 c2 c3;go_enter func20,ntmps20;go_wp2;all_goals
  go_ret;exact ⟨rfl,rfl⟩
theorem Kv {m:Nat} {b:MB} {s:MS} (w:World) (h:MpIn w m b s) (hk:s.K.length<=1073741824):Calls prog 55 #[.pointer (some ⟨m,0,none⟩),.int .i64 1] w fun e w'=>e=.returned (.bool (decide (s.K.length<2048)))/\w=w':=by
 obtain ⟨c0,c1,c2,c3⟩:=dC h.cell;have hL:=fun ty=>h.kept.len underlying119 ty;simp only [kC,List.length_map] at hL;have hw:IntKind.i64.wrap (2048 - (s.K.length:Int))=2048 - (s.K.length:Int):=IntWalk.i64_in _ (by omega);clear h c1 c2 c3;go_enter func55,ntmps55;go_wp2;all_goals
  go_ret;exact ⟨aH (by rw [Bool.eq_iff_iff];simp <;> omega),rfl⟩
def MS.empty:MS:=⟨[],[],[],[],[]⟩
theorem Bo (w:World):Calls prog 19 #[] w fun e w'=>∃ m b,e=.returned (.pointer (some ⟨m,0,none⟩))/\MpIn w' m b MS.empty/\Below w.heap.size w w'/\w.heap.size<=m/\∀ k,foot b [] k->w.heap.size<=k:=by
 have hmm:=@run_makeMap prog;have HV:=aq (fun X=>Gx X);go_enter func19,ntmps19;go_wp2_with (go_at_call 51;(with_reducible refine (HV.out _).mono ?_);rintro e w1 ⟨rfl,hv,hb⟩)
 go_ret;have hs3:(((w.alloc (.map #[] 0)).alloc (.map #[] 0)).alloc (.map #[] 0)).heap.size=w.heap.size+3:=by simp
 rw [hs3] at hv hb;have hb0:Below w.heap.size w w1:=by
  have h0:Below w.heap.size w (((w.alloc (.map #[] 0)).alloc (.map #[] 0)).alloc (.map #[] 0)):=by go_grown
  exact h0.trans (hb.mono (by omega))
 have hz:=hb.size;rw [hs3] at hz;have e0:(((w.alloc (.map #[] 0)).alloc (.map #[] 0)).alloc (.map #[] 0)).heap[w.heap.size]?=some (.map #[] 0):=by
  rw [Below.heap_alloc _ _ _ (by simp;omega),Below.heap_alloc _ _ _ (by simp)];exact aY w _
 have e1:(((w.alloc (.map #[] 0)).alloc (.map #[] 0)).alloc (.map #[] 0)).heap[w.heap.size+1]?=some (.map #[] 0):=by
  rw [Below.heap_alloc _ _ _ (by simp)];exact eY w _ _
 have e2:(((w.alloc (.map #[] 0)).alloc (.map #[] 0)).alloc (.map #[] 0)).heap[w.heap.size+2]?=some (.map #[] 0):=by
  have:=aY ((w.alloc (.map #[] 0)).alloc (.map #[] 0)) (.map #[] 0);simpa using this
 have t0:∀ {α β:Type} {k:TypeId} {kv:α->Value} {ok:α->Prop} {vv:β->Value} {i:Nat},i<w.heap.size+3->(((w.alloc (.map #[] 0)).alloc (.map #[] 0)).alloc (.map #[] 0)).heap[i]?=some (.map #[] 0)->∀ (X:World),Below w1.heap.size w1 X->Tab prog k kv ok vv X i ([]:List (α×β)):=by
  intro α β k kv ok vv i hi he X hX;have hm:Tab prog k kv ok vv (w.alloc (.map #[] 0)) w.heap.size ([]:List (α×β)):=Tab.made w;have he':X.heap[i]?=some (.map #[] 0):=by rw [hX.block i (by omega),hb.block i hi];exact he
  obtain ⟨D,⟨es,cl,g1,g2⟩,g3⟩:=hm;have g0:(w.alloc (.map #[] 0)).heap[w.heap.size]?=some (.map #[] 0):=aY w _;rw [g0] at g1;simp only [Option.some.injEq,Obj.map.injEq] at g1;obtain ⟨rfl,rfl⟩:=g1;exact ⟨D,⟨_,_,he',g2⟩,g3⟩
 have hX:Below w1.heap.size w1 (w1.alloc (Obj.cells #[.map (some w.heap.size),.map (some (w.heap.size+1)),.map (some (w.heap.size+2)),.pointer (some ⟨w.heap.size+3+1,0,none⟩)] 125)):=(bh _ _).alloc (ar _) _;refine ⟨w1.heap.size,⟨w.heap.size,w.heap.size+1,w.heap.size+2,w.heap.size+4,w.heap.size+3⟩,rfl,⟨aY w1 _,hv.kept hX,t0 (by omega) e0 _ hX,fun x hx=>(nomatch hx),t0 (by omega) e2 _ hX,t0 (by omega) e1 _ hX,fun p hp=>(nomatch hp),fun p hp=>(nomatch hp),fun p hp=>(nomatch hp),?_⟩,hb0.trans (hX.mono hb0.size),hb0.size,fun k hk=>?_⟩
 ·simp [blocks,MS.empty]
 ·simp only [foot,blocks,List.map_nil,List.mem_cons,List.not_mem_nil,or_false] at hk
  omega
/-! ### live -/
theorem xQ (pairs:List (Key×Dot)) (k:Key) (d:Dot):atK ((k,d) :: pairs) k=d :: atK pairs k:=by simp [atK]
theorem uF {pairs:List (Key×Dot)} {k k':Key} (d:Dot) (h:k≠k'):atK ((k,d) :: pairs) k'=atK pairs k':=by simp [atK,h]
theorem jc {b:MB} {A:List (Key×Nat)} (h:(blocks b A).Nodup):b.kb≠b.ab/\b.kb≠b.db/\b.kb≠b.vb/\b.ab≠b.db/\b.ab≠b.vb/\b.db≠b.vb/\(∀ p∈A,b.kb≠p.2/\b.ab≠p.2/\b.db≠p.2/\b.vb≠p.2)/\(A.map (·.2)).Nodup:=by
 simp only [blocks,List.nodup_cons,List.mem_cons,List.mem_map,not_or,not_exists,not_and] at h;obtain ⟨⟨h1,h2,h3,h4⟩,⟨h5,h6,h7⟩,⟨h8,h9⟩,h10,h11⟩:=h;exact ⟨h1,h2,h3,h5,h6,h8,fun p hp=>⟨fun e=>h4 p hp e.symm,fun e=>h7 p hp e.symm,fun e=>h9 p hp e.symm,fun e=>h10 p hp e.symm⟩,h11⟩
theorem z131 {p : Prop} (h : p := by
 rcases Nat.lt_trichotomy i j with hij | hij | hij
 ·exact absurd e (hh i j hi hj hij)
 ·subst hij; rfl
 ·exact absurd e.symm (hh j i hj hi hij)) : p := h
theorem yj {A:List (Key×Nat)} (h:(A.map (·.2)).Nodup) {p q:Key×Nat} (hp:p∈A) (hq:q∈A) (e:p.2=q.2):p=q:=by
 have h':A.Pairwise fun x y=>x.2≠y.2:=List.pairwise_map.1 h;rcases List.pairwise_iff_getElem.1 h' with hh;obtain ⟨i,hi,rfl⟩:=List.getElem_of_mem hp;obtain ⟨j,hj,rfl⟩:=List.getElem_of_mem hq
 exact z131
theorem MpIn.live_old {w w':World} {m:Nat} {b:MB} {s:MS} {k:Key} {d:Dot} {n:Nat} (h:MpIn w m b s) (hn:(k,n)∈s.A) (ht:DTab w' n (d :: atK s.pairs k)) (hf:Fr (isR n) w w') :
 MpIn w' m b { s with pairs:=(k,d) :: s.pairs }:=by
 obtain ⟨n1,n2,n3,n4,n5,n6,n7,n8⟩:=jc h.nodup;obtain ⟨q1,q2,q3,q4⟩:=n7 _ hn;have hK:=h.keeps hf (fun i hi=>by subst hi;exact lN b hn);refine ⟨hK _ _ _ _ h.cell,⟨hK _ _ _ _ h.vec.cell,h.vec.tab.fr hf q4⟩,h.kept.fr hf q1,fun x hx=>hK.dots (h.overs x hx),h.dead.fr hf q3,h.alive.fr hf q2,fun p hp=>?_,fun p hp=>?_,fun q hq=>?_,h.nodup⟩
 ·by_cases e:k=p.1
  ·have:p=(k,n):=by
        have:=h.alive.apart;by_cases e2:p=(k,n)
        ·exact e2
        ·exfalso
         obtain ⟨i,hi,rfl⟩:=List.getElem_of_mem hp;obtain ⟨j,hj,hj2⟩:=List.getElem_of_mem hn;have hh:=List.pairwise_iff_getElem.1 this;rcases Nat.lt_trichotomy i j with hij | hij | hij
         ·exact hh i j hi hj hij (by rw [hj2];exact e.symm)
         ·subst hij;exact e2 hj2
         ·exact hh j i hj hi hij (by rw [hj2];exact e)
   subst this;rw [xQ];exact ht
  ·rw [uF _ e]
   refine (h.inner p hp).fr hf (fun e2=>?_);have:=yj n8 hp hn e2;exact e (by rw [this])
 ·by_cases e:k=p.1
  ·subst e;rw [xQ];simp
  ·rw [uF _ e];exact h.some p hp
 ·rcases List.mem_cons.1 hq with rfl | hq
  ·exact ⟨n,hn⟩
  ·exact h.keys q hq
theorem MpIn.live_new {w w':World} {m:Nat} {b:MB} {s:MS} {k:Key} {d:Dot} {n:Nat} (h:MpIn w m b s) (hn:∀ p∈s.A,p.1≠k) (hlow:w.heap.size<=n) (ht:DTab w' n [d]) (hA:JA w' b.ab ((k,n) :: s.A)) (hf:Fr (isR b.ab) w w') :
 MpIn w' m b { s with A:=(k,n) :: s.A,pairs:=(k,d) :: s.pairs }:=by
 obtain ⟨n1,n2,n3,n4,n5,n6,n7,n8⟩:=jc h.nodup;have hK:=h.keeps hf (fun i hi=>by subst hi;exact iO b _);have hat:atK s.pairs k=[]:=by
  unfold atK;rw [List.map_eq_nil_iff,List.filter_eq_nil_iff];intro q hq;obtain ⟨n',hn'⟩:=h.keys q hq;simpa using hn _ hn'
 refine ⟨hK _ _ _ _ h.cell,⟨hK _ _ _ _ h.vec.cell,h.vec.tab.fr hf (Ne.symm n5)⟩,h.kept.fr hf n1,fun x hx=>hK.dots (h.overs x hx),h.dead.fr hf (Ne.symm n4),hA,fun p hp=>?_,fun p hp=>?_,fun q hq=>?_,?_⟩
 ·rcases List.mem_cons.1 hp with rfl | hp
  ·rw [xQ,hat];exact ht
  ·rw [uF _ (hn p hp).symm]
   exact (h.inner p hp).fr hf (n7 p hp).2.1.symm
 ·rcases List.mem_cons.1 hp with rfl | hp
  ·rw [xQ];simp
  ·rw [uF _ (hn p hp).symm];exact h.some p hp
 ·rcases List.mem_cons.1 hq with rfl | hq
  ·exact ⟨n,List.mem_cons_self⟩
  ·obtain ⟨n',hn'⟩:=h.keys q hq
   exact ⟨n',List.mem_cons_of_mem _ hn'⟩
 ·have hnew:∀ k,foot b s.A k->k≠n:=fun k hk e=>by have:=h.low hk;omega
  have hh:=h.nodup;have hp:(blocks b ((k,n) :: s.A)).Perm (n :: blocks b s.A):=by
   simp only [blocks,List.map_cons];exact (List.perm_middle (a:=n) (l₁:=[b.kb,b.ab,b.db,b.vb]) (l₂:=s.A.map (·.2)))
  rw [hp.nodup_iff,List.nodup_cons];exact ⟨fun hm=>hnew n hm rfl,hh⟩
/-- behind what turns a map -/
def Ud (m:Nat) (b:MB) (s s':MS) (v:Value) (w:World) (e:Ending) (w':World):Prop :=
 e=.returned v/\∃ A',MpIn w' m b { s' with A:=A' }/\Fr (foot b s.A) w w'/\∀ k,foot b A' k->foot b s.A k\/w.heap.size<=k
theorem z30 {p : Prop} (h : p := by (rintro w ⟨⟨s0, s1, s2, s7, s8, s9, sm⟩, sl⟩; go_simp; try with_reducible rfl)) : p := h
theorem z75 {p : Prop} (h : p := by (rintro w ⟨s0, s1, s2, s7, s8, s9, sm⟩; go_simp; try with_reducible rfl)) : p := h
theorem y21 {p q : Prop} (k : q) (h : PLift q -> p := by
 intro kk
 refine wp_region_noPanic ?_
 refine bH (fun W' => (W'.cell? ⟨w.heap.size, 0, none⟩ = some (.int .i64 e.dot.a.dev) /\ W'.cell? ⟨w.heap.size, 1, none⟩ = some (.int .i64 e.dot.a.inc) /\ W'.cell? ⟨w.heap.size, 2, none⟩ = some (.int .i64 e.dot.seq) /\ W'.cell? ⟨w.heap.size, 7, none⟩ = some (.string e.key.name) /\ W'.cell? ⟨w.heap.size, 8, none⟩ = some (.string e.key.domain) /\ W'.cell? ⟨w.heap.size, 9, none⟩ = some (.string e.key.path) /\ W'.cell? ⟨m, 1, none⟩ = some (.map (some b.ab))) /\ (Instr.lookup 120 (.map (some b.ab)) (kQ e.key) false).run prog W' = .ok (.map (some n)) W') [9] (by kernel_rfl) ?_
 have hS := ba (ba z0 (ba z1 (ba z2 (ba z7 (ba z8 (ba z9 zm)))))) hl3
 revert hS
 exact kk.down) : p := h ⟨k⟩
theorem y13 {p q : Prop} (k : q) (h : PLift q -> p := by
 intro kk
 refine y65 ?_
 intro W hW hbw
 have hR : W.rangeAt w.heap.size 0 (az e a cap) := by rw [hW.out]; exact dU e a cap w _
 have h1 := h.kept_w hbw
 have v0 : W.cell? ⟨w.heap.size, 0, none⟩ = some (.int .i64 e.dot.a.dev) := by have := hR 0 _ rfl; rwa [aw] at this
 have v1 : W.cell? ⟨w.heap.size, 1, none⟩ = some (.int .i64 e.dot.a.inc) := by have := hR 1 _ rfl; rwa [aw] at this
 have v2 : W.cell? ⟨w.heap.size, 2, none⟩ = some (.int .i64 e.dot.seq) := by have := hR 2 _ rfl; rwa [aw] at this
 have v6 : W.cell? ⟨w.heap.size, 6, none⟩ = some (.int .i64 e.kind) := by have := hR 6 _ rfl; rwa [aw] at this
 have v7 : W.cell? ⟨w.heap.size, 7, none⟩ = some (.string e.key.name) := by have := hR 7 _ rfl; rwa [aw] at this
 have v8 : W.cell? ⟨w.heap.size, 8, none⟩ = some (.string e.key.domain) := by have := hR 8 _ rfl; rwa [aw] at this
 have v9 : W.cell? ⟨w.heap.size, 9, none⟩ = some (.string e.key.path) := by have := hR 9 _ rfl; rwa [aw] at this
 have x7 := fun i : After W => i.cell v7
 have x8 := fun i : After W => i.cell v8
 have x9 := fun i : After W => i.cell v9
 have xm := fun i : After W => i.cell (dC h1.cell).2.1
 clear hW
 iterate 6 go_big_quiet_step (fail)
 revert W hbw hR h1 v0 v1 v2 v6 v7 v8 v9 x7 x8 x9 xm
 exact kk.down) : p := h ⟨k⟩
theorem y12 {p q : Prop} (k : q) (h : PLift q -> p := by
 intro kk
 have h2 := h1.kept_w hib
 have z0 : W.cell? ⟨w.heap.size, 0, none⟩ = some (.int .i64 e.dot.a.dev) := by have := hR 0 _ rfl; rwa [aw] at this
 have z1 : W.cell? ⟨w.heap.size, 1, none⟩ = some (.int .i64 e.dot.a.inc) := by have := hR 1 _ rfl; rwa [aw] at this
 have z2 : W.cell? ⟨w.heap.size, 2, none⟩ = some (.int .i64 e.dot.seq) := by have := hR 2 _ rfl; rwa [aw] at this
 have z6 : W.cell? ⟨w.heap.size, 6, none⟩ = some (.int .i64 e.kind) := by have := hR 6 _ rfl; rwa [aw] at this
 have z7 : W.cell? ⟨w.heap.size, 7, none⟩ = some (.string e.key.name) := by have := hR 7 _ rfl; rwa [aw] at this
 have z8 : W.cell? ⟨w.heap.size, 8, none⟩ = some (.string e.key.domain) := by have := hR 8 _ rfl; rwa [aw] at this
 have z9 : W.cell? ⟨w.heap.size, 9, none⟩ = some (.string e.key.path) := by have := hR 9 _ rfl; rwa [aw] at this
 replace z0 : wi.drew.cell? _ = _ := kept hib z0
 replace z1 : wi.drew.cell? _ = _ := kept hib z1
 replace z2 : wi.drew.cell? _ = _ := kept hib z2
 replace z7 : wi.drew.cell? _ = _ := kept hib z7
 replace z8 : wi.drew.cell? _ = _ := kept hib z8
 replace z9 : wi.drew.cell? _ = _ := kept hib z9
 clear z6
 have zm : wi.drew.cell? ⟨m, 1, none⟩ = some (.map (some b.ab)) := (dC h2.cell).2.1
 revert h2 z0 z1 z2 z7 z8 z9 zm
 exact kk.down) : p := h ⟨k⟩
theorem Ih {m:Nat} {b:MB} {s:MS} (e:Ev) (a:Option Addr) (cap:Nat) (w:World) (h:MpIn w m b s) (hk:KeyW e.key) (hd:DotW e.dot) (hn:e.dot ∉ atK s.pairs e.key) (hl:(atK s.pairs e.key).length<=1073741824) (hlA:s.A.length<=1073741824) :
 Calls prog 59 #[.pointer (some ⟨m,0,none⟩),kV e a cap] w (Ud m b s { s with pairs:=(e.key,e.dot) :: s.pairs } (.tuple #[]) w):=by
 have hmm:=@run_makeMap prog;have HH:=aq h;have hmn:=fun (X:World) (r:Option Nat)=>run_eql_map_nil (P:=prog) X 121 76 3 r underlying121;by_cases hex:∃ n,(e.key,n)∈s.A
 ·obtain ⟨n,hnA⟩:=hex
  go_enter func59,ntmps59;go_upto_region 1 with fail
  refine y13 ?_
  clear h
  intro W hbw hR h1 v0 v1 v2 v6 v7 v8 v9 x7 x8 x9 xm
  refine gp (by rfl) _ (fun X hX=>by obtain ⟨i,rfl⟩:=hX;exact lF _ _ _ _ rfl _ ((h1.alive.kept i.h).look_hit BG underlying120 (z:=.map none) (by kernel_rfl) hnA false)) ?_;try simp only [pS]
  go_big_quiet_step (fail)
  refine wpQuiet_nil ?_;rintro _ ⟨i,rfl⟩;have hib:=i.h;generalize i.w=wi at hib ⊢
  refine y12 ?_
  intro h2 z0 z1 z2 z7 z8 z9 zm
  have hl3:(Instr.lookup 120 (.map (some b.ab)) (kQ e.key) false).run prog wi.drew=.ok (.map (some n)) wi.drew:=Tab.look_hit (w:=wi.drew) BG h2.alive underlying120 (z:=.map none) (by kernel_rfl) hnA false;obtain ⟨w2,hrun,htab,hfr⟩:=Tab.store_new (w:=wi.drew) jE (h2.inner _ hnA) underlying121 (by unfold ones maxLen;rw [List.length_map];simp only;omega) hd (fun p hp=>by obtain ⟨x,hx,rfl⟩:=List.mem_map.1 hp;exact fun e2=>hn (by rw [<- e2];exact hx)) 1;have HT:=aq htab;have HF:=aq hfr;have hbt:=below2 hbw hib;clear htab hfr v0 v1 v2 v6 v7 v8 v9 x7 x8 x9 xm;go_upto_region 3 with fail
  refine y21 ?_
  intro hS
  refine tL (v:=?_) 0 19 rfl (bb ⟨by rfl,?_⟩) ?_
  case refine_2 => exact z30
  try simp only [pS]
  refine tL (v:=?_) 1 20 rfl (bb ⟨by rfl,?_⟩) ?_
  case refine_2 => exact z30
  try simp only [pS]
  refine tL (v:=?_) 2 21 rfl (bb ⟨by rfl,?_⟩) ?_
  case refine_2 => exact z30
  try simp only [pS]
  refine tL (v:=?_) 3 22 rfl (bb ⟨by rfl,?_⟩) ?_
  case refine_2 => exact z30
  try simp only [pS]
  refine tL (v:=?_) 4 23 rfl (bb ⟨by rfl,?_⟩) ?_
  case refine_2 => exact z30
  try simp only [pS]
  refine tL (v:=?_) 5 24 rfl (bb ⟨by rfl,?_⟩) ?_
  case refine_2 => exact z30
  try simp only [pS]
  refine tL (v:=?_) 6 25 rfl (bb ⟨by rfl,?_⟩) ?_
  case refine_2 => exact z30
  try simp only [pS]
  refine tL (v:=?_) 7 26 rfl (bb ⟨by rfl,?_⟩) ?_
  case refine_2 => exact z30
  try simp only [pS]
  refine tL (v:=?_) 8 27 rfl (bb ⟨by rfl,?_⟩) ?_
  case refine_2 => exact z30
  try simp only [pS]
  refine bD (i:=9) (o:=⟨none,_,_,_,_,_⟩) (by kernel_rfl) rfl ?_
  refine y8 ?_
  clear hS hl3 z0 z1 z2 z7 z8 z9 zm
  go_wp2;go_end0;have hf2:Fr (isR n) w w2:=IK (hbt.trans ((bh wi.heap.size wi).drew.mono hbt.size)) HF.out;exact ⟨rfl,s.A,MpIn.live_old HH.out hnA HT.out hf2,hf2.mono (fun k _ hk=>by subst hk;exact lN b hnA),fun k hk=>bb hk⟩
 ·have hno:∀ p∈s.A,p.1≠e.key:=fun p hp e2=>hex ⟨p.2,by rw [<- e2];exact hp⟩
  clear hex;go_enter func59,ntmps59;go_upto_region 1 with fail
  refine y13 ?_
  clear h
  intro W hbw hR h1 v0 v1 v2 v6 v7 v8 v9 x7 x8 x9 xm
  refine gp (by rfl) _ (fun X hX=>by obtain ⟨i,rfl⟩:=hX;exact lF _ _ _ _ rfl _ ((h1.alive.kept i.h).look_miss BG underlying120 (z:=.map none) (by kernel_rfl) hk hno false)) ?_;try simp only [pS]
  go_big_quiet_step (fail)
  refine wpQuiet_nil ?_;rintro _ ⟨i,rfl⟩;have hib:=i.h;generalize i.w=wi at hib ⊢
  refine y12 ?_
  intro h2 z0 z1 z2 z7 z8 z9 zm
  have hbX:Below wi.heap.size wi (wi.drew.alloc (.map #[] 0)):=(bh _ _).drew.alloc (ar _) _;have h3:=h2.kept_w hbX;have TV:DTab (wi.drew.alloc (.map #[] 0)) wi.heap.size []:=Tab.made wi.drew;obtain ⟨w2,hrun,htab,hfr⟩:=Tab.store_new (w:=(wi.alloc (.map #[] 0)).drew) BG h3.alive underlying120 (by unfold maxLen;omega) hk hno wi.heap.size;have hbt:=below2 hbw hib;have hfr:Fr (isR b.ab) (wi.drew.alloc (.map #[] 0)) w2:=hfr;have hKc:=h3.keeps hfr (fun i hi=>by subst hi;exact iO b _);have HF:=aq hfr;have HN:=aq (h2.low (iO b s.A));have hm2:DTab w2 wi.heap.size []:=TV.fr hfr (by have:=h2.low (iO b s.A);show ¬ wi.heap.size=b.ab;omega);have xu:Below wi.drew.heap.size wi.drew (wi.drew.alloc (.map #[] 0)):=(bh _ _).alloc (ar _) _;clear v0 v1 v2 v6 v7 v8 v9 x7 x8 x9 xm hfr TV;go_upto_region 2 with fail
  refine wp_region_noPanic ?_;refine bH (fun W'=>W'.cell? ⟨w.heap.size,0,none⟩=some (.int .i64 e.dot.a.dev)/\W'.cell? ⟨w.heap.size,1,none⟩=some (.int .i64 e.dot.a.inc)/\W'.cell? ⟨w.heap.size,2,none⟩=some (.int .i64 e.dot.seq)/\W'.cell? ⟨w.heap.size,7,none⟩=some (.string e.key.name)/\W'.cell? ⟨w.heap.size,8,none⟩=some (.string e.key.domain)/\W'.cell? ⟨w.heap.size,9,none⟩=some (.string e.key.path)/\W'.cell? ⟨m,1,none⟩=some (.map (some b.ab))) [7] (by kernel_rfl) ?_;have hS:=ba z0 (ba z1 (ba z2 (ba z7 (ba z8 (ba z9 zm)))));have hS2:=ba (kept xu z0) (ba (kept xu z1) (ba (kept xu z2) (ba (kept xu z7) (ba (kept xu z8) (ba (kept xu z9) (kept xu zm))))));refine tL (v:=?_) 0 12 rfl (bb ⟨by rfl,?_⟩) ?_
  case refine_2 => exact z75
  try simp only [pS]
  refine tL (v:=?_) 1 13 rfl (bb ⟨by rfl,?_⟩) ?_
  case refine_2 => exact z75
  try simp only [pS]
  refine tL (v:=?_) 2 14 rfl (bb ⟨by rfl,?_⟩) ?_
  case refine_2 => exact z75
  try simp only [pS]
  refine tL (v:=?_) 3 15 rfl (bb ⟨by rfl,?_⟩) ?_
  case refine_2 => exact z75
  try simp only [pS]
  refine tL (v:=?_) 4 16 rfl (bb ⟨by rfl,?_⟩) ?_
  case refine_2 => exact z75
  try simp only [pS]
  refine tL (v:=?_) 5 17 rfl (bb ⟨by rfl,?_⟩) ?_
  case refine_2 => exact z75
  try simp only [pS]
  refine bD (i:=6) (o:=⟨some 18,_,_,_,_,_⟩) (by kernel_rfl) rfl ?_;intro K hK;go_simp;refine hK.out _ _ (bd (hS2)) ?_;clear hK K;try simp only [pS]
  refine bD (i:=7) (o:=⟨none,_,_,_,_,_⟩) (by kernel_rfl) rfl ?_
  refine y8 ?_
  replace z0:w2.drew.cell? _=_:=hKc.cell (kept xu z0);replace z1:w2.drew.cell? _=_:=hKc.cell (kept xu z1);replace z2:w2.drew.cell? _=_:=hKc.cell (kept xu z2);replace z7:w2.drew.cell? _=_:=hKc.cell (kept xu z7);replace z8:w2.drew.cell? _=_:=hKc.cell (kept xu z8);replace z9:w2.drew.cell? _=_:=hKc.cell (kept xu z9);replace zm:w2.drew.cell? _=_:=hKc.cell (kept xu zm);clear hS hS2 hrun hmm h3 hKc;obtain ⟨n,hnn⟩:∃ n,n=wi.heap.size:=⟨_,rfl⟩;rw [<- hnn] at htab hm2;have hl3:(Instr.lookup 120 (.map (some b.ab)) (kQ e.key) false).run prog w2.drew=.ok (.map (some n)) w2.drew:=Tab.look_hit (w:=w2.drew) BG htab underlying120 (z:=.map none) (by kernel_rfl) (p:=(e.key,n)) List.mem_cons_self false;obtain ⟨w3,hrun3,MK,hfr3⟩:=Tab.store_new (w:=w2.drew) jE hm2 underlying121 (by decide) hd (fun p hp=>(nomatch hp)) 1;have hA3:JA w3 b.ab ((e.key,n) :: s.A):=Tab.fr (w:=w2.drew) htab hfr3 (by have:=HN.out;show ¬ b.ab=n;omega);have HT:=aq (ba MK (ba hA3 (ba hfr3 hnn)));clear htab MK hfr3 hA3 hnn hm2;go_upto_region 3 with fail
  refine y21 ?_
  intro hS
  refine tL (v:=?_) 0 19 rfl (bb ⟨by rfl,?_⟩) ?_
  case refine_2 => exact z30
  try simp only [pS]
  refine tL (v:=?_) 1 20 rfl (bb ⟨by rfl,?_⟩) ?_
  case refine_2 => exact z30
  try simp only [pS]
  refine tL (v:=?_) 2 21 rfl (bb ⟨by rfl,?_⟩) ?_
  case refine_2 => exact z30
  try simp only [pS]
  refine tL (v:=?_) 3 22 rfl (bb ⟨by rfl,?_⟩) ?_
  case refine_2 => exact z30
  try simp only [pS]
  refine tL (v:=?_) 4 23 rfl (bb ⟨by rfl,?_⟩) ?_
  case refine_2 => exact z30
  try simp only [pS]
  refine tL (v:=?_) 5 24 rfl (bb ⟨by rfl,?_⟩) ?_
  case refine_2 => exact z30
  try simp only [pS]
  refine tL (v:=?_) 6 25 rfl (bb ⟨by rfl,?_⟩) ?_
  case refine_2 => exact z30
  try simp only [pS]
  refine tL (v:=?_) 7 26 rfl (bb ⟨by rfl,?_⟩) ?_
  case refine_2 => exact z30
  try simp only [pS]
  refine tL (v:=?_) 8 27 rfl (bb ⟨by rfl,?_⟩) ?_
  case refine_2 => exact z30
  try simp only [pS]
  refine bD (i:=9) (o:=⟨none,_,_,_,_,_⟩) (by kernel_rfl) rfl ?_
  refine y8 ?_
  clear hS hl3 z0 z1 z2 z7 z8 z9 zm
  go_wp2;go_end0;obtain ⟨t1,t2,t3,t4⟩:=HT.out;have hlo:w.heap.size<=n:=by have:=hbt.size;omega
  have Xn:Below w.heap.size w (wi.drew.alloc (.map #[] 0)):=hbt.trans (hbX.mono hbt.size);have hf2:Fr (isR b.ab) w w2:=IK Xn HF.out;have hf3:Fr (isR b.ab) w w3:=hf2.trans (((Fr.of_below (bh w2.heap.size w2).drew).again t3).mono (fun k _ hk=>bd (by subst hk;exact hlo)));exact ⟨rfl,(e.key,n) :: s.A,MpIn.live_new HH.out hno hlo t1 t2 hf3,hf3.mono (fun k _ hk=>by subst hk;exact iO b _),fun k hk=>by
   simp only [foot,blocks,List.map_cons,List.mem_cons] at hk ⊢;rcases hk with hk | hk | hk | hk | hk | hk
   ·exact bb (bb hk)
   ·exact bb (bd (bb hk))
   ·exact bb (bd (bd (bb hk)))
   ·exact bb (bd (bd (bd (bb hk))))
   ·exact bd (by rw [hk];exact hlo)
   ·exact bb (bd (bd (bd (bd hk))))⟩
end Go.Proofs.YthphepeniaemoaaGreat
