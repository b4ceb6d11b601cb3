/- Marks and events, packed: by the program and by the reference. Conditions: marks that may be. -/
import Derived.Test.YtepkclldbkhanaaGreatPut
import Derived.Test.YtepkclldbkhanaaGreatLoad
import Derived.Test.YtepkclldbkhanaaGreatMark
import Derived.Test.YtepkclldbkhanaaGreatKit
import Derived.Maps.RangeWalk
import Derived.DeepKeys4
import Derived.WideKeyEntry
set_option linter.unusedSimpArgs false
set_option linter.unusedVariables false
set_option linter.unnecessarySimpa false
set_option maxHeartbeats 16000000
set_option maxRecDepth 100000
namespace Go.Proofs.YtepkclldbkhanaaGreat
open Go.RowKit
theorem DotsIn.keep {w w':World} {a:Option Addr} {l:List Dot} (h:DotsIn w a l) (hk:∀ A off,a=some ⟨A,off,none⟩→l≠[]→w'.heap[A]?=w.heap[A]?):DotsIn w' a l:=by
 rcases h with h | ⟨A,off,ha,hd⟩
 ·exact Or.inl h
 ·by_cases h0:l=[]
  ·exact Or.inl h0
  ·have hc:∀ o,w'.cell? ⟨A,o,none⟩=w.cell? ⟨A,o,none⟩:=fun o=>World.cell?_of_block (hk A off ha h0)
   exact Or.inr ⟨A,off,ha,⟨fun i hi=>(hc _).trans (hd.dev i hi),fun i hi=>(hc _).trans (hd.inc i hi),fun i hi=>(hc _).trans (hd.seq i hi)⟩⟩
structure EvShort (e:Ev):Prop where
 name:e.key.name.size≤256
 domain:e.key.domain.size≤256
 path:e.key.path.size≤256
 value:e.ck.value.size≤1024
theorem BM {e:Ev} (h:eF e=true):EvShort e:=by
 have hfit:=BN h;unfold eF at h;simp only [Bool.and_eq_true,decide_eq_true_eq] at h;obtain ⟨_,_,_,_,h5⟩:=h;unfold kindOk at h5;rcases hfit.kind with hk | hk
 ·rw [if_neg (by omega),if_pos hk] at h5
  unfold gQ lq fH gJ at h5;simp only [Bool.and_eq_true,decide_eq_true_eq] at h5;obtain ⟨_,⟨hn,_⟩,⟨hv,_⟩,⟨hd,_⟩,⟨_,_,hp⟩,_⟩:=h5;exact ⟨hn,hd,hp,hv⟩
 ·rw [if_pos hk] at h5
  simp only [Bool.and_eq_true,decide_eq_true_eq] at h5;obtain ⟨⟨h1,h2⟩,_⟩:=h5;exact ⟨by rw [h1];exact Nat.zero_le _,by rw [h1];exact Nat.zero_le _,by rw [h1];exact Nat.zero_le _,by rw [h2];exact Nat.zero_le _⟩
theorem EvShort.tiny {e:Ev} (h:EvShort e):EvTiny e:=⟨by have:=h.name;omega,by have:=h.domain;omega,by have:=h.path;omega,by have:=h.value;omega⟩
theorem uK {e:Ev} (h:eF e=true):EvSmall e:=by
 have s:=BM h;have f:=BN h;exact ⟨by have:=s.name;omega,by have:=s.domain;omega,by have:=s.path;omega,by have:=s.value;omega,by have:=f.over;omega⟩
def lC (l:List Dot):Bytes:=aS l.length++eG l
theorem ul:∀ (l:List Dot) (p:Option Dot),dn p l=0→∀ x∈l,bJ x=true
 | [],_,_=>fun x hx=>by simp at hx
 | y :: r,p,h=>by
   unfold dn at h;split at h
   ·rename_i h1
    split at h
    ·intro x hx
     rcases List.mem_cons.1 hx with rfl | hx
     ·exact h1
     ·exact ul r _ h x hx
    ·omega
   ·omega
theorem Fh {l:List Dot} (h:aW l=0):l.length≤4096∧∀ x∈l,bJ x=true:=by
 unfold aW at h;split at h
 ·omega
 ·exact ⟨by omega,ul l none h⟩
theorem kept2 {w0 w:World} (hb:Below w0.heap.size w0 w) {p:Addr} {v:Value} (h:w0.cell? p=some v):w.cell? p=some v:=kept hb h
/-- what a list lies on was there in w0, and is none of S -/
def wU (w0:World) (S:Nat→Prop) (a:Option Addr) (ne:Prop):Prop:=∀ A off,a=some ⟨A,off,none⟩→ne→A<w0.heap.size∧¬ S A
theorem Hold.dots {S:Nat→Prop} {w0 w:World} {B:Nat} {l:Bytes} (h:Hold S w0 B w l) {a:Option Addr} {mk:List Dot} (hd:DotsIn w0 a mk) (ho:wU w0 S a (mk≠[])):DotsIn w a mk :=
 hd.keep (fun A off ha hne=>h.fr.block A (ho A off ha hne).1 (ho A off ha hne).2)
theorem Hold.alloc {S:Nat→Prop} {w0 w:World} {B:Nat} {l:Bytes} (h:Hold S w0 B w l) (o:Obj):Hold S w0 B (w.alloc o) l:=h.below ((Below.refl _ _).alloc (Nat.le_refl _) o)
theorem O9 {S:Nat→Prop} {w0 w:World} {B:Nat} {l:Bytes} (h:Hold S w0 B w l) (a:Option Addr) (cap:Nat) (mk:List Dot) (hl:l.length≤1048576) (hm:aW mk=0) (hd:DotsIn w0 a mk) (ho:wU w0 S a (mk≠[])) :
 Calls Tryz.prog 115 #[.pointer (some ⟨B,0,none⟩),.slice a mk.length cap] w fun e w'=>e=.returned (.int .i64 0)∧Hold S w0 B w' (l++lC mk):=by
 obtain ⟨hml,_⟩:=Fh hm;have HC0:=fun (W:World) (h:DotsIn W a mk)=>mD a cap mk W (by omega) h;rw [hm] at HC0;have HC:=Lib.hid HC0;have hsl:=bF mk.length (by omega);have HN:=Lib.hid (fun (W:World) (h:Hold S w0 B W l)=>yO h mk.length (by omega) (by omega));have HP:=Lib.hid (fun (W:World) (d:Dot) (L:Bytes) (hL:L.length≤268435456) (h:Hold S w0 B W L)=>wJ h d hL);have HE:Hid (l++lC mk=l++aS mk.length++eG mk):=by unfold Hid lC;simp
 obtain ⟨M,hM⟩:∃ M,M=l++aS mk.length:=⟨_,rfl⟩;have hMl:M.length≤1048600:=by rw [hM,List.length_append];omega
 rw [← hM] at HN HE;clear hM HC0 hm hsl;go_enter Tryz.func115,Tryz.ntmps115;go_upto_region 5 with (first
  | (go_at_call 92;(with_reducible refine (HC.out _ (h.dots hd ho)).mono ?_);rintro x w1 ⟨rfl,hb⟩;replace h:=h.below hb;clear hb)
  | (go_at_call 30;(with_reducible refine (HN.out _ h).mono ?_);rintro x w2 ⟨rfl,H2⟩))
 clear h;go_wp2;go_loopw [20] (fun i wr=>∃ k:Nat,k≤mk.length∧i=.int .i64 k∧Hold S w0 B wr (M++eG (mk.take k))) (fun i _=>mk.length - (intOf i).toNat)
 case atStart=>exact ⟨0,Nat.zero_le _,rfl,by simpa [eG] using H2⟩
 case round =>
  obtain ⟨k,hk,rfl,H⟩:=hrel;by_cases hlt:k<mk.length
  ·have hdw:=H.dots hd ho
   have hln:(M++eG (mk.take k)).length≤268435456:=by
        have:=lF (mk.take k);rw [List.length_append];simp at this;omega
   have hsn:mk.take (k+1)=mk.take k++[mk[k]]:=List.take_succ_eq_append_getElem hlt;rcases hdw with h0 | ⟨A,off,rfl,hda⟩
   ·rw [h0] at hlt;simp at hlt
   have e0:=hda.dev k hlt;have e1:=hda.inc k hlt;have e2:=hda.seq k hlt;have HS:Hid (M++eG (mk.take (k+1))=M++eG (mk.take k)++qc mk[k]):=by rw [Hid,hsn,uM,List.append_assoc]
   clear hsn;generalize mk[k]=x at e0 e1 e2 HS;obtain ⟨L,hL⟩:∃ L,L=M++eG (mk.take k):=⟨_,rfl⟩;rw [← hL] at H hln HS;clear hL H2;go_upto_region 8 with fail
   refine au (fun W1 hW1=>?_);have H1:Hold S w0 B W1 L:=by rw [hW1.out];exact H.below (by go_grown)
   refine y16 ?_
   intro x0 x1 x2
   clear hW1 H e0 e1 e2
   go_wp2_with (go_at_call 69;(with_reducible refine (HP.out _ _ _ hln H1).mono ?_);rintro v w3 ⟨rfl,H3⟩)
   go_roundw
   case rel=>exact ⟨k+1,by omega,by go_num,by rw [HS.out];exact H3⟩
   case measure => exact z65
  ·have hke:k=mk.length:=by omega
   subst hke;rw [List.take_length] at H;go_wp2;go_ret;exact ⟨rfl,by rw [HE.out];exact H⟩
def pY (l:List Ev):Bytes:=l.flatMap evB
theorem Oz (l:List Ev) (e:Ev):pY (l++[e])=pY l++evB e:=by simp [pY]
theorem KD {S:Nat→Prop} {w0 w:World} {B:Nat} {l:Bytes} (h:Hold S w0 B w l) (e:Ev) (a:Option Addr) (cap:Nat) (hl:l.length≤1048576) (hok:eF e=true) (hd:DotsIn w0 a e.over) (ho:wU w0 S a (e.over≠[])) :
 Calls Tryz.prog 67 #[.pointer (some ⟨B,0,none⟩),jY e a cap] w (wV S w0 B (l++evB e)):=by
 refine (FK (Proofs.YtepkclldbkhanaaGreat.tight (grow S w0) w) B l e a cap w hl (uK hok) (BM hok).tiny (h.dots hd ho) ?_ h.wr.tight hok).mono fun x w' k=>⟨k.1,h.after k.2.wr k.2.fr⟩;intro A off ha hne g;obtain ⟨h1,h2⟩:=ho A off ha hne;rcases g.1 with g | g
 ·exact h2 g
 ·omega
open Go.Maps (Keyed)
/-- an element reads as itself -/
def Gu (v:Value):Option (DataW Value×List MemPlace):=some (.held v,[])
/-- a key's literal -/
noncomputable def klit (P:Program) (k:TypeId) (v:Value):Lit:=(keyOf P k v).getD (.bool true)
/-- a kind of keys: how they are written, and which may be -/
structure Kind (P:Program) (k:TypeId) {α:Type} (kv:α→Value) (ok:α→Prop):Prop where
 law:Keyed P k
 inj:∀ x y,kv x=kv y→x=y
 key:∀ x,ok x→∃ l,keyOf P k (kv x)=some l
section
variable {P:Program} {k:TypeId} {α β:Type} {kv:α→Value} {ok:α→Prop} {vv:β→Value}
theorem Kind.lit (K:Kind P k kv ok) {x:α} (h:ok x):keyOf P k (kv x)=some (klit P k (kv x)):=by
 obtain ⟨l,hl⟩:=K.key x h;simp [klit,hl]
theorem Kind.lit_inj (K:Kind P k kv ok) {x y:α} (hx:ok x) (hy:ok y) (h:klit P k (kv x)=klit P k (kv y)):x=y :=
 K.inj _ _ (K.law.inj (K.lit hx) (by rw [h];exact K.lit hy))
theorem Kind.isKey (K:Kind P k kv ok) {x:α} (hx:ok x):WideAt.IsKeyLit (klit P k (kv x)):=K.law.key (K.lit hx)
/-- a datum that holds just the entries m -/
structure TabD (P:Program) (k:TypeId) (kv:α→Value) (ok:α→Prop) (vv:β→Value) (D:DataW Value) (m:List (α×β)):Prop where
 hit:∀ p∈m,∀ z,D.atKey (klit P k (kv p.1)) z=.held (vv p.2)
 has:∀ l,Maps.has D l=m.any fun p=>(klit P k (kv p.1)).sameKey l
 size:Maps.size D=m.length
 okk:∀ p∈m,ok p.1
 apart:m.Pairwise fun p q=>p.1≠q.1
/-- block b holds a map with just the entries m -/
def Tab (P:Program) (k:TypeId) (kv:α→Value) (ok:α→Prop) (vv:β→Value) (w:World) (b:Nat) (m:List (α×β)):Prop :=
 ∃ D,w.ownsMap P k Gu b m.length D∧TabD P k kv ok vv D m
theorem TabD.perm {D:DataW Value} {m m':List (α×β)} (h:TabD P k kv ok vv D m) (hp:m.Perm m'):TabD P k kv ok vv D m' :=
 ⟨fun p hp' z=>h.hit p (hp.mem_iff.2 hp') z,fun l=>by rw [h.has];exact hp.any_eq,by rw [h.size,hp.length_eq],fun p hp'=>h.okk p (hp.mem_iff.2 hp'),
  (hp.pairwise_iff (fun {_ _} hne=>Ne.symm hne)).1 h.apart⟩
theorem Tab.perm {w:World} {b:Nat} {m m':List (α×β)} (h:Tab P k kv ok vv w b m) (hp:m.Perm m'):Tab P k kv ok vv w b m':=by
 obtain ⟨D,h1,h2⟩:=h;exact ⟨D,by rw [← hp.length_eq];exact h1,h2.perm hp⟩
theorem Tab.okk {w:World} {b:Nat} {m:List (α×β)} (h:Tab P k kv ok vv w b m):∀ p∈m,ok p.1:=by
 obtain ⟨D,h1,h2⟩:=h;exact h2.okk
theorem Tab.apart {w:World} {b:Nat} {m:List (α×β)} (h:Tab P k kv ok vv w b m):m.Pairwise fun p q=>p.1≠q.1:=by
 obtain ⟨D,h1,h2⟩:=h;exact h2.apart
theorem Tab.lt {w:World} {b:Nat} {m:List (α×β)} (h:Tab P k kv ok vv w b m):b<w.heap.size:=by
 obtain ⟨D,h1,h2⟩:=h;exact h1.lt
theorem owns_block {H:Type} {R:Value→Option (DataW H×List MemPlace)} {w w':World} {b n:Nat} {D:DataW H} (h:w.ownsMap P k R b n D) (hb:w'.heap[b]?=w.heap[b]?):w'.ownsMap P k R b n D:=by
 obtain ⟨es,clock,h1,h2⟩:=h;exact ⟨es,clock,hb.trans h1,h2⟩
theorem Tab.block {w w':World} {b:Nat} {m:List (α×β)} (h:Tab P k kv ok vv w b m) (hb:w'.heap[b]?=w.heap[b]?):Tab P k kv ok vv w' b m:=by
 obtain ⟨D,h1,h2⟩:=h;exact ⟨D,owns_block h1 hb,h2⟩
theorem Tab.kept {w w':World} {b:Nat} {m:List (α×β)} (h:Tab P k kv ok vv w b m) (hb:Below w.heap.size w w'):Tab P k kv ok vv w' b m:=h.block (hb.block b h.lt)
theorem Tab.fr {S:Nat→Prop} {w w':World} {b:Nat} {m:List (α×β)} (h:Tab P k kv ok vv w b m) (hf:Fr S w w') (hb:¬ S b):Tab P k kv ok vv w' b m:=h.block (hf.block b h.lt hb)
theorem Tab.mapped {w:World} {b:Nat} {m:List (α×β)} (h:Tab P k kv ok vv w b m):∃ es cl,w.heap[b]?=some (.map es cl):=by
 obtain ⟨D,⟨es,cl,h1,_⟩,h2⟩:=h;exact ⟨es,cl,h1⟩
theorem Ap {H:Type} {R:Value→Option (DataW H×List MemPlace)} {w:World} {b n:Nat} {D:DataW H} (h:w.ownsMap P k R b n D):w.ownsMap P k R b (Maps.size D) D:=by
 obtain ⟨es,clock,h1,h2,h3,rfl⟩:=h;exact ⟨es,clock,h1,h2,by simp [Maps.size,length_sorted],rfl⟩
theorem sS {w w':World} {b:Nat} (h:w.mapTurned w' b):Fr (isR b) w w':=by
 have g:=h.grown;exact ⟨g.os,g.tape,g.output,g.size,fun i hi hne=>g.block i hi (fun e=>hne (by cases e;rfl))⟩
theorem Tab.made (w:World):Tab P k kv ok vv (w.alloc (.map #[] 0)) w.heap.size ([]:List (α×β)) :=
 ⟨.map [],World.ownsMap_made w P k Gu,⟨by simp,fun l=>rfl,rfl,by simp,List.Pairwise.nil⟩⟩
/-! ### look-ups -/
theorem TabD.not_has (K:Kind P k kv ok) {D:DataW Value} {m:List (α×β)} (h:TabD P k kv ok vv D m) {x:α} (hx:ok x) (hn:∀ p∈m,p.1≠x):Maps.has D (klit P k (kv x))=false:=by
 rw [h.has,List.any_eq_false];intro p hp;rw [Maps.sameKey_ne (fun e=>hn p hp (K.lit_inj (h.okk p hp) hx e))];simp
theorem TabD.is_has (K:Kind P k kv ok) {D:DataW Value} {m:List (α×β)} (h:TabD P k kv ok vv D m) {p:α×β} (hp:p∈m):Maps.has D (klit P k (kv p.1))=true:=by
 rw [h.has,List.any_eq_true];exact ⟨p,hp,WideAt.sameKey_self (K.isKey (h.okk p hp))⟩
theorem vT {v:Value} {d:Value} {ps:List MemPlace} (h:Gu v=some (.held d,ps)):v=d:=by
 unfold Gu at h;simp only [Option.some.injEq,Prod.mk.injEq,DataW.held.injEq] at h;exact h.1
theorem Tab.look_hit (K:Kind P k kv ok) {w:World} {b:Nat} {m:List (α×β)} (h:Tab P k kv ok vv w b m) {t e:TypeId} (ht:P.underlying t=some (.map k e)) {z:Value} (hz:(zeroValue e).run P w=.ok z w)
 {p:α×β} (hp:p∈m) (c:Bool):(Instr.lookup t (.map (some b)) (kv p.1) c).run P w=.ok (if c then .tuple #[vv p.2,.bool true] else vv p.2) w:=by
 obtain ⟨D,h1,h2⟩:=h;have hk:=K.lit (h2.okk p hp)
 cases c with
 | true =>
   obtain ⟨v,ps,hrun,hv⟩:=h1.look_ok K.law ht hz (zd:=.held z) (zp:=[]) rfl hk;rw [h2.hit p hp] at hv;obtain rfl:=vT hv;rw [h2.is_has K hp] at hrun;exact hrun
 | false =>
   obtain ⟨v,ps,hrun,hv⟩:=h1.lookup K.law ht hz (zd:=.held z) (zp:=[]) rfl hk;rw [h2.hit p hp] at hv;obtain rfl:=vT hv;exact hrun
theorem Tab.look_miss (K:Kind P k kv ok) {w:World} {b:Nat} {m:List (α×β)} (h:Tab P k kv ok vv w b m) {t e:TypeId} (ht:P.underlying t=some (.map k e)) {z:Value} (hz:(zeroValue e).run P w=.ok z w)
 {x:α} (hx:ok x) (hn:∀ p∈m,p.1≠x) (c:Bool):(Instr.lookup t (.map (some b)) (kv x) c).run P w=.ok (if c then .tuple #[z,.bool false] else z) w:=by
 obtain ⟨D,h1,h2⟩:=h;have hk:=K.lit hx;have hh:=h2.not_has K hx hn
 cases c with
 | true =>
   obtain ⟨v,ps,hrun,hv⟩:=h1.look_ok K.law ht hz (zd:=.held z) (zp:=[]) rfl hk;rw [Maps.atKey_of_not_has hh] at hv;obtain rfl:=vT hv;rw [hh] at hrun;exact hrun
 | false =>
   obtain ⟨v,ps,hrun,hv⟩:=h1.lookup K.law ht hz (zd:=.held z) (zp:=[]) rfl hk;rw [Maps.atKey_of_not_has hh] at hv;obtain rfl:=vT hv;exact hrun
theorem Tab.len {w:World} {b:Nat} {m:List (α×β)} (h:Tab P k kv ok vv w b m) {t e:TypeId} (ht:P.underlying t=some (.map k e)) (ty:TypeId) :
 (Builtin.len_ #[t] ty #[.map (some b)]).run P w=.ok (.int .i64 m.length) w:=by
 obtain ⟨D,h1,h2⟩:=h;rw [h1.len ht ty,h2.size]
/-! ### stores -/
theorem TabD.put_new (K:Kind P k kv ok) {D:DataW Value} {m:List (α×β)} (h:TabD P k kv ok vv D m) (hT:Maps.Tidy D) {x:α} (hx:ok x) (hn:∀ p∈m,p.1≠x) (y:β):TabD P k kv ok vv (D.put (klit P k (kv x)) (.held (vv y))) ((x,y) :: m):=by
 have hk:=K.isKey hx;refine ⟨fun p hp z=>?_,fun l=>?_,?_,fun p hp=>?_,List.pairwise_cons.2 ⟨fun q hq=>(hn q hq).symm,h.apart⟩⟩
 ·rcases List.mem_cons.1 hp with rfl | hp
  ·exact Maps.atKey_put_same hT.isMap hk _ _
  ·rw [Maps.atKey_put_other (fun e=>hn p hp (K.lit_inj (h.okk p hp) hx e))]
   exact h.hit p hp z
 ·rw [List.any_cons]
  by_cases e:l=klit P k (kv x)
  ·subst e
   rw [Maps.has_put_same hT.isMap hk,WideAt.sameKey_self hk];rfl
  ·rw [Maps.has_put_other e,h.has,Maps.sameKey_ne (Ne.symm e)]
   rfl
 ·rw [Maps.size_put hT,h.not_has K hx hn,h.size]
  rfl
 ·rcases List.mem_cons.1 hp with rfl | hp
  ·exact hx
  ·exact h.okk p hp
theorem TabD.put_old (K:Kind P k kv ok) {D:DataW Value} {m:List (α×β)} {x:α} {y0:β} (h:TabD P k kv ok vv D ((x,y0) :: m)) (hT:Maps.Tidy D) (y:β):TabD P k kv ok vv (D.put (klit P k (kv x)) (.held (vv y))) ((x,y) :: m):=by
 have hx:ok x:=h.okk (x,y0) List.mem_cons_self;have hk:=K.isKey hx;have hap:=List.pairwise_cons.1 h.apart;refine ⟨fun p hp z=>?_,fun l=>?_,?_,fun p hp=>?_,List.pairwise_cons.2 ⟨hap.1,hap.2⟩⟩
 ·rcases List.mem_cons.1 hp with rfl | hp
  ·exact Maps.atKey_put_same hT.isMap hk _ _
  ·rw [Maps.atKey_put_other (fun e=>(hap.1 p hp) (K.lit_inj (h.okk p (List.mem_cons_of_mem _ hp)) hx e).symm)]
   exact h.hit p (List.mem_cons_of_mem _ hp) z
 ·rw [List.any_cons]
  by_cases e:l=klit P k (kv x)
  ·subst e
   rw [Maps.has_put_same hT.isMap hk,WideAt.sameKey_self hk];rfl
  ·rw [Maps.has_put_other e,h.has,List.any_cons]
 ·rw [Maps.size_put hT,h.is_has K (p:=(x,y0)) List.mem_cons_self,h.size]
  rfl
 ·rcases List.mem_cons.1 hp with rfl | hp
  ·exact hx
  ·exact h.okk p (List.mem_cons_of_mem _ hp)
theorem Tab.store_new (K:Kind P k kv ok) {w:World} {b:Nat} {m:List (α×β)} (h:Tab P k kv ok vv w b m) {t e:TypeId} (ht:P.underlying t=some (.map k e)) (hl:m.length<maxLen)
 {x:α} (hx:ok x) (hn:∀ p∈m,p.1≠x) (y:β):∃ w',(Instr.mapUpdate t (.map (some b)) (kv x) (vv y)).run P w=.ok () w'∧Tab P k kv ok vv w' b ((x,y) :: m)∧Fr (isR b) w w':=by
 obtain ⟨D,h1,h2⟩:=h;obtain ⟨w',hrun,hown,hturn⟩:=h1.store K.law ht hl (K.lit hx) (d:=.held (vv y)) (ps:=[]) rfl;exact ⟨w',hrun,⟨_,hown,h2.put_new K (h1.tidy K.law) hx hn y⟩,sS hturn⟩
theorem Tab.store_old (K:Kind P k kv ok) {w:World} {b:Nat} {m:List (α×β)} {x:α} {y0:β} (h:Tab P k kv ok vv w b ((x,y0) :: m)) {t e:TypeId} (ht:P.underlying t=some (.map k e)) (hl:m.length+1<maxLen)
 (y:β):∃ w',(Instr.mapUpdate t (.map (some b)) (kv x) (vv y)).run P w=.ok () w'∧Tab P k kv ok vv w' b ((x,y) :: m)∧Fr (isR b) w w':=by
 obtain ⟨D,h1,h2⟩:=h;obtain ⟨w',hrun,hown,hturn⟩:=h1.store K.law ht hl (K.lit (h2.okk (x,y0) List.mem_cons_self)) (d:=.held (vv y)) (ps:=[]) rfl;have h3:=h2.put_old K (h1.tidy K.law) y;refine ⟨w',hrun,⟨_,?_,h3⟩,sS hturn⟩;have:=Ap hown;rw [h3.size] at this;exact this
/-! ### deletions -/
theorem TabD.del_old (K:Kind P k kv ok) {D:DataW Value} {m:List (α×β)} {x:α} {y0:β} (h:TabD P k kv ok vv D ((x,y0) :: m)) (hT:Maps.Tidy D):TabD P k kv ok vv (D.del (klit P k (kv x))) m:=by
 have hx:ok x:=h.okk (x,y0) List.mem_cons_self;have hap:=List.pairwise_cons.1 h.apart;refine ⟨fun p hp z=>?_,fun l=>?_,?_,fun p hp=>h.okk p (List.mem_cons_of_mem _ hp),hap.2⟩
 ·rw [Maps.atKey_del_other (fun e=>(hap.1 p hp) (K.lit_inj (h.okk p (List.mem_cons_of_mem _ hp)) hx e).symm)]
  exact h.hit p (List.mem_cons_of_mem _ hp) z
 ·by_cases e:l=klit P k (kv x)
  ·subst e
   rw [Maps.has_del_same,eq_comm,List.any_eq_false];intro p hp;rw [Maps.sameKey_ne (fun e=>(hap.1 p hp) (K.lit_inj (h.okk p (List.mem_cons_of_mem _ hp)) hx e).symm)];simp
  ·rw [Maps.has_del_other e,h.has,List.any_cons,Maps.sameKey_ne (Ne.symm e)]
   rfl
 ·have:=Maps.size_del (k:=klit P k (kv x)) hT
  rw [h.is_has K (p:=(x,y0)) List.mem_cons_self,h.size] at this;simp only [List.length_cons,if_true] at this;omega
theorem TabD.del_miss (K:Kind P k kv ok) {D:DataW Value} {m:List (α×β)} (h:TabD P k kv ok vv D m) {x:α} (hx:ok x) (hn:∀ p∈m,p.1≠x):D.del (klit P k (kv x))=D:=Maps.del_of_not_has (h.not_has K hx hn)
theorem Tab.drop_old (K:Kind P k kv ok) {w:World} {b:Nat} {m:List (α×β)} {x:α} {y0:β} (h:Tab P k kv ok vv w b ((x,y0) :: m)) {t e:TypeId} (ht:P.underlying t=some (.map k e)) (ty:TypeId) :
 ∃ w',(Builtin.delete_ #[t,k] ty #[.map (some b),kv x]).run P w=.ok (.tuple #[]) w'∧Tab P k kv ok vv w' b m∧Fr (isR b) w w':=by
 obtain ⟨D,h1,h2⟩:=h;obtain ⟨w',hrun,hown,hturn⟩:=h1.drop K.law ht (K.lit (h2.okk (x,y0) List.mem_cons_self)) ty;have h3:=h2.del_old K (h1.tidy K.law);refine ⟨w',hrun,⟨_,?_,h3⟩,sS hturn⟩;have:=Ap hown;rw [h3.size] at this;exact this
theorem Tab.drop_miss (K:Kind P k kv ok) {w:World} {b:Nat} {m:List (α×β)} (h:Tab P k kv ok vv w b m) {t e:TypeId} (ht:P.underlying t=some (.map k e)) (ty:TypeId) {x:α} (hx:ok x) (hn:∀ p∈m,p.1≠x) :
 ∃ w',(Builtin.delete_ #[t,k] ty #[.map (some b),kv x]).run P w=.ok (.tuple #[]) w'∧Tab P k kv ok vv w' b m∧Fr (isR b) w w':=by
 obtain ⟨D,h1,h2⟩:=h;obtain ⟨w',hrun,hown,hturn⟩:=h1.drop K.law ht (K.lit hx) ty;rw [h2.del_miss K hx hn] at hown;exact ⟨w',hrun,⟨_,hown,h2⟩,sS hturn⟩
/-! ### ranging -/
/-- block r ranges over the map in block b; rest: what is still to come -/
def TabIt (P:Program) (k:TypeId) (kv:α→Value) (ok:α→Prop) (vv:β→Value) (w:World) (b r:Nat) (m rest:List (α×β)) (cnt:Nat):Prop :=
 ∃ D left,w.ranges P k Gu b r m.length D left cnt∧TabD P k kv ok vv D m∧(∀ l,left l=rest.any fun p=>(klit P k (kv p.1)).sameKey l)∧(∀ p∈rest,p∈m)∧rest.Pairwise fun p q=>p.1≠q.1
theorem TabIt.tab {w:World} {b r cnt:Nat} {m rest:List (α×β)} (h:TabIt P k kv ok vv w b r m rest cnt):Tab P k kv ok vv w b m:=by
 obtain ⟨D,left,h1,h2,_⟩:=h;exact ⟨D,h1.owns,h2⟩
theorem TabIt.left_eq {w:World} {b r cnt:Nat} {m rest:List (α×β)} (h:TabIt P k kv ok vv w b r m rest cnt):w.rangeLeft b r=cnt:=by
 obtain ⟨D,left,h1,h2,_⟩:=h;exact h1.left_eq
theorem TabIt.lt {w:World} {b r cnt:Nat} {m rest:List (α×β)} (h:TabIt P k kv ok vv w b r m rest cnt):r<w.heap.size:=by
 obtain ⟨D,left,h1,h2,_⟩:=h;exact h1.lt
theorem TabIt.block {w w':World} {b r cnt:Nat} {m rest:List (α×β)} (h:TabIt P k kv ok vv w b r m rest cnt) (hb:w'.heap[b]?=w.heap[b]?) (hr:w'.heap[r]?=w.heap[r]?):TabIt P k kv ok vv w' b r m rest cnt:=by
 obtain ⟨D,left,⟨es,clock,since,seen,c0,h1,h2,h3,h4,h5,h6⟩,hh⟩:=h;exact ⟨D,left,⟨es,clock,since,seen,c0,hb.trans h1,h2,h3,h4,hr.trans h5,h6⟩,hh⟩
theorem TabIt.kept {w w':World} {b r cnt:Nat} {m rest:List (α×β)} (h:TabIt P k kv ok vv w b r m rest cnt) (hb:Below w.heap.size w w'):TabIt P k kv ok vv w' b r m rest cnt:=h.block (hb.block b h.tab.lt) (hb.block r h.lt)
theorem TabIt.fr {S:Nat→Prop} {w w':World} {b r cnt:Nat} {m rest:List (α×β)} (h:TabIt P k kv ok vv w b r m rest cnt) (hf:Fr S w w') (h1:¬ S b) (h2:¬ S r):TabIt P k kv ok vv w' b r m rest cnt :=
 h.block (hf.block b h.tab.lt h1) (hf.block r h.lt h2)
theorem Ql {w w':World} {r:Nat} (g:w.grownBy w' (some r)):Fr (isR r) w w':=⟨g.os,g.tape,g.output,g.size,fun i hi hne=>g.block i hi (fun e=>hne (by cases e;rfl))⟩
theorem below_grown {w w':World} (g:w.grownBy w' none):Below w.heap.size w w':=⟨g.os,g.tape,g.output,g.size,fun i hi=>g.block i hi (by simp)⟩
variable {ops:Array Oper} {rest0:List Oper} {o:Oper} {a:Act} {Q:Exit→Act→World→Prop}
/-- 'range m' -/
theorem iL (K:Kind P k kv ok) (w:World) (hg:o.guard=none) (mo:Operand) (t:TypeId) (hop:o.op=Op.range t mo) (e:TypeId) (ht:P.underlying t=some (.map k e)) (b:Nat) {m:List (α×β)}
 (hm:a.eval mo=.map (some b)) (h:Tab P k kv ok vv w b m)
 (hK:∀ w' cnt,TabIt P k kv ok vv w' b w.heap.size m m cnt→Below w.heap.size w w'→w'.heap.size=w.heap.size+1→wpList P ops Q rest0 (a.put o.dst (.pointer (some ⟨w.heap.size,0,none⟩))) w') :
 wpList P ops Q (o :: rest0) a w:=by
 obtain ⟨D,h1,h2⟩:=h;exact wpList_range_own w hg mo t hop k e K.law ht Gu b _ D hm h1 fun w' hr hgr hs=>hK w' _ ⟨D,_,hr,h2,h2.has,fun _ h=>h,h2.apart⟩ (below_grown hgr) hs
theorem lm {α:Type} {p:α}:∀ {l:List α},p∈l→∃ l',l.Perm (p :: l')
 | q :: l,h=>by
   rcases List.mem_cons.1 h with rfl | h
   ·exact ⟨l,List.Perm.refl _⟩
   ·obtain ⟨l',h'⟩:=lm h
    exact ⟨q :: l',(h'.cons q).trans (List.Perm.swap ..)⟩
theorem z45 {p : Prop} (h : p := by
 show (left l && !l.sameKey kl) = _
 rw [hleft, hperm.any_eq, List.any_cons, ← hkl]
 by_cases e : l = klit P k (kv p.1)
 ·subst e
  rw [WideAt.sameKey_self (K.isKey hok)]
  simp only [Bool.not_true, Bool.and_false]
  rw [eq_comm, List.any_eq_false]
  intro q hq
  rw [Maps.sameKey_ne (fun e => (RJ.1 q hq) (K.lit_inj (hD.okk q (hsub q (hperm.mem_iff.2 (List.mem_cons_of_mem _ hq)))) hok e).symm)]
  simp
 ·rw [Maps.sameKey_ne e, Maps.sameKey_ne (Ne.symm e)]
  simp) : p := h
theorem z101 {p : Prop} (h : p := by
 cases rest with
 | nil => rfl
 | cons p rest =>
   have := hl (klit P k (kv p.1))
   rw [hleft, List.any_cons, WideAt.sameKey_self (K.isKey (hD.okk p (hsub p List.mem_cons_self)))] at this
   cases this) : p := h
theorem y44 {p q : Prop} (k : q) (h : PLift q → p := by
 intro kk
 have hy : DataW.held v = y.1 := by
  have : y = (.held v, []) := by have := hv; unfold Gu at this; exact (Option.some.inj this).symm
  rw [this]
 have hvv : v = vv p.2 := by
  have h1 := hat (.held v)
  rw [← hkl, hD.hit p hpm, ← hy] at h1
  exact (DataW.held.inj h1).symm
 revert hy hvv
 exact kk.down) : p := h ⟨k⟩
/-- the step -/
theorem iC (K:Kind P k kv ok) (w:World) (hg:o.guard=none) (it:Operand) (hop:o.op=Op.next it false) (b r cnt:Nat) {m rest:List (α×β)}
 (hit:a.eval it=.pointer (some ⟨r,0,none⟩)) (h:TabIt P k kv ok vv w b r m rest cnt)
 (hDone:rest=[]→wpList P ops Q rest0 (a.put o.dst (.tuple #[.bool false])) w)
 (hMore:∀ (p:α×β) (rest':List (α×β)) (w':World) (cnt':Nat),rest.Perm (p :: rest')→p∈m→TabIt P k kv ok vv w' b r m rest' cnt'→cnt'<cnt→Fr (isR r) w w'→w'.heap.size=w.heap.size →
  (Instr.entry (.pointer (some ⟨r,0,none⟩))).run P w'=.ok (.tuple #[kv p.1,vv p.2]) w'→wpList P ops Q rest0 (a.put o.dst (.tuple #[.bool true,kv p.1,vv p.2])) w') :
 wpList P ops Q (o :: rest0) a w:=by
 obtain ⟨D,left,hr,hD,hleft,hsub,hap⟩:=h;refine wpList_plain hg fun K' hK'=>?_;unfold Oper.wp;rcases hr.next K.law o.type with ⟨h0,hl,hrun⟩ | ⟨key,v,kl,y,w',cnt',hkey,hlk,hv,hat,hrun,hrg,hlt,hgr,hsz,hen⟩
 ·have hnil:rest=[]:=by
   exact z101
  simp [execOp,hop,hit,hrun,Result.andThen];exact hK' _ _ (hDone hnil)
 ·rw [hleft,List.any_eq_true] at hlk
  obtain ⟨p,hp,hpk⟩:=hlk;have hpm:=hsub p hp;have hok:=hD.okk p hpm;have hkl:klit P k (kv p.1)=kl:=WideAt.sameKey_eq hpk;obtain rfl:key=kv p.1:=K.law.inj hkey (by rw [← hkl];exact K.lit hok)
  refine y44 ?_
  intro hy hvv
  subst hvv;obtain ⟨rest',hperm⟩:=lm hp;have hap':=(hperm.pairwise_iff (fun {_ _} hne=>Ne.symm hne)).1 hap;have RJ:=List.pairwise_cons.1 hap';simp [execOp,hop,hit,hrun,Result.andThen];refine hK' _ _ (hMore p rest' w' cnt' hperm hpm ⟨D,_,hrg,hD,fun l=>?_,fun q hq=>hsub q (hperm.mem_iff.2 (List.mem_cons_of_mem _ hq)),RJ.2⟩ hlt (Ql hgr) hsz hen)
  exact z45
end
open Go.ChangeMaps Go.MapKept
open Go.WideElems
open Go.Maps (Keyed)
section
variable {H:Type} {P:Program} {w:World} {t k e:TypeId} {R:Value→Option (DataW H×List MemPlace)} {b n:Nat} {D:DataW H}
theorem CQ {es:Array MapEntry} {clock:Nat} (hb:w.heap[b]?=some (.map es clock)):setBlock w b (.map es clock)=w:=by
 have e:w.heap.setIfInBounds b (.map es clock)=w.heap:=by
  apply Array.ext_getElem?;intro i;by_cases hi:i=b
  ·subst hi
   exact (heap_setBlock_same hb _).trans hb.symm
  ·exact heap_setBlock_other hb _ hi
 unfold setBlock;rw [e]
theorem zM (o o':Obj):setBlock (setBlock w b o) b o'=setBlock w b o':=by simp [setBlock]
theorem z134 {p : Prop} (h : p := by simp [Instr.mapUpdate, run_underlying ht, MapKept.run_getObj_map hb, K.check w false hkey, h1, MapKept.run_setObj_map _ hb, Result.andThen, setBlock]) : p := h
/-- the entry, then the store: as one store -/
theorem Aq (K:Keyed P k) (h:w.ownsMap P k R b n D) (ht:P.underlying t=some (.map k e)) {z:Value} (hz:∀ u:World,(zeroValue e).run P u=.ok z u) {key:Value} {kl:Lit} (hkey:keyOf P k key=some kl) :
 (∃ (v0:Value) (st:Nat),(Instr.mapEntry t (.map (some b)) key).run P w=.ok (.tuple #[v0,goInt st]) w ∧
  ∀ (val:Value) (w':World),(Instr.mapUpdate t (.map (some b)) key val).run P w=.ok () w'→(Instr.entryStore t (.map (some b)) (goInt st) val).run P w=.ok () w') ∨
 (∃ (st:Nat) (w1:World),(Instr.mapEntry t (.map (some b)) key).run P w=.ok (.tuple #[z,goInt st]) w1∧(Instr.mapUpdate t (.map (some b)) key z).run P w=.ok () w1∧(Instr.lookup t (.map (some b)) key true).run P w=.ok (.tuple #[z,.bool false]) w ∧
  ∀ (val:Value) (w':World),(Instr.mapUpdate t (.map (some b)) key val).run P w=.ok () w'→(Instr.entryStore t (.map (some b)) (goInt st) val).run P w1=.ok () w'):=by
 obtain ⟨es,clock,hb,F,_,rfl⟩:=h;have hs3:=F.stamped;obtain ⟨s1,s2,_⟩:=hs3;have hks:∀ x∈es.toList,∃ l,keyOf P k x.key=some l:=fun x hx=>by
  obtain ⟨y,hy⟩:=F.reads x hx;exact ⟨_,rd_key hy⟩
 rcases K.find w hkey es.toList hks with ⟨h1,h2⟩ | ⟨j,e0,h1,h2,h3⟩
 ·refine Or.inr ⟨clock,setBlock w b (.map (es.push ⟨key,z,clock⟩) (clock+1)),?_,?_,?_,fun val w' hu=>?_⟩
  ·simp [Instr.mapEntry,run_underlying ht,MapKept.run_getObj_map hb,K.check w false hkey,h1,hz,MapKept.run_setObj_map _ hb,Result.andThen,setBlock]
  ·exact z134
  ·simp [Instr.lookup,run_underlying ht,MapKept.run_getObj_map hb,K.check w _ hkey,h1,hz,Result.andThen]
  ·have hu2:(Instr.mapUpdate t (.map (some b)) key val).run P w=.ok () (setBlock w b (.map (es.push ⟨key,val,clock⟩) (clock+1))):=by
        exact z134
   rw [hu2] at hu;obtain rfl:setBlock w b (.map (es.push ⟨key,val,clock⟩) (clock+1))=w':=by cases hu;rfl
   have hw2:(setBlock w b (.map (es.push ⟨key,z,clock⟩) (clock+1))).heap[b]?=some (.map (es.push ⟨key,z,clock⟩) (clock+1)):=heap_setBlock_same hb _;have hidx:(es.push ⟨key,z,clock⟩).findIdx? (fun e=>((e.born:Nat):Int) == ((clock:Nat):Int))=some es.size:=by
        rw [findIdx_arr];have:=findIdx_born (l:=(es.push ⟨key,z,clock⟩).toList) (j:=es.size) (e0:=⟨key,z,clock⟩) (by
         simp only [Array.toList_push,List.map_append,List.map_cons,List.map_nil];refine List.nodup_append.2 ⟨s2,by simp,fun a ha c hc e1=>?_⟩;simp only [List.mem_singleton] at hc;obtain ⟨x,hx,rfl⟩:=List.mem_map.1 ha;have:=s1 x hx;omega) (by simp)
        exact this
   have hmod:(es.push ⟨key,z,clock⟩).modify es.size (fun e=>{ e with val:=val })=es.push ⟨key,val,clock⟩:=by
        apply Array.ext';rw [Array.toList_modify,Array.toList_push,Array.toList_push,← Array.length_toList,modify_last]
   rw [← zM (w:=w) (b:=b) (.map (es.push ⟨key,z,clock⟩) (clock+1)) (.map (es.push ⟨key,val,clock⟩) (clock+1))];generalize setBlock w b (.map (es.push ⟨key,z,clock⟩) (clock+1))=w2 at hw2 ⊢;simp [Instr.entryStore,MapKept.run_getObj_map hw2,asInt,asIntOf,goInt,hidx,hmod,MapKept.run_setObj_map _ hw2,Result.andThen,setBlock]
 ·have hj:es[j]?=some e0:=by simpa using h2
  have hsame:es.modify j (fun e=>{ e with key:=key })=es:=by
   apply Array.ext';rw [Array.toList_modify,modify_eq_set _ _ _ _ h2];have:({ e0 with key:=key }:MapEntry)=e0:=by rw [← h3]
   rw [this];exact set_self _ _ _ h2
  refine Or.inl ⟨e0.val,e0.born,?_,fun val w' hu=>?_⟩
  ·rw [show (Result.ok (Value.tuple #[e0.val,goInt e0.born]) w:Result Value)=.ok (Value.tuple #[e0.val,goInt e0.born]) (setBlock w b (.map es clock)) by rw [CQ hb]]
   simp [Instr.mapEntry,run_underlying ht,MapKept.run_getObj_map hb,K.check w false hkey,h1,hj,h3,K.stays w hkey,hsame,MapKept.run_setObj_map _ hb,Result.andThen,setBlock]
  ·have hu2:(Instr.mapUpdate t (.map (some b)) key val).run P w=.ok () (setBlock w b (.map (es.modify j (fun e'=>{ e' with key:=key,val:=val })) clock)):=by
        simp [Instr.mapUpdate,run_underlying ht,MapKept.run_getObj_map hb,K.check w false hkey,h1,hj,h3,K.stays w hkey,MapKept.run_setObj_map _ hb,Result.andThen,setBlock]
   rw [hu2] at hu;obtain rfl:setBlock w b (.map (es.modify j (fun e'=>{ e' with key:=key,val:=val })) clock)=w':=by cases hu;rfl
   have hidx:es.findIdx? (fun e=>((e.born:Nat):Int) == ((e0.born:Nat):Int))=some j:=by
        rw [findIdx_arr];exact findIdx_born s2 h2
   have hmod:es.modify j (fun e=>{ e with val:=val })=es.modify j (fun e'=>{ e' with key:=key,val:=val }):=by
        apply Array.ext';rw [Array.toList_modify,Array.toList_modify,modify_eq_set _ _ _ _ h2,modify_eq_set _ _ _ _ h2,← h3]
   simp [Instr.entryStore,MapKept.run_getObj_map hb,asInt,asIntOf,goInt,hidx,hmod,MapKept.run_setObj_map _ hb,Result.andThen,setBlock]
end
end Go.Proofs.YtepkclldbkhanaaGreat
