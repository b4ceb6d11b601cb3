/- The disk, plainly; the small functions of package disk and of its reference: may a name be; a change; Arm; Down. Conditions: texts shorter than the greatest length. -/
import Derived.Test.YthphepeniaemoaaGreatChecked
import Derived.Test.YthphepeniaemoaaGreatKit
import Derived.Test.YthphepeniaemoaaGreatCel
import Derived.Maps.OwnSet
import Derived.Deep.RegionLaw
import Derived.OwnWalk
set_option linter.unusedSimpArgs false
set_option linter.unusedVariables false
set_option linter.unnecessarySimpa false
set_option maxHeartbeats 16000000
set_option maxRecDepth 100000
open Go.Proofs.Tryz
namespace Go.Proofs.YthphepeniaemoaaGreat
open Go.RowKit
/-! ### plainly -/
def isLow (c:UInt8):Bool:=decide (97<=c.toNat) && decide (c.toNat<=122)
def dG (s:ByteArray):Bool:=decide (1<=s.size) && (decide (s.size<=16) && (bl s).all isLow)
/-- a file: its name, its bytes, how many are safe -/
structure DF where
 name:ByteArray
 b:Bytes
 safe:Nat
/-- a disk: its files by names, at which change it goes down, whether it is -/
structure DS where
 f:List DF
 arm:Nat
 down:Bool
def DS.change (d:DS):DS:={ d with arm:=d.arm - 1,down:=d.down || decide (d.arm=1) }
theorem Ih {s:ByteArray} (h:dG s=true):1<=s.size/\s.size<=16:=by
 unfold dG at h;simp only [Bool.and_eq_true,decide_eq_true_eq] at h;exact ⟨h.1,h.2.1⟩
theorem xE (c:UInt8) (l:Bytes):(c :: l).all isLow=(isLow c && l.all isLow):=rfl
theorem sW (s:ByteArray) (w:World) (hs:s.size<=maxLen) :
 Calls prog 72 #[.string s] w fun e w'=>e=.returned (.bool (dG s))/\w=w':=by
 unfold maxLen at hs;by_cases h0:0<s.size
 case neg =>
  have hr:dG s=false:=by unfold dG;rw [aM (by omega)];rfl
  have h1:=lH h0;have h1':=nO h0;go_enter func72,ntmps72;go_wp2;all_goals
   go_ret;exact ⟨au hr.symm,rfl⟩
 case pos =>
 have n1:=mr h0;have n2:=lI h0;by_cases h16:s.size<=16
 case neg =>
  have hr:dG s=false:=by unfold dG;rw [aM h16];simp
  go_enter func72,ntmps72;go_wp2;all_goals
   go_ret;exact ⟨au hr.symm,rfl⟩
 case pos =>
 have hr:dG s=(bl s).all isLow:=by unfold dG;rw [aR h16,aR (show 1<=s.size by omega)];rfl
 have HR:=aa hr;clear hr;go_enter func72,ntmps72;go_wp2;go_loop [13] (fun i=>∃ k:Nat,k<=s.size/\i=.int .i64 k/\dG s=((bl s).drop k).all isLow) (fun i=>s.size - (intOf i).toNat)
 case atStart=>exact ⟨0,Nat.zero_le _,rfl,by rw [HR.out];rfl⟩
 case round =>
  obtain ⟨k,hk,rfl,hpre⟩:=hrel;have HP:=aa hpre;clear hpre;by_cases hlt:k<s.size
  ·have HD:=aa (drop_cons s k hlt)
   by_cases hc:isLow s[k]=true
   ·have HC:=aa hc
    unfold isLow at hc;simp only [Bool.and_eq_true,decide_eq_true_eq] at hc;obtain ⟨c1,c2⟩:=hc;go_wp2;go_round
    case rel=>exact ⟨k+1,by omega,by go_num,by rw [HP.out,HD.out,xE,HC.out];rfl⟩
    case measure=>simp [intOf];omega
   ·have HC:=aa (Bool.eq_false_iff.2 hc)
    unfold isLow at hc;simp only [Bool.and_eq_true,decide_eq_true_eq,not_and] at hc;have hc':s[k].toNat<97\/122<s[k].toNat:=by omega
    clear hc;rcases hc' with c1 | c1;all_goals
     go_wp2;all_goals
      go_ret;exact ⟨au (by rw [HP.out,HD.out,xE,HC.out];rfl),rfl⟩
  ·have HD:=aa (jd s k hlt)
   exact z123
/-- block d holds a disk's cells: its map lies in block b -/
def DkCells (w:World) (d b arm:Nat) (down:Bool):Prop:=w.heap[d]?=some (.cells #[.map (some b),.int .i64 arm,.bool down] 71 (0,0))
theorem dU {w:World} {R:Nat} {x y z:Value} {t:TypeId} (h:w.heap[R]?=some (.cells #[x,y,z] t (0,0))) :
 w.cell? ⟨R,0,none⟩=some x/\w.cell? ⟨R,1,none⟩=some y/\w.cell? ⟨R,2,none⟩=some z/\w.frozen? ⟨R,0,none⟩=false/\w.frozen? ⟨R,1,none⟩=false/\w.frozen? ⟨R,2,none⟩=false:=by
 simp [World.cell?,World.frozen?,h]
theorem qg {w:World} {R:Nat} {x y z:Value} {t:TypeId} {f:Nat×Nat} (h:w.heap[R]?=some (.cells #[x,y,z] t f)) (v:Value):(w.setCell ⟨R,1,none⟩ v).heap[R]?=some (.cells #[x,v,z] t f):=by
 exact z129
theorem qc {w:World} {R:Nat} {x y z:Value} {t:TypeId} {f:Nat×Nat} (h:w.heap[R]?=some (.cells #[x,y,z] t f)) (v:Value):(w.setCell ⟨R,2,none⟩ v).heap[R]?=some (.cells #[x,y,v] t f):=by
 exact z129
def sO (n:Int):Bool:=decide (1<=n) && decide (n<=1048576)
theorem TV (d b arm:Nat) (down:Bool) (n:Int) (w:World) (h:DkCells w d b arm down) :
 Calls prog 9 #[.pointer (some ⟨d,0,none⟩),.int .i64 n] w fun e w' =>
  e=.returned (.int .i64 (if sO n then 0 else 4))/\DkCells w' d b (if sO n then n.toNat else arm) down/\Fr (isR d) w w':=by
 have H:=aa h;obtain ⟨p0,p1,p2,f0,f1,f2⟩:=dU h;clear h;by_cases h1:1<=n
 case neg =>
  have hr:sO n=false:=by unfold sO;rw [aM h1];rfl
  simp only [hr,Bool.false_eq_true,if_false];have h1':n<1:=by omega
  clear hr;go_enter func9,ntmps9;go_wp2;all_goals
   go_ret;exact ⟨rfl,H.out,Fr.refl _ _⟩
 case pos =>
 by_cases h2:n<=1048576
 case neg =>
  have hr:sO n=false:=by unfold sO;rw [aM h2];simp
  simp only [hr,Bool.false_eq_true,if_false];clear hr;go_enter func9,ntmps9;go_wp2;all_goals
   go_ret;exact ⟨rfl,H.out,Fr.refl _ _⟩
 case pos =>
 have hr:sO n=true:=by unfold sO;rw [aR h1,aR h2];rfl
 simp only [hr,if_true];clear hr;have hn:((n.toNat:Nat):Int)=n:=by omega
 have HN:=aa hn;clear hn;go_enter func9,ntmps9;go_wp2;all_goals
  go_ret;exact ⟨rfl,by unfold DkCells;rw [HN.out];exact qg H.out _,gp _⟩
/-- a change that may be: 0; 12: it is down -/
def chg (arm:Nat) (down:Bool):Bool:=down || decide (arm=1)
theorem oh (d b arm:Nat) (down:Bool) (w:World) (h:DkCells w d b arm down) (ha:arm<=1048576) :
 Calls prog 70 #[.pointer (some ⟨d,0,none⟩)] w fun e w' =>
  e=.returned (.int .i64 (if chg arm down then 12 else 0))/\DkCells w' d b (arm - 1) (chg arm down)/\Fr (isR d) w w':=by
 have H:=aa h;obtain ⟨p0,p1,p2,f0,f1,f2⟩:=dU h;clear h;by_cases h0:arm=0
 case pos =>
  subst h0;have hr:chg 0 down=down:=by cases down <;> rfl
  simp only [hr];clear hr
  cases down
  all_goals
   go_enter func70,ntmps70;go_wp2;all_goals
        go_ret;exact ⟨rfl,H.out,Fr.refl _ _⟩
 case neg =>
 obtain ⟨m,rfl⟩:∃ m,arm=m+1:=⟨arm - 1,by omega⟩;by_cases hm:m=0
 case pos =>
  subst hm;have hr:chg 1 down=true:=by cases down <;> rfl
  simp only [hr,if_true];clear hr
  cases down
  all_goals
   go_enter func70,ntmps70;go_wp2;all_goals
        go_ret;exact ⟨rfl,qc (qg H.out _) _,(gp _).again (gp _)⟩
 case neg =>
 have hr:chg (m+1) down=down:=by cases down <;> simp [chg,hm]
 simp only [hr];clear hr;have q:((m:Int)+1 - 1 == 0)=false:=beq_eq_false_iff_ne.2 (by omega);have q':((m:Int) == 0)=false:=beq_eq_false_iff_ne.2 (by omega)
 cases down
 all_goals
  go_enter func70,ntmps70;go_wp2;all_goals
   go_ret;exact ⟨rfl,by unfold DkCells;simpa using qc (qg H.out (.int .i64 m)) _,(gp _).again (gp _)⟩
open Go.Maps (Keyed)
/-- how a pointer to a file reads in the disk's map: its block -/
def jT:Value->Option (DataW Unit×List MemPlace)
 | .pointer none=>some (.nil,[])
 | .pointer (some ⟨b,0,none⟩)=>some (.lit (.int .i64 b),[])
 | _=>none
theorem EM {v:Value} {b:Nat} {ps:List MemPlace} (h:jT v=some (.lit (.int .i64 b),ps)):v=.pointer (some ⟨b,0,none⟩):=by
 unfold jT at h;split at h
 ·simp at h
 ·simp only [Option.some.injEq,Prod.mk.injEq,DataW.lit.injEq,Lit.int.injEq,true_and] at h
  rw [Int.natCast_inj.1 h.1]
 ·cases h
theorem O8 {v:Value} {ps:List MemPlace} (h:jT v=some (.nil,ps)):v=.pointer none:=by
 unfold jT at h;split at h
 ·rfl
 ·simp at h
 ·cases h
theorem wF:Keyed prog 9:=Maps.string_keyed underlying9
theorem Ad (w:World):(zeroValue 111).run prog w=.ok (.pointer none) w:=by kernel_rfl
/-- a name as a key -/
def nk (s:ByteArray):Lit:=.string s.data.toList
theorem lC {s t:ByteArray} (h:nk s=nk t):s=t:=kY (by simpa [nk] using h)
theorem nT {s:ByteArray} (hs:s.size<=maxLen):keyOf prog 9 (.string s)=some (nk s):=Go.WideMaps.keyOf_string_mk underlying9 hs
/-- a file's block: its bytes lie elsewhere -/
def FileAt (w:World) (fb:Nat) (f:DF):Prop:=∃ a cap,w.heap[fb]?=some (.cells #[.slice a f.b.length cap,.int .i64 f.safe] 116 (0,0))/\BytesIn w a f.b/\f.b.length<=cap
/-- the files of a disk, by names -/
def ed (l:List DF) (name:ByteArray):Option DF:=l.find? fun f=>decide (f.name=name)
/-- the map's datum, beside the files -/
structure FilesAt (w:World) (F:Nat->Prop) (D:DataW Unit) (l:List DF):Prop where
 none:∀ s,ed l s=none->D.atKey (nk s) .nil=.nil
 some:∀ s f,ed l s=some f->∃ fb,F fb/\D.atKey (nk s) .nil=.lit (.int .i64 fb)/\FileAt w fb f
 apart:∀ s t fb,D.atKey (nk s) .nil=.lit (.int .i64 fb)->D.atKey (nk t) .nil=.lit (.int .i64 fb)->s=t
 has:∀ s,Maps.has D (nk s)=(ed l s).isSome
 size:Maps.size D=l.length
/-- a disk in memory: d its block, b its map's, which reads as D; all its own blocks lie in F -/
structure DkIn (w:World) (F:Nat->Prop) (d:Nat) (S:DS) (b:Nat) (D:DataW Unit):Prop where
 fd:F d
 cells:DkCells w d b S.arm S.down
 fb:F b
 own:w.ownsMap prog 9 jT b S.f.length D
 files:FilesAt w F D S.f
variable {F:Nat->Prop} {d:Nat} {S:DS} {b:Nat} {D:DataW Unit} {s:ByteArray} {w:World}
theorem tK (hs:s.size<=maxLen) (hd:d=d) (hok:dG s=false) :
 Calls prog 69 #[.pointer (some ⟨d,0,none⟩),.string s] w fun e w'=>e=.returned (.tuple #[.pointer none,.int .i64 1])/\w=w':=by
 have HR:=aa (sW s w hs);rw [hok] at HR;clear hok;go_enter func69,ntmps69;go_wp2_with (go_at_call 72;(with_reducible refine HR.out.mono ?_);rintro e w1 ⟨rfl,rfl⟩)
 all_goals
  go_ret2;exact ⟨rfl,rfl⟩
theorem tJ (hs:s.size<=maxLen) (h:DkIn w F d S b D) (hok:dG s=true) (hg:ed S.f s=none) :
 Calls prog 69 #[.pointer (some ⟨d,0,none⟩),.string s] w fun e w'=>e=.returned (.tuple #[.pointer none,.int .i64 10])/\w=w':=by
 obtain ⟨hFd,hc,hFb,hown,hfs⟩:=h;obtain ⟨p0,p1,p2,f0,f1,f2⟩:=dU hc;have HR:=aa (sW s w hs);rw [hok] at HR;obtain ⟨v,ps,hrun,hv⟩:=hown.lookup wF underlying69 (Ad _) (zd:=.nil) (zp:=[]) rfl (nT hs);rw [hfs.none s hg] at hv;obtain rfl:=O8 hv;clear hg hown hfs hv hok hc;go_enter func69,ntmps69;go_wp2_with (go_at_call 72;(with_reducible refine HR.out.mono ?_);rintro e w1 ⟨rfl,rfl⟩)
 all_goals
  go_ret2;exact ⟨rfl,rfl⟩
theorem pO {fb:Nat} (hs:s.size<=maxLen) (h:DkIn w F d S b D) (hok:dG s=true) (hfb:D.atKey (nk s) .nil=.lit (.int .i64 fb)) :
 Calls prog 69 #[.pointer (some ⟨d,0,none⟩),.string s] w fun e w'=>e=.returned (.tuple #[.pointer (some ⟨fb,0,none⟩),.int .i64 0])/\w=w':=by
 obtain ⟨hFd,hc,hFb,hown,hfs⟩:=h;obtain ⟨p0,p1,p2,f0,f1,f2⟩:=dU hc;have HR:=aa (sW s w hs);rw [hok] at HR;obtain ⟨v,ps,hrun,hv⟩:=hown.lookup wF underlying69 (Ad _) (zd:=.nil) (zp:=[]) rfl (nT hs);rw [hfb] at hv;obtain rfl:=EM hv;clear hfb hown hfs hv hok hc;go_enter func69,ntmps69;go_wp2_with (go_at_call 72;(with_reducible refine HR.out.mono ?_);rintro e w1 ⟨rfl,rfl⟩)
 all_goals
  go_ret2;exact ⟨rfl,rfl⟩
/-! ### Safe -/
theorem PK (a:Option Addr):a.map (fun x=>x.add 0)=a:=by
 cases a with
 | none=>rfl
 | some x=>obtain ⟨b,o,p⟩:=x;cases p <;> simp [Addr.add]
theorem uj {P:Program} (w:World) (t e:TypeId) (i0:TypeInfo) (a:Option Addr) (n cap:Nat) (k k2:IntKind) (j m:Nat) (ht:P.underlying t=some (.slice e)) (hi:P.info? e=some i0) (h1:j<=m) (h2:m<=cap) :
 (Instr.sliceAt t (.slice a n cap) none (some (.int k j)) (some (.int k2 m))).run P w=.ok (.slice a j m) w:=by
 have h3:(if m=0 then a else a.map (fun x=>x.add 0))=a:=by rw [PK];split <;> rfl
 simp [Instr.sliceAt,Instr.slice,Instr.sliceBounds,Instr.sliceBound,asIntOf,run_underlying ht,sizeOf,typeInfo,hi];rw [if_pos h2,if_pos h1];simp [h3]
/-- a new row's first cells are these bytes -/
theorem EZ {w:World} {m:Bytes} {r:Array Value} (t:TypeId) (hr:∃ zs,r=(aY m).toArray++zs):BytesIn (w.alloc (.cells r t)) (some ⟨w.heap.size,0,none⟩) m:=by
 obtain ⟨zs,rfl⟩:=hr;refine ba ⟨_,_,rfl,fun j hj=>?_⟩;have hj':j<(aY m).length:=by rw [eX];exact hj
 simp only [World.cell?,World.alloc,av,Array.getElem?_push_size];simp [Array.getElem?_append,hj',aY,hj]
/-- bytes appended to a slice that has no room: always new memory, or the slice as it was -/
theorem zL (w:World) (ty:TypeId) (a a2:Option Addr) (l l2:Bytes) (cap2:Nat) (h:BytesIn w a l) (h2:BytesIn w a2 l2) (hb:l.length+l2.length<=1073741824) :
 ∃ a' cap' w',(Builtin.append_ #[54,54] ty #[.slice a l.length l.length,.slice a2 l2.length cap2]).run prog w=.ok (.slice a' (l++l2).length cap') w'/\Below w.heap.size w w'/\BytesIn w' a' (l++l2)/\(l++l2).length<=cap':=by
 obtain ⟨i0,hi,hz0,hz1,hz2⟩:=info_parts Tryz.infoByte;by_cases h0:l2=[]
 ·subst h0
  refine ⟨a,l.length,w,?_,bb _ _,by simpa using h,by simp⟩;have hf:(Builtin.firstCells 1 0 (.slice a2 0 cap2)).run prog w=.ok #[] w:=by
   cases a2 with
   | none=>exact run_firstCells_none (P:=prog) (w:=w) 1 0 0 cap2
   | some x=>exact run_firstCells_some (P:=prog) (w:=w) 1 0 x 0 cap2 [] rfl (fun j v hj=>by simp at hj)
  cases a <;> simp [Builtin.append_,run_underlying underlying54,run_underlying underlying5,sizeOf,typeInfo,zeroValue,hi,hz0,hz1,Builtin.lenOf,hf,storeCells,Result.andThen]
 ·have hl2:0<l2.length:=List.length_pos_iff.2 h0
  obtain ⟨A2,VL,rfl,hA2⟩:∃ A off,a2=some ⟨A,off,none⟩/\BytesAt w A off l2:=by
   rcases h2 with h2 | h2
   ·exact absurd h2 h0
   ·exact h2
  have hnews:=hA2.news;have hlen:(l++l2).length=l.length+l2.length:=by simp
  cases a with
  | none =>
    have hl:l=[]:=by rcases h with h | ⟨A,off,h1,_⟩;exact h;cases h1
    subst hl;have hr:=run_append_nil (P:=prog) (w:=w) 54 ty 5 i0 _ underlying54 hi hz0 ⟨A2,VL,none⟩ l2.length cap2 (aY l2) (by rw [hz1,eX];simp) hnews hl2 (by simp at hb;omega) (by rw [hz2];simp at hb;omega);refine ⟨_,_,_,by simpa using hr,(bb _ _).drew.alloc (aq _) _,EZ _ ⟨_,rfl⟩,?_⟩;simpa using grownCap_ge w l2.length 0 5
  | some b =>
    have holds:∀ j v,(aY l)[j]?=some v->w.cell? (b.add j)=some v:=by
        rcases h with rfl | ⟨A,off,h1,h3⟩
        ·intro j v hj;simp [aY] at hj
        ·obtain rfl:b=⟨A,off,none⟩:=by simpa using h1
         exact h3.news
    have hr:=run_append_grow (P:=prog) (w:=w) 54 ty 5 i0 _ underlying54 hi hz0 b l.length l.length (aY l) (by rw [hz1,eX];simp) holds ⟨A2,VL,none⟩ l2.length cap2 (aY l2) (by rw [hz1,eX];simp) hnews (by omega) (by omega) (growslice_fits (by omega) (by rw [hz2];omega));refine ⟨_,_,_,by rw [hlen];exact hr,(bb _ _).drew.alloc (aq _) _,EZ _ ⟨Builtin.zeroCells _ _,by rw [gu,<- List.append_toArray]⟩,?_⟩;rw [hlen];exact grownCap_ge w _ _ 5
theorem xM {ops:Array Oper} {o:Oper} {a:Act} {w:World} {K:Act->World->Prop} {Q:Exit->Act->World->Prop} {E:Prop} (hw:Region.wanted o (yielded ops a.tmps)=true) (s x:Operand)
 (ho:o.op=.call { callee:=.builtin .append,args:=#[s,x],argTypes:=#[54,54] })
 (ad a2:Option Addr) (l l2:Bytes) (cap2:Nat) (hs:a.eval s=.slice ad l.length l.length) (hx:a.eval x=.slice a2 l2.length cap2) (h1:BytesIn w ad l) (h2:BytesIn w a2 l2) (hb:l.length+l2.length<=1073741824)
 (h:∀ a' cap' w',Below w.heap.size w w'->BytesIn w' a' (l++l2)->(l++l2).length<=cap'->K (a.put o.dst (.slice a' (l++l2).length cap')) w') :
 if Region.wanted o (yielded ops a.tmps)=true then Oper.wp prog o a w K Q else E:=by
 rw [if_pos hw];obtain ⟨a',cap',w',hr,h3,h4,h5⟩:=zL w o.type ad a2 l l2 cap2 h1 h2 hb;unfold Oper.wp execOp;simp only [ho,resolve,invoke,builtin,Sem.run_bind,Sem.run_pure,Result.andThen_ok,List.map_toArray,List.map_cons,List.map_nil,hs,hx,hr];exact h _ _ _ h3 h4 h5
/-! ### bytes stay -/
/-- no byte lies in block k -/
def NoByte (w:World) (k:Nat):Prop:=∀ o c,w.cell? ⟨k,o,none⟩≠some (.int .u8 c)
theorem NoByte.file {w:World} {k:Nat} {n:Int} {t:TypeId} {fr:Nat×Nat} {a:Option Addr} {l c:Nat} (h:w.heap[k]?=some (.cells #[.slice a l c,.int .i64 n] t fr)):NoByte w k:=by
 intro o c e;simp only [World.cell?,h] at e;match o,e with
 | 0,e=>simp at e
 | 1,e=>simp at e
 | o+2,e=>simp at e
theorem z119 {p : Prop} (h : p := by
 intro o c e
 simp only [World.cell?, show w.heap[k]? = _ from h] at e
 match o, e with
 | 0, e => simp at e
 | 1, e => simp at e
 | 2, e => simp at e
 | o + 3, e => simp at e) : p := h
theorem NoByte.disk {w:World} {k b arm:Nat} {down:Bool} (h:DkCells w k b arm down):NoByte w k:=by
 exact z119
theorem NoByte.map {w:World} {k:Nat} {es:Array MapEntry} {cl:Nat} (h:w.heap[k]?=some (.map es cl)):NoByte w k:=by
 intro o c e;simp [World.cell?,h] at e
theorem BytesIn.fr {S:Nat->Prop} {w w':World} {a:Option Addr} {l:Bytes} (h:BytesIn w a l) (hf:Fr S w w') (hS:∀ k,S k->NoByte w k):BytesIn w' a l:=by
 rcases h with h | ⟨A,off,h1,h2⟩
 ·exact a8 h
 ·by_cases h0:l=[]
  ·exact a8 h0
  ·have hl:=List.length_pos_iff.2 h0
   refine ba ⟨A,off,h1,fun j hj=>hf.kept (h2 j hj) (fun hs=>hS _ hs (off+j) _ (h2 j hj))⟩
/-! ### all -/
theorem TK {w:World} {fb:Nat} {f:DF} (hl:f.b.length<=1073741824) (h:FileAt w fb f):Calls prog 86 #[.pointer (some ⟨fb,0,none⟩)] w (mi f.b w):=by
 obtain ⟨a,cap,h1,h2,h3⟩:=h;obtain ⟨p0,p1,f0,f1⟩:=fJ h1;have HC:=aa (lh a cap f.b w hl h2);clear h1 h2 h3;go_enter func86,ntmps86;go_wp2_with (go_at_call 125;(with_reducible refine HC.out.mono ?_);rintro e w1 ⟨v,rfl,hown,hb⟩)
 all_goals
  go_ret;exact ⟨v,rfl,hown,hb⟩
/-! ### cut -/
theorem TF {w:World} {fb:Nat} {f:DF} {n:Nat} (hl:f.b.length<=1073741824) (hn:n<=f.b.length) (h:FileAt w fb f) :
 Calls prog 48 #[.pointer (some ⟨fb,0,none⟩),.int .i64 n] w fun e w'=>e=.returned (.tuple #[])/\FileAt w' fb { f with b:=f.b.take n }/\Fr (isR fb) w w':=by
 obtain ⟨a,cap,h1,h2,h3⟩:=h;obtain ⟨p0,p1,f0,f1⟩:=fJ h1;obtain ⟨i0,hi,_,hz1,_⟩:=info_parts Tryz.infoByte;have hcut:=uj (P:=prog) w 54 5 i0 a f.b.length cap .i64 .i64 n n underlying54 hi (aq _) (by omega);have H1:=aa h1;have H2:=aa h2;clear h1 h2;have HL:Hid ((f.b.take n).length=n):=aa (by simp;omega);go_enter func48,ntmps48;go_wp2;all_goals
  go_end0;exact ⟨rfl,⟨a,n,by rw [HL.out];exact vC H1.out _,(H2.out.take n).fr (S:=isR fb) (gp _) (fun k hk=>by subst hk;exact NoByte.file H1.out),by rw [HL.out];exact aq _⟩,gp _⟩
theorem add_any {w:World} {fb:Nat} {f:DF} {a2:Option Addr} {l2:Bytes} {cap2:Nat} (hb:f.b.length+l2.length<=1073741824) (h:FileAt w fb f) (h2:BytesIn w a2 l2) :
 Calls prog 71 #[.pointer (some ⟨fb,0,none⟩),.slice a2 l2.length cap2] w fun e w'=>e=.returned (.tuple #[])/\FileAt w' fb { f with b:=f.b++l2 }/\Fr (isR fb) w w':=by
 obtain ⟨a,cap,h1,hin,h3⟩:=h;obtain ⟨i0,hi,_,hz1,_⟩:=info_parts Tryz.infoByte;have hlt:fb<w.heap.size:=(Array.getElem?_eq_some_iff.1 h1).1;have hcut:=uj (P:=prog) w.drew 54 5 i0 a f.b.length cap .i64 .i64 f.b.length f.b.length underlying54 hi (aq _) h3;have HL:=aa (show (f.b++l2).length=f.b.length+l2.length by simp);have h1d:w.drew.heap[fb]?=some (.cells #[.slice a f.b.length cap,.int .i64 f.safe] 116 (0,0)):=h1;obtain ⟨p0,p1,f0,f1⟩:=fJ h1d;have XM:BytesIn w.drew a f.b:=hin;have h2d:BytesIn w.drew a2 l2:=h2;have HF:=aa hin;have H1:=aa h1d;clear h1 h1d hin h2 h3 hi hz1;go_enter func71,ntmps71;go_region_law
  (refine xM (by simp [Region.wanted]) _ _ rfl a a2 f.b l2 cap2 rfl rfl XM h2d hb ?_;intro a' cap' w2 hbel hin2 hcap2;have q0:=kept hbel p0;have g0:=(hbel.frozen (p:=⟨fb,0,none⟩) hlt).trans f0)
 all_goals
  go_end0;have hbw:Below w.heap.size w w2:=((bb w.heap.size w).drew).trans hbel;have HB:w2.heap[fb]?=some (.cells #[.slice a f.b.length cap,.int .i64 f.safe] 116 (0,0)):=(hbel.block fb hlt).trans H1.out;refine ⟨rfl,⟨a',cap',?_,hin2.fr (S:=isR fb) (gp _) (fun k hk=>by subst hk;exact NoByte.file HB),hcap2⟩,(Fr.of_below hbw).again (gp _)⟩;first
   | exact vC HB _
   | (rw [show ({ f with b:=f.b++l2 }:DF).b.length=f.b.length+l2.length from HL.out];exact vC HB _)
variable {F:Nat->Prop} {d:Nat} {S:DS} {b:Nat} {D:DataW Unit} {s:ByteArray} {w w':World}
theorem lZ {w:World} {fb d b arm:Nat} {down:Bool} {f:DF} (h:FileAt w fb f) (hd:DkCells w d b arm down):fb≠d:=by
 rintro rfl;obtain ⟨a,cap,h1,_⟩:=h;have:=h1.symm.trans hd;simp at this
theorem nX {w:World} {fb b n:Nat} {f:DF} {D:DataW Unit} (h:FileAt w fb f) (hm:w.ownsMap prog 9 jT b n D):fb≠b:=by
 rintro rfl;obtain ⟨a,cap,h1,_⟩:=h;obtain ⟨es,cl,hb,_⟩:=hm;have:=h1.symm.trans hb;simp at this
theorem uT {w:World} {d b n arm:Nat} {down:Bool} {D:DataW Unit} (hd:DkCells w d b arm down) (hm:w.ownsMap prog 9 jT b n D):d≠b:=by
 rintro rfl;obtain ⟨es,cl,hb,_⟩:=hm;have:=(show w.heap[d]?=_ from hd).symm.trans hb;simp at this
theorem Fr.lt {w:World} {k:Nat} {o:Obj} (h:w.heap[k]?=some o):k<w.heap.size:=(Array.getElem?_eq_some_iff.1 h).1
theorem FileAt.fr {T:Nat->Prop} {fb:Nat} {f:DF} (h:FileAt w fb f) (hf:Fr T w w') (hT:∀ k,T k->NoByte w k) (hk:¬ T fb):FileAt w' fb f:=by
 obtain ⟨a,cap,h1,h2,h3⟩:=h;exact ⟨a,cap,(hf.block fb (Fr.lt h1) hk).trans h1,h2.fr hf hT,h3⟩
theorem uG {T:Nat->Prop} {n:Nat} (h:w.ownsMap prog 9 jT b n D) (hf:Fr T w w') (hk:¬ T b):w'.ownsMap prog 9 jT b n D:=by
 obtain ⟨es,cl,hb,r⟩:=h;exact ⟨es,cl,(hf.block b (Fr.lt hb) hk).trans hb,r⟩
/-- a disk stays, whatever turns elsewhere -/
theorem DkIn.fr {T:Nat->Prop} (h:DkIn w F d S b D) (hf:Fr T w w') (hT:∀ k,T k->NoByte w k) (hk:∀ k,F k->¬ T k):DkIn w' F d S b D where
 fd:=h.fd
 cells:=(hf.block d (Fr.lt h.cells) (hk d h.fd)).trans h.cells
 fb:=h.fb
 own:=uG h.own hf (hk b h.fb)
 files:=⟨h.files.none,fun s f hg=>let ⟨fb,h1,h2,h3⟩:=h.files.some s f hg;⟨fb,h1,h2,h3.fr hf hT (hk fb h1)⟩,h.files.apart,h.files.has,h.files.size⟩
/-- another number of changes -/
theorem DkIn.setCells {arm:Nat} {down:Bool} (h:DkIn w F d S b D) (hc:DkCells w' d b arm down) (hf:Fr (isR d) w w'):DkIn w' F d { S with arm:=arm,down:=down } b D where
 fd:=h.fd
 cells:=hc
 fb:=h.fb
 own:=uG h.own hf (fun e=>uT h.cells h.own e.symm)
 files:=⟨h.files.none,fun s f hg=>let ⟨fb,h1,h2,h3⟩:=h.files.some s f hg;⟨fb,h1,h2,h3.fr hf (fun k hk=>by subst hk;exact NoByte.disk h.cells) (lZ h3 h.cells)⟩,h.files.apart,h.files.has,h.files.size⟩
/-- the files, one of them another one of its name -/
def lS (l:List DF) (f:DF):List DF:=l.map fun g=>if g.name=f.name then f else g
theorem tu {l:List DF} {s:ByteArray} {f:DF} (h:ed l s=some f):f.name=s:=by
 have:=List.find?_some h;simpa using this
theorem yB (l:List DF) (f:DF) (s:ByteArray):ed (lS l f) s=if s=f.name then (ed l s).map (fun _=>f) else ed l s:=by
 unfold ed lS;induction l with
 | nil=>simp
 | cons g r ih =>
   rw [List.map_cons,List.find?_cons,List.find?_cons];by_cases hg:g.name=f.name
   ·rw [if_pos hg]
    by_cases hs:s=f.name
    ·subst hs;simp [hg]
    ·rw [if_neg hs]
     have e1:decide (f.name=s)=false:=aM (fun e=>hs e.symm);have e2:decide (g.name=s)=false:=by rw [hg];exact e1
     rw [e1,e2];simpa [hs] using ih
   ·rw [if_neg hg]
    by_cases hgs:g.name=s
    ·have hs:¬ s=f.name:=fun e=>hg (hgs.trans e)
     simp [hgs,hs]
    ·simp only [aM hgs]
     exact ih
/-- one file turned in its place -/
theorem DkIn.setFile {fb:Nat} {f g:DF} (h:DkIn w F d S b D) (hg:ed S.f s=some g) (hfb:D.atKey (nk s) .nil=.lit (.int .i64 fb)) (hn:f.name=s) (hf:FileAt w' fb f) (hg0:FileAt w fb g) (hfr:Fr (isR fb) w w') :
 DkIn w' F d { S with f:=lS S.f f } b D:=by
 have hnb:∀ k,isR fb k->NoByte w k:=fun k hk=>by
  subst hk;obtain ⟨a,cap,h1,_⟩:=hg0;exact NoByte.file h1
 have hlen:(lS S.f f).length=S.f.length:=by simp [lS]
 refine ⟨h.fd,(hfr.block d (Fr.lt h.cells) (fun e=>lZ hg0 h.cells e.symm)).trans h.cells,h.fb,?_,?_⟩
 ·show w'.ownsMap prog 9 jT b (lS S.f f).length D
  rw [hlen];exact uG h.own hfr (fun e=>nX hg0 h.own e.symm)
 ·refine ⟨?_,?_,h.files.apart,?_,by rw [hlen];exact h.files.size⟩
  ·intro t ht
   rw [yB] at ht;refine h.files.none t ?_;split at ht
   ·simpa using ht
   ·exact ht
  ·intro t f' ht
   rw [yB] at ht;split at ht
   ·rename_i e
    obtain rfl:t=s:=e.trans hn;rw [hg] at ht;obtain rfl:f=f':=by simpa using ht
    obtain ⟨fb',h1,h2,_⟩:=h.files.some t g hg;obtain rfl:fb'=fb:=by have:=h2.symm.trans hfb;simp at this;omega
    exact ⟨fb',h1,h2,hf⟩
   ·rename_i e
    obtain ⟨fb',h1,h2,h3⟩:=h.files.some t f' ht;refine ⟨fb',h1,h2,h3.fr hfr hnb (fun e2=>?_)⟩;have e3:fb'=fb:=e2;subst e3;exact e ((h.files.apart t s fb' h2 hfb).trans hn.symm)
  ·intro t
   rw [h.files.has,yB];split <;> simp
end Go.Proofs.YthphepeniaemoaaGreat
