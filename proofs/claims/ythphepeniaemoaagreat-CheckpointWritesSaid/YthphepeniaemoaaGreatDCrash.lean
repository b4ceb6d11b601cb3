/- The disk: Names: the names, sorted. Conditions: at most 8 files. -/
import Derived.Test.YthphepeniaemoaaGreatLast
import Derived.Test.YthphepeniaemoaaGreatDiskN
import Derived.Test.YthphepeniaemoaaGreatDiskIter
import Derived.Test.YthphepeniaemoaaGreatCel
import Derived.Laws.ResultCell
import Derived.Deep.MidRow
import Derived.Sort.Walk0
import Derived.Deep.WholeRow
import Derived.Sort.KeysCollected
set_option linter.unusedSimpArgs false
set_option linter.unusedVariables false
set_option linter.unnecessarySimpa false
set_option maxHeartbeats 16000000
set_option maxRecDepth 100000
open Go.Proofs.Tryz
namespace Go.Proofs.YthphepeniaemoaaGreat
open Go.RowKit Go.Maps Go.Sort Go.Shelf
variable {F:Nat->Prop} {d:Nat} {S:DS} {b:Nat} {D:DataW Unit} {s:ByteArray} {w w':World}
theorem Pg (h:DkIn w F d S b D) (h8:S.f.length<=8):Calls prog 43 #[.pointer (some ⟨d,0,none⟩)] w fun e w'=>∃ (v:Value) (ss:List (List UInt8)),e=.returned v/\ss.Perm (strKeys D) /\
 w'.ownsRow w.heap.size 9 1 v ss.length ((ss.mergeSort (fun x y=>decide (x<=y))).map encStr)/\(v=.slice none 0 0↔ss=[])/\Below w.heap.size w w':=by
 obtain ⟨p0,p1,p2,f0,f1,f2⟩:=dL h.cells;have hown:=h.own;have hsz:=h.files.size;have hmax:Maps.size D<=maxLen:=by rw [hsz];unfold maxLen;omega
 have hbytes:Maps.size D * 16<=140737488355328:=by rw [hsz];omega
 clear h;refine (callsIn_wide (n:=6)).1 ?_;have hfK:Fence.wide.fn 85:=trivial;have hfS:Fence.wide.fn 84:=trivial;refine callsIn_of_wp func43 rfl trivial ?_ rfl;simp only [ntmps43,List.size_toArray,List.length_cons,List.length_nil,Nat.reduceAdd,Nat.reduceSub,Array.replicate_succ,Array.replicate_zero,List.push_toArray,List.append_toArray,List.nil_append,List.cons_append];gi_wp2_with (first
  | (gi_at_call 85;refine (Tryz.maps_Keys_85 _ _).mono ?_;rintro e w' ⟨rfl,rfl⟩)
  | (gi_at_call 84;refine (Tryz.slices_Sorted_keys_84_85 b S.f.length D jL w hown hmax hbytes).mono ?_;rintro e w' ⟨v,ss,rfl,hS,hrow,hnil,hb⟩))
 go_ret;exact ⟨v,ss,rfl,hS,ownsRow_base_a hrow (by simp),hnil,((bh _ w).alloc (ar _) _).trans (hb.mono (by simp))⟩
end Go.Proofs.YthphepeniaemoaaGreat
/- The disk: New; a nil disk's Crash and Copy. Conditions: none. -/
namespace Go.Proofs.YthphepeniaemoaaGreat
open Go.RowKit
theorem MZ (w:World):Calls prog 6 #[] w fun e w'=>e=.returned (.pointer (some ⟨w.heap.size+1,0,none⟩)) /\
 DkIn w' (fun k=>w.heap.size<=k) (w.heap.size+1) ⟨[],0,false⟩ w.heap.size (.map [])/\Below w.heap.size w w':=by
 have hmm:=@run_makeMap prog;have HM:=aq (World.ownsMap_made w prog 9 jL);go_enter func6,ntmps6;go_wp2;all_goals
  go_ret;refine ⟨by simp,⟨Nat.le_succ _,?_,ar _,HM.out.alloc _,?_⟩,((bh _ w).alloc (ar _) _).alloc (by simp) _⟩
  ·have e1:=(MapKept.heap_alloc (w.alloc (.map #[] 0)) (.cells #[.map (some w.heap.size),.int .i64 0,.bool false] 71)).1
   rw [show (w.alloc (.map #[] 0)).heap.size=w.heap.size+1 by simp] at e1;exact e1
  ·refine ⟨fun s _=>rfl,fun s f hg=>?_,fun s t fb ht _=>?_,fun s=>rfl,rfl⟩
   ·simp [bY] at hg
   ·cases ht
end Go.Proofs.YthphepeniaemoaaGreat
/- The reference's disk: how it lies in memory; change, Find, get. Conditions: as in the text. -/
namespace Go.Proofs.YthphepeniaemoaaGreat
open Go.RowKit
/-- a file of the reference's, with where its bytes lie -/
structure RF where
 f:DF
 a:Option Addr
 cap:Nat
abbrev ut (g:RF):List Value:=[.string g.f.name,.slice g.a g.f.b.length g.cap,.int .i64 g.f.safe]
abbrev PO (g:RF):Value:=.agg #[.string g.f.name,.slice g.a g.f.b.length g.cap,.int .i64 g.f.safe]
structure RFOk (w:World) (g:RF):Prop where
 bytes:BytesIn w g.a g.f.b
 cap:g.f.b.length<=g.cap
theorem RFOk.kept {w w':World} {g:RF} (h:RFOk w g) (hb:Below w.heap.size w w'):RFOk w' g:=⟨h.bytes.kept hb,h.cap⟩
abbrev bJ (l:List RF):List DF:=l.map (·.f)
/-- the cells of files, one behind the other -/
def fcs:List RF->List Value
 | []=>[]
 | g :: l=>ut g++fcs l
theorem vK (l m:List RF):fcs (l++m)=fcs l++fcs m:=by
 induction l with
 | nil=>rfl
 | cons g l ih=>simp only [List.cons_append,fcs,ih,List.append_assoc]
theorem qW (l:List RF):(fcs l).length=l.length * 3:=by
 induction l with
 | nil=>rfl
 | cons g l ih=>simp only [fcs,av,ih,List.length_cons,List.length_nil];omega
theorem CB:∀ (l:List RF) (k:Nat),(fcs l).drop (k * 3)=fcs (l.drop k)
 | l,0=>by simp
 | [],k+1=>by simp [fcs]
 | g :: l,k+1=>by
   rw [show (k+1) * 3=k * 3+3 by omega,List.drop_succ_cons,<- CB l k];simp [fcs]
theorem IW:∀ (l:List RF) (k:Nat),(fcs l).take (k * 3)=fcs (l.take k)
 | l,0=>by simp [fcs]
 | [],k+1=>by simp [fcs]
 | g :: l,k+1=>by
   rw [show (k+1) * 3=k * 3+3 by omega,List.take_succ_cons];simp only [fcs];rw [<- IW l k];simp
theorem iP (l:List RF):∀ u∈fcs l,u.oneCell'=true:=by
 induction l with
 | nil=>intro u hu;cases hu
 | cons g l ih =>
   intro u hu;rcases List.mem_append.1 hu with h | h
   ·simp only [List.mem_cons,List.not_mem_nil,or_false] at h
    rcases h with rfl | rfl | rfl <;> rfl
   ·exact ih u h
theorem U3 (l:List RF) (i:Nat) (h:i<l.length) (j:Nat) (hj:j<3):(fcs l)[i * 3+j]?=(ut l[i])[j]?:=by
 rw [<- List.getElem?_drop,CB,List.drop_eq_getElem_cons h];simp only [fcs];rw [List.getElem?_append_left (by simpa using hj)]
/-- a slice of files -/
structure RFsIn (w:World) (a:Option Addr) (l:List RF):Prop where
 rows:CellsIn w a (fcs l)
 ok:∀ g∈l,RFOk w g
theorem RFsIn.kept {w w':World} {a:Option Addr} {l:List RF} (h:RFsIn w a l) (hb:Below w.heap.size w w'):RFsIn w' a l:=⟨h.rows.kept hb,fun g hg=>(h.ok g hg).kept hb⟩
theorem RFsIn.at {w:World} {a:Option Addr} {l:List RF} (h:RFsIn w a l) {k:Nat} (hk:k<l.length) :
 ∃ A off,a=some ⟨A,off,none⟩/\(∀ i (h:i<l.length),w.rangeAt A (off+i * 3) (ut l[i]))/\RFOk w l[k]:=by
 rcases h.rows with h1 | ⟨A,off,h1,h2⟩
 ·have:=congrArg List.length h1
  rw [qW] at this;simp at this;omega
 ·refine ⟨A,off,h1,fun i hi j v hv=>?_,h.ok _ (List.getElem_mem hk)⟩
  have hj:j<3:=by have:=(List.getElem?_eq_some_iff.1 hv).1;simpa using this
  have:=h2 (i * 3+j) v (by rw [U3 l i hi j hj];exact hv);rwa [<- Nat.add_assoc] at this
/-- a function's one result: new files -/
def Ue (l:List RF) (w:World) (e:Ending) (w':World):Prop:=∃ a cap,e=.returned (.slice a l.length cap)/\RFsIn w' a l/\l.length<=cap/\Below w.heap.size w w'
/-- one result that is a struct in a block of its own, and another one -/
theorem og {P:Program} {fn:Func} {R:Ending->World->Prop} {a:Act} {w:World} (p u:Tmp) (ty t:TypeId) (g:Nat) (c:Array Value) (d:TypeDesc) (v:Value) (hr:fn.results=#[.cell p ty,.tmp u])
 (hp:a.tmps.getD p undef=.pointer (some ⟨g,0,none⟩)) (hv:a.tmps.getD u undef=v) (hg:w.heap[g]?=some (.cells c t (0,0))) (hu:P.underlying ty=some d) (hd:d.isRow=true) (hi:(P.info? ty).map (·.size)=some c.size)
 (hde:a.defers=[]) (hR:R (.returned (.tuple #[.agg c,v])) w):bodyPost P fn R .ret a w:=by
 have h1:w.rangeAt g 0 c.toList:=fun j v hv=>by
  exact z102
 have h2:=run_loadVar_mid (P:=P) w g 0 ty c.toList d h1 hu hd (by simpa using hi);refine bodyPost_ret ?_ hde hR;rw [results_cell_tmp hr,hp,hv];simp [asAddr,h2,Result.andThen]
/-- the reference's disk as a value -/
abbrev je (a:Option Addr) (n cap arm:Nat) (down:Bool):Value:=.agg #[.slice a n cap,.int .i64 arm,.bool down]
theorem z97 {p : Prop} (h : p := by
 clear hr
 cases down
 all_goals
  go_enter func74, ntmps74
  go_wp2
  refine og 2 3 29 29 (w.heap.size + 1) _ _ _ rfl rfl rfl (eY _ _ _) underlying29 rfl (by kernel_rfl) rfl ?_
  exact ⟨rfl, by go_grown⟩) : p := h
theorem jo (a:Option Addr) (n cap arm:Nat) (down:Bool) (w:World) (ha:arm<=1048576) :
 Calls prog 74 #[je a n cap arm down] w fun e w' =>
  e=.returned (.tuple #[je a n cap (arm - 1) (chg arm down),.int .i64 (if chg arm down then 12 else 0)])/\Below w.heap.size w w':=by
 by_cases h0:arm=0
 case pos =>
  subst h0;have hr:chg 0 down=down:=by cases down <;> rfl
  simp only [hr]
  exact z97
 case neg =>
 obtain ⟨m,rfl⟩:∃ m,arm=m+1:=⟨arm - 1,by omega⟩;by_cases hm:m=0
 case pos =>
  subst hm;have hr:chg 1 down=true:=by cases down <;> rfl
  simp only [hr,if_true]
  exact z97
 case neg =>
 have hr:chg (m+1) down=down:=by cases down <;> simp [chg,hm]
 simp only [hr];clear hr;have q:((m:Int)+1 == 1)=false:=beq_eq_false_iff_ne.2 (by omega);have q':decide ((0:Int)<(m:Int)+1)=true:=aR (by omega)
 cases down
 all_goals
  go_enter func74,ntmps74;go_wp2;refine og 2 3 29 29 (w.heap.size+1) _ _ _ rfl rfl rfl (eY _ _ _) underlying29 rfl (by kernel_rfl) rfl ?_;exact ⟨by simp,by go_grown⟩
end Go.Proofs.YthphepeniaemoaaGreat
/- The reference's disk: Find, get. Conditions: as in the text. -/
namespace Go.Proofs.YthphepeniaemoaaGreat
open Go.RowKit
theorem yD (f:DF) (l:List DF) (s:ByteArray):bY (f :: l) s=if f.name=s then some f else bY l s:=by
 unfold bY;rw [List.find?_cons];split <;> rename_i h
 ·rw [if_pos (by simpa using h)]
 ·rw [if_neg (by simpa using h)]
theorem PN (l:List RF) (k:Nat) (h:k<l.length):(bJ l).drop k=l[k].f :: (bJ l).drop (k+1):=by
 rw [List.drop_eq_getElem_cons (by simpa using h)];simp
/-! ### get -/
def kT (l:List DF) (s:ByteArray):DF×Int:=if bK s then (match bY l s with | none=>(⟨s,[],0⟩,10) | some f=>(f,0)) else (⟨s,[],0⟩,1)
def Ru (l:List DF) (s:ByteArray) (w:World) (e:Ending) (w':World):Prop :=
 ∃ g:RF,e=.returned (.tuple #[PO g,.int .i64 (kT l s).2])/\g.f=(kT l s).1/\RFOk w' g/\Below w.heap.size w w'
theorem RFOk.zero (w:World) (s:ByteArray):RFOk w ⟨⟨s,[],0⟩,none,0⟩:=⟨bb rfl,ar _⟩
theorem y72 {p q : Prop} (k : q) (h : PLift q -> p := by
 intro kk
 refine og 4 5 106 106 (w.heap.size) _ _ _ rfl rfl rfl (aY _ _) underlying106 rfl (by kernel_rfl) rfl ?_
 exact kk.down) : p := h ⟨k⟩
theorem J5 (a:Option Addr) (cap:Nat) (l:List RF) (s:ByteArray) (w:World) (hl:l.length<=1073741824) (hs:s.size<=maxLen) (h:RFsIn w a l) :
 Calls prog 73 #[.slice a l.length cap,.string s] w (Ru (bJ l) s w):=by
 have HR:=aq (fun W=>sK s W hs);by_cases hok:bK s=true
 case neg =>
  rw [Bool.eq_false_iff.2 hok] at HR;have HV:Hid (kT (bJ l) s=(⟨s,[],0⟩,1)):=by unfold Hid kT;rw [if_neg hok]
  clear hok;go_enter func73,ntmps73;go_wp2_with (go_at_call 77;(with_reducible refine (HR.out _).mono ?_);rintro e w1 ⟨rfl,rfl⟩)
  refine y72 ?_
  exact ⟨⟨⟨s,[],0⟩,none,0⟩,by rw [HV.out];rfl,by rw [HV.out],.zero _ _,by go_grown⟩
 case pos =>
 rw [hok] at HR;have hV:kT (bJ l) s=match bY (bJ l) s with | none=>(⟨s,[],0⟩,10) | some f=>(f,0):=by unfold kT;rw [if_pos hok]
 have HV:=aq hV;clear hok hV;go_enter func73,ntmps73;go_wp2_with (go_at_call 77;(with_reducible refine (HR.out _).mono ?_);rintro e w1 ⟨rfl,rfl⟩)
 go_loop [6] (fun i=>∃ k:Nat,k<=l.length/\i=.int .i64 k/\bY (bJ l) s=bY ((bJ l).drop k) s) (fun i=>l.length - (intOf i).toNat)
 case atStart=>exact ⟨0,Nat.zero_le _,rfl,by rw [List.drop_zero]⟩
 case round =>
  obtain ⟨k,hk,rfl,hpre⟩:=hrel;have HP:=aq hpre;clear hpre;by_cases hlt:k<l.length
  ·obtain ⟨A,off,rfl,hrows,hok⟩:=h.at hlt
   have b0:=hrows k hlt 0 _ rfl;rw [Nat.add_zero] at b0;have c0:=fun o=>kept ((bh _ w).alloc (ar _) o) b0;have c1:=fun o=>kept ((bh _ w).alloc (ar _) o) (hrows k hlt 1 _ rfl);have c2:=fun o=>kept ((bh _ w).alloc (ar _) o) (hrows k hlt 2 _ rfl);clear b0;have HD:=aq (PN l k hlt);have HK:=aq hok;clear hrows hok;by_cases hc:l[k].f.name=s
   ·have HE:Hid (kT (bJ l) s=(l[k].f,0)):=by rw [Hid,HV.out,HP.out,HD.out,yD,if_pos hc]
    have hq:(l[k].f.name.toList == s.toList)=true:=by rw [hc];simp
    clear HP HD HV hc;generalize l[k]=x at *;go_wp2
    refine y72 ?_
    exact ⟨x,by rw [HE.out];rfl,by rw [HE.out],HK.out.kept (by go_grown),by go_grown⟩
   ·have HE:Hid (bY (bJ l) s=bY ((bJ l).drop (k+1)) s):=by rw [Hid,HP.out,HD.out,yD,if_neg hc]
    have hq:(l[k].f.name.toList == s.toList)=false:=by rw [qH];exact aM fun e=>hc (lI e)
    clear HP HD hc HK;generalize l[k]=x at *;go_wp2;go_round
    case rel=>exact ⟨k+1,by omega,by go_num,HE.out⟩
    case measure=>simp [intOf];omega
  ·have HE:Hid (kT (bJ l) s=(⟨s,[],0⟩,10)):=by rw [Hid,HV.out,HP.out,List.drop_of_length_le (by simpa using Nat.le_of_not_lt hlt)];rfl
   go_wp2
   refine y72 ?_
   exact ⟨⟨⟨s,[],0⟩,none,0⟩,by rw [HE.out];rfl,by rw [HE.out],.zero _ _,by go_grown⟩
end Go.Proofs.YthphepeniaemoaaGreat
/- The reference's disk: Without, Set. Conditions: as in the text. -/
namespace Go.Proofs.YthphepeniaemoaaGreat
open Go.RowKit
def jA (l:List RF) (s:ByteArray):List RF:=l.filter fun g => !decide (g.f.name=s)
theorem sH (l:List RF) (s:ByteArray):bJ (jA l s)=jH (bJ l) s:=by
 unfold jA jH bJ;rw [List.filter_map];rfl
theorem yL (l:List RF) (s:ByteArray):(jA l s).length<=l.length:=List.length_filter_le _ _
theorem OL {l:List RF} {k:Nat} {s:ByteArray} (h:k<l.length) (he:l[k].f.name=s):jA (l.take (k+1)) s=jA (l.take k) s:=by
 unfold jA;rw [List.take_succ_eq_append_getElem h,List.filter_append];simp [he]
theorem QM {l:List RF} {k:Nat} {s:ByteArray} (h:k<l.length) (he:¬ l[k].f.name=s):jA (l.take (k+1)) s=jA (l.take k) s++[l[k]]:=by
 unfold jA;rw [List.take_succ_eq_append_getElem h,List.filter_append];simp [he]
theorem Tryz.infoRF:(prog.info? 106).map (fun i=>(i.zero,i.size,i.bytes))=some (some (.agg #[.string ByteArray.empty,.slice none 0 0,.int .i64 0]),3,48):=by kernel_rfl
theorem uY (w:World) (g:RF) (t:TypeId):CellsIn (w.alloc (.cells #[.string g.f.name,.slice g.a g.f.b.length g.cap,.int .i64 g.f.safe] t)) (some ⟨w.heap.size,0,none⟩) (fcs [g]):=by
 refine bd ⟨_,_,rfl,fun j v hv=>?_⟩;rw [aw,World.cell?_alloc_new];simpa [fcs] using hv
theorem RFsIn.own {w:World} {base:Nat} {t:TypeId} {v:Value} {l:List RF} (h:w.ownsRow base t 3 v l.length (fcs l)) (hok:∀ g∈l,RFOk w g):∃ a cap,v=.slice a l.length cap/\RFsIn w a l/\l.length<=cap:=by
 obtain ⟨a,cap,h1,h2,h3⟩:=fP h;exact ⟨a,cap,h1,⟨h2,hok⟩,h3⟩
theorem qM (a:Option Addr) (cap:Nat) (l:List RF) (s:ByteArray) (w:World) (hl:l.length<=1073741824) (h:RFsIn w a l) :
 Calls prog 75 #[.slice a l.length cap,.string s] w (Ue (jA l s) w):=by
 obtain ⟨i0,hi,hz0,hz1,hz2⟩:=info_parts Tryz.infoRF;go_enter func75,ntmps75;go_wp2;have hown0:(w.alloc (Obj.cells #[] 106)).ownsRow w.heap.size 106 3 (.slice (some ⟨w.heap.size,0,none⟩) 0 0) (jA (l.take 0) s).length (fcs (jA (l.take 0) s)):=World.ownsRow_made _ _ _ (ar _) (by decide) rfl;have hb0:Below w.heap.size w (w.alloc (Obj.cells #[] 106)):=(bh _ _).alloc (ar _) _;go_loopw [5,6] (fun out i wr=>∃ k:Nat,i=.int .i64 k/\k<=l.length/\wr.ownsRow w.heap.size 106 3 out (jA (l.take k) s).length (fcs (jA (l.take k) s))/\Below w.heap.size w wr) (fun _ i _=>l.length - (intOf i).toNat)
 case atStart=>exact ⟨0,rfl,Nat.zero_le _,hown0,hb0⟩
 case round =>
  obtain ⟨k,rfl,hk,hown,hbw⟩:=hrel;have hzw:=hbw.size;by_cases hlt:k<l.length
  ·obtain ⟨A,off,rfl,hra,hok⟩:=(h.kept hbw).at hlt
   have c0:=hra k hlt 0 _ rfl;have c1:=hra k hlt 1 _ rfl;have c2:=hra k hlt 2 _ rfl;rw [Nat.add_zero] at c0;have hdl:(jA (l.take k) s).length<=l.length:=Nat.le_trans (yL _ _) (by simp;omega);by_cases hc:l[k].f.name=s
   ·have HT:=aq (OL hlt hc)
    have hq:(l[k].f.name.toList == s.toList)=true:=by rw [hc];simp
    clear hc hra hok;generalize l[k]=x at c0 c1 c2 HT hq;go_wp2;go_roundw
    case rel=>exact ⟨k+1,by go_num,by omega,by rw [HT.out];exact hown,hbw⟩
    case measure => exact z67
   ·have HT:=aq (QM hlt hc)
    have hq:(l[k].f.name.toList == s.toList)=false:=by rw [qH];exact aM fun e=>hc (lI e)
    clear hc hra hok;generalize l[k]=x at c0 c1 c2 HT hq;go_wp2_with (at_builtin;go_loud (refine jM rfl _ _ 27 rfl w.heap.size 106 i0 _ 3 48 underlying27 hi hz0 hz1 hz2 rfl (by decide) _ _ _ rfl (hown.alloc _) _ 1 1 (fcs [x]) rfl rfl (uY wr x _) (iP _) (by unfold maxLen;omega) (by omega) (by simp;omega) ?_);intro v' w2 hown3 hgrow)
    have hb3:=(hbw.alloc hzw (Obj.cells #[.string x.f.name,.slice x.a x.f.b.length x.cap,.int .i64 x.f.safe] 106)).grown hgrow (by simp;omega) (fun k hk=>(hown.lt k hk).1);have hown4:w2.ownsRow w.heap.size 106 3 v' (jA (l.take (k+1)) s).length (fcs (jA (l.take (k+1)) s)):=by rw [HT.out,vK,av];exact hown3
    go_roundw
    case rel=>exact ⟨k+1,by go_num,by omega,hown4,hb3⟩
    case measure => exact z67
  ·have hke:k=l.length:=by omega
   subst hke;rw [List.take_length] at hown;obtain ⟨a2,c2,rfl,hin,hc⟩:=RFsIn.own hown (fun g hg=>(h.ok g (List.mem_filter.1 hg).1).kept hbw);go_wp2;go_ret;exact ⟨a2,c2,rfl,hin,hc,hbw⟩
/-! ### Set -/
def rU:List RF->RF->List RF
 | [],g=>[g]
 | x :: r,g=>if iG x.f.name g.f.name then x :: rU r g else g :: x :: r
def qg (l:List RF) (g:RF):List RF:=rU (jA l g.f.name) g
theorem yV (g:RF):∀ l:List RF,bJ (rU l g)=sW (bJ l) g.f
 | []=>rfl
 | x :: r=>by
   simp only [rU,List.map_cons,sW];split
   ·simp [<- yV g r]
   ·rfl
theorem sG (l:List RF) (g:RF):bJ (qg l g)=kK (bJ l) g.f:=by
 unfold qg kK;rw [yV,sH]
/-- how many files are ahead of a new one -/
def ahead (l:List RF) (g:RF):Nat:=(l.takeWhile fun x=>iG x.f.name g.f.name).length
theorem sV (g:RF):∀ l:List RF,rU l g=l.take (ahead l g)++g :: l.drop (ahead l g)
 | []=>rfl
 | x :: r=>by
   unfold rU ahead
   cases h:iG x.f.name g.f.name
   ·simp [h]
   ·simp only [h,if_true,List.takeWhile_cons_of_pos,List.length_cons,List.take_succ_cons,List.drop_succ_cons,List.cons_append]
    rw [sV g r];rfl
theorem QY (l:List RF) (g:RF):ahead l g<=l.length:=List.Sublist.length_le (List.takeWhile_sublist _)
theorem O5 {l:List RF} {g:RF} {k:Nat} (h:k<l.length) (hp:iG l[k].f.name g.f.name=true):ahead (l.drop k) g=ahead (l.drop (k+1)) g+1:=by
 unfold ahead
 exact z113
theorem QX {l:List RF} {g:RF} {k:Nat} (h:k<l.length) (hp:iG l[k].f.name g.f.name=false):ahead (l.drop k) g=0:=by
 unfold ahead
 exact z105
theorem Ey {l:List RF} {g x:RF} (h:x∈rU l g):x=g\/x∈l:=by
 rw [sV] at h
 exact z115
theorem Ez (l:List RF) (g:RF):(rU l g).length=l.length+1:=by
 rw [sV];simp;have:=QY l g;omega
theorem GG (a b:ByteArray):Op.bytesLess a.toList b.toList=iG a b:=by
 rw [bytesLess_eq,ByteArray.toList_eq,ByteArray.toList_eq];rfl
theorem z56 {p : Prop} (h : p := by
 rw [aw]
 match j, hv with
 | 0, hv => simp only [List.getElem?_cons_zero, Option.some.injEq] at hv; subst hv; exact kept h f0
 | 1, hv => simp only [List.getElem?_cons_succ, List.getElem?_cons_zero, Option.some.injEq] at hv; subst hv; exact kept h f1
 | 2, hv => simp only [List.getElem?_cons_succ, List.getElem?_cons_zero, Option.some.injEq] at hv; subst hv; exact kept h f2
 | j + 3, hv => simp at hv) : p := h
theorem y41 {p q : Prop} (k : q) (h : PLift q -> p := by
 intro kk
 try simp only [pS]
 refine tH 3 29 rfl (bb ⟨by rfl, fun W hSW => iQ _ _ _ _ _ rfl _ (hcut W)⟩) ?_
 try simp only [pS]
 refine tH 5 31 rfl (yieldsIf_load_mid (by rfl) 106 _ rfl w.heap.size 0 rfl (ut g) _ (fun X h => hF X h) underlying106 rfl (by kernel_rfl)) ?_
 try simp only [pS]
 exact kk.down) : p := h ⟨k⟩
theorem y18 {p q : Prop} (k : q) (h : PLift q -> p := by
 intro kk
 have hcut : ∀ X, (Instr.sliceAt 27 (.slice a1 m.length c1) none (some (.int .i64 (k : Nat))) none).run prog X = .ok (.slice a1 k c1) X := fun X => nZ X _ _ i0 a1 m.length c1 .i64 k underlying27 hi (by omega)
 have lX : ∀ X, (Instr.sliceAt 27 (.slice a1 m.length c1) (some (.int .i64 (k : Nat))) none none).run prog X = .ok (.slice (oV a1 c1 k 3) (m.length - k) (c1 - k)) X := fun X => nY X _ _ i0 a1 m.length c1 .i64 k 3 underlying27 hi hz1 (by omega)
 have hR1 : ∀ X, Below W.drew.heap.size W.drew X -> CellsIn X a1 (fcs (m.take k)) := fun X h => by rw [<- IW]; exact (oz.kept h).take _
 have hR2 : ∀ X, Below W.drew.heap.size W.drew X -> CellsIn X (oV a1 c1 k 3) (fcs (m.drop k)) := fun X h => by rw [<- CB]; exact (oz.kept h).cut (qW m) hc1 k
 have l1 : (fcs (m.take k)).length = k * 3 := by rw [qW, List.length_take, Nat.min_eq_left hk]
 have l2 : (fcs (m.drop k)).length = (m.length - k) * 3 := by rw [qW, List.length_drop]
 revert hcut lX hR1 hR2 l1 l2
 exact kk.down) : p := h ⟨k⟩
theorem y82 {p q : Prop} (k : q) (h : PLift q -> p := by
 intro kk
 have hka := aq SN
 refine aI (fun W hW => ?_)
 have hB : Below w1.heap.size w1 W.drew := by rw [hW.out]; exact (below_drewN hbw nq).drew
 have f0 := kept hB b0
 have f1 := kept hB b1
 have f2 := kept hB b2
 have oz := (hin.kept hB).rows
 have hgW := hg.kept hB
 revert hka W hW hB f0 f1 f2 oz hgW
 exact kk.down) : p := h ⟨k⟩
theorem y76 {p q : Prop} (k : q) (h : PLift q -> p := by
 intro kk
 try simp only [pS]
 refine tH 10 36 rfl (bb ⟨by rfl, fun W hSW => iQ _ _ _ _ _ rfl _ (lX W)⟩) ?_
 try simp only [pS]
 refine wpAnyH_ready (rs := [0, 6]) (by kernel_rfl) (by simp) ?_
 exact kk.down) : p := h ⟨k⟩
theorem AC (a:Option Addr) (cap:Nat) (l:List RF) (g:RF) (w:World) (hl:l.length<=16777216) (hlc:l.length<=cap) (h:RFsIn w a l) (hg:RFOk w g) :
 Calls prog 76 #[.slice a l.length cap,PO g] w (Ue (qg l g) w):=by
 obtain ⟨i0,hi,hz0,hz1,hz2⟩:=info_parts Tryz.infoRF;have HW:=aq (fun (W:World) (h:RFsIn W a l)=>qM a cap l g.f.name W (by omega) h);have hml:=yL l g.f.name;unfold qg;generalize jA l g.f.name=m at *;go_enter func76,ntmps76;go_upto_region 1 with fail
 refine aI (fun W hW=>?_);have hb0:Below w.heap.size w W:=by rw [hW.out];go_grown
 have b0:W.cell? ⟨w.heap.size,0,none⟩=some (.string g.f.name):=by rw [hW.out];go_simp
 have b1:W.cell? ⟨w.heap.size,1,none⟩=some (.slice g.a g.f.b.length g.cap):=by rw [hW.out];go_simp
 have b2:W.cell? ⟨w.heap.size,2,none⟩=some (.int .i64 g.f.safe):=by rw [hW.out];go_simp
 have hz:w.heap.size<W.heap.size:=by rw [hW.out];simp
 replace h:=h.kept hb0;replace hg:=hg.kept hb0;clear hW;go_wp2_with (go_at_call 75;(with_reducible refine (HW.out _ h).mono ?_);rintro e w1 ⟨a1,c1,rfl,hin,hc1,hb1⟩)
 replace hb0:=below2 hb0 hb1;replace b0:=kept hb1 b0;replace b1:=kept hb1 b1;replace b2:=kept hb1 b2;replace hg:=hg.kept hb1;replace hz:=Nat.lt_of_lt_of_le hz hb1.size;clear hb1 h HW;go_loopw [5] (fun i wr=>∃ k:Nat,i=.int .i64 k/\k<=m.length/\ahead m g=k+ahead (m.drop k) g/\Below w1.heap.size w1 wr) (fun i _=>m.length - (intOf i).toNat)
 case atStart=>exact ⟨0,rfl,Nat.zero_le _,by simp,bh _ _⟩
 case round =>
  obtain ⟨k,rfl,hk,hpre,hbw⟩:=hrel;have HP:=aq hpre;clear hpre;by_cases hlt:k<m.length
  ·obtain ⟨A,off,rfl,hra,hok⟩:=(hin.kept hbw).at hlt
   have c0:=hra k hlt 0 _ rfl;rw [Nat.add_zero] at c0;have d0:=kept hbw b0;by_cases hp:iG m[k].f.name g.f.name=true
   ·have HE:Hid (ahead m g=(k+1)+ahead (m.drop (k+1)) g):=by rw [Hid,HP.out,O5 hlt hp];omega
    have hq:=(GG m[k].f.name g.f.name).trans hp;clear hra hok HP hp;generalize m[k]=x at c0 hq;go_wp2;go_quiet (fail)
    go_wp2;go_roundw
    case rel=>exact ⟨k+1,by go_num,by omega,HE.out,below_drewN hbw nq⟩
    case measure => exact z67
   ·have SN:ahead m g=k:=by rw [HP.out,QX hlt (Bool.eq_false_iff.2 hp)];rfl
    have hq:=(GG m[k].f.name g.f.name).trans (Bool.eq_false_iff.2 hp);clear hra hok HP hp;generalize m[k]=x at c0 hq;go_wp2;go_quiet (fail)
    go_wp2;obtain ⟨a1,ha1⟩:∃ a1,a1=some (⟨A,off,none⟩:Addr):=⟨_,rfl⟩;rw [<- ha1] at hin ⊢;clear ha1 c0
    refine y82 ?_
    clear SN
    intro hka W hW hB f0 f1 f2 oz hgW
    clear hW d0 hbw
    refine y18 ?_
    intro hcut lX hR1 hR2 l1 l2
    have hF:∀ X,Below W.drew.heap.size W.drew X->X.rangeAt w.heap.size 0 (ut g):=fun X h j v hv=>by
     exact z56
    go_wp2_with fail
    refine y63 ?_
    intro hHeld
    refine tH (v:=?_) 1 27 rfl (bb ⟨by rfl,?_⟩) ?_
    case refine_2 => exact z61
    try simp only [pS]
    refine tH (v:=?_) 2 28 rfl (bb ⟨by rfl,?_⟩) ?_
    case refine_2 => exact z61
    refine y41 ?_
    refine tH (v:=?_) 8 34 rfl (bb ⟨by rfl,?_⟩) ?_
    case refine_2 => exact z61
    try simp only [pS]
    refine tH (v:=?_) 9 35 rfl (bb ⟨by rfl,?_⟩) ?_
    case refine_2 => exact z61
    refine y76 ?_
    refine AllReadyH.cons (o:=⟨some 26,_,_,_,_,_⟩) rfl (fun K hK=>?_) (AllReadyH.cons (o:=⟨some 32,_,_,_,_,_⟩) rfl (fun K hK=>?_) AllReadyH.nil);focus
     refine dw (by rfl) 27 106 rfl i0 _ 3 underlying27 hi hz0 hz1 (by decide) ?_;intro v0 X0 hown0 hbel0;refine hK.out _ _ ?_ (fun ah=>?_)
     ·exact z72
     clear hK K hHeld;have hHeld:=ah;clear ah;try simp only [pS]
     refine wpAnyH_ready (rs:=[4,6]) (by kernel_rfl) (by simp) ?_;refine AllReadyH.cons (o:=⟨some 30,_,_,_,_,_⟩) rfl (fun K hK=>?_) (AllReadyH.cons (o:=⟨some 32,_,_,_,_,_⟩) rfl (fun K hK=>?_) AllReadyH.nil);focus
      refine au (by rfl) (.tmp 26) (.tmp 29) 27 rfl W.drew.heap.size 106 i0 _ 3 48 underlying27 hi hz0 hz1 hz2 rfl (by decide) _ 0 _ rfl hown0 a1 k c1 (fcs (m.take k)) rfl l1 (hR1 _ hHeld) (iP _) (by first | omega | (unfold maxLen;omega)) (by first | omega | (unfold maxLen;omega)) hHeld.size ?_;intro v1 X1 hown1 hg1;refine hK.out _ _ ?_ (fun ah=>?_)
      ·exact z36
      clear hK K hHeld;have hHeld:=ah;clear ah;try simp only [pS]
      refine rH 6 32 rfl fun K hK=>?_;refine bz (by rfl) 27 106 _ rfl #[.string g.f.name,.slice g.a g.f.b.length g.cap,.int .i64 g.f.safe] 3 rfl rfl (by decide) (by decide) underlying27 (by kernel_rfl) (by kernel_rfl) ?_;refine hK.out _ _ ?_ (fun ah=>?_)
      ·exact z71
      clear hK K hHeld;have hHeld:=ah;clear ah;try simp only [pS]
      have hN:=(fun X=>uY X g 106) X1;refine rH 7 33 rfl fun K hK=>?_;refine au (by rfl) (.tmp 30) (.tmp 32) 27 rfl W.drew.heap.size 106 i0 _ 3 48 underlying27 hi hz0 hz1 hz2 rfl (by decide) _ (0+k) _ rfl (hown1.alloc _) (some ⟨X1.heap.size,0,none⟩) 1 1 (fcs [g]) rfl rfl hN (iP _) (by first | omega | (unfold maxLen;omega)) (by first | omega | (unfold maxLen;omega)) hHeld.size ?_;intro v2 X2 hown2 hg2;refine hK.out _ _ ?_ (fun ah=>?_)
      ·exact z37
      clear hK K hHeld;have hHeld:=ah;clear ah;try simp only [pS]
     rotate_left 1;focus
      refine bz (by rfl) 27 106 _ rfl #[.string g.f.name,.slice g.a g.f.b.length g.cap,.int .i64 g.f.safe] 3 rfl rfl (by decide) (by decide) underlying27 (by kernel_rfl) (by kernel_rfl) ?_;refine hK.out _ _ ?_ (fun ah=>?_)
      ·exact z71
      clear hK K hHeld;have hHeld:=ah;clear ah;try simp only [pS]
      have hN:=(fun X=>uY X g 106) X0;refine rH 4 30 rfl fun K hK=>?_;refine au (by rfl) (.tmp 26) (.tmp 29) 27 rfl W.drew.heap.size 106 i0 _ 3 48 underlying27 hi hz0 hz1 hz2 rfl (by decide) _ 0 _ rfl (hown0.alloc _) a1 k c1 (fcs (m.take k)) rfl l1 (hR1 _ hHeld) (iP _) (by first | omega | (unfold maxLen;omega)) (by first | omega | (unfold maxLen;omega)) hHeld.size ?_;intro v1 X1 hown1 hg1;refine hK.out _ _ ?_ (fun ah=>?_)
      ·exact z36
      clear hK K hHeld;have hHeld:=ah;clear ah;try simp only [pS]
      replace hN:=hN.grown hg1 (fun q hq e=>by have:=(hown0.lt _ e).2;simp only [Option.some.injEq] at hq;subst hq;simp only at this;omega);refine rH 7 33 rfl fun K hK=>?_;refine au (by rfl) (.tmp 30) (.tmp 32) 27 rfl W.drew.heap.size 106 i0 _ 3 48 underlying27 hi hz0 hz1 hz2 rfl (by decide) _ (0+k) _ rfl hown1 (some ⟨X0.heap.size,0,none⟩) 1 1 (fcs [g]) rfl rfl hN (iP _) (by first | omega | (unfold maxLen;omega)) (by first | omega | (unfold maxLen;omega)) hHeld.size ?_;intro v2 X2 hown2 hg2;refine hK.out _ _ ?_ (fun ah=>?_)
      ·exact z37
      clear hK K hHeld;have hHeld:=ah;clear ah;try simp only [pS]
    rotate_left 2;focus
     refine bz (by rfl) 27 106 _ rfl #[.string g.f.name,.slice g.a g.f.b.length g.cap,.int .i64 g.f.safe] 3 rfl rfl (by decide) (by decide) underlying27 (by kernel_rfl) (by kernel_rfl) ?_;refine hK.out _ _ ?_ (fun ah=>?_)
     ·exact z71
     clear hK K hHeld;have hHeld:=ah;clear ah;try simp only [pS]
     have hN:=(fun X=>uY X g 106) W.drew;refine rH 0 26 rfl fun K hK=>?_;refine dw (by rfl) 27 106 rfl i0 _ 3 underlying27 hi hz0 hz1 (by decide) ?_;intro v0 X0 hown0 hbel0;refine hK.out _ _ ?_ (fun ah=>?_)
     ·exact z72
     clear hK K hHeld;have hHeld:=ah;clear ah;try simp only [pS]
     replace hN:=hN.kept hbel0;have tu:=hown0;replace hown0:=own_base hown0 (b2:=W.drew.heap.size) (by first | exact ar _ | simp);refine rH 4 30 rfl fun K hK=>?_;refine au (by rfl) (.tmp 26) (.tmp 29) 27 rfl W.drew.heap.size 106 i0 _ 3 48 underlying27 hi hz0 hz1 hz2 rfl (by decide) _ 0 _ rfl hown0 a1 k c1 (fcs (m.take k)) rfl l1 (hR1 _ hHeld) (iP _) (by first | omega | (unfold maxLen;omega)) (by first | omega | (unfold maxLen;omega)) hHeld.size ?_;intro v1 X1 hown1 hg1;refine hK.out _ _ ?_ (fun ah=>?_)
     ·exact z36
     clear hK K hHeld;have hHeld:=ah;clear ah;try simp only [pS]
     replace hN:=hN.grown hg1 (fun q hq e=>by have:=(tu.lt _ e).1;simp only [Option.some.injEq] at hq;subst hq;simp at this;omega);refine rH 7 33 rfl fun K hK=>?_;refine au (by rfl) (.tmp 30) (.tmp 32) 27 rfl W.drew.heap.size 106 i0 _ 3 48 underlying27 hi hz0 hz1 hz2 rfl (by decide) _ (0+k) _ rfl hown1 (some ⟨W.drew.heap.size,0,none⟩) 1 1 (fcs [g]) rfl rfl hN (iP _) (by first | omega | (unfold maxLen;omega)) (by first | omega | (unfold maxLen;omega)) hHeld.size ?_;intro v2 X2 hown2 hg2;refine hK.out _ _ ?_ (fun ah=>?_)
     ·exact z37
     clear hK K hHeld;have hHeld:=ah;clear ah;try simp only [pS]
    all_goals
     refine rH 11 37 rfl fun K hK=>?_;refine au (by rfl) (.tmp 33) (.tmp 36) 27 rfl W.drew.heap.size 106 i0 _ 3 48 underlying27 hi hz0 hz1 hz2 rfl (by decide) _ (0+k+1) _ rfl hown2 (oV a1 c1 k 3) (m.length - k) (c1 - k) (fcs (m.drop k)) rfl l2 (hR2 _ hHeld) (iP _) (by first | omega | (unfold maxLen;omega)) (by first | omega | (unfold maxLen;omega)) hHeld.size ?_;intro v3 X3 hown3 hg3;refine hK.out _ _ ?_ (fun ah=>?_)
     ·exact z87
     clear hK K hHeld;have hHeld:=ah;clear ah;try simp only [pS]
     refine tH (v:=?_) 12 4 rfl (bb ⟨by rfl,?_⟩) ?_
     case refine_2 => exact z61
     try simp only [pS]
     refine wpAnyH_done (by kernel_rfl) ?_ _;refine NoPanic.normal ?_;have e1:[]++fcs (m.take k)++fcs [g]++fcs (m.drop k)=fcs (rU m g):=by rw [sV,hka.out,vK];simp [fcs,List.append_assoc]
     have e2:0+k+1+(m.length - k)=(rU m g).length:=by rw [Ez];omega
     rw [e1,e2] at hown3;clear e1 e2 hR1 hR2 l1 l2 hF hcut lX;obtain ⟨a2,c2,rfl,hin2,hc2⟩:=RFsIn.own hown3 (fun x hx=>by
      rcases Ey hx with rfl | h
      ·exact hgW.kept hHeld
      ·exact (hin.ok x h).kept (below2 hB hHeld))
     clear hown3;go_wp2;go_ret;exact ⟨a2,c2,rfl,hin2,hc2,below2 (below2 hb0 hB) hHeld⟩
  ·have SN:ahead m g=k:=by
        have:k=m.length:=by omega
        rw [HP.out,this,List.drop_length];rfl
   go_wp2;go_quiet (fail)
   go_wp2
   refine y82 ?_
   clear SN
   intro hka W hW hB f0 f1 f2 oz hgW
   clear hW hbw
   refine y18 ?_
   intro hcut lX hR1 hR2 l1 l2
   have hF:∀ X,Below W.drew.heap.size W.drew X->X.rangeAt w.heap.size 0 (ut g):=fun X h j v hv=>by
        exact z56
   go_wp2_with fail
   refine y63 ?_
   intro hHeld
   refine tH (v:=?_) 1 27 rfl (bb ⟨by rfl,?_⟩) ?_
   case refine_2 => exact z61
   try simp only [pS]
   refine tH (v:=?_) 2 28 rfl (bb ⟨by rfl,?_⟩) ?_
   case refine_2 => exact z61
   refine y41 ?_
   refine tH (v:=?_) 8 34 rfl (bb ⟨by rfl,?_⟩) ?_
   case refine_2 => exact z61
   try simp only [pS]
   refine tH (v:=?_) 9 35 rfl (bb ⟨by rfl,?_⟩) ?_
   case refine_2 => exact z61
   refine y76 ?_
   refine AllReadyH.cons (o:=⟨some 26,_,_,_,_,_⟩) rfl (fun K hK=>?_) (AllReadyH.cons (o:=⟨some 32,_,_,_,_,_⟩) rfl (fun K hK=>?_) AllReadyH.nil);focus
        refine dw (by rfl) 27 106 rfl i0 _ 3 underlying27 hi hz0 hz1 (by decide) ?_;intro v0 X0 hown0 hbel0;refine hK.out _ _ ?_ (fun ah=>?_)
        ·exact z72
        clear hK K hHeld;have hHeld:=ah;clear ah;try simp only [pS]
        refine wpAnyH_ready (rs:=[4,6]) (by kernel_rfl) (by simp) ?_;refine AllReadyH.cons (o:=⟨some 30,_,_,_,_,_⟩) rfl (fun K hK=>?_) (AllReadyH.cons (o:=⟨some 32,_,_,_,_,_⟩) rfl (fun K hK=>?_) AllReadyH.nil);focus
         refine au (by rfl) (.tmp 26) (.tmp 29) 27 rfl W.drew.heap.size 106 i0 _ 3 48 underlying27 hi hz0 hz1 hz2 rfl (by decide) _ 0 _ rfl hown0 a1 k c1 (fcs (m.take k)) rfl l1 (hR1 _ hHeld) (iP _) (by first | omega | (unfold maxLen;omega)) (by first | omega | (unfold maxLen;omega)) hHeld.size ?_;intro v1 X1 hown1 hg1;refine hK.out _ _ ?_ (fun ah=>?_)
         ·exact z36
         clear hK K hHeld;have hHeld:=ah;clear ah;try simp only [pS]
         refine rH 6 32 rfl fun K hK=>?_;refine bz (by rfl) 27 106 _ rfl #[.string g.f.name,.slice g.a g.f.b.length g.cap,.int .i64 g.f.safe] 3 rfl rfl (by decide) (by decide) underlying27 (by kernel_rfl) (by kernel_rfl) ?_;refine hK.out _ _ ?_ (fun ah=>?_)
         ·exact z71
         clear hK K hHeld;have hHeld:=ah;clear ah;try simp only [pS]
         have hN:=(fun X=>uY X g 106) X1;refine rH 7 33 rfl fun K hK=>?_;refine au (by rfl) (.tmp 30) (.tmp 32) 27 rfl W.drew.heap.size 106 i0 _ 3 48 underlying27 hi hz0 hz1 hz2 rfl (by decide) _ (0+k) _ rfl (hown1.alloc _) (some ⟨X1.heap.size,0,none⟩) 1 1 (fcs [g]) rfl rfl hN (iP _) (by first | omega | (unfold maxLen;omega)) (by first | omega | (unfold maxLen;omega)) hHeld.size ?_;intro v2 X2 hown2 hg2;refine hK.out _ _ ?_ (fun ah=>?_)
         ·exact z37
         clear hK K hHeld;have hHeld:=ah;clear ah;try simp only [pS]
        rotate_left 1;focus
         refine bz (by rfl) 27 106 _ rfl #[.string g.f.name,.slice g.a g.f.b.length g.cap,.int .i64 g.f.safe] 3 rfl rfl (by decide) (by decide) underlying27 (by kernel_rfl) (by kernel_rfl) ?_;refine hK.out _ _ ?_ (fun ah=>?_)
         ·exact z71
         clear hK K hHeld;have hHeld:=ah;clear ah;try simp only [pS]
         have hN:=(fun X=>uY X g 106) X0;refine rH 4 30 rfl fun K hK=>?_;refine au (by rfl) (.tmp 26) (.tmp 29) 27 rfl W.drew.heap.size 106 i0 _ 3 48 underlying27 hi hz0 hz1 hz2 rfl (by decide) _ 0 _ rfl (hown0.alloc _) a1 k c1 (fcs (m.take k)) rfl l1 (hR1 _ hHeld) (iP _) (by first | omega | (unfold maxLen;omega)) (by first | omega | (unfold maxLen;omega)) hHeld.size ?_;intro v1 X1 hown1 hg1;refine hK.out _ _ ?_ (fun ah=>?_)
         ·exact z36
         clear hK K hHeld;have hHeld:=ah;clear ah;try simp only [pS]
         replace hN:=hN.grown hg1 (fun q hq e=>by have:=(hown0.lt _ e).2;simp only [Option.some.injEq] at hq;subst hq;simp only at this;omega);refine rH 7 33 rfl fun K hK=>?_;refine au (by rfl) (.tmp 30) (.tmp 32) 27 rfl W.drew.heap.size 106 i0 _ 3 48 underlying27 hi hz0 hz1 hz2 rfl (by decide) _ (0+k) _ rfl hown1 (some ⟨X0.heap.size,0,none⟩) 1 1 (fcs [g]) rfl rfl hN (iP _) (by first | omega | (unfold maxLen;omega)) (by first | omega | (unfold maxLen;omega)) hHeld.size ?_;intro v2 X2 hown2 hg2;refine hK.out _ _ ?_ (fun ah=>?_)
         ·exact z37
         clear hK K hHeld;have hHeld:=ah;clear ah;try simp only [pS]
   rotate_left 2;focus
        refine bz (by rfl) 27 106 _ rfl #[.string g.f.name,.slice g.a g.f.b.length g.cap,.int .i64 g.f.safe] 3 rfl rfl (by decide) (by decide) underlying27 (by kernel_rfl) (by kernel_rfl) ?_;refine hK.out _ _ ?_ (fun ah=>?_)
        ·exact z71
        clear hK K hHeld;have hHeld:=ah;clear ah;try simp only [pS]
        have hN:=(fun X=>uY X g 106) W.drew;refine rH 0 26 rfl fun K hK=>?_;refine dw (by rfl) 27 106 rfl i0 _ 3 underlying27 hi hz0 hz1 (by decide) ?_;intro v0 X0 hown0 hbel0;refine hK.out _ _ ?_ (fun ah=>?_)
        ·exact z72
        clear hK K hHeld;have hHeld:=ah;clear ah;try simp only [pS]
        replace hN:=hN.kept hbel0;have tu:=hown0;replace hown0:=own_base hown0 (b2:=W.drew.heap.size) (by first | exact ar _ | simp);refine rH 4 30 rfl fun K hK=>?_;refine au (by rfl) (.tmp 26) (.tmp 29) 27 rfl W.drew.heap.size 106 i0 _ 3 48 underlying27 hi hz0 hz1 hz2 rfl (by decide) _ 0 _ rfl hown0 a1 k c1 (fcs (m.take k)) rfl l1 (hR1 _ hHeld) (iP _) (by first | omega | (unfold maxLen;omega)) (by first | omega | (unfold maxLen;omega)) hHeld.size ?_;intro v1 X1 hown1 hg1;refine hK.out _ _ ?_ (fun ah=>?_)
        ·exact z36
        clear hK K hHeld;have hHeld:=ah;clear ah;try simp only [pS]
        replace hN:=hN.grown hg1 (fun q hq e=>by have:=(tu.lt _ e).1;simp only [Option.some.injEq] at hq;subst hq;simp at this;omega);refine rH 7 33 rfl fun K hK=>?_;refine au (by rfl) (.tmp 30) (.tmp 32) 27 rfl W.drew.heap.size 106 i0 _ 3 48 underlying27 hi hz0 hz1 hz2 rfl (by decide) _ (0+k) _ rfl hown1 (some ⟨W.drew.heap.size,0,none⟩) 1 1 (fcs [g]) rfl rfl hN (iP _) (by first | omega | (unfold maxLen;omega)) (by first | omega | (unfold maxLen;omega)) hHeld.size ?_;intro v2 X2 hown2 hg2;refine hK.out _ _ ?_ (fun ah=>?_)
        ·exact z37
        clear hK K hHeld;have hHeld:=ah;clear ah;try simp only [pS]
   all_goals
        refine rH 11 37 rfl fun K hK=>?_;refine au (by rfl) (.tmp 33) (.tmp 36) 27 rfl W.drew.heap.size 106 i0 _ 3 48 underlying27 hi hz0 hz1 hz2 rfl (by decide) _ (0+k+1) _ rfl hown2 (oV a1 c1 k 3) (m.length - k) (c1 - k) (fcs (m.drop k)) rfl l2 (hR2 _ hHeld) (iP _) (by first | omega | (unfold maxLen;omega)) (by first | omega | (unfold maxLen;omega)) hHeld.size ?_;intro v3 X3 hown3 hg3;refine hK.out _ _ ?_ (fun ah=>?_)
        ·exact z87
        clear hK K hHeld;have hHeld:=ah;clear ah;try simp only [pS]
        refine tH (v:=?_) 12 4 rfl (bb ⟨by rfl,?_⟩) ?_
        case refine_2 => exact z61
        try simp only [pS]
        refine wpAnyH_done (by kernel_rfl) ?_ _;refine NoPanic.normal ?_;have e1:[]++fcs (m.take k)++fcs [g]++fcs (m.drop k)=fcs (rU m g):=by rw [sV,hka.out,vK];simp [fcs,List.append_assoc]
        have e2:0+k+1+(m.length - k)=(rU m g).length:=by rw [Ez];omega
        rw [e1,e2] at hown3;clear e1 e2 hR1 hR2 l1 l2 hF hcut lX;obtain ⟨a2,c2,rfl,hin2,hc2⟩:=RFsIn.own hown3 (fun x hx=>by
         rcases Ey hx with rfl | h
         ·exact hgW.kept hHeld
         ·exact (hin.ok x h).kept (below2 hB hHeld))
        clear hown3;go_wp2;go_ret;exact ⟨a2,c2,rfl,hin2,hc2,below2 (below2 hb0 hB) hHeld⟩
end Go.Proofs.YthphepeniaemoaaGreat
/- The reference's disk: Sync, Remove. Conditions: as in the text. -/
namespace Go.Proofs.YthphepeniaemoaaGreat
open Go.RowKit
/-- what a change of the reference's disk hands back -/
def uX (S:DS) (c:Int) (w:World) (e:Ending) (w':World):Prop :=
 ∃ (a:Option Addr) (l:List RF) (cap:Nat),e=.returned (.tuple #[je a l.length cap S.arm S.down,.int .i64 c])/\RFsIn w' a l/\l.length<=cap/\bJ l=S.f/\Below w.heap.size w w'
def Xv (f:DF) (c:Int) (w:World) (e:Ending) (w':World):Prop :=
 ∃ (ag:Option Addr) (cg:Nat),e=.returned (.tuple #[PO ⟨f,ag,cg⟩,.int .i64 c])/\RFOk w' ⟨f,ag,cg⟩/\Below w.heap.size w w'
theorem zV {a:Option Addr} {cap:Nat} {l:List RF} {s:ByteArray} {f:DF} {c:Int} {w:World} (hE:kT (bJ l) s=(f,c)) (hl:l.length<=1073741824) (hs:s.size<=maxLen) (h:RFsIn w a l) :
 Calls prog 73 #[.slice a l.length cap,.string s] w (Xv f c w):=by
 have:=J5 a cap l s w hl hs h;unfold Ru at this;rw [hE] at this;refine this.mono ?_;rintro e w1 ⟨⟨f',ag,cg⟩,rfl,h1,h2,h3⟩;simp only at h1;subst h1;exact ⟨ag,cg,rfl,h2,h3⟩
theorem yE {l:List DF} {s:ByteArray} {f:DF} (h:kT l s=(f,0)):bK s=true/\bY l s=some f:=by
 unfold kT at h;by_cases hok:bK s=true
 ·rw [if_pos hok] at h
  cases hg:bY l s with
  | none=>rw [hg] at h;simp at h
  | some f'=>rw [hg] at h;simp only [Prod.mk.injEq,and_true] at h;exact ⟨hok,by rw [h]⟩
 ·rw [if_neg hok] at h;simp at h
/-- a block of three cells -/
def B3 (w:World) (R:Nat) (t:TypeId) (x y z:Value):Prop:=w.heap[R]?=some (.cells #[x,y,z] t (0,0))
theorem B3.lt {w:World} {R:Nat} {t:TypeId} {x y z:Value} (h:B3 w R t x y z):R<w.heap.size:=(Array.getElem?_eq_some_iff.1 h).1
theorem B3.below {w w':World} {R:Nat} {t:TypeId} {x y z:Value} (h:B3 w R t x y z) (hb:Below w.heap.size w w'):B3 w' R t x y z:=(hb.block _ h.lt).trans h
theorem B3.cells {w:World} {R:Nat} {t:TypeId} {x y z:Value} (h:B3 w R t x y z):w.cell? ⟨R,0,none⟩=some x/\w.cell? ⟨R,1,none⟩=some y/\w.cell? ⟨R,2,none⟩=some z/\w.frozen? ⟨R,0,none⟩=false/\w.frozen? ⟨R,1,none⟩=false/\w.frozen? ⟨R,2,none⟩=false:=dL h
theorem B3.range {w:World} {R:Nat} {t:TypeId} {x y z:Value} (h:B3 w R t x y z):w.rangeAt R 0 [x,y,z]:=fun j v hv=>by
 obtain ⟨p0,p1,p2,_⟩:=h.cells;rw [aw];match j,hv with
 | 0,hv=>simp only [List.getElem?_cons_zero,Option.some.injEq] at hv;subst hv;exact p0
 | 1,hv=>simp only [List.getElem?_cons_succ,List.getElem?_cons_zero,Option.some.injEq] at hv;subst hv;exact p1
 | 2,hv=>simp only [List.getElem?_cons_succ,List.getElem?_cons_zero,Option.some.injEq] at hv;subst hv;exact p2
 | j+3,hv=>simp at hv
theorem B3.set0 {w:World} {R:Nat} {t:TypeId} {x y z:Value} (h:B3 w R t x y z) (v:Value):B3 (w.setCell ⟨R,0,none⟩ v) R t v y z:=by
 simp [B3,World.setCell,Array.getElem?_modify,show w.heap[R]?=_ from h]
theorem B3.set1 {w:World} {R:Nat} {t:TypeId} {x y z:Value} (h:B3 w R t x y z) (v:Value):B3 (w.setCell ⟨R,1,none⟩ v) R t x v z:=nT h v
theorem B3.set2 {w:World} {R:Nat} {t:TypeId} {x y z:Value} (h:B3 w R t x y z) (v:Value):B3 (w.setCell ⟨R,2,none⟩ v) R t x y v:=qG h v
theorem B3.other {w:World} {R:Nat} {t:TypeId} {x y z:Value} (h:B3 w R t x y z) {A:Addr} (v:Value) (hA:A.block≠R):B3 (w.setCell A v) R t x y z:=(heap_setCell_other _ _ _ _ hA).trans h
theorem lC (w:World) (R:Nat) (cs:Array Value):Fr (isR R) w (w.setRow R cs):=⟨rfl,rfl,rfl,by simp [World.setRow],fun k _ hk=>bi _ _ _ _ (fun e=>hk e.symm)⟩
theorem B3.row {w:World} {R:Nat} {t:TypeId} {x y z:Value} (h:B3 w R t x y z) (x' y' z':Value):B3 (w.setRow R #[x',y',z']) R t x' y' z':=by
 simp [B3,World.setRow,Array.getElem?_modify,show w.heap[R]?=_ from h]
def Gn (v:Value):Prop:=match v with | .int .u8 _=>False | _=>True
theorem z98 {p : Prop} (h : p := by
 intro o c e
 simp only [World.cell?, show w.heap[R]? = _ from h] at e
 match o, e with
 | 0, e => simp at e; subst e; exact hx.1
 | 1, e => simp at e; subst e; exact hx.2.1
 | 2, e => simp at e; subst e; exact hx.2.2
 | o + 3, e => simp at e) : p := h
theorem B3.noByte {w:World} {R:Nat} {t:TypeId} {x y z:Value} (h:B3 w R t x y z) (hx:Gn x/\Gn y/\Gn z):NoByte w R:=by
 exact z98
def zF (w:World) (k:Nat):Prop:=∀ o s,w.cell? ⟨k,o,none⟩≠some (.string s)
def LU (v:Value):Prop:=match v with | .string _=>False | _=>True
theorem B3.noStr {w:World} {R:Nat} {t:TypeId} {x y z:Value} (h:B3 w R t x y z) (hx:LU x/\LU y/\LU z):zF w R:=by
 exact z98
theorem RFsIn.fr {T:Nat->Prop} {w w':World} {a:Option Addr} {l:List RF} (h:RFsIn w a l) (hf:Fr T w w') (hT:∀ k,T k->NoByte w k/\zF w k):RFsIn w' a l:=by
 refine ⟨?_,fun g hg=>⟨(h.ok g hg).bytes.fr hf (fun k hk=>(hT k hk).1),(h.ok g hg).cap⟩⟩;rcases h.rows with h1 | ⟨A,off,h1,h2⟩
 ·exact bb h1
 ·cases l with
  | nil=>exact bb rfl
  | cons g r =>
    refine bd ⟨A,off,h1,fun j v hv=>hf.kept (h2 j v hv) (fun hA=>?_)⟩;have h0:=h2 0 (.string g.f.name) rfl;exact (hT A hA).2 _ _ h0
/-- what lies below is as it was, whatever is set above -/
theorem nO {B:Nat} {w w':World} (h:Below B w w') {A:Addr} (hA:B<=A.block) (v:Value):Below B w (w'.setCell A v):=h.setCell hA v
theorem dG {B:Nat} {W w:World} (h:Below B W w) {g:Nat} (hg:B<=g) (cs:Array Value):Below B W (w.setRow g cs) :=
 h.trans ⟨rfl,rfl,rfl,by simp [World.setRow],fun k hk=>by simp [World.setRow,Array.getElem?_modify];omega⟩
def DS.rsync (S:DS) (s:ByteArray):DS×Int :=
 if bK s then (match bY S.f s with
    | none=>(S,10)
    | some f=>if S.change.down then (S.change,12) else ({ S.change with f:=kK S.f { f with safe:=f.b.length } },0)) else (S,1)
theorem z64 {p : Prop} (h : p := by rw [hW.out]; exact (bh (w.heap.size + 1) _).alloc (by simp) _ |>.block _ (by simp) |>.trans (aY w _)) : p := h
theorem y34 {p q : Prop} (k : q) (h : PLift q -> p := by
 intro kk
 refine og 4 5 29 29 (w.heap.size + 1) _ _ _ rfl rfl rfl (hZ.row _ _ _) underlying29 rfl (by kernel_rfl) rfl ?_
 exact kk.down) : p := h ⟨k⟩
theorem y5 {p q : Prop} (k : q) (h : PLift q -> p := by
 intro kk
 refine aI (fun W hW => ?_)
 have hb0 : Below w.heap.size w W := by rw [hW.out]; go_grown
 have hD : B3 W w.heap.size 29 (.slice a l.length cap) (.int .i64 arm) (.bool down) := by
  exact z64
 have hZ : B3 W (w.heap.size + 1) 29 (.slice none 0 0) (.int .i64 0) (.bool false) := by rw [hW.out]; exact eY w _ _
 have H0 := aq h
 replace h := h.kept hb0
 clear hW
 obtain ⟨d0, d1, d2, e0, e1, e2⟩ := hD.cells
 revert W hb0 hD hZ H0 h d0 d1 d2 e0 e1 e2
 exact kk.down) : p := h ⟨k⟩
theorem y1 {p q : Prop} (k : q) (h : PLift q -> p := by
 intro kk
 refine aI (fun W1 hW1 => ?_)
 have hX : B3 W1 w1.heap.size 106 (.string f.name) (.slice ag f.b.length cg) (.int .i64 f.safe) := by rw [hW1.out]; exact aY w1 _
 have hbw : Below W.heap.size W W1 := by rw [hW1.out]; exact hb1.alloc hb1.size _
 have hb2 : Below w1.heap.size w1 W1 := by rw [hW1.out]; exact (bh _ _).alloc (ar _) _
 have hz1 : w.heap.size + 1 < w1.heap.size := Nat.lt_of_lt_of_le hZ.lt hb1.size
 replace hgo := hgo.kept hb2
 replace hb0 := below2 hb0 hbw
 replace hD := hD.below hbw
 replace hZ := hZ.below hbw
 replace h := h.kept hbw
 clear hW1 hb2 hbw
 obtain ⟨d0, d1, d2, e0, e1, e2⟩ := hD.cells
 revert W1 hX hz1 hgo hb0 hD hZ h d0 d1 d2 e0 e1 e2
 exact kk.down) : p := h ⟨k⟩
theorem z19 {p : Prop} (h : p := by
 go_upto_region 1 with fail
 refine y5 ?_
 clear h
 intro W hb0 hD hZ H0 h d0 d1 d2 e0 e1 e2
 go_upto_region 2 with (go_at_call 73; (with_reducible refine (HG.out _ h).mono ?_); rintro e w1 ⟨ag, cg, rfl, hgo, hb1⟩)
 refine y1 ?_
 clear hgo hb0 hD hZ h hb1 d0 d1 d2 e0 e1 e2
 intro W1 hX hz1 hgo hb0 hD hZ h d0 d1 d2 e0 e1 e2
 go_wp2_with (refine wpList_store_row rfl 29 _ _ rfl (w.heap.size + 1) #[.slice a l.length cap, .int .i64 arm, .bool down] rfl rfl 29 _ hZ (by kernel_rfl) rfl (by kernel_rfl) ?_)
 refine y34 ?_
 exact ⟨a, l, cap, rfl, H0.out.kept (dG hb0 (Nat.le_succ _) _), hlc, rfl, dG hb0 (Nat.le_succ _) _⟩) : p := h
theorem y14 {p q : Prop} (k : q) (h : PLift q -> p := by
 intro kk
 have hbw : Below W1.heap.size W1 W2 := by rw [hW2.out]; exact hb1.alloc hb1.size _
 have hz2 : w1.heap.size < w2.heap.size := Nat.lt_of_lt_of_le hX.lt hb1.size
 replace hgo := hgo.kept hbw
 replace hb0 := below2 hb0 hbw
 replace hD := hD.below hbw
 replace hZ := hZ.below hbw
 replace hX := hX.below hbw
 replace h := h.kept hbw
 clear hbw hD
 obtain ⟨d0, d1, d2, e0, e1, e2⟩ := hY.cells
 obtain ⟨x0, x1, x2, y0, y1, y2⟩ := hX.cells
 revert hz2 hgo hb0 hZ hX h d0 d1 d2 e0 e1 e2 x0 x1 x2 y0 y1 y2
 exact kk.down) : p := h ⟨k⟩
theorem z12 {p : Prop} (h : p := by
 go_upto_region 1 with fail
 refine y5 ?_
 clear h
 intro W hb0 hD hZ H0 h d0 d1 d2 e0 e1 e2
 go_upto_region 4 with (go_at_call 73; (with_reducible refine (HG.out _ h).mono ?_); rintro e w1 ⟨ag, cg, rfl, hgo, hb1⟩)
 refine y1 ?_
 clear hgo hb0 hD hZ h hb1 d0 d1 d2 e0 e1 e2
 intro W1 hX hz1 hgo hb0 hD hZ h d0 d1 d2 e0 e1 e2
 go_upto_region 5 with (go_at_call 74; (with_reducible refine (jo _ _ _ _ _ _ ha).mono ?_); rw [HC.out]; rintro e w2 ⟨rfl, hb1⟩)
 refine aI (fun W2 hW2 => ?_)
 have hY : B3 W2 w2.heap.size 29 (.slice a l.length cap) (.int .i64 ((arm - 1 : Nat) : Int)) (.bool true) := by rw [hW2.out]; exact aY w2 _
 refine y14 ?_
 clear hgo hb0 hD hZ hX h hW2 hb1 d0 d1 d2 e0 e1 e2
 intro hz2 hgo hb0 hZ hX h d0 d1 d2 e0 e1 e2 x0 x1 x2 y0 y1 y2
 go_wp2_with (refine wpList_store_row rfl 29 _ _ rfl (w.heap.size + 1) #[.slice a l.length cap, .int .i64 ((arm - 1 : Nat) : Int), .bool true] rfl rfl 29 _ hZ (by kernel_rfl) rfl (by kernel_rfl) ?_)
 refine y34 ?_
 exact ⟨a, l, cap, rfl, H0.out.kept (dG hb0 (Nat.le_succ _) _), hlc, rfl, dG hb0 (Nat.le_succ _) _⟩) : p := h
theorem z114 {p : Prop} (h : p := by exact vH.fr (T := isR (w.heap.size + 1)) (lC _ _ _) (fun k hk => by subst hk; exact ⟨hZ5.noByte ⟨trivial, trivial, trivial⟩, hZ5.noStr ⟨trivial, trivial, trivial⟩⟩)) : p := h
theorem z69 {p : Prop} (h : p := by
 by_cases hok : bK s = true
 ·rw [if_pos hok] at hE ⊢
  cases hg : bY (bJ l) s with
  | none => rw [hg] at hE; simp only [Prod.mk.injEq] at hE ⊢; exact ⟨trivial, hE.2⟩
  | some f' => rw [hg] at hE; simp only [Prod.mk.injEq] at hE; exact absurd hE.2.symm hc
 ·rw [if_neg hok] at hE ⊢
  simp only [Prod.mk.injEq] at hE ⊢
  exact ⟨trivial, hE.2⟩) : p := h
theorem y55 {p q : Prop} (k : q) (h : PLift q -> p := by
 intro kk
 have hY3 : B3 W3 w2.heap.size 29 (.slice a l.length cap) (.int .i64 ((arm - 1 : Nat) : Int)) (.bool false) := by rw [hW3.out]; exact hY.other _ (Nat.ne_of_lt hz2)
 have hZ3 : B3 W3 (w.heap.size + 1) 29 (.slice none 0 0) (.int .i64 0) (.bool false) := by rw [hW3.out]; exact hZ.other _ (Nat.ne_of_gt hz1)
 revert hY3 hZ3
 exact kk.down) : p := h ⟨k⟩
theorem y50 {p q : Prop} (k : q) (h : PLift q -> p := by
 intro kk
 refine aI (fun W2 hW2 => ?_)
 have hY : B3 W2 w2.heap.size 29 (.slice a l.length cap) (.int .i64 ((arm - 1 : Nat) : Int)) (.bool false) := by rw [hW2.out]; exact aY w2 _
 revert W2 hW2 hY
 exact kk.down) : p := h ⟨k⟩
theorem y77 {p q : Prop} (k : q) (h : PLift q -> p := by
 intro kk
 have hZ5 : B3 W5 (w.heap.size + 1) 29 (.slice none 0 0) (.int .i64 0) (.bool false) := by rw [hW5.out]; exact hZ3.other _ (by simp only; omega)
 have hb5 : Below w.heap.size w W5 := by rw [hW5.out]; exact nO hb3 (by simp only; omega) _
 revert hZ5 hb5
 exact kk.down) : p := h ⟨k⟩
theorem NF (a:Option Addr) (cap arm:Nat) (down:Bool) (l:List RF) (s:ByteArray) (w:World) (hl:l.length<=16777216) (hlc:l.length<=cap) (ha:arm<=1048576) (hs:s.size<=maxLen) (h:RFsIn w a l) :
 Calls prog 36 #[je a l.length cap arm down,.string s] w (uX (DS.rsync ⟨bJ l,arm,down⟩ s).1 (DS.rsync ⟨bJ l,arm,down⟩ s).2 w):=by
 obtain ⟨f,c,hE⟩:∃ f c,kT (bJ l) s=(f,c):=⟨_,_,rfl⟩;have HG:=aq (fun (X:World) (h:RFsIn X a l)=>zV (cap:=cap) hE (by omega) hs h);by_cases hc:c=0
 case neg =>
  have hq:(c == 0)=false:=beq_eq_false_iff_ne.2 hc;have hr:DS.rsync ⟨bJ l,arm,down⟩ s=(⟨bJ l,arm,down⟩,c):=by
   unfold kT at hE;unfold DS.rsync
   exact z69
  rw [hr];clear hE hc hr;go_enter func36,ntmps36
  exact z19
 case pos =>
 subst hc;obtain ⟨hok,hg⟩:=yE hE;by_cases hch:chg arm down=true
 case pos =>
  have HC:=aq hch;have hr:DS.rsync ⟨bJ l,arm,down⟩ s=(⟨bJ l,arm - 1,true⟩,12):=by
   unfold DS.rsync;rw [if_pos hok,hg];unfold DS.change;unfold chg at hch;simp only [hch];rfl
  rw [hr];clear hE hr hg hch;go_enter func36,ntmps36
  exact z12
 case neg =>
  have hch':=Bool.eq_false_iff.2 hch;have HC:=aq hch';have hr:DS.rsync ⟨bJ l,arm,down⟩ s=(⟨kK (bJ l) { f with safe:=f.b.length },arm - 1,false⟩,0):=by
   unfold DS.rsync;rw [if_pos hok,hg];unfold DS.change;unfold chg at hch';simp only [hch'];rfl
  rw [hr];clear hE hr hg hch hch';go_enter func36,ntmps36;go_upto_region 1 with fail
  refine y5 ?_
  clear h
  intro W hb0 hD hZ H0 h d0 d1 d2 e0 e1 e2
  go_upto_region 4 with (go_at_call 73;(with_reducible refine (HG.out _ h).mono ?_);rintro e w1 ⟨ag,cg,rfl,hgo,hb1⟩)
  refine y1 ?_
  clear hgo hb0 hD hZ h hb1 d0 d1 d2 e0 e1 e2
  intro W1 hX hz1 hgo hb0 hD hZ h d0 d1 d2 e0 e1 e2
  go_upto_region 5 with (go_at_call 74;(with_reducible refine (jo _ _ _ _ _ _ ha).mono ?_);rw [HC.out];rintro e w2 ⟨rfl,hb1⟩)
  refine y50 ?_
  intro W2 hW2 hY
  refine y14 ?_
  clear hgo hb0 hD hZ hX h hW2 hb1 d0 d1 d2 e0 e1 e2
  intro hz2 hgo hb0 hZ hX h d0 d1 d2 e0 e1 e2 x0 x1 x2 y0 y1 y2
  go_upto_region 8 with fail
  refine aI (fun W3 hW3=>?_);have hX3:B3 W3 w1.heap.size 106 (.string f.name) (.slice ag f.b.length cg) (.int .i64 f.b.length):=by rw [hW3.out];exact hX.set2 _
  refine y55 ?_
  intro hY3 hZ3
  have Iz:RFOk W3 ⟨{ f with safe:=f.b.length },ag,cg⟩:=⟨by rw [hW3.out];exact hgo.bytes.fr (S:=isR w1.heap.size) (dW _) (fun k hk=>by subst hk;exact hX.noByte ⟨trivial,trivial,trivial⟩),hgo.cap⟩;have hb3:Below w.heap.size w W3:=by rw [hW3.out];exact nO hb0 (by simp only;omega) _
  have h3:=H0.out.kept hb3;clear hW3 hX hY hZ hgo hb0 h d0 d1 d2 e0 e1 e2 x0 x1 x2 y0 y1 y2;obtain ⟨d0,d1,d2,e0,e1,e2⟩:=hY3.cells;obtain ⟨x0,x1,x2,y0,y1,y2⟩:=hX3.cells;go_upto_region 9 with (go_at_call 76;(with_reducible refine (AC a cap l ⟨{ f with safe:=f.b.length },ag,cg⟩ _ (by omega) hlc h3 Iz).mono ?_);rintro e w4 ⟨a4,c4,rfl,oC,hc4,hb4⟩;replace hY3:=hY3.below hb4;replace hZ3:=hZ3.below hb4;replace hb3:=below2 hb3 hb4;clear d0 d1 d2 e0 e1 e2 x0 x1 x2 y0 y1 y2;obtain ⟨d0,d1,d2,e0,e1,e2⟩:=hY3.cells)
  refine aI (fun W5 hW5=>?_);have hY5:B3 W5 w2.heap.size 29 (.slice a4 (qg l ⟨{ f with safe:=f.b.length },ag,cg⟩).length c4) (.int .i64 ((arm - 1:Nat):Int)) (.bool false):=by rw [hW5.out];exact hY3.set0 _
  refine y77 ?_
  intro hZ5 hb5
  have vH:RFsIn W5 a4 (qg l ⟨{ f with safe:=f.b.length },ag,cg⟩):=by rw [hW5.out];exact oC.fr (T:=isR w2.heap.size) (dW _) (fun k hk=>by subst hk;exact ⟨hY3.noByte ⟨trivial,trivial,trivial⟩,hY3.noStr ⟨trivial,trivial,trivial⟩⟩)
  clear hW5 hY3 hZ3 hb3 oC d0 d1 d2 e0 e1 e2;obtain ⟨d0,d1,d2,e0,e1,e2⟩:=hY5.cells;go_wp2_with (refine wpList_store_row rfl 29 _ _ rfl (w.heap.size+1) #[.slice a4 (qg l ⟨{ f with safe:=f.b.length },ag,cg⟩).length c4,.int .i64 ((arm - 1:Nat):Int),.bool false] rfl rfl 29 _ hZ5 (by kernel_rfl) rfl (by kernel_rfl) ?_)
  refine og 4 5 29 29 (w.heap.size+1) _ _ _ rfl rfl rfl (hZ5.row _ _ _) underlying29 rfl (by kernel_rfl) rfl ?_;refine ⟨a4,_,c4,rfl,?_,hc4,sG _ _,dG hb5 (Nat.le_succ _) _⟩
  exact z114
theorem Dv (a:Option Addr) (cap arm:Nat) (down:Bool) (l:List RF) (s:ByteArray) (w:World) (hl:l.length<=16777216) (hlc:l.length<=cap) (ha:arm<=1048576) (hs:s.size<=maxLen) (h:RFsIn w a l) :
 Calls prog 34 #[je a l.length cap arm down,.string s] w (uX (DS.remove ⟨bJ l,arm,down⟩ s).1 (DS.remove ⟨bJ l,arm,down⟩ s).2 w):=by
 obtain ⟨f,c,hE⟩:∃ f c,kT (bJ l) s=(f,c):=⟨_,_,rfl⟩;have HG:=aq (fun (X:World) (h:RFsIn X a l)=>zV (cap:=cap) hE (by omega) hs h);by_cases hc:c=0
 case neg =>
  have hq:(c == 0)=false:=beq_eq_false_iff_ne.2 hc;have hr:DS.remove ⟨bJ l,arm,down⟩ s=(⟨bJ l,arm,down⟩,c):=by
   unfold kT at hE;unfold DS.remove
   exact z69
  rw [hr];clear hE hc hr;go_enter func34,ntmps34
  exact z19
 case pos =>
 subst hc;obtain ⟨hok,hg⟩:=yE hE;by_cases hch:chg arm down=true
 case pos =>
  have HC:=aq hch;have hr:DS.remove ⟨bJ l,arm,down⟩ s=(⟨bJ l,arm - 1,true⟩,12):=by
   unfold DS.remove;rw [if_pos hok,hg];unfold DS.change;unfold chg at hch;simp only [hch];rfl
  rw [hr];clear hE hr hg hch;go_enter func34,ntmps34
  exact z12
 case neg =>
  have hch':=Bool.eq_false_iff.2 hch;have HC:=aq hch';have hr:DS.remove ⟨bJ l,arm,down⟩ s=(⟨jH (bJ l) s,arm - 1,false⟩,0):=by
   unfold DS.remove;rw [if_pos hok,hg];unfold DS.change;unfold chg at hch';simp only [hch'];rfl
  rw [hr];clear hE hr hg hch hch';go_enter func34,ntmps34;go_upto_region 1 with fail
  refine y5 ?_
  clear h
  intro W hb0 hD hZ H0 h d0 d1 d2 e0 e1 e2
  go_upto_region 4 with (go_at_call 73;(with_reducible refine (HG.out _ h).mono ?_);rintro e w1 ⟨ag,cg,rfl,hgo,hb1⟩)
  refine y1 ?_
  clear hgo hb0 hD hZ h hb1 d0 d1 d2 e0 e1 e2
  intro W1 hX hz1 hgo hb0 hD hZ h d0 d1 d2 e0 e1 e2
  go_upto_region 5 with (go_at_call 74;(with_reducible refine (jo _ _ _ _ _ _ ha).mono ?_);rw [HC.out];rintro e w2 ⟨rfl,hb1⟩)
  refine y50 ?_
  intro W2 hW2 hY
  refine y14 ?_
  clear hgo hb0 hD hZ hX h hW2 hb1 d0 d1 d2 e0 e1 e2
  intro hz2 hgo hb0 hZ hX h d0 d1 d2 e0 e1 e2 x0 x1 x2 y0 y1 y2
  have HW:=aq (fun (X:World) (h:RFsIn X a l)=>qM a cap l s X (by omega) h);go_upto_region 8 with (go_at_call 75;(with_reducible refine (HW.out _ h).mono ?_);rintro e w4 ⟨a4,c4,rfl,oC,hc4,hb4⟩;have hY3:=hY.below hb4;have hZ3:=hZ.below hb4;have hb3:=below2 hb0 hb4;clear d0 d1 d2 e0 e1 e2 x0 x1 x2 y0 y1 y2 h hY hZ hb0;obtain ⟨d0,d1,d2,e0,e1,e2⟩:=hY3.cells)
  refine aI (fun W5 hW5=>?_);have hY5:B3 W5 w2.heap.size 29 (.slice a4 (jA l s).length c4) (.int .i64 ((arm - 1:Nat):Int)) (.bool false):=by rw [hW5.out];exact hY3.set0 _
  refine y77 ?_
  intro hZ5 hb5
  have vH:RFsIn W5 a4 (jA l s):=by rw [hW5.out];exact oC.fr (T:=isR w2.heap.size) (dW _) (fun k hk=>by subst hk;exact ⟨hY3.noByte ⟨trivial,trivial,trivial⟩,hY3.noStr ⟨trivial,trivial,trivial⟩⟩)
  clear hW5 hY3 hZ3 hb3 oC d0 d1 d2 e0 e1 e2;obtain ⟨d0,d1,d2,e0,e1,e2⟩:=hY5.cells;go_wp2_with (refine wpList_store_row rfl 29 _ _ rfl (w.heap.size+1) #[.slice a4 (jA l s).length c4,.int .i64 ((arm - 1:Nat):Int),.bool false] rfl rfl 29 _ hZ5 (by kernel_rfl) rfl (by kernel_rfl) ?_)
  refine og 4 5 29 29 (w.heap.size+1) _ _ _ rfl rfl rfl (hZ5.row _ _ _) underlying29 rfl (by kernel_rfl) rfl ?_;refine ⟨a4,_,c4,rfl,?_,hc4,sH _ _,dG hb5 (Nat.le_succ _) _⟩
  exact z114
end Go.Proofs.YthphepeniaemoaaGreat
/- The reference's disk: Truncate, Arm. Conditions: as in the text. -/
namespace Go.Proofs.YthphepeniaemoaaGreat
open Go.RowKit
end Go.Proofs.YthphepeniaemoaaGreat
/- The reference's disk: Crash. Conditions: as in the text. -/
namespace Go.Proofs.YthphepeniaemoaaGreat
open Go.RowKit
abbrev Ks:=List (ByteArray×Int)
/-- the last number of a name; 0 -/
def kR (ks:Ks) (s:ByteArray):Int:=ks.foldl (fun n p=>if p.1=s then p.2 else n) 0
theorem Io (ks:Ks) (k:Nat) (h:k<ks.length) (s:ByteArray):kR (ks.take (k+1)) s=if ks[k].1=s then ks[k].2 else kR (ks.take k) s:=by
 unfold kR;rw [List.take_succ_eq_append_getElem h,List.foldl_append];rfl
def yM (n:Int) (r:Nat):Nat:=if n<0 then 0 else min n.toNat r
theorem EY (n:Int) (r:Nat):yM n r<=r:=by unfold yM;split <;> omega
/-- a file behind a crash -/
def jf (ks:Ks) (f:DF):DF:=⟨f.name,f.b.take (f.safe+yM (kR ks f.name) (f.b.length - f.safe)),f.safe+yM (kR ks f.name) (f.b.length - f.safe)⟩
def DS.crash (S:DS) (ks:Ks):DS:=⟨S.f.map (jf ks),0,false⟩
theorem cells_at {w:World} {a:Option Addr} {cs:List Value} (h:CellsIn w a cs) {k:Nat} (hk:k<cs.length):∃ A off,a=some ⟨A,off,none⟩/\w.cell? ⟨A,off+k,none⟩=some cs[k]:=by
 rcases h with rfl | ⟨A,off,h1,h2⟩
 ·simp at hk
 ·exact ⟨A,off,h1,h2 k _ (List.getElem?_eq_getElem hk)⟩
end Go.Proofs.YthphepeniaemoaaGreat
/- The reference's disk: Rename, Arm. Conditions: as in the text. -/
namespace Go.Proofs.YthphepeniaemoaaGreat
open Go.RowKit
def DS.rarm (S:DS) (n:Int):DS×Int:=if kY n then ({ S with arm:=n.toNat },0) else (S,4)
theorem JX {l:List DF} {arm:Nat} {down:Bool} {s t:ByteArray} {f:DF} {c:Int} (hE:kT l s=(f,c)) (hc:c≠0) (ht:bK t=true):DS.rename ⟨l,arm,down⟩ s t=(⟨l,arm,down⟩,c):=by
 unfold kT at hE;unfold DS.rename;rw [if_pos ht];by_cases hok:bK s=true
 ·rw [if_pos hok] at hE ⊢
  cases hg:bY l s with
  | none=>rw [hg] at hE;simp only [Prod.mk.injEq] at hE ⊢;exact ⟨trivial,hE.2⟩
  | some f'=>rw [hg] at hE;simp only [Prod.mk.injEq] at hE;exact absurd hE.2.symm hc
 ·rw [if_neg hok] at hE ⊢
  simp only [Prod.mk.injEq] at hE ⊢;exact ⟨trivial,hE.2⟩
theorem z68 {p : Prop} (h : p := by
 refine og 6 7 29 29 (w.heap.size + 1) _ _ _ rfl rfl rfl (hZ.row _ _ _) underlying29 rfl (by kernel_rfl) rfl ?_
 exact ⟨a, l, cap, rfl, H0.out.kept (dG hb0 (Nat.le_succ _) _), hlc, rfl, dG hb0 (Nat.le_succ _) _⟩) : p := h
theorem Du (a:Option Addr) (cap arm:Nat) (down:Bool) (l:List RF) (s t:ByteArray) (w:World) (hl:l.length<=16777216) (hlc:l.length<=cap) (ha:arm<=1048576) (hs:s.size<=maxLen) (ht:t.size<=maxLen) (h:RFsIn w a l) :
 Calls prog 37 #[je a l.length cap arm down,.string s,.string t] w (uX (DS.rename ⟨bJ l,arm,down⟩ s t).1 (DS.rename ⟨bJ l,arm,down⟩ s t).2 w):=by
 have HT:=aq (fun W=>sK t W ht);by_cases hot:bK t=true
 case neg =>
  have hr:DS.rename ⟨bJ l,arm,down⟩ s t=(⟨bJ l,arm,down⟩,1):=by unfold DS.rename;rw [if_neg hot]
  rw [hr];rw [Bool.eq_false_iff.2 hot] at HT;clear hot hr;go_enter func37,ntmps37;go_upto_region 1 with fail
  refine y5 ?_
  clear h
  intro W hb0 hD hZ H0 h d0 d1 d2 e0 e1 e2
  go_wp2_with (first
   | (go_at_call 77;(with_reducible refine (HT.out _).mono ?_);rintro e w1 ⟨rfl,rfl⟩)
   | (refine wpList_store_row rfl 29 _ _ rfl (w.heap.size+1) #[.slice a l.length cap,.int .i64 arm,.bool down] rfl rfl 29 _ hZ (by kernel_rfl) rfl (by kernel_rfl) ?_)
   )
  exact z68
 case pos =>
 rw [hot] at HT;obtain ⟨f,c,hE⟩:∃ f c,kT (bJ l) s=(f,c):=⟨_,_,rfl⟩;have HG:=aq (fun (X:World) (h:RFsIn X a l)=>zV (cap:=cap) hE (by omega) hs h);by_cases hc:c=0
 case neg =>
  have hq:(c == 0)=false:=beq_eq_false_iff_ne.2 hc;rw [JX hE hc hot];clear hE hc hot;go_enter func37,ntmps37;go_upto_region 1 with fail
  refine y5 ?_
  clear h
  intro W hb0 hD hZ H0 h d0 d1 d2 e0 e1 e2
  go_upto_region 3 with (go_at_call 77;(with_reducible refine (HT.out _).mono ?_);rintro e w1 ⟨rfl,rfl⟩)
  go_upto_region 4 with (go_at_call 73;(with_reducible refine (HG.out _ h).mono ?_);rintro e w1 ⟨ag,cg,rfl,hgo,hb1⟩)
  refine y1 ?_
  clear hgo hb0 hD hZ h hb1 d0 d1 d2 e0 e1 e2
  intro W1 hX hz1 hgo hb0 hD hZ h d0 d1 d2 e0 e1 e2
  go_wp2_with (refine wpList_store_row rfl 29 _ _ rfl (w.heap.size+1) #[.slice a l.length cap,.int .i64 arm,.bool down] rfl rfl 29 _ hZ (by kernel_rfl) rfl (by kernel_rfl) ?_)
  exact z68
 case pos =>
 subst hc;obtain ⟨hok,hg⟩:=yE hE;by_cases hch:chg arm down=true
 case pos =>
  have HC:=aq hch;have hr:DS.rename ⟨bJ l,arm,down⟩ s t=(⟨bJ l,arm - 1,true⟩,12):=by
   unfold DS.rename;rw [if_pos hot,if_pos hok,hg];unfold DS.change;unfold chg at hch;simp only [hch];rfl
  rw [hr];clear hE hr hg hch hot hok;go_enter func37,ntmps37;go_upto_region 1 with fail
  refine y5 ?_
  clear h
  intro W hb0 hD hZ H0 h d0 d1 d2 e0 e1 e2
  go_upto_region 3 with (go_at_call 77;(with_reducible refine (HT.out _).mono ?_);rintro e w1 ⟨rfl,rfl⟩)
  go_upto_region 6 with (go_at_call 73;(with_reducible refine (HG.out _ h).mono ?_);rintro e w1 ⟨ag,cg,rfl,hgo,hb1⟩)
  refine y1 ?_
  clear hgo hb0 hD hZ h hb1 d0 d1 d2 e0 e1 e2
  intro W1 hX hz1 hgo hb0 hD hZ h d0 d1 d2 e0 e1 e2
  go_upto_region 7 with (go_at_call 74;(with_reducible refine (jo _ _ _ _ _ _ ha).mono ?_);rw [HC.out];rintro e w2 ⟨rfl,hb1⟩)
  refine aI (fun W2 hW2=>?_);have hY:B3 W2 w2.heap.size 29 (.slice a l.length cap) (.int .i64 ((arm - 1:Nat):Int)) (.bool true):=by rw [hW2.out];exact aY w2 _
  refine y14 ?_
  clear hgo hb0 hD hZ hX h hW2 hb1 d0 d1 d2 e0 e1 e2
  intro hz2 hgo hb0 hZ hX h d0 d1 d2 e0 e1 e2 x0 x1 x2 y0 y1 y2
  go_wp2_with (refine wpList_store_row rfl 29 _ _ rfl (w.heap.size+1) #[.slice a l.length cap,.int .i64 ((arm - 1:Nat):Int),.bool true] rfl rfl 29 _ hZ (by kernel_rfl) rfl (by kernel_rfl) ?_)
  exact z68
 case neg =>
  have hch':=Bool.eq_false_iff.2 hch;have HC:=aq hch';have hr:DS.rename ⟨bJ l,arm,down⟩ s t=(⟨kK (jH (bJ l) s) { f with name:=t },arm - 1,false⟩,0):=by
   unfold DS.rename;rw [if_pos hot,if_pos hok,hg];unfold DS.change;unfold chg at hch';simp only [hch'];rfl
  rw [hr];have HW:=aq (fun (X:World) (h:RFsIn X a l)=>qM a cap l s X (by omega) h);have hml:=yL l s;have HDL:=aq (sH l s);generalize jA l s=m at *;clear hE hr hg hch hch' hot hok;go_enter func37,ntmps37;go_upto_region 1 with fail
  refine y5 ?_
  clear h
  intro W hb0 hD hZ H0 h d0 d1 d2 e0 e1 e2
  go_upto_region 3 with (go_at_call 77;(with_reducible refine (HT.out _).mono ?_);rintro e w1 ⟨rfl,rfl⟩)
  go_upto_region 6 with (go_at_call 73;(with_reducible refine (HG.out _ h).mono ?_);rintro e w1 ⟨ag,cg,rfl,hgo,hb1⟩)
  refine y1 ?_
  clear hgo hb0 hD hZ h hb1 d0 d1 d2 e0 e1 e2
  intro W1 hX hz1 hgo hb0 hD hZ h d0 d1 d2 e0 e1 e2
  go_upto_region 7 with (go_at_call 74;(with_reducible refine (jo _ _ _ _ _ _ ha).mono ?_);rw [HC.out];rintro e w2 ⟨rfl,hb1⟩)
  refine y50 ?_
  intro W2 hW2 hY
  refine y14 ?_
  clear hgo hb0 hD hZ hX h hW2 hb1 d0 d1 d2 e0 e1 e2
  intro hz2 hgo hb0 hZ hX h d0 d1 d2 e0 e1 e2 x0 x1 x2 y0 y1 y2
  go_upto_region 10 with fail
  refine aI (fun W3 hW3=>?_);have hX3:B3 W3 w1.heap.size 106 (.string t) (.slice ag f.b.length cg) (.int .i64 f.safe):=by rw [hW3.out];exact hX.set0 _
  refine y55 ?_
  intro hY3 hZ3
  have Iz:RFOk W3 ⟨{ f with name:=t },ag,cg⟩:=⟨by rw [hW3.out];exact hgo.bytes.fr (S:=isR w1.heap.size) (dW _) (fun k hk=>by subst hk;exact hX.noByte ⟨trivial,trivial,trivial⟩),hgo.cap⟩;have hb3:Below w.heap.size w W3:=by rw [hW3.out];exact nO hb0 (by simp only;omega) _
  have h3:=H0.out.kept hb3;clear hW3 hX hY hZ hgo hb0 h d0 d1 d2 e0 e1 e2 x0 x1 x2 y0 y1 y2;replace hX3:B3 W3.drew w1.heap.size 106 (.string t) (.slice ag f.b.length cg) (.int .i64 f.safe):=hX3;replace hY3:B3 W3.drew w2.heap.size 29 (.slice a l.length cap) (.int .i64 ((arm - 1:Nat):Int)) (.bool false):=hY3;replace hZ3:B3 W3.drew (w.heap.size+1) 29 (.slice none 0 0) (.int .i64 0) (.bool false):=hZ3;replace Iz:RFOk W3.drew ⟨{ f with name:=t },ag,cg⟩:=⟨Iz.bytes,Iz.cap⟩;replace h3:RFsIn W3.drew a l:=H0.out.kept hb3.drew;replace hb3:Below w.heap.size w W3.drew:=hb3.drew;obtain ⟨d0,d1,d2,e0,e1,e2⟩:=hY3.cells;obtain ⟨x0,x1,x2,y0,y1,y2⟩:=hX3.cells;go_region_law
   (first
        | (go_simp;go_at_call 75;(with_reducible refine (HW.out _ h3).mono ?_);rintro e w3 ⟨a3,c3,rfl,oD,hc3,hb4⟩;replace hY3:=hY3.below hb4;replace hX3:=hX3.below hb4;replace hZ3:=hZ3.below hb4;replace hb3:=below2 hb3 hb4;replace Iz:=Iz.kept hb4;clear d0 d1 d2 e0 e1 e2 x0 x1 x2 y0 y1 y2 h3;obtain ⟨d0,d1,d2,e0,e1,e2⟩:=hY3.cells;obtain ⟨x0,x1,x2,y0,y1,y2⟩:=hX3.cells)
        | (go_simp;go_at_call 76;(with_reducible refine (AC a3 c3 m ⟨{ f with name:=t },ag,cg⟩ _ (by omega) hc3 oD Iz).mono ?_);rintro e w4 ⟨a4,c4,rfl,oC,hc4,hb5⟩;replace hY3:=hY3.below hb5;replace hX3:=hX3.below hb5;replace hZ3:=hZ3.below hb5;replace hb3:=below2 hb3 hb5;clear d0 d1 d2 e0 e1 e2 x0 x1 x2 y0 y1 y2;obtain ⟨d0,d1,d2,e0,e1,e2⟩:=hY3.cells;obtain ⟨x0,x1,x2,y0,y1,y2⟩:=hX3.cells))
  all_goals
   go_upto_region 11 with fail
   refine aI (fun W5 hW5=>?_);have hY5:B3 W5 w2.heap.size 29 (.slice a4 (qg m ⟨{ f with name:=t },ag,cg⟩).length c4) (.int .i64 ((arm - 1:Nat):Int)) (.bool false):=by rw [hW5.out];exact hY3.set0 _
   have hZ5:B3 W5 (w.heap.size+1) 29 (.slice none 0 0) (.int .i64 0) (.bool false):=by rw [hW5.out];exact hZ3.other _ (by simp only;omega)
   have hb5:Below w.heap.size w W5:=by rw [hW5.out];exact nO hb3 (by simp only;omega) _
   have vH:RFsIn W5 a4 (qg m ⟨{ f with name:=t },ag,cg⟩):=by rw [hW5.out];exact oC.fr (T:=isR w2.heap.size) (dW _) (fun k hk=>by subst hk;exact ⟨hY3.noByte ⟨trivial,trivial,trivial⟩,hY3.noStr ⟨trivial,trivial,trivial⟩⟩)
   clear hW5 hY3 hZ3 hb3 oC d0 d1 d2 e0 e1 e2;obtain ⟨d0,d1,d2,e0,e1,e2⟩:=hY5.cells;go_wp2_with (refine wpList_store_row rfl 29 _ _ rfl (w.heap.size+1) #[.slice a4 (qg m ⟨{ f with name:=t },ag,cg⟩).length c4,.int .i64 ((arm - 1:Nat):Int),.bool false] rfl rfl 29 _ hZ5 (by kernel_rfl) rfl (by kernel_rfl) ?_)
   refine og 6 7 29 29 (w.heap.size+1) _ _ _ rfl rfl rfl (hZ5.row _ _ _) underlying29 rfl (by kernel_rfl) rfl ?_;refine ⟨a4,_,c4,rfl,?_,hc4,((sG _ _).trans (by rw [HDL.out])),dG hb5 (Nat.le_succ _) _⟩;exact vH.fr (T:=isR (w.heap.size+1)) (lC _ _ _) (fun k hk=>by subst hk;exact ⟨hZ5.noByte ⟨trivial,trivial,trivial⟩,hZ5.noStr ⟨trivial,trivial,trivial⟩⟩)
theorem z108 {p : Prop} (h : p := by
 clear hr
 go_enter func8, ntmps8
 go_wp2
 refine og 4 5 29 29 (w.heap.size + 1) _ _ _ rfl rfl rfl (eY _ _ _) underlying29 rfl (by kernel_rfl) rfl ?_
 exact ⟨rfl, by go_grown⟩) : p := h
theorem PT (a:Option Addr) (n cap arm:Nat) (down:Bool) (N:Int) (w:World) :
 Calls prog 8 #[je a n cap arm down,.int .i64 N] w fun e w' =>
  e=.returned (.tuple #[je a n cap (if kY N then N.toNat else arm) down,.int .i64 (if kY N then 0 else 4)])/\Below w.heap.size w w':=by
 by_cases h1:1<=N
 case neg =>
  have hr:kY N=false:=by unfold kY;rw [aM h1];rfl
  simp only [hr,Bool.false_eq_true,if_false];have h1':N<1:=by omega
  exact z108
 case pos =>
 by_cases h2:N<=1048576
 case neg =>
  have hr:kY N=false:=by unfold kY;rw [aM h2];simp
  simp only [hr,Bool.false_eq_true,if_false]
  exact z108
 case pos =>
 have hr:kY N=true:=by unfold kY;rw [aR h1,aR h2];rfl
 simp only [hr,if_true];obtain ⟨m,rfl⟩:∃ m:Nat,N=m:=⟨N.toNat,by omega⟩;clear hr;go_enter func8,ntmps8;go_wp2;refine og 4 5 29 29 (w.heap.size+1) _ _ _ rfl rfl rfl (eY _ _ _) underlying29 rfl (by kernel_rfl) rfl ?_;exact ⟨rfl,by go_grown⟩
end Go.Proofs.YthphepeniaemoaaGreat
/- The plain disk: its files lie in order; what keeps so. Conditions: none. -/
namespace Go.Proofs.YthphepeniaemoaaGreat
open Go.RowKit
theorem jX {a b:ByteArray}:iG a b=true↔bl a<bl b:=by unfold iG;simp
theorem xe {a b c:ByteArray} (h:iG a b=true) (k:iG b c=true):iG a c=true:=jX.2 (List.lt_trans (jX.1 h) (jX.1 k))
theorem pK (a:ByteArray):iG a a=false:=by
 rw [Bool.eq_false_iff];intro h;exact List.lt_irrefl _ (jX.1 h)
theorem nJ {a b:ByteArray} (h:iG a b=true):a≠b:=by
 rintro rfl;rw [pK] at h;cases h
theorem Kt {a b:ByteArray} (h:iG a b=false) (hne:a≠b):iG b a=true:=by
 rw [jX];have h1:¬ bl a<bl b:=fun e=>by rw [jX.2 e] at h;cases h
 have h2:bl b<=bl a:=List.not_lt.1 h1;rcases Decidable.em (bl b<bl a) with e | e
 ·exact e
 ·exact absurd (lI (List.le_antisymm (List.not_lt.1 e) h2)) hne
/-- files by names -/
def Srt (l:List DF):Prop:=l.Pairwise fun f g=>iG f.name g.name=true
theorem Srt.uniq {l:List DF} (h:Srt l):Uniq l:=h.imp fun h=>nJ h
theorem Srt.del {l:List DF} (h:Srt l) (s:ByteArray):Srt (jH l s):=h.filter _
theorem BK {x f:DF}:∀ {l:List DF},x∈sW l f->x=f\/x∈l
 | [],h=>by simpa [sW] using h
 | g :: r,h=>by
   unfold sW at h;split at h
   ·rcases List.mem_cons.1 h with h | h
    ·exact bd (by simp [h])
    ·rcases BK h with h | h
     ·exact bb h
     ·exact bd (List.mem_cons_of_mem _ h)
   ·rcases List.mem_cons.1 h with h | h
    ·exact bb h
    ·exact bd h
theorem Srt.ins {f:DF}:∀ {l:List DF},Srt l->(∀ g∈l,g.name≠f.name)->Srt (sW l f)
 | [],_,_=>List.pairwise_singleton _ _
 | g :: r,h,hne=>by
   obtain ⟨h1,h2⟩:=List.pairwise_cons.1 h;unfold sW;split
   ·rename_i hlt
    refine List.pairwise_cons.2 ⟨fun x hx=>?_,Srt.ins h2 fun x hx=>hne x (List.mem_cons_of_mem _ hx)⟩;rcases BK hx with rfl | hx
    ·exact hlt
    ·exact h1 x hx
   ·rename_i hlt
    have hfg:=Kt (Bool.eq_false_iff.2 hlt) (hne g (by simp));refine List.pairwise_cons.2 ⟨fun x hx=>?_,h⟩;rcases List.mem_cons.1 hx with rfl | hx
    ·exact hfg
    ·exact xe hfg (h1 x hx)
theorem Tm {l:List DF} {s:ByteArray}:∀ g∈jH l s,g.name≠s:=fun g hg=>by
 have:=(List.mem_filter.1 hg).2;simpa using this
theorem Srt.put {l:List DF} (h:Srt l) (f:DF):Srt (kK l f):=(h.del _).ins Tm
theorem Srt.names {l m:List DF} (h:Srt l) (hn:m.map (·.name)=l.map (·.name)):Srt m:=by
 have h1:(l.map (·.name)).Pairwise fun a b=>iG a b=true:=List.pairwise_map.2 h;rw [<- hn] at h1;exact List.pairwise_map.1 h1
theorem JS (l:List DF) (f:DF):(jO l f).map (·.name)=l.map (·.name):=by
 unfold jO;rw [List.map_map];refine List.map_congr_left fun g _=>?_;simp only [Function.comp];split
 ·rename_i h;exact h.symm
 ·rfl
theorem Srt.set {l:List DF} (h:Srt l) (f:DF):Srt (jO l f):=h.names (JS l f)
theorem wJ {f:DF}:∀ {l:List DF},Srt l->(bY l f.name).isSome=true->jO l f=kK l f
 | [],_,h=>by simp [bY] at h
 | g :: r,h,hs=>by
   obtain ⟨h1,h2⟩:=List.pairwise_cons.1 h;by_cases hg:g.name=f.name
   ·have hr:∀ x∈r,x.name≠f.name:=fun x hx e=>by have:=h1 x hx;rw [e,<- hg,pK] at this;cases this
    have e1:jH (g :: r) f.name=r:=by
        unfold jH;rw [List.filter_cons,if_neg (by simp [hg]),List.filter_eq_self];intro x hx;simpa using hr x hx
    have e2:jO (g :: r) f=f :: r:=by
        unfold jO;rw [List.map_cons,if_pos hg];congr 1
        conv=>rhs;rw [<- List.map_id r]
        exact List.map_congr_left fun x hx=>if_neg (hr x hx)
    rw [e2];unfold kK;rw [e1]
    cases r with
    | nil=>rfl
    | cons y r =>
      unfold sW;rw [if_neg];intro hl;have:=xe (h1 y (by simp)) hl;rw [hg,pK] at this
      cases this
   ·have hs2:(bY r f.name).isSome=true:=by rw [yD,if_neg hg] at hs;exact hs
    have hlt:iG g.name f.name=true:=by
        obtain ⟨x,hx⟩:=Option.isSome_iff_exists.1 hs2;have hm:=List.mem_of_find?_eq_some hx;have:=h1 x hm;rwa [lw hx] at this
    have e1:jH (g :: r) f.name=g :: jH r f.name:=by
        unfold jH;rw [List.filter_cons,if_pos (by simp [hg])]
    have e2:jO (g :: r) f=g :: jO r f:=by
        unfold jO;rw [List.map_cons,if_neg hg]
    unfold kK;rw [e1,e2,sW,if_pos hlt,wJ h2 hs2];rfl
/-! ### what keeps so -/
structure FOk (f:DF):Prop where
 name:bK f.name=true
 len:f.b.length<=16777216
 safe:f.safe<=f.b.length
structure DInv (S:DS):Prop where
 srt:Srt S.f
 len:S.f.length<=8
 arm:S.arm<=1048576
 ok:∀ f∈S.f,FOk f
theorem lY {l:List DF} {s:ByteArray} {f:DF} (h:bY l s=some f):f∈l:=List.mem_of_find?_eq_some h
theorem CQ {l:List DF} {s:ByteArray}:∀ f∈jH l s,f∈l:=fun f h=>(List.mem_filter.1 h).1
theorem AZ {l:List DF} {f x:DF} (h:x∈kK l f):x=f\/x∈l:=by
 rcases BK h with h | h
 ·exact bb h
 ·exact bd (CQ _ h)
theorem GR {l:List DF} {f x:DF} (h:x∈jO l f):x=f\/x∈l:=by
 obtain ⟨y,hy,rfl⟩:=List.mem_map.1 h;split
 ·exact bb rfl
 ·exact bd hy
theorem IZ (l:List DF) (s:ByteArray):(jH l s).length<=l.length:=List.length_filter_le _ _
theorem DInv.change {S:DS} (h:DInv S):DInv S.change:=⟨h.srt,h.len,by show S.arm - 1<=1048576;have:=h.arm;omega,h.ok⟩
theorem DInv.sync {S:DS} (h:DInv S) (s:ByteArray):DInv (S.sync s).1:=by
 unfold DS.sync;split
 ·split
  ·exact h
  ·rename_i f hg
   split
   ·exact h.change
   ·refine ⟨h.srt.set _,by show (jO S.f _).length<=8;unfold jO;rw [List.length_map];exact h.len,h.change.arm,fun x hx=>?_⟩
    rcases GR hx with rfl | hx
    ·have:=h.ok f (lY hg);exact ⟨this.name,this.len,ar _⟩
    ·exact h.ok x hx
 ·exact h
theorem DInv.trunc {S:DS} (h:DInv S) (s:ByteArray) (n:Int):DInv (S.trunc s n).1:=by
 unfold DS.trunc;split
 ·split
  ·exact h
  ·rename_i f hg
   split
   ·exact h
   ·split
    ·exact h.change
    ·refine ⟨h.srt.set _,by show (jO S.f _).length<=8;unfold jO;rw [List.length_map];exact h.len,h.change.arm,fun x hx=>?_⟩
     rcases GR hx with rfl | hx
     ·have:=h.ok f (lY hg)
      exact ⟨this.name,by show (f.b.take n.toNat).length<=16777216;have:=this.len;rw [List.length_take];omega,by show min f.safe n.toNat<=(f.b.take n.toNat).length;have:=this.safe;rw [List.length_take];omega⟩
     ·exact h.ok x hx
 ·exact h
theorem DInv.remove {S:DS} (h:DInv S) (s:ByteArray):DInv (S.remove s).1:=by
 unfold DS.remove;split
 ·split
  ·exact h
  ·split
   ·exact h.change
   ·exact ⟨h.srt.del _,Nat.le_trans (IZ _ _) h.len,h.change.arm,fun x hx=>h.ok x (CQ x hx)⟩
 ·exact h
theorem DInv.append {S:DS} (h:DInv S) (s:ByteArray) (l:Bytes):DInv (S.append s l).1:=by
 unfold DS.append;split
 ·rename_i hok
  split
  ·rename_i hg
   split
   ·exact h
   ·rename_i h8
    split
    ·exact h
    ·rename_i hl
     split
     ·exact h.change
     ·refine ⟨h.srt.put _,?_,h.change.arm,fun x hx=>?_⟩
      ·show (kK S.f ⟨s,l,0⟩).length<=8
       rw [wW h.srt.uniq,hg];simp only [Option.isSome_none,Bool.false_eq_true,if_false];omega
      ·rcases AZ hx with rfl | hx
       ·exact ⟨hok,by show l.length<=16777216;omega,Nat.zero_le _⟩
       ·exact h.ok x hx
  ·rename_i f hg
   split
   ·exact h
   ·rename_i hl
    split
    ·exact h.change
    ·have hf:=h.ok f (lY hg)
     refine ⟨h.srt.put _,?_,h.change.arm,fun x hx=>?_⟩
     ·show (kK S.f _).length<=8
      rw [wW h.srt.uniq];simp only [lw hg,hg,Option.isSome_some,if_true];exact h.len
     ·rcases AZ hx with rfl | hx
      ·exact ⟨hf.name,by show (f.b++l).length<=16777216;rw [av];omega,by show f.safe<=(f.b++l).length;have:=hf.safe;rw [av];omega⟩
      ·exact h.ok x hx
 ·exact h
theorem DInv.rename {S:DS} (h:DInv S) (s t:ByteArray):DInv (S.rename s t).1:=by
 unfold DS.rename;split
 ·rename_i hot
  split
  ·split
   ·exact h
   ·rename_i f hg
    split
    ·exact h.change
    ·have hf:=h.ok f (lY hg)
     refine ⟨(h.srt.del _).put _,?_,h.change.arm,fun x hx=>?_⟩
     ·show (kK (jH S.f s) _).length<=8
      rw [wW (h.srt.del _).uniq];have:=xK h.srt.uniq hg;have:=h.len;split <;> omega
     ·rcases AZ hx with rfl | hx
      ·exact ⟨hot,hf.len,hf.safe⟩
      ·exact h.ok x (CQ x hx)
  ·exact h
 ·exact h
theorem DInv.arm' {S:DS} (h:DInv S) (n:Int):DInv (S.rarm n).1:=by
 unfold DS.rarm;split
 ·rename_i hn
  refine ⟨h.srt,h.len,?_,h.ok⟩;show n.toNat<=1048576;unfold kY at hn;simp only [Bool.and_eq_true,decide_eq_true_eq] at hn;omega
 ·exact h
theorem OQ {f:DF} (h:FOk f) (ks:Ks):FOk (jf ks f):=by
 have hc:=EY (kR ks f.name) (f.b.length - f.safe);have h1:=h.safe;have h2:=h.len;refine ⟨h.name,?_,?_⟩
 ·show (f.b.take _).length<=_
  rw [List.length_take];omega
 ·show f.safe+_<=(f.b.take _).length
  rw [List.length_take];omega
theorem DInv.crash {S:DS} (h:DInv S) (ks:Ks):DInv (S.crash ks):=by
 refine ⟨h.srt.names ?_,by show (S.f.map _).length<=8;rw [List.length_map];exact h.len,Nat.zero_le _,fun x hx=>?_⟩
 ·show (S.f.map (jf ks)).map (·.name)=_
  rw [List.map_map];rfl
 ·obtain ⟨y,hy,rfl⟩:=List.mem_map.1 hx
  exact OQ (h.ok y hy) ks
theorem DInv.new:DInv ⟨[],0,false⟩:=⟨List.Pairwise.nil,by simp,by simp,fun f hf=>nomatch hf⟩
theorem RV {S:DS} (h:Srt S.f) (s:ByteArray):S.rsync s=S.sync s:=by
 unfold DS.rsync DS.sync
 cases hg:bY S.f s with
 | none=>rfl
 | some f=>simp only [wJ h (f:={ f with safe:=f.b.length }) (by simp only [lw hg,hg,Option.isSome_some])]
end Go.Proofs.YthphepeniaemoaaGreat
/- The disk: Names: the files' names, in order. Conditions: at most 8 files, in order. -/
namespace Go.Proofs.YthphepeniaemoaaGreat
open Go.RowKit Go.Maps Go.Sort
variable {F:Nat->Prop} {d:Nat} {S:DS} {b:Nat} {D:DataW Unit} {s:ByteArray} {w w':World}
def iW (l:List DF):List Value:=l.map fun f=>.string f.name
theorem pO {l:List DF} {s:ByteArray}:(bY l s).isSome=true↔∃ f∈l,f.name=s:=by
 unfold bY;rw [List.find?_isSome];simp
theorem Bi (h:DkIn w F d S b D) (hs:Srt S.f):(S.f.map fun f=>bl f.name).Perm (strKeys D):=by
 refine Collected.perm (left:=fun _=>false) ⟨?_,fun x=>?_⟩ h.own wZ underlying9 (fun _=>rfl)
 ·refine List.pairwise_map.2 (hs.imp fun {a b} hlt e=>?_)
  exact nJ hlt (lI e)
 ·have hh:=h.files.has (mkS x)
  rw [show nk (mkS x)=.string x from rfl] at hh;rw [hh,pO];simp only [and_true,List.mem_map];constructor
  ·rintro ⟨f,hf,rfl⟩;exact ⟨f,hf,(Bj _).symm⟩
  ·rintro ⟨f,hf,e⟩;exact ⟨f,hf,by rw [e];rfl⟩
theorem FT (h:DkIn w F d S b D) (hs:Srt S.f) {ss:List (List UInt8)} (hp:ss.Perm (strKeys D)):ss.mergeSort (fun x y=>decide (x<=y))=S.f.map fun f=>bl f.name:=by
 have e1:=mergeSort_of_perm (hp.trans (Bi h hs).symm);refine e1.trans (List.mergeSort_of_pairwise ?_);refine List.pairwise_map.2 (hs.imp fun {a b} hlt=>?_);simp only [leB,decide_eq_true_eq];exact List.le_of_lt (jX.1 hlt)
theorem yP (h:DkIn w F d S b D) (hs:Srt S.f) (h8:S.f.length<=8):Calls prog 43 #[.pointer (some ⟨d,0,none⟩)] w fun e w'=>∃ a cap,e=.returned (.slice a S.f.length cap)/\CellsIn w' a (iW S.f)/\Below w.heap.size w w':=by
 refine (Pg h h8).mono ?_;rintro e w' ⟨v,ss,rfl,hp,hrow,_,hb⟩;rw [FT h hs hp] at hrow;have hlen:ss.length=S.f.length:=by have:=(hp.trans (Bi h hs).symm).length_eq;rwa [List.length_map] at this
 have he:(S.f.map fun f=>bl f.name).map encStr=iW S.f:=by
  rw [List.map_map];refine List.map_congr_left fun f _=>?_;show encStr (bl f.name)=_;unfold encStr;rfl
 rw [he,hlen] at hrow;obtain ⟨a,cap,rfl,hc,_⟩:=fP hrow;exact ⟨a,cap,rfl,hc,hb⟩
end Go.Proofs.YthphepeniaemoaaGreat
/- The disk: Crash: what is to be kept, as a map. Conditions: as in the text. -/
namespace Go.Proofs.YthphepeniaemoaaGreat
open Go.RowKit
variable {F:Nat->Prop} {d:Nat} {S:DS} {b:Nat} {D:DataW Unit} {s:ByteArray} {w w':World}
abbrev MJ (p:ByteArray×Int):List Value:=[.string p.1,.int .i64 p.2]
def kcs:Ks->List Value
 | []=>[]
 | p :: l=>MJ p++kcs l
theorem KD (l:Ks):(kcs l).length=l.length * 2:=by
 induction l with
 | nil=>rfl
 | cons g l ih=>simp only [kcs,av,ih,List.length_cons,List.length_nil];omega
theorem Ip:∀ (l:Ks) (k:Nat),(kcs l).drop (k * 2)=kcs (l.drop k)
 | l,0=>by simp
 | [],k+1=>by simp [kcs]
 | g :: l,k+1=>by
   rw [show (k+1) * 2=k * 2+2 by omega,List.drop_succ_cons,<- Ip l k];simp [kcs]
theorem UD {w:World} {a:Option Addr} {ks:Ks} (h:CellsIn w a (kcs ks)) {k:Nat} (hk:k<ks.length) :
 ∃ A off,a=some ⟨A,off,none⟩/\w.cell? ⟨A,off+k * 2,none⟩=some (.string ks[k].1)/\w.cell? ⟨A,off+k * 2+1,none⟩=some (.int .i64 ks[k].2):=by
 have hd:(kcs ks).drop (k * 2)=MJ ks[k]++kcs (ks.drop (k+1)):=by rw [Ip,List.drop_eq_getElem_cons hk];rfl
 rcases h with h | ⟨A,off,h1,h2⟩
 ·have:=congrArg List.length h
  rw [KD] at this;simp at this;omega
 ·refine ⟨A,off,h1,h2 (k * 2) _ ?_,?_⟩
  ·have:=congrArg (·[0]?) hd
   simpa using this
  ·have:=h2 (k * 2+1) (.int .i64 ks[k].2) (by have:=congrArg (·[1]?) hd;simpa using this)
   rwa [<- Nat.add_assoc] at this
/-- cells that begin with a text stay, whatever turns where no text lies -/
theorem CellsIn.frS {T:Nat->Prop} {a:Option Addr} {cs:List Value} (h:CellsIn w a cs) (hf:Fr T w w') (hT:∀ k,T k->zF w k) (h0:cs=[]\/∃ t,cs[0]?=some (.string t)):CellsIn w' a cs:=by
 rcases h with h | ⟨A,off,h1,h2⟩
 ·exact bb h
 ·rcases h0 with h0 | ⟨t,h0⟩
  ·exact bb h0
  ·exact bd ⟨A,off,h1,fun j v hv=>hf.kept (h2 j v hv) (fun hA=>hT A hA _ _ (h2 0 _ h0))⟩
theorem Ql (ks:Ks):kcs ks=[]\/∃ t,(kcs ks)[0]?=some (.string t):=by
 cases ks with
 | nil=>exact bb rfl
 | cons p r=>exact bd ⟨p.1,rfl⟩
theorem DD (l:List DF):iW l=[]\/∃ t,(iW l)[0]?=some (.string t):=by
 cases l with
 | nil=>exact bb rfl
 | cons p r=>exact bd ⟨p.name,rfl⟩
theorem DkCells.noStr {w:World} {k b arm:Nat} {down:Bool} (h:DkCells w k b arm down):zF w k:=by
 exact z116
theorem FileAt.noStr {w:World} {fb:Nat} {f:DF} (h:FileAt w fb f):zF w fb:=by
 obtain ⟨a,cap,h1,_⟩:=h;intro o c e;simp only [World.cell?,h1] at e;match o,e with
 | 0,e=>simp at e
 | 1,e=>simp at e
 | o+2,e=>simp at e
/-- a map of numbers by names -/
abbrev KeepMap (w:World) (M n:Nat) (E:DataW Unit):Prop:=w.ownsMap prog 9 (plainElem prog 3) M n E
theorem KeepMap.keep {M n:Nat} {E:DataW Unit} (h:KeepMap w M n E) (hk:w'.heap[M]?=w.heap[M]?):KeepMap w' M n E:=by
 obtain ⟨es,cl,hb,r⟩:=h;exact ⟨es,cl,hk.trans hb,r⟩
theorem KeepMap.lt {M n:Nat} {E:DataW Unit} (h:KeepMap w M n E):M<w.heap.size:=by
 obtain ⟨es,cl,hb,r⟩:=h;exact (Array.getElem?_eq_some_iff.1 hb).1
/-- the map has the last number of each name -/
def KeepIs (E:DataW Unit) (ks:Ks):Prop:=∀ s:ByteArray,E.atKey (nk s) (.lit (.int .i64 0))=.lit (.int .i64 (kR ks s))
theorem KeepIs.put {E:DataW Unit} {ks:Ks} {k:Nat} (h:KeepIs E (ks.take k)) (hm:Maps.IsMap E) (hk:k<ks.length):KeepIs (E.put (nk ks[k].1) (.lit (.int .i64 ks[k].2))) (ks.take (k+1)):=by
 intro s;rw [Io ks k hk];by_cases e:ks[k].1=s
 ·rw [if_pos e,e,Maps.atKey_put_same hm (sU s)]
 ·rw [if_neg e,Maps.atKey_put_other (fun e2=>e (lu e2).symm),h s]
theorem Qn {n:Int} (h:(Lit.int .i64 n).wf=true):plainElem (H:=Unit) prog 3 (.int .i64 n)=some (.lit (.int .i64 n),[]):=plainElem_int underlying3 h
theorem PH {l:List DF} (hs:Srt l) {f g:DF} (hf:f∈l) (hg:g∈l) (hn:f.name=g.name):f=g:=by
 obtain ⟨i,hi,rfl⟩:=List.getElem_of_mem hf;obtain ⟨j,hj,rfl⟩:=List.getElem_of_mem hg;rcases Nat.lt_trichotomy i j with h | h | h
 ·exact absurd hn (nJ (List.pairwise_iff_getElem.1 hs i j hi hj h))
 ·subst h;rfl
 ·exact absurd hn.symm (nJ (List.pairwise_iff_getElem.1 hs j i hj hi h))
/-- so many files are behind a crash -/
def iU (S:DS) (ks:Ks) (k:Nat):DS:=⟨(S.f.take k).map (jf ks)++S.f.drop k,0,false⟩
theorem Gf (S:DS) (ks:Ks):iU S ks 0=⟨S.f,0,false⟩:=by simp [iU]
theorem I5 (S:DS) (ks:Ks):iU S ks S.f.length=S.crash ks:=by simp [iU,DS.crash]
theorem DX (S:DS) (ks:Ks) (k:Nat):(iU S ks k).f.map (·.name)=S.f.map (·.name):=by
 show ((S.f.take k).map (jf ks)++S.f.drop k).map (·.name)=_;rw [List.map_append,List.map_map];conv=>rhs;rw [<- List.take_append_drop k S.f,List.map_append]
 rfl
theorem CS {S:DS} {ks:Ks} {k:Nat} (hs:Srt S.f) (h:k<S.f.length):bY (iU S ks k).f S.f[k].name=some S.f[k]:=by
 have hsk:Srt (iU S ks k).f:=hs.names (DX S ks k);have hmem:S.f[k]∈(iU S ks k).f:=List.mem_append_right _ (List.mem_drop_iff_getElem.2 ⟨0,by omega,by simp⟩);obtain ⟨f,hf⟩:=Option.isSome_iff_exists.1 (pO.2 ⟨_,hmem,rfl⟩);have h1:=lY hf;have h2:=lw hf;rw [hf];congr 1
 exact PH hsk h1 hmem h2
theorem Gg {S:DS} {ks:Ks} {k:Nat} (hs:Srt S.f) (h:k<S.f.length):jO (iU S ks k).f (jf ks S.f[k])=(iU S ks (k+1)).f:=by
 have hsk:Srt S.f:=hs;have hne:∀ i (hi:i<S.f.length),i≠k->S.f[i].name≠S.f[k].name:=fun i hi hik e=>by
  rcases Nat.lt_or_gt_of_ne hik with h1 | h1
  ·exact nJ (List.pairwise_iff_getElem.1 hs i k hi h h1) e
  ·exact nJ (List.pairwise_iff_getElem.1 hs k i h hi h1) e.symm
 show jO ((S.f.take k).map (jf ks)++S.f.drop k) _=(S.f.take (k+1)).map (jf ks)++S.f.drop (k+1);unfold jO;rw [List.map_append,List.take_succ_eq_append_getElem h,List.map_append,List.append_assoc,List.drop_eq_getElem_cons h,List.map_cons];congr 1
 ·conv=>rhs;rw [<- List.map_id ((S.f.take k).map (jf ks))]
  refine List.map_congr_left fun x hx=>if_neg ?_;obtain ⟨y,hy,rfl⟩:=List.mem_map.1 hx;obtain ⟨i,hi,rfl⟩:=List.mem_take_iff_getElem.1 hy;exact hne i (by omega) (by omega)
 ·rw [show (S.f[k].name=(jf ks S.f[k]).name) from rfl]
  simp only [if_true,List.map_cons,List.map_nil,List.cons_append,List.nil_append];congr 1
  conv=>rhs;rw [<- List.map_id (S.f.drop (k+1))]
  refine List.map_congr_left fun x hx=>if_neg ?_;obtain ⟨i,hi,rfl⟩:=List.mem_drop_iff_getElem.1 hx;exact hne _ (by omega) (by omega)
end Go.Proofs.YthphepeniaemoaaGreat
