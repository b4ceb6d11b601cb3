/- The disk: Names: the names, sorted. Conditions: at most 8 files. -/
import Derived.Test.YthphepeniaemoaaGreatDiskN
import Derived.Test.YthphepeniaemoaaGreatDiskIter
import Derived.Test.YthphepeniaemoaaGreatCel
import Derived.Laws.ResultCell
import Derived.Deep.MidRow
import Derived.Sort.Walk0
import Derived.Deep.WholeRow
import Derived.Sort.KeysCollected
set_option linter.unusedSimpArgs false
set_option linter.unusedVariables false
set_option linter.unnecessarySimpa false
set_option maxHeartbeats 16000000
set_option maxRecDepth 100000
open Go.Proofs.Tryz
namespace Go.Proofs.YthphepeniaemoaaGreat
open Go.RowKit Go.Maps Go.Sort Go.Shelf
variable {F:Nat->Prop} {d:Nat} {S:DS} {b:Nat} {D:DataW Unit} {s:ByteArray} {w w':World}
theorem PO (h:DkIn w F d S b D) (h8:S.f.length<=8):Calls prog 43 #[.pointer (some ⟨d,0,none⟩)] w fun e w'=>∃ (v:Value) (ss:List (List UInt8)),e=.returned v/\ss.Perm (strKeys D) /\
 w'.ownsRow w.heap.size 9 1 v ss.length ((ss.mergeSort (fun x y=>decide (x<=y))).map encStr)/\(v=.slice none 0 0↔ss=[])/\Below w.heap.size w w':=by
 obtain ⟨p0,p1,p2,f0,f1,f2⟩:=dU h.cells;have hown:=h.own;have hsz:=h.files.size;have hmax:Maps.size D<=maxLen:=by rw [hsz];unfold maxLen;omega
 have hbytes:Maps.size D * 16<=140737488355328:=by rw [hsz];omega
 clear h;refine (callsIn_wide (n:=6)).1 ?_;have hfK:Fence.wide.fn 85:=trivial;have hfS:Fence.wide.fn 84:=trivial;refine callsIn_of_wp func43 rfl trivial ?_ rfl;simp only [ntmps43,List.size_toArray,List.length_cons,List.length_nil,Nat.reduceAdd,Nat.reduceSub,Array.replicate_succ,Array.replicate_zero,List.push_toArray,List.append_toArray,List.nil_append,List.cons_append];gi_wp2_with (first
  | (gi_at_call 85;refine (Tryz.maps_Keys_85 _ _).mono ?_;rintro e w' ⟨rfl,rfl⟩)
  | (gi_at_call 84;refine (Tryz.slices_Sorted_keys_84_85 b S.f.length D jT w hown hmax hbytes).mono ?_;rintro e w' ⟨v,ss,rfl,hS,hrow,hnil,hb⟩))
 go_ret;exact ⟨v,ss,rfl,hS,ownsRow_base_a hrow (by simp),hnil,((bb _ w).alloc (aq _) _).trans (hb.mono (by simp))⟩
end Go.Proofs.YthphepeniaemoaaGreat
/- The disk: New; a nil disk's Crash and Copy. Conditions: none. -/
namespace Go.Proofs.YthphepeniaemoaaGreat
open Go.RowKit
theorem Nz (w:World):Calls prog 6 #[] w fun e w'=>e=.returned (.pointer (some ⟨w.heap.size+1,0,none⟩)) /\
 DkIn w' (fun k=>w.heap.size<=k) (w.heap.size+1) ⟨[],0,false⟩ w.heap.size (.map [])/\Below w.heap.size w w':=by
 have hmm:=@run_makeMap prog;have HM:=aa (World.ownsMap_made w prog 9 jT);go_enter func6,ntmps6;go_wp2;all_goals
  go_ret;refine ⟨by simp,⟨Nat.le_succ _,?_,aq _,HM.out.alloc _,?_⟩,((bb _ w).alloc (aq _) _).alloc (by simp) _⟩
  ·have e1:=(MapKept.heap_alloc (w.alloc (.map #[] 0)) (.cells #[.map (some w.heap.size),.int .i64 0,.bool false] 71)).1
   rw [show (w.alloc (.map #[] 0)).heap.size=w.heap.size+1 by simp] at e1;exact e1
  ·refine ⟨fun s _=>rfl,fun s f hg=>?_,fun s t fb ht _=>?_,fun s=>rfl,rfl⟩
   ·simp [ed] at hg
   ·cases ht
end Go.Proofs.YthphepeniaemoaaGreat
/- The reference's disk: how it lies in memory; change, Find, get. Conditions: as in the text. -/
namespace Go.Proofs.YthphepeniaemoaaGreat
open Go.RowKit
/-- a file of the reference's, with where its bytes lie -/
structure RF where
 f:DF
 a:Option Addr
 cap:Nat
abbrev FM (g:RF):List Value:=[.string g.f.name,.slice g.a g.f.b.length g.cap,.int .i64 g.f.safe]
structure RFOk (w:World) (g:RF):Prop where
 bytes:BytesIn w g.a g.f.b
 cap:g.f.b.length<=g.cap
theorem RFOk.kept {w w':World} {g:RF} (h:RFOk w g) (hb:Below w.heap.size w w'):RFOk w' g:=⟨h.bytes.kept hb,h.cap⟩
/-- the cells of files, one behind the other -/
def fcs:List RF->List Value
 | []=>[]
 | g :: l=>FM g++fcs l
theorem Lh (l:List RF):(fcs l).length=l.length * 3:=by
 induction l with
 | nil=>rfl
 | cons g l ih=>simp only [fcs,ar,ih,List.length_cons,List.length_nil];omega
theorem I4:∀ (l:List RF) (k:Nat),(fcs l).drop (k * 3)=fcs (l.drop k)
 | l,0=>by simp
 | [],k+1=>by simp [fcs]
 | g :: l,k+1=>by
   rw [show (k+1) * 3=k * 3+3 by omega,List.drop_succ_cons,<- I4 l k];simp [fcs]
theorem Vk (l:List RF) (i:Nat) (h:i<l.length) (j:Nat) (hj:j<3):(fcs l)[i * 3+j]?=(FM l[i])[j]?:=by
 rw [<- List.getElem?_drop,I4,List.drop_eq_getElem_cons h];simp only [fcs];rw [List.getElem?_append_left (by simpa using hj)]
/-- a slice of files -/
structure RFsIn (w:World) (a:Option Addr) (l:List RF):Prop where
 rows:CellsIn w a (fcs l)
 ok:∀ g∈l,RFOk w g
theorem RFsIn.kept {w w':World} {a:Option Addr} {l:List RF} (h:RFsIn w a l) (hb:Below w.heap.size w w'):RFsIn w' a l:=⟨h.rows.kept hb,fun g hg=>(h.ok g hg).kept hb⟩
theorem RFsIn.at {w:World} {a:Option Addr} {l:List RF} (h:RFsIn w a l) {k:Nat} (hk:k<l.length) :
 ∃ A off,a=some ⟨A,off,none⟩/\(∀ i (h:i<l.length),w.rangeAt A (off+i * 3) (FM l[i]))/\RFOk w l[k]:=by
 rcases h.rows with h1 | ⟨A,off,h1,h2⟩
 ·have:=congrArg List.length h1
  rw [Lh] at this;simp at this;omega
 ·refine ⟨A,off,h1,fun i hi j v hv=>?_,h.ok _ (List.getElem_mem hk)⟩
  have hj:j<3:=by have:=(List.getElem?_eq_some_iff.1 hv).1;simpa using this
  have:=h2 (i * 3+j) v (by rw [Vk l i hi j hj];exact hv);rwa [<- Nat.add_assoc] at this
end Go.Proofs.YthphepeniaemoaaGreat
/- The reference's disk: Find, get. Conditions: as in the text. -/
namespace Go.Proofs.YthphepeniaemoaaGreat
open Go.RowKit
/-! ### get -/
theorem RFOk.zero (w:World) (s:ByteArray):RFOk w ⟨⟨s,[],0⟩,none,0⟩:=⟨a8 rfl,aq _⟩
end Go.Proofs.YthphepeniaemoaaGreat
/- The reference's disk: Without, Set. Conditions: as in the text. -/
namespace Go.Proofs.YthphepeniaemoaaGreat
open Go.RowKit
theorem RFsIn.own {w:World} {base:Nat} {t:TypeId} {v:Value} {l:List RF} (h:w.ownsRow base t 3 v l.length (fcs l)) (hok:∀ g∈l,RFOk w g):∃ a cap,v=.slice a l.length cap/\RFsIn w a l/\l.length<=cap:=by
 obtain ⟨a,cap,h1,h2,h3⟩:=dE h;exact ⟨a,cap,h1,⟨h2,hok⟩,h3⟩
/-! ### Set -/
/-- how many files are ahead of a new one -/
def ahead (l:List RF) (g:RF):Nat:=(l.takeWhile fun x=>lD x.f.name g.f.name).length
end Go.Proofs.YthphepeniaemoaaGreat
/- The reference's disk: Sync, Remove. Conditions: as in the text. -/
namespace Go.Proofs.YthphepeniaemoaaGreat
open Go.RowKit
/-- a block of three cells -/
def B3 (w:World) (R:Nat) (t:TypeId) (x y z:Value):Prop:=w.heap[R]?=some (.cells #[x,y,z] t (0,0))
theorem B3.lt {w:World} {R:Nat} {t:TypeId} {x y z:Value} (h:B3 w R t x y z):R<w.heap.size:=(Array.getElem?_eq_some_iff.1 h).1
theorem B3.below {w w':World} {R:Nat} {t:TypeId} {x y z:Value} (h:B3 w R t x y z) (hb:Below w.heap.size w w'):B3 w' R t x y z:=(hb.block _ h.lt).trans h
theorem B3.cells {w:World} {R:Nat} {t:TypeId} {x y z:Value} (h:B3 w R t x y z):w.cell? ⟨R,0,none⟩=some x/\w.cell? ⟨R,1,none⟩=some y/\w.cell? ⟨R,2,none⟩=some z/\w.frozen? ⟨R,0,none⟩=false/\w.frozen? ⟨R,1,none⟩=false/\w.frozen? ⟨R,2,none⟩=false:=dU h
theorem B3.range {w:World} {R:Nat} {t:TypeId} {x y z:Value} (h:B3 w R t x y z):w.rangeAt R 0 [x,y,z]:=fun j v hv=>by
 obtain ⟨p0,p1,p2,_⟩:=h.cells;rw [av];match j,hv with
 | 0,hv=>simp only [List.getElem?_cons_zero,Option.some.injEq] at hv;subst hv;exact p0
 | 1,hv=>simp only [List.getElem?_cons_succ,List.getElem?_cons_zero,Option.some.injEq] at hv;subst hv;exact p1
 | 2,hv=>simp only [List.getElem?_cons_succ,List.getElem?_cons_zero,Option.some.injEq] at hv;subst hv;exact p2
 | j+3,hv=>simp at hv
theorem B3.set2 {w:World} {R:Nat} {t:TypeId} {x y z:Value} (h:B3 w R t x y z) (v:Value):B3 (w.setCell ⟨R,2,none⟩ v) R t x y v:=qc h v
theorem B3.other {w:World} {R:Nat} {t:TypeId} {x y z:Value} (h:B3 w R t x y z) {A:Addr} (v:Value) (hA:A.block≠R):B3 (w.setCell A v) R t x y z:=(heap_setCell_other _ _ _ _ hA).trans h
theorem B3.row {w:World} {R:Nat} {t:TypeId} {x y z:Value} (h:B3 w R t x y z) (x' y' z':Value):B3 (w.setRow R #[x',y',z']) R t x' y' z':=by
 simp [B3,World.setRow,Array.getElem?_modify,show w.heap[R]?=_ from h]
def Gw (v:Value):Prop:=match v with | .int .u8 _=>False | _=>True
theorem z99 {p : Prop} (h : p := by
 intro o c e
 simp only [World.cell?, show w.heap[R]? = _ from h] at e
 match o, e with
 | 0, e => simp at e; subst e; exact hx.1
 | 1, e => simp at e; subst e; exact hx.2.1
 | 2, e => simp at e; subst e; exact hx.2.2
 | o + 3, e => simp at e) : p := h
theorem B3.noByte {w:World} {R:Nat} {t:TypeId} {x y z:Value} (h:B3 w R t x y z) (hx:Gw x/\Gw y/\Gw z):NoByte w R:=by
 exact z99
def Jy (w:World) (k:Nat):Prop:=∀ o s,w.cell? ⟨k,o,none⟩≠some (.string s)
def Mc (v:Value):Prop:=match v with | .string _=>False | _=>True
theorem B3.noStr {w:World} {R:Nat} {t:TypeId} {x y z:Value} (h:B3 w R t x y z) (hx:Mc x/\Mc y/\Mc z):Jy w R:=by
 exact z99
theorem RFsIn.fr {T:Nat->Prop} {w w':World} {a:Option Addr} {l:List RF} (h:RFsIn w a l) (hf:Fr T w w') (hT:∀ k,T k->NoByte w k/\Jy w k):RFsIn w' a l:=by
 refine ⟨?_,fun g hg=>⟨(h.ok g hg).bytes.fr hf (fun k hk=>(hT k hk).1),(h.ok g hg).cap⟩⟩;rcases h.rows with h1 | ⟨A,off,h1,h2⟩
 ·exact a8 h1
 ·cases l with
  | nil=>exact a8 rfl
  | cons g r =>
    refine ba ⟨A,off,h1,fun j v hv=>hf.kept (h2 j v hv) (fun hA=>?_)⟩;have h0:=h2 0 (.string g.f.name) rfl;exact (hT A hA).2 _ _ h0
end Go.Proofs.YthphepeniaemoaaGreat
/- The reference's disk: Truncate, Arm. Conditions: as in the text. -/
namespace Go.Proofs.YthphepeniaemoaaGreat
open Go.RowKit
end Go.Proofs.YthphepeniaemoaaGreat
/- The reference's disk: Crash. Conditions: as in the text. -/
namespace Go.Proofs.YthphepeniaemoaaGreat
open Go.RowKit
abbrev Ks:=List (ByteArray×Int)
/-- the last number of a name; 0 -/
def kS (ks:Ks) (s:ByteArray):Int:=ks.foldl (fun n p=>if p.1=s then p.2 else n) 0
theorem Ir (ks:Ks) (k:Nat) (h:k<ks.length) (s:ByteArray):kS (ks.take (k+1)) s=if ks[k].1=s then ks[k].2 else kS (ks.take k) s:=by
 unfold kS;rw [List.take_succ_eq_append_getElem h,List.foldl_append];rfl
def yJ (n:Int) (r:Nat):Nat:=if n<0 then 0 else min n.toNat r
theorem EY (n:Int) (r:Nat):yJ n r<=r:=by unfold yJ;split <;> omega
/-- a file behind a crash -/
def jm (ks:Ks) (f:DF):DF:=⟨f.name,f.b.take (f.safe+yJ (kS ks f.name) (f.b.length - f.safe)),f.safe+yJ (kS ks f.name) (f.b.length - f.safe)⟩
def DS.crash (S:DS) (ks:Ks):DS:=⟨S.f.map (jm ks),0,false⟩
theorem cells_at {w:World} {a:Option Addr} {cs:List Value} (h:CellsIn w a cs) {k:Nat} (hk:k<cs.length):∃ A off,a=some ⟨A,off,none⟩/\w.cell? ⟨A,off+k,none⟩=some cs[k]:=by
 rcases h with rfl | ⟨A,off,h1,h2⟩
 ·simp at hk
 ·exact ⟨A,off,h1,h2 k _ (List.getElem?_eq_getElem hk)⟩
end Go.Proofs.YthphepeniaemoaaGreat
/- The reference's disk: Rename, Arm. Conditions: as in the text. -/
namespace Go.Proofs.YthphepeniaemoaaGreat
open Go.RowKit
def DS.rarm (S:DS) (n:Int):DS×Int:=if sO n then ({ S with arm:=n.toNat },0) else (S,4)
end Go.Proofs.YthphepeniaemoaaGreat
/- The plain disk: its files lie in order; what keeps so. Conditions: none. -/
namespace Go.Proofs.YthphepeniaemoaaGreat
open Go.RowKit
theorem kz {a b:ByteArray}:lD a b=true↔bl a<bl b:=by unfold lD;simp
theorem FY {a b c:ByteArray} (h:lD a b=true) (k:lD b c=true):lD a c=true:=kz.2 (List.lt_trans (kz.1 h) (kz.1 k))
theorem DU (a:ByteArray):lD a a=false:=by
 rw [Bool.eq_false_iff];intro h;exact List.lt_irrefl _ (kz.1 h)
theorem nM {a b:ByteArray} (h:lD a b=true):a≠b:=by
 rintro rfl;rw [DU] at h;cases h
theorem Ku {a b:ByteArray} (h:lD a b=false) (hne:a≠b):lD b a=true:=by
 rw [kz];have h1:¬ bl a<bl b:=fun e=>by rw [kz.2 e] at h;cases h
 have h2:bl b<=bl a:=List.not_lt.1 h1;rcases Decidable.em (bl b<bl a) with e | e
 ·exact e
 ·exact absurd (kY (List.le_antisymm (List.not_lt.1 e) h2)) hne
/-- files by names -/
def Srt (l:List DF):Prop:=l.Pairwise fun f g=>lD f.name g.name=true
theorem Srt.uniq {l:List DF} (h:Srt l):Uniq l:=h.imp fun h=>nM h
theorem Srt.del {l:List DF} (h:Srt l) (s:ByteArray):Srt (mM l s):=h.filter _
theorem BV {x f:DF}:∀ {l:List DF},x∈yl l f->x=f\/x∈l
 | [],h=>by simpa [yl] using h
 | g :: r,h=>by
   unfold yl at h;split at h
   ·rcases List.mem_cons.1 h with h | h
    ·exact ba (by simp [h])
    ·rcases BV h with h | h
     ·exact a8 h
     ·exact ba (List.mem_cons_of_mem _ h)
   ·rcases List.mem_cons.1 h with h | h
    ·exact a8 h
    ·exact ba h
theorem Srt.ins {f:DF}:∀ {l:List DF},Srt l->(∀ g∈l,g.name≠f.name)->Srt (yl l f)
 | [],_,_=>List.pairwise_singleton _ _
 | g :: r,h,hne=>by
   obtain ⟨h1,h2⟩:=List.pairwise_cons.1 h;unfold yl;split
   ·rename_i hlt
    refine List.pairwise_cons.2 ⟨fun x hx=>?_,Srt.ins h2 fun x hx=>hne x (List.mem_cons_of_mem _ hx)⟩;rcases BV hx with rfl | hx
    ·exact hlt
    ·exact h1 x hx
   ·rename_i hlt
    have hfg:=Ku (Bool.eq_false_iff.2 hlt) (hne g (by simp));refine List.pairwise_cons.2 ⟨fun x hx=>?_,h⟩;rcases List.mem_cons.1 hx with rfl | hx
    ·exact hfg
    ·exact FY hfg (h1 x hx)
theorem TE {l:List DF} {s:ByteArray}:∀ g∈mM l s,g.name≠s:=fun g hg=>by
 have:=(List.mem_filter.1 hg).2;simpa using this
theorem Srt.put {l:List DF} (h:Srt l) (f:DF):Srt (pz l f):=(h.del _).ins TE
theorem Srt.names {l m:List DF} (h:Srt l) (hn:m.map (·.name)=l.map (·.name)):Srt m:=by
 have h1:(l.map (·.name)).Pairwise fun a b=>lD a b=true:=List.pairwise_map.2 h;rw [<- hn] at h1;exact List.pairwise_map.1 h1
theorem JY (l:List DF) (f:DF):(lS l f).map (·.name)=l.map (·.name):=by
 unfold lS;rw [List.map_map];refine List.map_congr_left fun g _=>?_;simp only [Function.comp];split
 ·rename_i h;exact h.symm
 ·rfl
theorem Srt.set {l:List DF} (h:Srt l) (f:DF):Srt (lS l f):=h.names (JY l f)
/-! ### what keeps so -/
structure FOk (f:DF):Prop where
 name:dG f.name=true
 len:f.b.length<=16777216
 safe:f.safe<=f.b.length
structure DInv (S:DS):Prop where
 srt:Srt S.f
 len:S.f.length<=8
 arm:S.arm<=1048576
 ok:∀ f∈S.f,FOk f
theorem pJ {l:List DF} {s:ByteArray} {f:DF} (h:ed l s=some f):f∈l:=List.mem_of_find?_eq_some h
theorem Dc {l:List DF} {s:ByteArray}:∀ f∈mM l s,f∈l:=fun f h=>(List.mem_filter.1 h).1
theorem Be {l:List DF} {f x:DF} (h:x∈pz l f):x=f\/x∈l:=by
 rcases BV h with h | h
 ·exact a8 h
 ·exact ba (Dc _ h)
theorem G7 {l:List DF} {f x:DF} (h:x∈lS l f):x=f\/x∈l:=by
 obtain ⟨y,hy,rfl⟩:=List.mem_map.1 h;split
 ·exact a8 rfl
 ·exact ba hy
theorem Ja (l:List DF) (s:ByteArray):(mM l s).length<=l.length:=List.length_filter_le _ _
theorem DInv.change {S:DS} (h:DInv S):DInv S.change:=⟨h.srt,h.len,by show S.arm - 1<=1048576;have:=h.arm;omega,h.ok⟩
theorem DInv.sync {S:DS} (h:DInv S) (s:ByteArray):DInv (S.sync s).1:=by
 unfold DS.sync;split
 ·split
  ·exact h
  ·rename_i f hg
   split
   ·exact h.change
   ·refine ⟨h.srt.set _,by show (lS S.f _).length<=8;unfold lS;rw [List.length_map];exact h.len,h.change.arm,fun x hx=>?_⟩
    rcases G7 hx with rfl | hx
    ·have:=h.ok f (pJ hg);exact ⟨this.name,this.len,aq _⟩
    ·exact h.ok x hx
 ·exact h
theorem DInv.trunc {S:DS} (h:DInv S) (s:ByteArray) (n:Int):DInv (S.trunc s n).1:=by
 unfold DS.trunc;split
 ·split
  ·exact h
  ·rename_i f hg
   split
   ·exact h
   ·split
    ·exact h.change
    ·refine ⟨h.srt.set _,by show (lS S.f _).length<=8;unfold lS;rw [List.length_map];exact h.len,h.change.arm,fun x hx=>?_⟩
     rcases G7 hx with rfl | hx
     ·have:=h.ok f (pJ hg)
      exact ⟨this.name,by show (f.b.take n.toNat).length<=16777216;have:=this.len;rw [List.length_take];omega,by show min f.safe n.toNat<=(f.b.take n.toNat).length;have:=this.safe;rw [List.length_take];omega⟩
     ·exact h.ok x hx
 ·exact h
theorem DInv.remove {S:DS} (h:DInv S) (s:ByteArray):DInv (S.remove s).1:=by
 unfold DS.remove;split
 ·split
  ·exact h
  ·split
   ·exact h.change
   ·exact ⟨h.srt.del _,Nat.le_trans (Ja _ _) h.len,h.change.arm,fun x hx=>h.ok x (Dc x hx)⟩
 ·exact h
theorem DInv.append {S:DS} (h:DInv S) (s:ByteArray) (l:Bytes):DInv (S.append s l).1:=by
 unfold DS.append;split
 ·rename_i hok
  split
  ·rename_i hg
   split
   ·exact h
   ·rename_i h8
    split
    ·exact h
    ·rename_i hl
     split
     ·exact h.change
     ·refine ⟨h.srt.put _,?_,h.change.arm,fun x hx=>?_⟩
      ·show (pz S.f ⟨s,l,0⟩).length<=8
       rw [vW h.srt.uniq,hg];simp only [Option.isSome_none,Bool.false_eq_true,if_false];omega
      ·rcases Be hx with rfl | hx
       ·exact ⟨hok,by show l.length<=16777216;omega,Nat.zero_le _⟩
       ·exact h.ok x hx
  ·rename_i f hg
   split
   ·exact h
   ·rename_i hl
    split
    ·exact h.change
    ·have hf:=h.ok f (pJ hg)
     refine ⟨h.srt.put _,?_,h.change.arm,fun x hx=>?_⟩
     ·show (pz S.f _).length<=8
      rw [vW h.srt.uniq];simp only [tu hg,hg,Option.isSome_some,if_true];exact h.len
     ·rcases Be hx with rfl | hx
      ·exact ⟨hf.name,by show (f.b++l).length<=16777216;rw [ar];omega,by show f.safe<=(f.b++l).length;have:=hf.safe;rw [ar];omega⟩
      ·exact h.ok x hx
 ·exact h
theorem DInv.rename {S:DS} (h:DInv S) (s t:ByteArray):DInv (S.rename s t).1:=by
 unfold DS.rename;split
 ·rename_i hot
  split
  ·split
   ·exact h
   ·rename_i f hg
    split
    ·exact h.change
    ·have hf:=h.ok f (pJ hg)
     refine ⟨(h.srt.del _).put _,?_,h.change.arm,fun x hx=>?_⟩
     ·show (pz (mM S.f s) _).length<=8
      rw [vW (h.srt.del _).uniq];have:=xq h.srt.uniq hg;have:=h.len;split <;> omega
     ·rcases Be hx with rfl | hx
      ·exact ⟨hot,hf.len,hf.safe⟩
      ·exact h.ok x (Dc x hx)
  ·exact h
 ·exact h
theorem DInv.arm' {S:DS} (h:DInv S) (n:Int):DInv (S.rarm n).1:=by
 unfold DS.rarm;split
 ·rename_i hn
  refine ⟨h.srt,h.len,?_,h.ok⟩;show n.toNat<=1048576;unfold sO at hn;simp only [Bool.and_eq_true,decide_eq_true_eq] at hn;omega
 ·exact h
theorem Pm {f:DF} (h:FOk f) (ks:Ks):FOk (jm ks f):=by
 have hc:=EY (kS ks f.name) (f.b.length - f.safe);have h1:=h.safe;have h2:=h.len;refine ⟨h.name,?_,?_⟩
 ·show (f.b.take _).length<=_
  rw [List.length_take];omega
 ·show f.safe+_<=(f.b.take _).length
  rw [List.length_take];omega
theorem DInv.crash {S:DS} (h:DInv S) (ks:Ks):DInv (S.crash ks):=by
 refine ⟨h.srt.names ?_,by show (S.f.map _).length<=8;rw [List.length_map];exact h.len,Nat.zero_le _,fun x hx=>?_⟩
 ·show (S.f.map (jm ks)).map (·.name)=_
  rw [List.map_map];rfl
 ·obtain ⟨y,hy,rfl⟩:=List.mem_map.1 hx
  exact Pm (h.ok y hy) ks
theorem DInv.new:DInv ⟨[],0,false⟩:=⟨List.Pairwise.nil,by simp,by simp,fun f hf=>nomatch hf⟩
end Go.Proofs.YthphepeniaemoaaGreat
/- The disk: Names: the files' names, in order. Conditions: at most 8 files, in order. -/
namespace Go.Proofs.YthphepeniaemoaaGreat
open Go.RowKit Go.Maps Go.Sort
variable {F:Nat->Prop} {d:Nat} {S:DS} {b:Nat} {D:DataW Unit} {s:ByteArray} {w w':World}
def lU (l:List DF):List Value:=l.map fun f=>.string f.name
theorem uu {l:List DF} {s:ByteArray}:(ed l s).isSome=true↔∃ f∈l,f.name=s:=by
 unfold ed;rw [List.find?_isSome];simp
theorem Bz (h:DkIn w F d S b D) (hs:Srt S.f):(S.f.map fun f=>bl f.name).Perm (strKeys D):=by
 refine Collected.perm (left:=fun _=>false) ⟨?_,fun x=>?_⟩ h.own wF underlying9 (fun _=>rfl)
 ·refine List.pairwise_map.2 (hs.imp fun {a b} hlt e=>?_)
  exact nM hlt (kY e)
 ·have hh:=h.files.has (mkS x)
  rw [show nk (mkS x)=.string x from rfl] at hh;rw [hh,uu];simp only [and_true,List.mem_map];constructor
  ·rintro ⟨f,hf,rfl⟩;exact ⟨f,hf,(BA _).symm⟩
  ·rintro ⟨f,hf,e⟩;exact ⟨f,hf,by rw [e];rfl⟩
theorem FX (h:DkIn w F d S b D) (hs:Srt S.f) {ss:List (List UInt8)} (hp:ss.Perm (strKeys D)):ss.mergeSort (fun x y=>decide (x<=y))=S.f.map fun f=>bl f.name:=by
 have e1:=mergeSort_of_perm (hp.trans (Bz h hs).symm);refine e1.trans (List.mergeSort_of_pairwise ?_);refine List.pairwise_map.2 (hs.imp fun {a b} hlt=>?_);simp only [leB,decide_eq_true_eq];exact List.le_of_lt (kz.1 hlt)
theorem PN (h:DkIn w F d S b D) (hs:Srt S.f) (h8:S.f.length<=8):Calls prog 43 #[.pointer (some ⟨d,0,none⟩)] w fun e w'=>∃ a cap,e=.returned (.slice a S.f.length cap)/\CellsIn w' a (lU S.f)/\Below w.heap.size w w':=by
 refine (PO h h8).mono ?_;rintro e w' ⟨v,ss,rfl,hp,hrow,_,hb⟩;rw [FX h hs hp] at hrow;have hlen:ss.length=S.f.length:=by have:=(hp.trans (Bz h hs).symm).length_eq;rwa [List.length_map] at this
 have he:(S.f.map fun f=>bl f.name).map encStr=lU S.f:=by
  rw [List.map_map];refine List.map_congr_left fun f _=>?_;show encStr (bl f.name)=_;unfold encStr;rfl
 rw [he,hlen] at hrow;obtain ⟨a,cap,rfl,hc,_⟩:=dE hrow;exact ⟨a,cap,rfl,hc,hb⟩
end Go.Proofs.YthphepeniaemoaaGreat
/- The disk: Crash: what is to be kept, as a map. Conditions: as in the text. -/
namespace Go.Proofs.YthphepeniaemoaaGreat
open Go.RowKit
variable {F:Nat->Prop} {d:Nat} {S:DS} {b:Nat} {D:DataW Unit} {s:ByteArray} {w w':World}
abbrev MW (p:ByteArray×Int):List Value:=[.string p.1,.int .i64 p.2]
def kcs:Ks->List Value
 | []=>[]
 | p :: l=>MW p++kcs l
theorem KI (l:Ks):(kcs l).length=l.length * 2:=by
 induction l with
 | nil=>rfl
 | cons g l ih=>simp only [kcs,ar,ih,List.length_cons,List.length_nil];omega
theorem Iu:∀ (l:Ks) (k:Nat),(kcs l).drop (k * 2)=kcs (l.drop k)
 | l,0=>by simp
 | [],k+1=>by simp [kcs]
 | g :: l,k+1=>by
   rw [show (k+1) * 2=k * 2+2 by omega,List.drop_succ_cons,<- Iu l k];simp [kcs]
theorem UM {w:World} {a:Option Addr} {ks:Ks} (h:CellsIn w a (kcs ks)) {k:Nat} (hk:k<ks.length) :
 ∃ A off,a=some ⟨A,off,none⟩/\w.cell? ⟨A,off+k * 2,none⟩=some (.string ks[k].1)/\w.cell? ⟨A,off+k * 2+1,none⟩=some (.int .i64 ks[k].2):=by
 have hd:(kcs ks).drop (k * 2)=MW ks[k]++kcs (ks.drop (k+1)):=by rw [Iu,List.drop_eq_getElem_cons hk];rfl
 rcases h with h | ⟨A,off,h1,h2⟩
 ·have:=congrArg List.length h
  rw [KI] at this;simp at this;omega
 ·refine ⟨A,off,h1,h2 (k * 2) _ ?_,?_⟩
  ·have:=congrArg (·[0]?) hd
   simpa using this
  ·have:=h2 (k * 2+1) (.int .i64 ks[k].2) (by have:=congrArg (·[1]?) hd;simpa using this)
   rwa [<- Nat.add_assoc] at this
/-- cells that begin with a text stay, whatever turns where no text lies -/
theorem CellsIn.frS {T:Nat->Prop} {a:Option Addr} {cs:List Value} (h:CellsIn w a cs) (hf:Fr T w w') (hT:∀ k,T k->Jy w k) (h0:cs=[]\/∃ t,cs[0]?=some (.string t)):CellsIn w' a cs:=by
 rcases h with h | ⟨A,off,h1,h2⟩
 ·exact a8 h
 ·rcases h0 with h0 | ⟨t,h0⟩
  ·exact a8 h0
  ·exact ba ⟨A,off,h1,fun j v hv=>hf.kept (h2 j v hv) (fun hA=>hT A hA _ _ (h2 0 _ h0))⟩
theorem Qy (ks:Ks):kcs ks=[]\/∃ t,(kcs ks)[0]?=some (.string t):=by
 cases ks with
 | nil=>exact a8 rfl
 | cons p r=>exact ba ⟨p.1,rfl⟩
theorem DT (l:List DF):lU l=[]\/∃ t,(lU l)[0]?=some (.string t):=by
 cases l with
 | nil=>exact a8 rfl
 | cons p r=>exact ba ⟨p.name,rfl⟩
theorem DkCells.noStr {w:World} {k b arm:Nat} {down:Bool} (h:DkCells w k b arm down):Jy w k:=by
 exact z119
theorem FileAt.noStr {w:World} {fb:Nat} {f:DF} (h:FileAt w fb f):Jy w fb:=by
 obtain ⟨a,cap,h1,_⟩:=h;intro o c e;simp only [World.cell?,h1] at e;match o,e with
 | 0,e=>simp at e
 | 1,e=>simp at e
 | o+2,e=>simp at e
/-- a map of numbers by names -/
abbrev KeepMap (w:World) (M n:Nat) (E:DataW Unit):Prop:=w.ownsMap prog 9 (plainElem prog 3) M n E
theorem KeepMap.keep {M n:Nat} {E:DataW Unit} (h:KeepMap w M n E) (hk:w'.heap[M]?=w.heap[M]?):KeepMap w' M n E:=by
 obtain ⟨es,cl,hb,r⟩:=h;exact ⟨es,cl,hk.trans hb,r⟩
theorem KeepMap.lt {M n:Nat} {E:DataW Unit} (h:KeepMap w M n E):M<w.heap.size:=by
 obtain ⟨es,cl,hb,r⟩:=h;exact (Array.getElem?_eq_some_iff.1 hb).1
/-- the map has the last number of each name -/
def KeepIs (E:DataW Unit) (ks:Ks):Prop:=∀ s:ByteArray,E.atKey (nk s) (.lit (.int .i64 0))=.lit (.int .i64 (kS ks s))
theorem KeepIs.put {E:DataW Unit} {ks:Ks} {k:Nat} (h:KeepIs E (ks.take k)) (hm:Maps.IsMap E) (hk:k<ks.length):KeepIs (E.put (nk ks[k].1) (.lit (.int .i64 ks[k].2))) (ks.take (k+1)):=by
 intro s;rw [Ir ks k hk];by_cases e:ks[k].1=s
 ·rw [if_pos e,e,Maps.atKey_put_same hm (rE s)]
 ·rw [if_neg e,Maps.atKey_put_other (fun e2=>e (lC e2).symm),h s]
theorem QA {n:Int} (h:(Lit.int .i64 n).wf=true):plainElem (H:=Unit) prog 3 (.int .i64 n)=some (.lit (.int .i64 n),[]):=plainElem_int underlying3 h
theorem Ux {l:List DF} (hs:Srt l) {f g:DF} (hf:f∈l) (hg:g∈l) (hn:f.name=g.name):f=g:=by
 obtain ⟨i,hi,rfl⟩:=List.getElem_of_mem hf;obtain ⟨j,hj,rfl⟩:=List.getElem_of_mem hg;rcases Nat.lt_trichotomy i j with h | h | h
 ·exact absurd hn (nM (List.pairwise_iff_getElem.1 hs i j hi hj h))
 ·subst h;rfl
 ·exact absurd hn.symm (nM (List.pairwise_iff_getElem.1 hs j i hj hi h))
/-- so many files are behind a crash -/
def iY (S:DS) (ks:Ks) (k:Nat):DS:=⟨(S.f.take k).map (jm ks)++S.f.drop k,0,false⟩
theorem Gn (S:DS) (ks:Ks):iY S ks 0=⟨S.f,0,false⟩:=by simp [iY]
theorem Jc (S:DS) (ks:Ks):iY S ks S.f.length=S.crash ks:=by simp [iY,DS.crash]
theorem D9 (S:DS) (ks:Ks) (k:Nat):(iY S ks k).f.map (·.name)=S.f.map (·.name):=by
 show ((S.f.take k).map (jm ks)++S.f.drop k).map (·.name)=_;rw [List.map_append,List.map_map];conv=>rhs;rw [<- List.take_append_drop k S.f,List.map_append]
 rfl
theorem Df {S:DS} {ks:Ks} {k:Nat} (hs:Srt S.f) (h:k<S.f.length):ed (iY S ks k).f S.f[k].name=some S.f[k]:=by
 have hsk:Srt (iY S ks k).f:=hs.names (D9 S ks k);have hmem:S.f[k]∈(iY S ks k).f:=List.mem_append_right _ (List.mem_drop_iff_getElem.2 ⟨0,by omega,by simp⟩);obtain ⟨f,hf⟩:=Option.isSome_iff_exists.1 (uu.2 ⟨_,hmem,rfl⟩);have h1:=pJ hf;have h2:=tu hf;rw [hf];congr 1
 exact Ux hsk h1 hmem h2
theorem Gp {S:DS} {ks:Ks} {k:Nat} (hs:Srt S.f) (h:k<S.f.length):lS (iY S ks k).f (jm ks S.f[k])=(iY S ks (k+1)).f:=by
 have hsk:Srt S.f:=hs;have hne:∀ i (hi:i<S.f.length),i≠k->S.f[i].name≠S.f[k].name:=fun i hi hik e=>by
  rcases Nat.lt_or_gt_of_ne hik with h1 | h1
  ·exact nM (List.pairwise_iff_getElem.1 hs i k hi h h1) e
  ·exact nM (List.pairwise_iff_getElem.1 hs k i h hi h1) e.symm
 show lS ((S.f.take k).map (jm ks)++S.f.drop k) _=(S.f.take (k+1)).map (jm ks)++S.f.drop (k+1);unfold lS;rw [List.map_append,List.take_succ_eq_append_getElem h,List.map_append,List.append_assoc,List.drop_eq_getElem_cons h,List.map_cons];congr 1
 ·conv=>rhs;rw [<- List.map_id ((S.f.take k).map (jm ks))]
  refine List.map_congr_left fun x hx=>if_neg ?_;obtain ⟨y,hy,rfl⟩:=List.mem_map.1 hx;obtain ⟨i,hi,rfl⟩:=List.mem_take_iff_getElem.1 hy;exact hne i (by omega) (by omega)
 ·rw [show (S.f[k].name=(jm ks S.f[k]).name) from rfl]
  simp only [if_true,List.map_cons,List.map_nil,List.cons_append,List.nil_append];congr 1
  conv=>rhs;rw [<- List.map_id (S.f.drop (k+1))]
  refine List.map_congr_left fun x hx=>if_neg ?_;obtain ⟨i,hi,rfl⟩:=List.mem_drop_iff_getElem.1 hx;exact hne _ (by omega) (by omega)
end Go.Proofs.YthphepeniaemoaaGreat
