/- The disk: Names: the names, sorted. Conditions: at most 8 files. -/
import Derived.Test.YtepkclldbkhanaaGreatDiskN
import Derived.Test.YtepkclldbkhanaaGreatDiskIter
import Derived.Test.YtepkclldbkhanaaGreatCel
import Derived.Laws.ResultCell
import Derived.Deep.MidRow
import Derived.Sort.Walk0
import Derived.Deep.WholeRow
set_option linter.unusedSimpArgs false
set_option linter.unusedVariables false
set_option linter.unnecessarySimpa false
set_option maxHeartbeats 16000000
set_option maxRecDepth 100000
open Go.Proofs.Tryz
namespace Go.Proofs.YtepkclldbkhanaaGreat
open Go.RowKit Go.Maps Go.Sort Go.Shelf
variable {F:Nat→Prop} {d:Nat} {S:DS} {b:Nat} {D:DataW Unit} {s:ByteArray} {w w':World}
theorem OZ (h:DkIn w F d S b D) (h8:S.f.length≤8):Calls prog 45 #[.pointer (some ⟨d,0,none⟩)] w fun e w'=>∃ (v:Value) (ss:List (List UInt8)),e=.returned v∧ss.Perm (strKeys D) ∧
 w'.ownsRow w.heap.size 9 1 v ss.length ((ss.mergeSort (fun x y=>decide (x≤y))).map encStr)∧(v=.slice none 0 0↔ss=[])∧Below w.heap.size w w':=by
 obtain ⟨p0,p1,p2,f0,f1,f2⟩:=dX h.cells;have hown:=h.own;have hsz:=h.files.size;have hmax:Maps.size D≤maxLen:=by rw [hsz];unfold maxLen;omega
 have hbytes:Maps.size D * 16≤140737488355328:=by rw [hsz];omega
 clear h;refine (callsIn_wide (n:=6)).1 ?_;have hfK:Fence.wide.fn 89:=trivial;have hfS:Fence.wide.fn 88:=trivial;refine callsIn_of_wp func45 rfl trivial ?_ rfl;simp only [ntmps45,List.size_toArray,List.length_cons,List.length_nil,Nat.reduceAdd,Nat.reduceSub,Array.replicate_succ,Array.replicate_zero,List.push_toArray,List.append_toArray,List.nil_append,List.cons_append];gi_wp2_with (first
  | (gi_at_call 89;refine (Tryz.maps_Keys_89 _ _).mono ?_;rintro e w' ⟨rfl,rfl⟩)
  | (gi_at_call 88;refine (Tryz.slices_Sorted_keys_88_89 b S.f.length D jX w hown hmax hbytes).mono ?_;rintro e w' ⟨v,ss,rfl,hS,hrow,hnil,hb⟩))
 go_ret;exact ⟨v,ss,rfl,hS,ownsRow_base_a hrow (by simp),hnil,((Below.refl _ w).alloc (Nat.le_refl _) _).trans (hb.mono (by simp))⟩
end Go.Proofs.YtepkclldbkhanaaGreat
/- The disk: New; a nil disk's Crash and Copy. Conditions: none. -/
namespace Go.Proofs.YtepkclldbkhanaaGreat
open Go.RowKit
theorem SK (w:World):Calls prog 10 #[] w fun e w'=>e=.returned (.pointer (some ⟨w.heap.size+1,0,none⟩)) ∧
 DkIn w' (fun k=>w.heap.size≤k) (w.heap.size+1) ⟨[],0,false⟩ w.heap.size (.map [])∧Below w.heap.size w w':=by
 have hmm:=@run_makeMap prog;have HM:=Lib.hid (World.ownsMap_made w prog 9 jX);go_enter func10,ntmps10;go_wp2;all_goals
  go_ret;refine ⟨by simp,⟨Nat.le_succ _,?_,Nat.le_refl _,HM.out.alloc _,?_⟩,((Below.refl _ w).alloc (Nat.le_refl _) _).alloc (by simp) _⟩
  ·have e1:=(MapKept.heap_alloc (w.alloc (.map #[] 0)) (.cells #[.map (some w.heap.size),.int .i64 0,.bool false] 88)).1
   rw [show (w.alloc (.map #[] 0)).heap.size=w.heap.size+1 by simp] at e1;exact e1
  ·refine ⟨fun s _=>rfl,fun s f hg=>?_,fun s t fb ht _=>?_,fun s=>rfl,rfl⟩
   ·simp [fJ] at hg
   ·cases ht
end Go.Proofs.YtepkclldbkhanaaGreat
/- The reference's disk: how it lies in memory; change, Find, get. Conditions: as in the text. -/
namespace Go.Proofs.YtepkclldbkhanaaGreat
open Go.RowKit
/-- a file of the reference's, with where its bytes lie -/
structure RF where
 f:DF
 a:Option Addr
 cap:Nat
abbrev EQ (g:RF):List Value:=[.string g.f.name,.slice g.a g.f.b.length g.cap,.int .i64 g.f.safe]
structure RFOk (w:World) (g:RF):Prop where
 bytes:BytesIn w g.a g.f.b
 cap:g.f.b.length≤g.cap
theorem RFOk.kept {w w':World} {g:RF} (h:RFOk w g) (hb:Below w.heap.size w w'):RFOk w' g:=⟨h.bytes.kept hb,h.cap⟩
/-- the cells of files, one behind the other -/
def fcs:List RF→List Value
 | []=>[]
 | g :: l=>EQ g++fcs l
theorem KC (l:List RF):(fcs l).length=l.length * 3:=by
 induction l with
 | nil=>rfl
 | cons g l ih=>simp only [fcs,List.length_append,ih,List.length_cons,List.length_nil];omega
theorem Ik:∀ (l:List RF) (k:Nat),(fcs l).drop (k * 3)=fcs (l.drop k)
 | l,0=>by simp
 | [],k+1=>by simp [fcs]
 | g :: l,k+1=>by
   rw [show (k+1) * 3=k * 3+3 by omega,List.drop_succ_cons,← Ik l k];simp [fcs]
theorem Uu (l:List RF) (i:Nat) (h:i<l.length) (j:Nat) (hj:j<3):(fcs l)[i * 3+j]?=(EQ l[i])[j]?:=by
 rw [← List.getElem?_drop,Ik,List.drop_eq_getElem_cons h];simp only [fcs];rw [List.getElem?_append_left (by simpa using hj)]
/-- a slice of files -/
structure RFsIn (w:World) (a:Option Addr) (l:List RF):Prop where
 rows:CellsIn w a (fcs l)
 ok:∀ g∈l,RFOk w g
theorem RFsIn.kept {w w':World} {a:Option Addr} {l:List RF} (h:RFsIn w a l) (hb:Below w.heap.size w w'):RFsIn w' a l:=⟨h.rows.kept hb,fun g hg=>(h.ok g hg).kept hb⟩
theorem RFsIn.at {w:World} {a:Option Addr} {l:List RF} (h:RFsIn w a l) {k:Nat} (hk:k<l.length) :
 ∃ A off,a=some ⟨A,off,none⟩∧(∀ i (h:i<l.length),w.rangeAt A (off+i * 3) (EQ l[i]))∧RFOk w l[k]:=by
 rcases h.rows with h1 | ⟨A,off,h1,h2⟩
 ·have:=congrArg List.length h1
  rw [KC] at this;simp at this;omega
 ·refine ⟨A,off,h1,fun i hi j v hv=>?_,h.ok _ (List.getElem_mem hk)⟩
  have hj:j<3:=by have:=(List.getElem?_eq_some_iff.1 hv).1;simpa using this
  have:=h2 (i * 3+j) v (by rw [Uu l i hi j hj];exact hv);rwa [← Nat.add_assoc] at this
end Go.Proofs.YtepkclldbkhanaaGreat
/- The reference's disk: Find, get. Conditions: as in the text. -/
namespace Go.Proofs.YtepkclldbkhanaaGreat
open Go.RowKit
/-! ### get -/
theorem RFOk.zero (w:World) (s:ByteArray):RFOk w ⟨⟨s,[],0⟩,none,0⟩:=⟨Or.inl rfl,Nat.le_refl _⟩
end Go.Proofs.YtepkclldbkhanaaGreat
/- The reference's disk: Without, Set. Conditions: as in the text. -/
namespace Go.Proofs.YtepkclldbkhanaaGreat
open Go.RowKit
theorem RFsIn.own {w:World} {base:Nat} {t:TypeId} {v:Value} {l:List RF} (h:w.ownsRow base t 3 v l.length (fcs l)) (hok:∀ g∈l,RFOk w g):∃ a cap,v=.slice a l.length cap∧RFsIn w a l∧l.length≤cap:=by
 obtain ⟨a,cap,h1,h2,h3⟩:=iV h;exact ⟨a,cap,h1,⟨h2,hok⟩,h3⟩
/-! ### Set -/
/-- how many files are ahead of a new one -/
def ahead (l:List RF) (g:RF):Nat:=(l.takeWhile fun x=>lw x.f.name g.f.name).length
end Go.Proofs.YtepkclldbkhanaaGreat
/- The reference's disk: Sync, Remove. Conditions: as in the text. -/
namespace Go.Proofs.YtepkclldbkhanaaGreat
open Go.RowKit
/-- a block of three cells -/
def B3 (w:World) (R:Nat) (t:TypeId) (x y z:Value):Prop:=w.heap[R]?=some (.cells #[x,y,z] t (0,0))
theorem B3.lt {w:World} {R:Nat} {t:TypeId} {x y z:Value} (h:B3 w R t x y z):R<w.heap.size:=(Array.getElem?_eq_some_iff.1 h).1
theorem B3.below {w w':World} {R:Nat} {t:TypeId} {x y z:Value} (h:B3 w R t x y z) (hb:Below w.heap.size w w'):B3 w' R t x y z:=(hb.block _ h.lt).trans h
theorem B3.cells {w:World} {R:Nat} {t:TypeId} {x y z:Value} (h:B3 w R t x y z):w.cell? ⟨R,0,none⟩=some x∧w.cell? ⟨R,1,none⟩=some y∧w.cell? ⟨R,2,none⟩=some z∧w.frozen? ⟨R,0,none⟩=false∧w.frozen? ⟨R,1,none⟩=false∧w.frozen? ⟨R,2,none⟩=false:=dX h
theorem B3.range {w:World} {R:Nat} {t:TypeId} {x y z:Value} (h:B3 w R t x y z):w.rangeAt R 0 [x,y,z]:=fun j v hv=>by
 obtain ⟨p0,p1,p2,_⟩:=h.cells;rw [Nat.zero_add];match j,hv with
 | 0,hv=>simp only [List.getElem?_cons_zero,Option.some.injEq] at hv;subst hv;exact p0
 | 1,hv=>simp only [List.getElem?_cons_succ,List.getElem?_cons_zero,Option.some.injEq] at hv;subst hv;exact p1
 | 2,hv=>simp only [List.getElem?_cons_succ,List.getElem?_cons_zero,Option.some.injEq] at hv;subst hv;exact p2
 | j+3,hv=>simp at hv
theorem B3.set0 {w:World} {R:Nat} {t:TypeId} {x y z:Value} (h:B3 w R t x y z) (v:Value):B3 (w.setCell ⟨R,0,none⟩ v) R t v y z:=by
 simp [B3,World.setCell,Array.getElem?_modify,show w.heap[R]?=_ from h]
theorem B3.set1 {w:World} {R:Nat} {t:TypeId} {x y z:Value} (h:B3 w R t x y z) (v:Value):B3 (w.setCell ⟨R,1,none⟩ v) R t x v z:=qm h v
theorem B3.set2 {w:World} {R:Nat} {t:TypeId} {x y z:Value} (h:B3 w R t x y z) (v:Value):B3 (w.setCell ⟨R,2,none⟩ v) R t x y v:=ql h v
theorem B3.other {w:World} {R:Nat} {t:TypeId} {x y z:Value} (h:B3 w R t x y z) {A:Addr} (v:Value) (hA:A.block≠R):B3 (w.setCell A v) R t x y z:=(heap_setCell_other _ _ _ _ hA).trans h
theorem B3.row {w:World} {R:Nat} {t:TypeId} {x y z:Value} (h:B3 w R t x y z) (x' y' z':Value):B3 (w.setRow R #[x',y',z']) R t x' y' z':=by
 simp [B3,World.setRow,Array.getElem?_modify,show w.heap[R]?=_ from h]
def FZ (v:Value):Prop:=match v with | .int .u8 _=>False | _=>True
theorem z92 {p : Prop} (h : p := by
 intro o c e
 simp only [World.cell?, show w.heap[R]? = _ from h] at e
 match o, e with
 | 0, e => simp at e; subst e; exact hx.1
 | 1, e => simp at e; subst e; exact hx.2.1
 | 2, e => simp at e; subst e; exact hx.2.2
 | o + 3, e => simp at e) : p := h
theorem B3.noByte {w:World} {R:Nat} {t:TypeId} {x y z:Value} (h:B3 w R t x y z) (hx:FZ x∧FZ y∧FZ z):NoByte w R:=by
 exact z92
def I8 (w:World) (k:Nat):Prop:=∀ o s,w.cell? ⟨k,o,none⟩≠some (.string s)
def Ll (v:Value):Prop:=match v with | .string _=>False | _=>True
theorem B3.noStr {w:World} {R:Nat} {t:TypeId} {x y z:Value} (h:B3 w R t x y z) (hx:Ll x∧Ll y∧Ll z):I8 w R:=by
 exact z92
theorem RFsIn.fr {T:Nat→Prop} {w w':World} {a:Option Addr} {l:List RF} (h:RFsIn w a l) (hf:Fr T w w') (hT:∀ k,T k→NoByte w k∧I8 w k):RFsIn w' a l:=by
 refine ⟨?_,fun g hg=>⟨(h.ok g hg).bytes.fr hf (fun k hk=>(hT k hk).1),(h.ok g hg).cap⟩⟩;rcases h.rows with h1 | ⟨A,off,h1,h2⟩
 ·exact Or.inl h1
 ·cases l with
  | nil=>exact Or.inl rfl
  | cons g r =>
    refine Or.inr ⟨A,off,h1,fun j v hv=>hf.kept (h2 j v hv) (fun hA=>?_)⟩;have h0:=h2 0 (.string g.f.name) rfl;exact (hT A hA).2 _ _ h0
end Go.Proofs.YtepkclldbkhanaaGreat
/- The reference's disk: Truncate, Arm. Conditions: as in the text. -/
namespace Go.Proofs.YtepkclldbkhanaaGreat
open Go.RowKit
end Go.Proofs.YtepkclldbkhanaaGreat
/- The reference's disk: Crash. Conditions: as in the text. -/
namespace Go.Proofs.YtepkclldbkhanaaGreat
open Go.RowKit
abbrev Ks:=List (ByteArray×Int)
/-- the last number of a name; 0 -/
def kE (ks:Ks) (s:ByteArray):Int:=ks.foldl (fun n p=>if p.1=s then p.2 else n) 0
theorem G9 (ks:Ks) (k:Nat) (h:k<ks.length) (s:ByteArray):kE (ks.take (k+1)) s=if ks[k].1=s then ks[k].2 else kE (ks.take k) s:=by
 unfold kE;rw [List.take_succ_eq_append_getElem h,List.foldl_append];rfl
def uP (n:Int) (r:Nat):Nat:=if n<0 then 0 else min n.toNat r
theorem xP (n:Int) (r:Nat):uP n r≤r:=by unfold uP;split <;> omega
/-- a file behind a crash -/
def jR (ks:Ks) (f:DF):DF:=⟨f.name,f.b.take (f.safe+uP (kE ks f.name) (f.b.length - f.safe)),f.safe+uP (kE ks f.name) (f.b.length - f.safe)⟩
def DS.crash (S:DS) (ks:Ks):DS:=⟨S.f.map (jR ks),0,false⟩
theorem cells_at {w:World} {a:Option Addr} {cs:List Value} (h:CellsIn w a cs) {k:Nat} (hk:k<cs.length):∃ A off,a=some ⟨A,off,none⟩∧w.cell? ⟨A,off+k,none⟩=some cs[k]:=by
 rcases h with rfl | ⟨A,off,h1,h2⟩
 ·simp at hk
 ·exact ⟨A,off,h1,h2 k _ (List.getElem?_eq_getElem hk)⟩
end Go.Proofs.YtepkclldbkhanaaGreat
/- The reference's disk: Rename, Arm. Conditions: as in the text. -/
namespace Go.Proofs.YtepkclldbkhanaaGreat
open Go.RowKit
end Go.Proofs.YtepkclldbkhanaaGreat
