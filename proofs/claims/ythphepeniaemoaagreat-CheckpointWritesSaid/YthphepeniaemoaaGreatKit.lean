/- Plain functions on bytes, numbers and records: what the program's functions and the references compute. Conditions: none. -/
import Derived.Lib.Hide
import Derived.WalkKit
import Derived.WalkSpells
import Derived.WalkLawsBesides
import Derived.Deep.QuietTactic
import Derived.BigQuiet
import Derived.StillTailTactics
import Derived.Deep.RegionHeld3
import Derived.Handy
import Derived.Deep.CutBlock
import Derived.Deep.DeepCutAuto
set_option linter.unusedSimpArgs false
set_option linter.unusedVariables false
set_option linter.unnecessarySimpa false
set_option maxHeartbeats 16000000
set_option maxRecDepth 100000
namespace Go.Proofs.YthphepeniaemoaaGreat
theorem aq {p : Prop} (h : p) : RowKit.Hid p := Lib.hid h
theorem ar (n : Nat) : n <= n := Nat.le_refl n
theorem av {α : Type _} {a b : List α} : (a ++ b).length = a.length + b.length := List.length_append
theorem aw (n : Nat) : 0 + n = n := Nat.zero_add n
theorem aM {p : Prop} [Decidable p] (h : ¬p) : decide p = false := decide_eq_false h
theorem aR {p : Prop} [Decidable p] (h : p) : decide p = true := decide_eq_true h
theorem ba {a b : Prop} (h : a) (k : b) : a /\ b := ⟨h, k⟩
theorem bb {a b : Prop} (h : a) : a \/ b := Or.inl h
theorem bd {a b : Prop} (h : b) : a \/ b := Or.inr h
theorem bh (b : Nat) (w : World) : RowKit.Below b w w := RowKit.Below.refl b w
abbrev Bytes:=List UInt8
/-! ### ascii -/
def isDigit (c:UInt8):Bool:=decide (48<=c.toNat) && decide (c.toNat<=57)
def gz (c:UInt8):Bool:=decide (c.toNat=32) || decide (c.toNat=9)
def BJ (c:UInt8):Bool:=(decide (c.toNat<32) && decide (c.toNat≠9)) || decide (c.toNat=127)
def lowerB (c:UInt8):UInt8:=if 65<=c.toNat/\c.toNat<=90 then c+32 else c
def digits (l:Bytes):Nat:=(l.takeWhile isDigit).length
def control (l:Bytes):Bool:=l.any BJ
def dP (l:Bytes):Bytes:=l.map lowerB
def lS (l:Bytes):Bytes:=l.dropWhile gz
def rP (l:Bytes):Bytes:=(l.reverse.dropWhile gz).reverse
def trim (l:Bytes):Bytes:=rP (lS l)
def eU (c:UInt8):Bytes->Option Nat
 | []=>none
 | x :: r=>if x.toNat=c.toNat then some 0 else (eU c r).map (· + 1)
def kU (l:Bytes) (c:UInt8):Int:=match eU c l with | none => -1 | some k=>k
def jv (k:Nat) (l:Bytes) (c:UInt8):Int:=match eU c l with | none => -1 | some j=>k+j
theorem xB {k:Nat} {c:UInt8}:jv k [] c = -1:=by simp [jv,eU]
theorem qx {k:Nat} {x c:UInt8} {l:Bytes} (h:(x.toNat:Int)=c.toNat):jv k (x :: l) c=k:=by
 simp [jv,eU,Int.natCast_inj.1 h]
theorem qw {k:Nat} {x c:UInt8} {l:Bytes} (h:¬ (x.toNat:Int)=c.toNat):jv k (x :: l) c=jv (k+1) l c:=by
 have h':¬ x.toNat=c.toNat:=fun e=>h (by rw [e]);simp only [jv,eU,if_neg h']
 cases eU c l <;> simp
 omega
theorem uU (l:Bytes) (c:UInt8):jv 0 l c=kU l c:=by simp [jv,kU]
theorem Cm {c:UInt8}:∀ {l:Bytes} {k:Nat},eU c l=some k->k<l.length
 | [],_,h=>by simp [eU] at h
 | x :: r,k,h=>by
   unfold eU at h;split at h
   ·simp at h;subst h;simp
   ·simp only [Option.map_eq_some_iff] at h
    obtain ⟨j,hj,rfl⟩:=h;have:=Cm hj;simp;omega
theorem F5 {l:Bytes} {c:UInt8} (h:0<=kU l c):∃ k:Nat,eU c l=some k/\kU l c=k/\k<l.length:=by
 unfold kU at h ⊢
 cases hb:eU c l with
 | none=>simp [hb] at h
 | some k=>exact ⟨k,rfl,rfl,Cm hb⟩
theorem OG {l:Bytes} {c:UInt8} (h:kU l c<0):eU c l=none:=by
 unfold kU at h
 cases hb:eU c l with
 | none=>rfl
 | some k=>simp [hb] at h;omega
/-- the parts between bytes -/
def splitB (c:UInt8):Bytes->List Bytes
 | []=>[[]]
 | x :: r=>if x.toNat=c.toNat then [] :: splitB c r else match splitB c r with | []=>[[x]] | h :: t=>(x :: h) :: t
theorem jB (c:UInt8):∀ l,splitB c l≠[]
 | []=>by simp [splitB]
 | x :: r=>by
   unfold splitB;split
   ·simp
   ·split <;> simp
theorem yS {c:UInt8}:∀ {l:Bytes},eU c l=none->splitB c l=[l]
 | [],_=>by simp [splitB]
 | x :: r,h=>by
   unfold eU at h;split at h
   ·cases h
   ·rename_i hx
    have h':eU c r=none:=by simpa using h
    simp [splitB,hx,yS h']
theorem yR {c:UInt8}:∀ {l:Bytes} {k:Nat},eU c l=some k->splitB c l=l.take k :: splitB c (l.drop (k+1))
 | [],_,h=>by simp [eU] at h
 | x :: r,k,h=>by
   unfold eU at h;split at h
   ·rename_i hx
    simp at h;subst h;simp [splitB,hx]
   ·rename_i hx
    simp only [Option.map_eq_some_iff] at h;obtain ⟨j,hj,rfl⟩:=h;simp [splitB,hx,yR hj]
theorem uI (c:UInt8):∀ l:Bytes,(splitB c l).length<=l.length+1
 | []=>by simp [splitB]
 | x :: r=>by
   have:=uI c r;unfold splitB;split
   ·simp;omega
   ·split
    ·simp
    ·rename_i h t heq
     rw [heq] at this;simp at this ⊢;omega
/-- a number's digits, capped -/
def dY (n:Int) (c:UInt8):Int:=min (n * 10+((c.toNat:Int) - 48)) 1099511627776
def jW (l:Bytes):Int:=l.foldl dY 0
/-- is the text a number, and which -/
def number (l:Bytes):Int×Bool :=
 match l with
 | []=>(0,false)
 | c :: r=>if c.toNat=45 then (if r=[]\/¬ r.all isDigit then (0,false) else (- jW r,true)) else (if ¬ l.all isDigit then (0,false) else (jW l,true))
theorem eX (l:Bytes):digits l<l.length↔¬ l.all isDigit=true:=by
 unfold digits;induction l with
 | nil=>simp
 | cons x r ih =>
   by_cases hx:isDigit x=true
   ·simp [hx] at ih ⊢;exact ih
   ·simp [hx]
theorem qB (l:Bytes):digits l<=l.length:=by
 unfold digits;induction l with
 | nil=>simp
 | cons x r ih =>
   by_cases hx:isDigit x=true
   ·simp [hx];omega
   ·simp [hx]
/-- a number's text -/
def kw (n:Nat):Bytes:=if n<10 then [UInt8.ofNat (48+n)] else kw (n / 10)++[UInt8.ofNat (48+n % 10)]
/-! ### host -/
def mD (c:UInt8):Bool:=(decide (97<=c.toNat) && decide (c.toNat<=122)) || (decide (48<=c.toNat) && decide (c.toNat<=57)) || decide (c.toNat=45) || decide (c.toNat=95)
def jq (c:UInt8):Bool:=(decide (48<=c.toNat) && decide (c.toNat<=57)) || (decide (97<=c.toNat) && decide (c.toNat<=102)) || decide (c.toNat=58) || decide (c.toNat=46)
def isDash (c:UInt8):Bool:=decide (c.toNat=45)
def label (l:Bytes):Bool:=decide (1<=l.length) && decide (l.length<=63) && l.all mD && !(l.head?.any isDash) && !(l.getLast?.any isDash)
def jQ (p:Bytes):Bool:=decide (1<=p.length) && p.all isDigit && decide (jW p<=255) && (decide (p.length<=1) || !(p.head?.any fun c=>decide (c.toNat=48)))
def four (l:Bytes):Bool:=let p:=splitB 46 l;decide (p.length=4) && p.all jQ
def bracket (l:Bytes):Bool:=decide (4<=l.length) && decide (l.length<=47) && (l.head?.any fun c=>decide (c.toNat=91)) && (l.getLast?.any fun c=>decide (c.toNat=93)) && ((l.drop 1).take (l.length - 2)).all jq
def address (l:Bytes):Bool:=four l || bracket l
def labels (l:Bytes):Bool:=(splitB 46 l).all label
def hname (l:Bytes):Bool:=decide (l.length<=256) && !address l && labels l
/-! ### dots, stamps -/
structure Actor where
 dev:Int
 inc:Int
 deriving DecidableEq
structure Dot where
 a:Actor
 seq:Int
 deriving DecidableEq
structure Stamp where
 wall:Int
 count:Int
 dev:Int
 deriving DecidableEq
structure Key where
 name:ByteArray
 domain:ByteArray
 path:ByteArray
 deriving DecidableEq
structure Ck where
 value:ByteArray
 hostOnly:Bool
 secure:Bool
 httpOnly:Bool
 persistent:Bool
 expiry:Int
 creation:Int
 access:Int
 deriving DecidableEq
def jk (a:Actor):Bool:=decide (0<=a.dev) && (decide (a.dev<64) && (decide (1<=a.inc) && decide (a.inc<=1048576)))
def bn (d:Dot):Bool:=jk d.a && (decide (1<=d.seq) && decide (d.seq<=4294967296))
def dI (s:Stamp):Bool:=(decide (0<=s.wall) && decide (s.wall<=4398046511104)) && ((decide (0<=s.count) && decide (s.count<=65535)) && (decide (0<=s.dev) && decide (s.dev<=63)))
def bC (a b:Actor):Bool:=decide (a.dev<b.dev) || (decide (a.dev=b.dev) && decide (a.inc<b.inc))
def cu (a b:Dot):Bool:=bC a.a b.a || (decide (a.a.dev=b.a.dev) && decide (a.a.inc=b.a.inc) && decide (a.seq<b.seq))
def rY (a b:Int):Int:=if a<b then -1 else if b<a then 1 else 0
def orI (a b:Int):Int:=if a=0 then b else a
def eG (a b:Actor):Int:=orI (rY a.dev b.dev) (rY a.inc b.inc)
def oM (a b:Dot):Int:=orI (eG a.a b.a) (rY a.seq b.seq)
theorem EX (a b:Dot):decide (oM a b<0)=cu a b:=by
 unfold oM eG cu bC orI rY;rw [Bool.eq_iff_iff];simp;repeat' split
 all_goals omega
end Go.Proofs.YthphepeniaemoaaGreat
/- Small laws for the walks: regions whose order is open and whose operations leave what was there alone; readings of memory. Conditions: none. -/
namespace Go.Proofs.YthphepeniaemoaaGreat
open Go.RowKit
theorem eH {k:IntKind} {a b:Int} (h:a=b):Ending.returned (.int k a)=.returned (.int k b):=by rw [h]
theorem aH {a b:Bool} (h:a=b):Ending.returned (.bool a)=.returned (.bool b):=by rw [h]
theorem jC {a b:Value} (h:a=b):Ending.returned a=.returned b:=by rw [h]
/-- a string's bytes -/
abbrev bl (s:ByteArray):Bytes:=s.data.toList
theorem aB (s:ByteArray):(bl s).length=s.size:=rfl
theorem drop_cons (s:ByteArray) (k:Nat) (h:k<s.size):(bl s).drop k=s[k] :: (bl s).drop (k+1):=by
 rw [List.drop_eq_getElem_cons (by simpa using h)];rfl
theorem iH (s:ByteArray) (k:Nat) (h:¬ k<s.size):(bl s).drop k=[]:=by
 rw [List.drop_eq_nil_iff];simpa using h
theorem gu (s:ByteArray) (a b:Nat):bl (s.extract a b)=((bl s).take b).drop a:=by
 simp [bl,ByteArray.data_extract,Array.toList_extract,List.extract_eq_take_drop,List.drop_take]
theorem lI {s t:ByteArray} (h:bl s=bl t):s=t:=by
 cases s;cases t;congr;exact Array.ext' h
/-- the string of some bytes -/
def mkS (l:Bytes):ByteArray:=⟨l.toArray⟩
theorem mJ (l:Bytes):bl (mkS l)=l:=rfl
theorem Bj (s:ByteArray):mkS (bl s)=s:=lI rfl
theorem qU {s:ByteArray} {l:Bytes} (h:bl s=l):s=mkS l:=lI h
theorem kN (l:Bytes):(mkS l).size=l.length:=rfl
theorem P9 (s:ByteArray) (k:Nat):mkS ((bl s).take k)=s.extract 0 k:=(qU (by rw [gu];simp)).symm
theorem Qa (s:ByteArray) (k:Nat):mkS ((bl s).drop k)=s.extract k s.size:=(qU (by rw [gu,List.take_of_length_le (by simp [aB])])).symm
def strLen:Value->Nat | .string s=>s.size | _=>0
theorem mg {t:ByteArray} (h:0<t.size):¬ t.toList=[]:=by
 rw [ByteArray.toList_eq];intro e;have h2:(bl t).length=0:=by simp [bl,e]
 rw [aB] at h2;omega
theorem lK {t:ByteArray} (h:0<t.size):t.toList.isEmpty=false:=by simpa using mg h
theorem vV {t:ByteArray} (h:¬ 0<t.size):bl t=[]:=by rw [<- List.length_eq_zero_iff,aB];omega
theorem lJ {t:ByteArray} (h:¬ 0<t.size):t.toList=[]:=by
 rw [ByteArray.toList_eq];exact vV h
theorem nV {t:ByteArray} (h:¬ 0<t.size):t.toList.isEmpty=true:=by simpa using lJ h
theorem qH (a b:ByteArray):(a.toList == b.toList)=decide (bl a=bl b):=by
 rw [ByteArray.toList_eq,ByteArray.toList_eq,Bool.eq_iff_iff,beq_iff_eq,decide_eq_true_eq]
/-! ### what stays -/
theorem kept {W w1:World} (hb:Below W.heap.size W w1) {p:Addr} {v:Value} (h:W.cell? p=some v):w1.cell? p=some v :=
 (hb.cell (World.block_lt_of_cell? W p h)).trans h
theorem Ub {W w1:World} (hb:Below W.heap.size W w1):(∀ b o,b<W.heap.size->w1.cell? ⟨b,o,none⟩=W.cell? ⟨b,o,none⟩)/\(∀ b o,b<W.heap.size->w1.frozen? ⟨b,o,none⟩=W.frozen? ⟨b,o,none⟩) :=
 ⟨fun b o h=>hb.cell (p:=⟨b,o,none⟩) h,fun b o h=>hb.frozen (p:=⟨b,o,none⟩) h⟩
/-- two steps, each leaving what was there alone -/
theorem below2 {a b c:World} (h:Below a.heap.size a b) (k:Below b.heap.size b c):Below a.heap.size a c:=h.trans (k.mono h.size)
theorem ownsRow_below {w w1:World} {base:Nat} {e:TypeId} {size:Nat} {v:Value} {n:Nat} {xs:List Value} (h:w.ownsRow base e size v n xs) (hb:Below w.heap.size w w1):w1.ownsRow base e size v n xs:=by
 refine ⟨h.1,?_⟩;rcases h.2 with hn | ⟨g,cap,cur,rfl,hbs,hgg,rest⟩
 ·exact .inl hn
 ·exact .inr ⟨g,cap,cur,rfl,hbs,by rw [hb.block g (Array.getElem?_eq_some_iff.1 hgg).1];exact hgg,rest⟩
/-- A world behind W, in which all that was there is as it was. -/
structure After (W:World) where
 w:World
 h:Below W.heap.size W w
instance (W:World):Nonempty (After W):=⟨⟨W,bh _ _⟩⟩
theorem After.cell {W:World} (i:After W) {p:Addr} {v:Value} (h:W.cell? p=some v):i.w.cell? p=some v:=kept i.h h
theorem Calls.after {P:Program} {f:FuncId} {args:Array Value} {W:World} {i:After W} {v:Value}
 (h:Calls P f args i.w fun e w'=>e=.returned v/\Below i.w.heap.size i.w w'):Calls P f args i.w fun e w''=>e=.returned v/\∃ j:After W,w''=j.w :=
 h.mono fun _ w2 ⟨he,hb⟩=>⟨he,⟨w2,i.h.trans (hb.mono i.h.size)⟩,rfl⟩
/-- A region whose order is open: one walk of the order of the text serves, every operation leaving what was there alone. -/
theorem aN {P:Program} {id:Nat} {Q:Exit->Act->World->Prop} {a:Act} {w:World} {l:List Oper} (hm:P.follows .mixedOrders=true) (hB:Region.lexB .any l.toArray=true)
 (h:∀ W,Hid (W=w)->wpQuiet P l.toArray (fun w'=>∃ i:After W,w'=i.w) (fun a'=>∀ w',(∃ i:After W,w'=i.w)->Q .normal a' w') l a):(Code.region id l.toArray true).wp P Q a w :=
 wp_region_quiet (C:=fun w'=>∃ i:After w,w'=i.w) hm hB ⟨⟨w.drew,(bh _ _).drew⟩,rfl⟩ (by simpa using h w rfl)
/-- The world gets a name. -/
theorem aI {P:Program} {c:Code} {Q:Exit->Act->World->Prop} {a:Act} {w:World} (h:∀ W,Hid (W=w)->Code.wp P c Q a W):Code.wp P c Q a w:=h w rfl
/-! ### bytes in memory -/
/-- from block b, place off on lie these bytes -/
def BytesAt (w:World) (b off:Nat) (l:Bytes):Prop:=∀ j (h:j<l.length),w.cell? ⟨b,off+j,none⟩=some (.int .u8 l[j].toNat)
/-- n places of block b from off on may be written -/
def FreeAt (w:World) (b off n:Nat):Prop:=∀ j,j<n->w.frozen? ⟨b,off+j,none⟩=false
theorem BytesAt.below {w w':World} {b off:Nat} {l:Bytes} (h:BytesAt w b off l) (hb:Below w.heap.size w w'):BytesAt w' b off l:=fun j hj=>kept hb (h j hj)
theorem BytesAt.cell {w:World} {b off:Nat} {l:Bytes} (h:BytesAt w b off l) {j:Nat} (hj:j<l.length):w.cell? ⟨b,off+j,none⟩=some (.int .u8 l[j].toNat):=h j hj
theorem BytesAt.block {w:World} {b off:Nat} {l:Bytes} (h:BytesAt w b off l) (hl:0<l.length):b<w.heap.size:=World.block_lt_of_cell? w _ (h 0 hl)
theorem BytesAt.set {w:World} {b off:Nat} {l:Bytes} (h:BytesAt w b off l) {k:Nat} (hk:k<l.length) (c:UInt8):BytesAt (w.setCell ⟨b,off+k,none⟩ (.int .u8 c.toNat)) b off (l.set k c):=by
 intro j hj;simp only [List.length_set] at hj;by_cases e:k=j
 ·subst e
  simp only [List.getElem_set_self];exact World.cell?_setCell_same _ _ _ (h k hk)
 ·rw [List.getElem_set_ne e]
  rw [World.cell?_setCell_other _ _ _ _ (fun h'=>e (by simp only [Addr.mk.injEq] at h';omega))];exact h j hj
theorem FreeAt.set {w:World} {b off n:Nat} (h:FreeAt w b off n) (a:Addr) (v:Value):FreeAt (w.setCell a v) b off n:=fun j hj=>by
 rw [World.frozen?_setCell];exact h j hj
theorem CU {P:Program} (src dst e:TypeId) (hs:P.underlying src=some .string) (hd:P.underlying dst=some (.slice e)) (he:P.underlying e=some (.int .u8)) (w:World) (s:ByteArray) :
 ∃ cap w1,(convert src dst (.string s)).run P w=.ok (.slice (some ⟨w.heap.size,0,none⟩) s.size cap) w1/\Below w.heap.size w w1/\w1.heap.size=w.heap.size+1/\s.size<=cap /\
   BytesAt w1 w.heap.size 0 (bl s)/\FreeAt w1 w.heap.size 0 s.size:=by
 refine ⟨_,_,run_bytes_of_string w src dst e s hs hd he,?_,?_,grownCap_ge _ _ _ _,?_,?_⟩
 ·exact ((bh _ _).drew).alloc (ar _) _
 ·simp
 ·intro j hj
  have hj':j<s.data.size:=hj;simp only [World.cell?,World.alloc,aw];rw [show w.drew.heap=w.heap from rfl];simp [bytesRow_at s _ j hj']
 ·intro j hj
  simp only [World.frozen?,World.alloc,aw];rw [show w.drew.heap=w.heap from rfl];simp [bytesRow];omega
end Go.Proofs.YthphepeniaemoaaGreat
/- Frames: nothing that was there has turned, but for some blocks. Conditions: none. -/
namespace Go.Proofs.YthphepeniaemoaaGreat
open Go.RowKit
/-- Nothing that was there has turned, but for the blocks of S. -/
structure Fr (S:Nat->Prop) (w w':World):Prop where
 os:w'.os=w.os
 tape:w'.tape=w.tape
 output:w'.output=w.output
 size:w.heap.size<=w'.heap.size
 block:∀ k,k<w.heap.size->¬ S k->w'.heap[k]?=w.heap[k]?
/-- S, and all that is new -/
def grow (S:Nat->Prop) (w:World):Nat->Prop:=fun k=>S k\/w.heap.size<=k
theorem Fr.refl (S:Nat->Prop) (w:World):Fr S w w:=⟨rfl,rfl,rfl,ar _,fun _ _ _=>rfl⟩
theorem Fr.trans {S:Nat->Prop} {a b c:World} (h:Fr S a b) (k:Fr (grow S a) b c):Fr S a c :=
 ⟨k.os.trans h.os,k.tape.trans h.tape,k.output.trans h.output,Nat.le_trans h.size k.size,fun i hi hs =>
  (k.block i (Nat.lt_of_lt_of_le hi h.size) (fun g=>by rcases g with g | g;exact hs g;omega)).trans (h.block i hi hs)⟩
theorem Fr.mono {S T:Nat->Prop} {a b:World} (h:Fr S a b) (hST:∀ k,k<a.heap.size->S k->T k):Fr T a b :=
 ⟨h.os,h.tape,h.output,h.size,fun i hi hs=>h.block i hi (fun g=>hs (hST i hi g))⟩
theorem Fr.of_below {S:Nat->Prop} {a b:World} (h:Below a.heap.size a b):Fr S a b:=⟨h.os,h.tape,h.output,h.size,fun k hk _=>h.block k hk⟩
theorem Fr.kept {S:Nat->Prop} {w w':World} (h:Fr S w w') {p:Addr} {v:Value} (hc:w.cell? p=some v) (hs:¬ S p.block):w'.cell? p=some v :=
 (World.cell?_of_block (w:=w) (h.block p.block (World.block_lt_of_cell? w p hc) hs)).trans hc
theorem Fr.below {S:Nat->Prop} {w w':World} (h:Fr S w w') {B:Nat} (hB:B<=w.heap.size) (hS:∀ k,S k->B<=k):Below B w w' :=
 ⟨h.os,h.tape,h.output,h.size,fun k hk=>h.block k (by omega) (fun g=>by have:=hS k g;omega)⟩
theorem z126 {p : Prop} (h : p := by simp [World.setCell, Array.getElem?_modify, h]) : p := h
theorem heap_setCell_other (w:World) (a:Addr) (v:Value) (g:Nat) (h:a.block≠g):(w.setCell a v).heap[g]?=w.heap[g]?:=by
 exact z126
theorem bi (w:World) (b:Nat) (cs:Array Value) (g:Nat) (h:b≠g):(w.setRow b cs).heap[g]?=w.heap[g]?:=by
 simp [World.setRow,Array.getElem?_modify,h]
theorem wC {w:World} {R:Nat} {x y:Value} {t:TypeId} {f:Nat×Nat} (h:w.heap[R]?=some (.cells #[x,y] t f)) (v:Value):(w.setCell ⟨R,0,none⟩ v).heap[R]?=some (.cells #[v,y] t f):=by
 exact z126
theorem Gz {w:World} {R:Nat} {x y:Value} {t:TypeId} {f:Nat×Nat} (h:w.heap[R]?=some (.cells #[x,y] t f)) (v:Value):(w.setCell ⟨R,1,none⟩ v).heap[R]?=some (.cells #[x,v] t f):=by
 exact z126
theorem fG {w:World} {R:Nat} {x y:Value} {t:TypeId} (h:w.heap[R]?=some (.cells #[x,y] t (0,0))):w.cell? ⟨R,0,none⟩=some x/\w.cell? ⟨R,1,none⟩=some y/\w.frozen? ⟨R,0,none⟩=false/\w.frozen? ⟨R,1,none⟩=false:=by
 simp [World.cell?,World.frozen?,h]
abbrev isR (R:Nat):Nat->Prop:=fun k=>k=R
theorem dW {w:World} {R o:Nat} (v:Value):Fr (isR R) w (w.setCell ⟨R,o,none⟩ v) :=
 ⟨rfl,rfl,rfl,by simp,fun k _ hk=>heap_setCell_other _ _ _ _ (fun e=>hk e.symm)⟩
/-- one footprint, again and again -/
theorem Fr.again {S:Nat->Prop} {a b c:World} (h:Fr S a b) (k:Fr S b c):Fr S a c:=h.trans (k.mono fun _ _ g=>bb g)
theorem aY (w:World) (o:Obj):(w.alloc o).heap[w.heap.size]?=some o:=by show (w.heap.push o)[w.heap.size]?=some o;simp
theorem eY (w:World) (o p:Obj):((w.alloc o).alloc p).heap[w.heap.size+1]?=some p:=by
 have:=aY (w.alloc o) p;rwa [show (w.alloc o).heap.size=w.heap.size+1 by simp] at this
theorem pA (a:Act) (i:Tmp) (v:Value):a.put (some i) v={ a with tmps:=a.tmps.setIfInBounds i v }:=rfl
theorem pE (a:Act) (v:Value):a.put none v=a:=rfl
theorem pB {α:Type} (l:List α) (i:Nat) (a:α):l.toArray.setIfInBounds i a=(l.set i a).toArray:=List.setIfInBounds_toArray l i a
theorem pC {α:Type} (a b:α) (l:List α):(a :: l).set 0 b=b :: l:=rfl
theorem pD {α:Type} (a b:α) (l:List α) (n:Nat):(a :: l).set (n+1) b=a :: l.set n b:=rfl
theorem pS:(∀ (a:Act) (i:Tmp) (v:Value),a.put (some i) v={ a with tmps:=a.tmps.setIfInBounds i v })/\(∀ (a:Act) (v:Value),a.put none v=a)/\(∀ (l:List Value) (i:Nat) (a:Value),l.toArray.setIfInBounds i a=(l.set i a).toArray)/\(∀ (a b:Value) (l:List Value),(a :: l).set 0 b=b :: l)/\(∀ (a b:Value) (l:List Value) (n:Nat),(a :: l).set (n+1) b=a :: l.set n b)/\(∀ (l:List Bool) (i:Nat) (a:Bool),l.toArray.setIfInBounds i a=(l.set i a).toArray)/\(∀ (a b:Bool) (l:List Bool),(a :: l).set 0 b=b :: l)/\∀ (a b:Bool) (l:List Bool) (n:Nat),(a :: l).set (n+1) b=a :: l.set n b :=
 ⟨pA,pE,pB,pC,pD,pB,pC,pD⟩
end Go.Proofs.YthphepeniaemoaaGreat
