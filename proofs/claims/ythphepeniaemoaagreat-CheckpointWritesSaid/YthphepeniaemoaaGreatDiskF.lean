/- The disk, plainly; the small functions of package disk and of its reference: may a name be; a change; Arm; Down. Conditions: texts shorter than the greatest length. -/
import Derived.Test.YthphepeniaemoaaGreatChecked
import Derived.Test.YthphepeniaemoaaGreatKit
import Derived.Test.YthphepeniaemoaaGreatCel
import Derived.Maps.OwnSet
import Derived.Deep.RegionLaw
import Derived.OwnWalk
set_option linter.unusedSimpArgs false
set_option linter.unusedVariables false
set_option linter.unnecessarySimpa false
set_option maxHeartbeats 16000000
set_option maxRecDepth 100000
open Go.Proofs.Tryz
namespace Go.Proofs.YthphepeniaemoaaGreat
open Go.RowKit
/-! ### plainly -/
def isLow (c:UInt8):Bool:=decide (97<=c.toNat) && decide (c.toNat<=122)
def bK (s:ByteArray):Bool:=decide (1<=s.size) && (decide (s.size<=16) && (bl s).all isLow)
/-- a file: its name, its bytes, how many are safe -/
structure DF where
 name:ByteArray
 b:Bytes
 safe:Nat
/-- a disk: its files by names, at which change it goes down, whether it is -/
structure DS where
 f:List DF
 arm:Nat
 down:Bool
def DS.change (d:DS):DS:={ d with arm:=d.arm - 1,down:=d.down || decide (d.arm=1) }
theorem sN {s:ByteArray} (h:bK s=true):1<=s.size/\s.size<=16:=by
 unfold bK at h;simp only [Bool.and_eq_true,decide_eq_true_eq] at h;exact ⟨h.1,h.2.1⟩
theorem rE (c:UInt8) (l:Bytes):(c :: l).all isLow=(isLow c && l.all isLow):=rfl
theorem z79 {p : Prop} (h : p := by
 have HC := aq hc
 unfold isLow at hc
 simp only [Bool.and_eq_true, decide_eq_true_eq] at hc
 obtain ⟨c1, c2⟩ := hc
 go_wp2
 go_round
 case rel => exact ⟨k + 1, by omega, by go_num, by rw [HP.out, HD.out, rE, HC.out]; rfl⟩
 case measure => simp [intOf]; omega) : p := h
theorem uo (s:ByteArray) (w:World) (hs:s.size<=maxLen) :
 Calls prog 72 #[.string s] w fun e w'=>e=.returned (.bool (bK s))/\w=w':=by
 unfold maxLen at hs;by_cases h0:0<s.size
 case neg =>
  have hr:bK s=false:=by unfold bK;rw [aM (by omega)];rfl
  have h1:=lJ h0;have h1':=nV h0;go_enter func72,ntmps72;go_wp2;all_goals
   go_ret;exact ⟨aH hr.symm,rfl⟩
 case pos =>
 have n1:=mg h0;have n2:=lK h0;by_cases h16:s.size<=16
 case neg =>
  have hr:bK s=false:=by unfold bK;rw [aM h16];simp
  go_enter func72,ntmps72;go_wp2;all_goals
   go_ret;exact ⟨aH hr.symm,rfl⟩
 case pos =>
 have hr:bK s=(bl s).all isLow:=by unfold bK;rw [aR h16,aR (show 1<=s.size by omega)];rfl
 have HR:=aq hr;clear hr;go_enter func72,ntmps72;go_wp2;go_loop [13] (fun i=>∃ k:Nat,k<=s.size/\i=.int .i64 k/\bK s=((bl s).drop k).all isLow) (fun i=>s.size - (intOf i).toNat)
 case atStart=>exact ⟨0,Nat.zero_le _,rfl,by rw [HR.out];rfl⟩
 case round =>
  obtain ⟨k,hk,rfl,hpre⟩:=hrel;have HP:=aq hpre;clear hpre;by_cases hlt:k<s.size
  ·have HD:=aq (drop_cons s k hlt)
   by_cases hc:isLow s[k]=true
   ·exact z79
   ·have HC:=aq (Bool.eq_false_iff.2 hc)
    unfold isLow at hc;simp only [Bool.and_eq_true,decide_eq_true_eq,not_and] at hc;have hc':s[k].toNat<97\/122<s[k].toNat:=by omega
    clear hc;rcases hc' with c1 | c1;all_goals
     go_wp2;all_goals
      go_ret;exact ⟨aH (by rw [HP.out,HD.out,rE,HC.out];rfl),rfl⟩
  ·have HD:=aq (iH s k hlt)
   exact z118
theorem sK (s:ByteArray) (w:World) (hs:s.size<=maxLen) :
 Calls prog 77 #[.string s] w fun e w'=>e=.returned (.bool (bK s))/\w=w':=by
 unfold maxLen at hs;go_enter func77,ntmps77;go_wp2;go_loop [3] (fun i=>∃ k:Nat,k<=s.size/\i=.int .i64 k/\(bl s).all isLow=((bl s).drop k).all isLow) (fun i=>s.size - (intOf i).toNat)
 case atStart=>exact ⟨0,Nat.zero_le _,rfl,rfl⟩
 case round =>
  obtain ⟨k,hk,rfl,hpre⟩:=hrel;have HP:=aq hpre;clear hpre;by_cases hlt:k<s.size
  ·have HD:=aq (drop_cons s k hlt)
   by_cases hc:isLow s[k]=true
   ·exact z79
   ·have HC:=aq (Bool.eq_false_iff.2 hc)
    unfold isLow at hc;simp only [Bool.and_eq_true,decide_eq_true_eq,not_and] at hc;have hc':s[k].toNat<97\/122<s[k].toNat:=by omega
    clear hc;rcases hc' with c1 | c1;all_goals
     go_wp2;all_goals
      go_ret;exact ⟨aH (by unfold bK;rw [HP.out,HD.out,rE,HC.out];simp),rfl⟩
  ·have HD:=aq (iH s k hlt)
   have HE:Hid (bK s=(decide (1<=s.size) && decide (s.size<=16))):=aq (by unfold bK;rw [HP.out,HD.out];simp);go_wp2;all_goals
        go_ret;exact ⟨aH (by rw [HE.out];rw [Bool.eq_iff_iff];simp <;> omega),rfl⟩
/-- block d holds a disk's cells: its map lies in block b -/
def DkCells (w:World) (d b arm:Nat) (down:Bool):Prop:=w.heap[d]?=some (.cells #[.map (some b),.int .i64 arm,.bool down] 71 (0,0))
theorem dL {w:World} {R:Nat} {x y z:Value} {t:TypeId} (h:w.heap[R]?=some (.cells #[x,y,z] t (0,0))) :
 w.cell? ⟨R,0,none⟩=some x/\w.cell? ⟨R,1,none⟩=some y/\w.cell? ⟨R,2,none⟩=some z/\w.frozen? ⟨R,0,none⟩=false/\w.frozen? ⟨R,1,none⟩=false/\w.frozen? ⟨R,2,none⟩=false:=by
 simp [World.cell?,World.frozen?,h]
theorem nT {w:World} {R:Nat} {x y z:Value} {t:TypeId} {f:Nat×Nat} (h:w.heap[R]?=some (.cells #[x,y,z] t f)) (v:Value):(w.setCell ⟨R,1,none⟩ v).heap[R]?=some (.cells #[x,v,z] t f):=by
 exact z126
theorem qG {w:World} {R:Nat} {x y z:Value} {t:TypeId} {f:Nat×Nat} (h:w.heap[R]?=some (.cells #[x,y,z] t f)) (v:Value):(w.setCell ⟨R,2,none⟩ v).heap[R]?=some (.cells #[x,y,v] t f):=by
 exact z126
def kY (n:Int):Bool:=decide (1<=n) && decide (n<=1048576)
theorem TQ (d b arm:Nat) (down:Bool) (n:Int) (w:World) (h:DkCells w d b arm down) :
 Calls prog 9 #[.pointer (some ⟨d,0,none⟩),.int .i64 n] w fun e w' =>
  e=.returned (.int .i64 (if kY n then 0 else 4))/\DkCells w' d b (if kY n then n.toNat else arm) down/\Fr (isR d) w w':=by
 have H:=aq h;obtain ⟨p0,p1,p2,f0,f1,f2⟩:=dL h;clear h;by_cases h1:1<=n
 case neg =>
  have hr:kY n=false:=by unfold kY;rw [aM h1];rfl
  simp only [hr,Bool.false_eq_true,if_false];have h1':n<1:=by omega
  clear hr;go_enter func9,ntmps9;go_wp2;all_goals
   go_ret;exact ⟨rfl,H.out,Fr.refl _ _⟩
 case pos =>
 by_cases h2:n<=1048576
 case neg =>
  have hr:kY n=false:=by unfold kY;rw [aM h2];simp
  simp only [hr,Bool.false_eq_true,if_false];clear hr;go_enter func9,ntmps9;go_wp2;all_goals
   go_ret;exact ⟨rfl,H.out,Fr.refl _ _⟩
 case pos =>
 have hr:kY n=true:=by unfold kY;rw [aR h1,aR h2];rfl
 simp only [hr,if_true];clear hr;have hn:((n.toNat:Nat):Int)=n:=by omega
 have HN:=aq hn;clear hn;go_enter func9,ntmps9;go_wp2;all_goals
  go_ret;exact ⟨rfl,by unfold DkCells;rw [HN.out];exact nT H.out _,dW _⟩
theorem Ju (d b arm:Nat) (down:Bool) (w:World) (h:DkCells w d b arm down):Calls prog 44 #[.pointer (some ⟨d,0,none⟩)] w fun e w'=>e=.returned (.bool down)/\w=w':=by
 obtain ⟨p0,p1,p2,f0,f1,f2⟩:=dL h;clear h;go_enter func44,ntmps44;go_wp2;all_goals
  go_ret;exact ⟨rfl,rfl⟩
/-- a change that may be: 0; 12: it is down -/
def chg (arm:Nat) (down:Bool):Bool:=down || decide (arm=1)
theorem oN (d b arm:Nat) (down:Bool) (w:World) (h:DkCells w d b arm down) (ha:arm<=1048576) :
 Calls prog 70 #[.pointer (some ⟨d,0,none⟩)] w fun e w' =>
  e=.returned (.int .i64 (if chg arm down then 12 else 0))/\DkCells w' d b (arm - 1) (chg arm down)/\Fr (isR d) w w':=by
 have H:=aq h;obtain ⟨p0,p1,p2,f0,f1,f2⟩:=dL h;clear h;by_cases h0:arm=0
 case pos =>
  subst h0;have hr:chg 0 down=down:=by cases down <;> rfl
  simp only [hr];clear hr
  cases down
  all_goals
   go_enter func70,ntmps70;go_wp2;all_goals
        go_ret;exact ⟨rfl,H.out,Fr.refl _ _⟩
 case neg =>
 obtain ⟨m,rfl⟩:∃ m,arm=m+1:=⟨arm - 1,by omega⟩;by_cases hm:m=0
 case pos =>
  subst hm;have hr:chg 1 down=true:=by cases down <;> rfl
  simp only [hr,if_true];clear hr
  cases down
  all_goals
   go_enter func70,ntmps70;go_wp2;all_goals
        go_ret;exact ⟨rfl,qG (nT H.out _) _,(dW _).again (dW _)⟩
 case neg =>
 have hr:chg (m+1) down=down:=by cases down <;> simp [chg,hm]
 simp only [hr];clear hr;have q:((m:Int)+1 - 1 == 0)=false:=beq_eq_false_iff_ne.2 (by omega);have q':((m:Int) == 0)=false:=beq_eq_false_iff_ne.2 (by omega)
 cases down
 all_goals
  go_enter func70,ntmps70;go_wp2;all_goals
   go_ret;exact ⟨rfl,by unfold DkCells;simpa using qG (nT H.out (.int .i64 m)) _,(dW _).again (dW _)⟩
open Go.Maps (Keyed)
/-- how a pointer to a file reads in the disk's map: its block -/
def jL:Value->Option (DataW Unit×List MemPlace)
 | .pointer none=>some (.nil,[])
 | .pointer (some ⟨b,0,none⟩)=>some (.lit (.int .i64 b),[])
 | _=>none
theorem EM {v:Value} {b:Nat} {ps:List MemPlace} (h:jL v=some (.lit (.int .i64 b),ps)):v=.pointer (some ⟨b,0,none⟩):=by
 unfold jL at h;split at h
 ·simp at h
 ·simp only [Option.some.injEq,Prod.mk.injEq,DataW.lit.injEq,Lit.int.injEq,true_and] at h
  rw [Int.natCast_inj.1 h.1]
 ·cases h
theorem OH {v:Value} {ps:List MemPlace} (h:jL v=some (.nil,ps)):v=.pointer none:=by
 unfold jL at h;split at h
 ·rfl
 ·simp at h
 ·cases h
theorem wZ:Keyed prog 9:=Maps.string_keyed underlying9
theorem Ad (w:World):(zeroValue 111).run prog w=.ok (.pointer none) w:=by kernel_rfl
/-- a name as a key -/
def nk (s:ByteArray):Lit:=.string s.data.toList
theorem lu {s t:ByteArray} (h:nk s=nk t):s=t:=lI (by simpa [nk] using h)
theorem ou {s:ByteArray} (hs:s.size<=maxLen):keyOf prog 9 (.string s)=some (nk s):=Go.WideMaps.keyOf_string_mk underlying9 hs
/-- a file's block: its bytes lie elsewhere -/
def FileAt (w:World) (fb:Nat) (f:DF):Prop:=∃ a cap,w.heap[fb]?=some (.cells #[.slice a f.b.length cap,.int .i64 f.safe] 116 (0,0))/\BytesIn w a f.b/\f.b.length<=cap
/-- the files of a disk, by names -/
def bY (l:List DF) (name:ByteArray):Option DF:=l.find? fun f=>decide (f.name=name)
/-- the map's datum, beside the files -/
structure FilesAt (w:World) (F:Nat->Prop) (D:DataW Unit) (l:List DF):Prop where
 none:∀ s,bY l s=none->D.atKey (nk s) .nil=.nil
 some:∀ s f,bY l s=some f->∃ fb,F fb/\D.atKey (nk s) .nil=.lit (.int .i64 fb)/\FileAt w fb f
 apart:∀ s t fb,D.atKey (nk s) .nil=.lit (.int .i64 fb)->D.atKey (nk t) .nil=.lit (.int .i64 fb)->s=t
 has:∀ s,Maps.has D (nk s)=(bY l s).isSome
 size:Maps.size D=l.length
/-- a disk in memory: d its block, b its map's, which reads as D; all its own blocks lie in F -/
structure DkIn (w:World) (F:Nat->Prop) (d:Nat) (S:DS) (b:Nat) (D:DataW Unit):Prop where
 fd:F d
 cells:DkCells w d b S.arm S.down
 fb:F b
 own:w.ownsMap prog 9 jL b S.f.length D
 files:FilesAt w F D S.f
variable {F:Nat->Prop} {d:Nat} {S:DS} {b:Nat} {D:DataW Unit} {s:ByteArray} {w:World}
theorem nM (hs:s.size<=maxLen) (hd:d=d) (hok:bK s=false) :
 Calls prog 69 #[.pointer (some ⟨d,0,none⟩),.string s] w fun e w'=>e=.returned (.tuple #[.pointer none,.int .i64 1])/\w=w':=by
 have HR:=aq (uo s w hs);rw [hok] at HR;clear hok;go_enter func69,ntmps69;go_wp2_with (go_at_call 72;(with_reducible refine HR.out.mono ?_);rintro e w1 ⟨rfl,rfl⟩)
 all_goals
  go_ret2;exact ⟨rfl,rfl⟩
theorem nK (hs:s.size<=maxLen) (h:DkIn w F d S b D) (hok:bK s=true) (hg:bY S.f s=none) :
 Calls prog 69 #[.pointer (some ⟨d,0,none⟩),.string s] w fun e w'=>e=.returned (.tuple #[.pointer none,.int .i64 10])/\w=w':=by
 obtain ⟨hFd,hc,hFb,hown,hfs⟩:=h;obtain ⟨p0,p1,p2,f0,f1,f2⟩:=dL hc;have HR:=aq (uo s w hs);rw [hok] at HR;obtain ⟨v,ps,hrun,hv⟩:=hown.lookup wZ underlying69 (Ad _) (zd:=.nil) (zp:=[]) rfl (ou hs);rw [hfs.none s hg] at hv;obtain rfl:=OH hv;clear hg hown hfs hv hok hc;go_enter func69,ntmps69;go_wp2_with (go_at_call 72;(with_reducible refine HR.out.mono ?_);rintro e w1 ⟨rfl,rfl⟩)
 all_goals
  go_ret2;exact ⟨rfl,rfl⟩
theorem lD {fb:Nat} (hs:s.size<=maxLen) (h:DkIn w F d S b D) (hok:bK s=true) (hfb:D.atKey (nk s) .nil=.lit (.int .i64 fb)) :
 Calls prog 69 #[.pointer (some ⟨d,0,none⟩),.string s] w fun e w'=>e=.returned (.tuple #[.pointer (some ⟨fb,0,none⟩),.int .i64 0])/\w=w':=by
 obtain ⟨hFd,hc,hFb,hown,hfs⟩:=h;obtain ⟨p0,p1,p2,f0,f1,f2⟩:=dL hc;have HR:=aq (uo s w hs);rw [hok] at HR;obtain ⟨v,ps,hrun,hv⟩:=hown.lookup wZ underlying69 (Ad _) (zd:=.nil) (zp:=[]) rfl (ou hs);rw [hfb] at hv;obtain rfl:=EM hv;clear hfb hown hfs hv hok hc;go_enter func69,ntmps69;go_wp2_with (go_at_call 72;(with_reducible refine HR.out.mono ?_);rintro e w1 ⟨rfl,rfl⟩)
 all_goals
  go_ret2;exact ⟨rfl,rfl⟩
/-! ### Safe -/
/-- how many bytes of a file are safe -/
def nX (S:DS) (s:ByteArray):Nat:=if bK s then (match bY S.f s with | none=>0 | some f=>f.safe) else 0
theorem Jp (hs:s.size<=maxLen) (h:DkIn w F d S b D) :
 Calls prog 46 #[.pointer (some ⟨d,0,none⟩),.string s] w fun e w'=>e=.returned (.int .i64 (nX S s))/\w=w':=by
 by_cases hok:bK s=true
 case neg =>
  have HN:=aq (nM (d:=d) (w:=w) hs rfl (Bool.eq_false_iff.2 hok));have hr:nX S s=0:=by unfold nX;rw [if_neg hok]
  rw [hr];clear h hok hr;go_enter func46,ntmps46;go_wp2_with (go_at_call 69;(with_reducible refine HN.out.mono ?_);rintro e w1 ⟨rfl,rfl⟩)
  all_goals
   go_ret;exact ⟨rfl,rfl⟩
 case pos =>
 cases hg:bY S.f s with
 | none =>
   have HN:=aq (nK hs h hok hg);have hr:nX S s=0:=by unfold nX;rw [if_pos hok,hg]
   rw [hr];clear h hok hr hg;go_enter func46,ntmps46;go_wp2_with (go_at_call 69;(with_reducible refine HN.out.mono ?_);rintro e w1 ⟨rfl,rfl⟩)
   all_goals
    go_ret;exact ⟨rfl,rfl⟩
 | some f =>
   obtain ⟨fb,h1,h2,a,cap,h3,h4,h5⟩:=h.files.some s f hg;have HN:=aq (lD hs h hok h2);have hr:nX S s=f.safe:=by unfold nX;rw [if_pos hok,hg]
   rw [hr];obtain ⟨p0,p1,f0,f1⟩:=fG h3;clear h hok hr hg h2 h3 h4;go_enter func46,ntmps46;go_wp2_with (go_at_call 69;(with_reducible refine HN.out.mono ?_);rintro e w1 ⟨rfl,rfl⟩)
   all_goals
    go_ret;exact ⟨rfl,rfl⟩
theorem O8 (a:Option Addr):a.map (fun x=>x.add 0)=a:=by
 cases a with
 | none=>rfl
 | some x=>obtain ⟨b,o,p⟩:=x;cases p <;> simp [Addr.add]
theorem uM {P:Program} (w:World) (t e:TypeId) (i0:TypeInfo) (a:Option Addr) (n cap:Nat) (k k2:IntKind) (j m:Nat) (ht:P.underlying t=some (.slice e)) (hi:P.info? e=some i0) (h1:j<=m) (h2:m<=cap) :
 (Instr.sliceAt t (.slice a n cap) none (some (.int k j)) (some (.int k2 m))).run P w=.ok (.slice a j m) w:=by
 have h3:(if m=0 then a else a.map (fun x=>x.add 0))=a:=by rw [O8];split <;> rfl
 simp [Instr.sliceAt,Instr.slice,Instr.sliceBounds,Instr.sliceBound,asIntOf,run_underlying ht,sizeOf,typeInfo,hi];rw [if_pos h2,if_pos h1];simp [h3]
/-- a new row's first cells are these bytes -/
theorem EZ {w:World} {m:Bytes} {r:Array Value} (t:TypeId) (hr:∃ zs,r=(aA m).toArray++zs):BytesIn (w.alloc (.cells r t)) (some ⟨w.heap.size,0,none⟩) m:=by
 obtain ⟨zs,rfl⟩:=hr;refine bd ⟨_,_,rfl,fun j hj=>?_⟩;have hj':j<(aA m).length:=by rw [aU];exact hj
 simp only [World.cell?,World.alloc,aw,Array.getElem?_push_size];simp [Array.getElem?_append,hj',aA,hj]
/-- bytes appended to a slice that has no room: always new memory, or the slice as it was -/
theorem zL (w:World) (ty:TypeId) (a a2:Option Addr) (l l2:Bytes) (cap2:Nat) (h:BytesIn w a l) (h2:BytesIn w a2 l2) (hb:l.length+l2.length<=1073741824) :
 ∃ a' cap' w',(Builtin.append_ #[54,54] ty #[.slice a l.length l.length,.slice a2 l2.length cap2]).run prog w=.ok (.slice a' (l++l2).length cap') w'/\Below w.heap.size w w'/\BytesIn w' a' (l++l2)/\(l++l2).length<=cap':=by
 obtain ⟨i0,hi,hz0,hz1,hz2⟩:=info_parts Tryz.infoByte;by_cases h0:l2=[]
 ·subst h0
  refine ⟨a,l.length,w,?_,bh _ _,by simpa using h,by simp⟩;have hf:(Builtin.firstCells 1 0 (.slice a2 0 cap2)).run prog w=.ok #[] w:=by
   cases a2 with
   | none=>exact run_firstCells_none (P:=prog) (w:=w) 1 0 0 cap2
   | some x=>exact run_firstCells_some (P:=prog) (w:=w) 1 0 x 0 cap2 [] rfl (fun j v hj=>by simp at hj)
  cases a <;> simp [Builtin.append_,run_underlying underlying54,run_underlying underlying5,sizeOf,typeInfo,zeroValue,hi,hz0,hz1,Builtin.lenOf,hf,storeCells,Result.andThen]
 ·have hl2:0<l2.length:=List.length_pos_iff.2 h0
  obtain ⟨A2,Uu,rfl,hA2⟩:∃ A off,a2=some ⟨A,off,none⟩/\BytesAt w A off l2:=by
   rcases h2 with h2 | h2
   ·exact absurd h2 h0
   ·exact h2
  have hnews:=hA2.news;have hlen:(l++l2).length=l.length+l2.length:=by simp
  cases a with
  | none =>
    have hl:l=[]:=by rcases h with h | ⟨A,off,h1,_⟩;exact h;cases h1
    subst hl;have hr:=run_append_nil (P:=prog) (w:=w) 54 ty 5 i0 _ underlying54 hi hz0 ⟨A2,Uu,none⟩ l2.length cap2 (aA l2) (by rw [hz1,aU];simp) hnews hl2 (by simp at hb;omega) (by rw [hz2];simp at hb;omega);refine ⟨_,_,_,by simpa using hr,(bh _ _).drew.alloc (ar _) _,EZ _ ⟨_,rfl⟩,?_⟩;simpa using grownCap_ge w l2.length 0 5
  | some b =>
    have holds:∀ j v,(aA l)[j]?=some v->w.cell? (b.add j)=some v:=by
        rcases h with rfl | ⟨A,off,h1,h3⟩
        ·intro j v hj;simp [aA] at hj
        ·obtain rfl:b=⟨A,off,none⟩:=by simpa using h1
         exact h3.news
    have hr:=run_append_grow (P:=prog) (w:=w) 54 ty 5 i0 _ underlying54 hi hz0 b l.length l.length (aA l) (by rw [hz1,aU];simp) holds ⟨A2,Uu,none⟩ l2.length cap2 (aA l2) (by rw [hz1,aU];simp) hnews (by omega) (by omega) (growslice_fits (by omega) (by rw [hz2];omega));refine ⟨_,_,_,by rw [hlen];exact hr,(bh _ _).drew.alloc (ar _) _,EZ _ ⟨Builtin.zeroCells _ _,by rw [bG,<- List.append_toArray]⟩,?_⟩;rw [hlen];exact grownCap_ge w _ _ 5
theorem xW {ops:Array Oper} {o:Oper} {a:Act} {w:World} {K:Act->World->Prop} {Q:Exit->Act->World->Prop} {E:Prop} (hw:Region.wanted o (yielded ops a.tmps)=true) (s x:Operand)
 (ho:o.op=.call { callee:=.builtin .append,args:=#[s,x],argTypes:=#[54,54] })
 (ad a2:Option Addr) (l l2:Bytes) (cap2:Nat) (hs:a.eval s=.slice ad l.length l.length) (hx:a.eval x=.slice a2 l2.length cap2) (h1:BytesIn w ad l) (h2:BytesIn w a2 l2) (hb:l.length+l2.length<=1073741824)
 (h:∀ a' cap' w',Below w.heap.size w w'->BytesIn w' a' (l++l2)->(l++l2).length<=cap'->K (a.put o.dst (.slice a' (l++l2).length cap')) w') :
 if Region.wanted o (yielded ops a.tmps)=true then Oper.wp prog o a w K Q else E:=by
 rw [if_pos hw];obtain ⟨a',cap',w',hr,h3,h4,h5⟩:=zL w o.type ad a2 l l2 cap2 h1 h2 hb;unfold Oper.wp execOp;simp only [ho,resolve,invoke,builtin,Sem.run_bind,Sem.run_pure,Result.andThen_ok,List.map_toArray,List.map_cons,List.map_nil,hs,hx,hr];exact h _ _ _ h3 h4 h5
/-! ### bytes stay -/
/-- no byte lies in block k -/
def NoByte (w:World) (k:Nat):Prop:=∀ o c,w.cell? ⟨k,o,none⟩≠some (.int .u8 c)
theorem NoByte.file {w:World} {k:Nat} {n:Int} {t:TypeId} {fr:Nat×Nat} {a:Option Addr} {l c:Nat} (h:w.heap[k]?=some (.cells #[.slice a l c,.int .i64 n] t fr)):NoByte w k:=by
 intro o c e;simp only [World.cell?,h] at e;match o,e with
 | 0,e=>simp at e
 | 1,e=>simp at e
 | o+2,e=>simp at e
theorem z116 {p : Prop} (h : p := by
 intro o c e
 simp only [World.cell?, show w.heap[k]? = _ from h] at e
 match o, e with
 | 0, e => simp at e
 | 1, e => simp at e
 | 2, e => simp at e
 | o + 3, e => simp at e) : p := h
theorem NoByte.disk {w:World} {k b arm:Nat} {down:Bool} (h:DkCells w k b arm down):NoByte w k:=by
 exact z116
theorem NoByte.map {w:World} {k:Nat} {es:Array MapEntry} {cl:Nat} (h:w.heap[k]?=some (.map es cl)):NoByte w k:=by
 intro o c e;simp [World.cell?,h] at e
theorem BytesIn.fr {S:Nat->Prop} {w w':World} {a:Option Addr} {l:Bytes} (h:BytesIn w a l) (hf:Fr S w w') (hS:∀ k,S k->NoByte w k):BytesIn w' a l:=by
 rcases h with h | ⟨A,off,h1,h2⟩
 ·exact bb h
 ·by_cases h0:l=[]
  ·exact bb h0
  ·have hl:=List.length_pos_iff.2 h0
   refine bd ⟨A,off,h1,fun j hj=>hf.kept (h2 j hj) (fun hs=>hS _ hs (off+j) _ (h2 j hj))⟩
/-! ### all -/
theorem TA {w:World} {fb:Nat} {f:DF} (hl:f.b.length<=1073741824) (h:FileAt w fb f):Calls prog 86 #[.pointer (some ⟨fb,0,none⟩)] w (dO f.b w):=by
 obtain ⟨a,cap,h1,h2,h3⟩:=h;obtain ⟨p0,p1,f0,f1⟩:=fG h1;have HC:=aq (lg a cap f.b w hl h2);clear h1 h2 h3;go_enter func86,ntmps86;go_wp2_with (go_at_call 125;(with_reducible refine HC.out.mono ?_);rintro e w1 ⟨v,rfl,hown,hb⟩)
 all_goals
  go_ret;exact ⟨v,rfl,hown,hb⟩
/-! ### cut -/
theorem Tn {w:World} {fb:Nat} {f:DF} {n:Nat} (hl:f.b.length<=1073741824) (hn:n<=f.b.length) (h:FileAt w fb f) :
 Calls prog 48 #[.pointer (some ⟨fb,0,none⟩),.int .i64 n] w fun e w'=>e=.returned (.tuple #[])/\FileAt w' fb { f with b:=f.b.take n }/\Fr (isR fb) w w':=by
 obtain ⟨a,cap,h1,h2,h3⟩:=h;obtain ⟨p0,p1,f0,f1⟩:=fG h1;obtain ⟨i0,hi,_,hz1,_⟩:=info_parts Tryz.infoByte;have hcut:=uM (P:=prog) w 54 5 i0 a f.b.length cap .i64 .i64 n n underlying54 hi (ar _) (by omega);have H1:=aq h1;have H2:=aq h2;clear h1 h2;have HL:Hid ((f.b.take n).length=n):=aq (by simp;omega);go_enter func48,ntmps48;go_wp2;all_goals
  go_end0;exact ⟨rfl,⟨a,n,by rw [HL.out];exact wC H1.out _,(H2.out.take n).fr (S:=isR fb) (dW _) (fun k hk=>by subst hk;exact NoByte.file H1.out),by rw [HL.out];exact ar _⟩,dW _⟩
theorem add_any {w:World} {fb:Nat} {f:DF} {a2:Option Addr} {l2:Bytes} {cap2:Nat} (hb:f.b.length+l2.length<=1073741824) (h:FileAt w fb f) (h2:BytesIn w a2 l2) :
 Calls prog 71 #[.pointer (some ⟨fb,0,none⟩),.slice a2 l2.length cap2] w fun e w'=>e=.returned (.tuple #[])/\FileAt w' fb { f with b:=f.b++l2 }/\Fr (isR fb) w w':=by
 obtain ⟨a,cap,h1,hin,h3⟩:=h;obtain ⟨i0,hi,_,hz1,_⟩:=info_parts Tryz.infoByte;have hlt:fb<w.heap.size:=(Array.getElem?_eq_some_iff.1 h1).1;have hcut:=uM (P:=prog) w.drew 54 5 i0 a f.b.length cap .i64 .i64 f.b.length f.b.length underlying54 hi (ar _) h3;have HL:=aq (show (f.b++l2).length=f.b.length+l2.length by simp);have h1d:w.drew.heap[fb]?=some (.cells #[.slice a f.b.length cap,.int .i64 f.safe] 116 (0,0)):=h1;obtain ⟨p0,p1,f0,f1⟩:=fG h1d;have Xe:BytesIn w.drew a f.b:=hin;have h2d:BytesIn w.drew a2 l2:=h2;have HF:=aq hin;have H1:=aq h1d;clear h1 h1d hin h2 h3 hi hz1;go_enter func71,ntmps71;go_region_law
  (refine xW (by simp [Region.wanted]) _ _ rfl a a2 f.b l2 cap2 rfl rfl Xe h2d hb ?_;intro a' cap' w2 hbel hin2 hcap2;have q0:=kept hbel p0;have g0:=(hbel.frozen (p:=⟨fb,0,none⟩) hlt).trans f0)
 all_goals
  go_end0;have hbw:Below w.heap.size w w2:=((bh w.heap.size w).drew).trans hbel;have HB:w2.heap[fb]?=some (.cells #[.slice a f.b.length cap,.int .i64 f.safe] 116 (0,0)):=(hbel.block fb hlt).trans H1.out;refine ⟨rfl,⟨a',cap',?_,hin2.fr (S:=isR fb) (dW _) (fun k hk=>by subst hk;exact NoByte.file HB),hcap2⟩,(Fr.of_below hbw).again (dW _)⟩;first
   | exact wC HB _
   | (rw [show ({ f with b:=f.b++l2 }:DF).b.length=f.b.length+l2.length from HL.out];exact wC HB _)
variable {F:Nat->Prop} {d:Nat} {S:DS} {b:Nat} {D:DataW Unit} {s:ByteArray} {w w':World}
theorem l7 {w:World} {fb d b arm:Nat} {down:Bool} {f:DF} (h:FileAt w fb f) (hd:DkCells w d b arm down):fb≠d:=by
 rintro rfl;obtain ⟨a,cap,h1,_⟩:=h;have:=h1.symm.trans hd;simp at this
theorem oI {w:World} {fb b n:Nat} {f:DF} {D:DataW Unit} (h:FileAt w fb f) (hm:w.ownsMap prog 9 jL b n D):fb≠b:=by
 rintro rfl;obtain ⟨a,cap,h1,_⟩:=h;obtain ⟨es,cl,hb,_⟩:=hm;have:=h1.symm.trans hb;simp at this
theorem vN {w:World} {d b n arm:Nat} {down:Bool} {D:DataW Unit} (hd:DkCells w d b arm down) (hm:w.ownsMap prog 9 jL b n D):d≠b:=by
 rintro rfl;obtain ⟨es,cl,hb,_⟩:=hm;have:=(show w.heap[d]?=_ from hd).symm.trans hb;simp at this
theorem Fr.lt {w:World} {k:Nat} {o:Obj} (h:w.heap[k]?=some o):k<w.heap.size:=(Array.getElem?_eq_some_iff.1 h).1
theorem FileAt.fr {T:Nat->Prop} {fb:Nat} {f:DF} (h:FileAt w fb f) (hf:Fr T w w') (hT:∀ k,T k->NoByte w k) (hk:¬ T fb):FileAt w' fb f:=by
 obtain ⟨a,cap,h1,h2,h3⟩:=h;exact ⟨a,cap,(hf.block fb (Fr.lt h1) hk).trans h1,h2.fr hf hT,h3⟩
theorem vw {T:Nat->Prop} {n:Nat} (h:w.ownsMap prog 9 jL b n D) (hf:Fr T w w') (hk:¬ T b):w'.ownsMap prog 9 jL b n D:=by
 obtain ⟨es,cl,hb,r⟩:=h;exact ⟨es,cl,(hf.block b (Fr.lt hb) hk).trans hb,r⟩
/-- a disk stays, whatever turns elsewhere -/
theorem DkIn.fr {T:Nat->Prop} (h:DkIn w F d S b D) (hf:Fr T w w') (hT:∀ k,T k->NoByte w k) (hk:∀ k,F k->¬ T k):DkIn w' F d S b D where
 fd:=h.fd
 cells:=(hf.block d (Fr.lt h.cells) (hk d h.fd)).trans h.cells
 fb:=h.fb
 own:=vw h.own hf (hk b h.fb)
 files:=⟨h.files.none,fun s f hg=>let ⟨fb,h1,h2,h3⟩:=h.files.some s f hg;⟨fb,h1,h2,h3.fr hf hT (hk fb h1)⟩,h.files.apart,h.files.has,h.files.size⟩
/-- another number of changes -/
theorem DkIn.setCells {arm:Nat} {down:Bool} (h:DkIn w F d S b D) (hc:DkCells w' d b arm down) (hf:Fr (isR d) w w'):DkIn w' F d { S with arm:=arm,down:=down } b D where
 fd:=h.fd
 cells:=hc
 fb:=h.fb
 own:=vw h.own hf (fun e=>vN h.cells h.own e.symm)
 files:=⟨h.files.none,fun s f hg=>let ⟨fb,h1,h2,h3⟩:=h.files.some s f hg;⟨fb,h1,h2,h3.fr hf (fun k hk=>by subst hk;exact NoByte.disk h.cells) (l7 h3 h.cells)⟩,h.files.apart,h.files.has,h.files.size⟩
/-- the files, one of them another one of its name -/
def jO (l:List DF) (f:DF):List DF:=l.map fun g=>if g.name=f.name then f else g
theorem lw {l:List DF} {s:ByteArray} {f:DF} (h:bY l s=some f):f.name=s:=by
 have:=List.find?_some h;simpa using this
theorem yB (l:List DF) (f:DF) (s:ByteArray):bY (jO l f) s=if s=f.name then (bY l s).map (fun _=>f) else bY l s:=by
 unfold bY jO;induction l with
 | nil=>simp
 | cons g r ih =>
   rw [List.map_cons,List.find?_cons,List.find?_cons];by_cases hg:g.name=f.name
   ·rw [if_pos hg]
    by_cases hs:s=f.name
    ·subst hs;simp [hg]
    ·rw [if_neg hs]
     have e1:decide (f.name=s)=false:=aM (fun e=>hs e.symm);have e2:decide (g.name=s)=false:=by rw [hg];exact e1
     rw [e1,e2];simpa [hs] using ih
   ·rw [if_neg hg]
    by_cases hgs:g.name=s
    ·have hs:¬ s=f.name:=fun e=>hg (hgs.trans e)
     simp [hgs,hs]
    ·simp only [aM hgs]
     exact ih
/-- one file turned in its place -/
theorem DkIn.setFile {fb:Nat} {f g:DF} (h:DkIn w F d S b D) (hg:bY S.f s=some g) (hfb:D.atKey (nk s) .nil=.lit (.int .i64 fb)) (hn:f.name=s) (hf:FileAt w' fb f) (hg0:FileAt w fb g) (hfr:Fr (isR fb) w w') :
 DkIn w' F d { S with f:=jO S.f f } b D:=by
 have hnb:∀ k,isR fb k->NoByte w k:=fun k hk=>by
  subst hk;obtain ⟨a,cap,h1,_⟩:=hg0;exact NoByte.file h1
 have hlen:(jO S.f f).length=S.f.length:=by simp [jO]
 refine ⟨h.fd,(hfr.block d (Fr.lt h.cells) (fun e=>l7 hg0 h.cells e.symm)).trans h.cells,h.fb,?_,?_⟩
 ·show w'.ownsMap prog 9 jL b (jO S.f f).length D
  rw [hlen];exact vw h.own hfr (fun e=>oI hg0 h.own e.symm)
 ·refine ⟨?_,?_,h.files.apart,?_,by rw [hlen];exact h.files.size⟩
  ·intro t ht
   rw [yB] at ht;refine h.files.none t ?_;split at ht
   ·simpa using ht
   ·exact ht
  ·intro t f' ht
   rw [yB] at ht;split at ht
   ·rename_i e
    obtain rfl:t=s:=e.trans hn;rw [hg] at ht;obtain rfl:f=f':=by simpa using ht
    obtain ⟨fb',h1,h2,_⟩:=h.files.some t g hg;obtain rfl:fb'=fb:=by have:=h2.symm.trans hfb;simp at this;omega
    exact ⟨fb',h1,h2,hf⟩
   ·rename_i e
    obtain ⟨fb',h1,h2,h3⟩:=h.files.some t f' ht;refine ⟨fb',h1,h2,h3.fr hfr hnb (fun e2=>?_)⟩;have e3:fb'=fb:=e2;subst e3;exact e ((h.files.apart t s fb' h2 hfb).trans hn.symm)
  ·intro t
   rw [h.files.has,yB];split <;> simp
end Go.Proofs.YthphepeniaemoaaGreat
