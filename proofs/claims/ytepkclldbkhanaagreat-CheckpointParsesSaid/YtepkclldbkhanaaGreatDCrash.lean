/- The plain disk: its files lie in order; what keeps so. Conditions: none. -/
import Derived.Test.YtepkclldbkhanaaGreatDiskN
import Derived.Test.YtepkclldbkhanaaGreatDRefF
import Derived.Sort.KeysCollected
set_option linter.unusedSimpArgs false
set_option linter.unusedVariables false
set_option linter.unnecessarySimpa false
set_option maxHeartbeats 16000000
set_option maxRecDepth 100000
open Go.Proofs.Tryz
namespace Go.Proofs.YtepkclldbkhanaaGreat
open Go.RowKit
theorem kD {a b:ByteArray}:lw a b=true↔bl a<bl b:=by unfold lw;simp
theorem Ff {a b c:ByteArray} (h:lw a b=true) (k:lw b c=true):lw a c=true:=kD.2 (List.lt_trans (kD.1 h) (kD.1 k))
theorem CZ (a:ByteArray):lw a a=false:=by
 rw [Bool.eq_false_iff];intro h;exact List.lt_irrefl _ (kD.1 h)
theorem ni {a b:ByteArray} (h:lw a b=true):a≠b:=by
 rintro rfl;rw [CZ] at h;cases h
theorem JU {a b:ByteArray} (h:lw a b=false) (hne:a≠b):lw b a=true:=by
 rw [kD];have h1:¬ bl a<bl b:=fun e=>by rw [kD.2 e] at h;cases h
 have h2:bl b≤bl a:=List.not_lt.1 h1;rcases Decidable.em (bl b<bl a) with e | e
 ·exact e
 ·exact absurd (kY (List.le_antisymm (List.not_lt.1 e) h2)) hne
/-- files by names -/
def Srt (l:List DF):Prop:=l.Pairwise fun f g=>lw f.name g.name=true
theorem Srt.uniq {l:List DF} (h:Srt l):Uniq l:=h.imp fun h=>ni h
theorem Srt.del {l:List DF} (h:Srt l) (s:ByteArray):Srt (mf l s):=h.filter _
theorem Bg {x f:DF}:∀ {l:List DF},x∈xB l f→x=f∨x∈l
 | [],h=>by simpa [xB] using h
 | g :: r,h=>by
   unfold xB at h;split at h
   ·rcases List.mem_cons.1 h with h | h
    ·exact Or.inr (by simp [h])
    ·rcases Bg h with h | h
     ·exact Or.inl h
     ·exact Or.inr (List.mem_cons_of_mem _ h)
   ·rcases List.mem_cons.1 h with h | h
    ·exact Or.inl h
    ·exact Or.inr h
theorem Srt.ins {f:DF}:∀ {l:List DF},Srt l→(∀ g∈l,g.name≠f.name)→Srt (xB l f)
 | [],_,_=>List.pairwise_singleton _ _
 | g :: r,h,hne=>by
   obtain ⟨h1,h2⟩:=List.pairwise_cons.1 h;unfold xB;split
   ·rename_i hlt
    refine List.pairwise_cons.2 ⟨fun x hx=>?_,Srt.ins h2 fun x hx=>hne x (List.mem_cons_of_mem _ hx)⟩;rcases Bg hx with rfl | hx
    ·exact hlt
    ·exact h1 x hx
   ·rename_i hlt
    have hfg:=JU (Bool.eq_false_iff.2 hlt) (hne g (by simp));refine List.pairwise_cons.2 ⟨fun x hx=>?_,h⟩;rcases List.mem_cons.1 hx with rfl | hx
    ·exact hfg
    ·exact Ff hfg (h1 x hx)
theorem RZ {l:List DF} {s:ByteArray}:∀ g∈mf l s,g.name≠s:=fun g hg=>by
 have:=(List.mem_filter.1 hg).2;simpa using this
theorem Srt.put {l:List DF} (h:Srt l) (f:DF):Srt (pM l f):=(h.del _).ins RZ
theorem Srt.names {l m:List DF} (h:Srt l) (hn:m.map (·.name)=l.map (·.name)):Srt m:=by
 have h1:(l.map (·.name)).Pairwise fun a b=>lw a b=true:=List.pairwise_map.2 h;rw [← hn] at h1;exact List.pairwise_map.1 h1
theorem Jy (l:List DF) (f:DF):(nH l f).map (·.name)=l.map (·.name):=by
 unfold nH;rw [List.map_map];refine List.map_congr_left fun g _=>?_;simp only [Function.comp];split
 ·rename_i h;exact h.symm
 ·rfl
theorem Srt.set {l:List DF} (h:Srt l) (f:DF):Srt (nH l f):=h.names (Jy l f)
/-! ### what keeps so -/
structure FOk (f:DF):Prop where
 name:ed f.name=true
 len:f.b.length≤16777216
 safe:f.safe≤f.b.length
structure DInv (S:DS):Prop where
 srt:Srt S.f
 len:S.f.length≤8
 arm:S.arm≤1048576
 ok:∀ f∈S.f,FOk f
theorem rJ {l:List DF} {s:ByteArray} {f:DF} (h:fJ l s=some f):f∈l:=List.mem_of_find?_eq_some h
theorem BU {l:List DF} {s:ByteArray}:∀ f∈mf l s,f∈l:=fun f h=>(List.mem_filter.1 h).1
theorem Am {l:List DF} {f x:DF} (h:x∈pM l f):x=f∨x∈l:=by
 rcases Bg h with h | h
 ·exact Or.inl h
 ·exact Or.inr (BU _ h)
theorem Pn {l:List DF} {f x:DF} (h:x∈nH l f):x=f∨x∈l:=by
 obtain ⟨y,hy,rfl⟩:=List.mem_map.1 h;split
 ·exact Or.inl rfl
 ·exact Or.inr hy
theorem Iw (l:List DF) (s:ByteArray):(mf l s).length≤l.length:=List.length_filter_le _ _
theorem DInv.change {S:DS} (h:DInv S):DInv S.change:=⟨h.srt,h.len,by show S.arm - 1≤1048576;have:=h.arm;omega,h.ok⟩
theorem DInv.sync {S:DS} (h:DInv S) (s:ByteArray):DInv (S.sync s).1:=by
 unfold DS.sync;split
 ·split
  ·exact h
  ·rename_i f hg
   split
   ·exact h.change
   ·refine ⟨h.srt.set _,by show (nH S.f _).length≤8;unfold nH;rw [List.length_map];exact h.len,h.change.arm,fun x hx=>?_⟩
    rcases Pn hx with rfl | hx
    ·have:=h.ok f (rJ hg);exact ⟨this.name,this.len,Nat.le_refl _⟩
    ·exact h.ok x hx
 ·exact h
theorem DInv.remove {S:DS} (h:DInv S) (s:ByteArray):DInv (S.remove s).1:=by
 unfold DS.remove;split
 ·split
  ·exact h
  ·split
   ·exact h.change
   ·exact ⟨h.srt.del _,Nat.le_trans (Iw _ _) h.len,h.change.arm,fun x hx=>h.ok x (BU x hx)⟩
 ·exact h
theorem DInv.append {S:DS} (h:DInv S) (s:ByteArray) (l:Bytes):DInv (S.append s l).1:=by
 unfold DS.append;split
 ·rename_i hok
  split
  ·rename_i hg
   split
   ·exact h
   ·rename_i h8
    split
    ·exact h
    ·rename_i hl
     split
     ·exact h.change
     ·refine ⟨h.srt.put _,?_,h.change.arm,fun x hx=>?_⟩
      ·show (pM S.f ⟨s,l,0⟩).length≤8
       rw [vw h.srt.uniq,hg];simp only [Option.isSome_none,Bool.false_eq_true,if_false];omega
      ·rcases Am hx with rfl | hx
       ·exact ⟨hok,by show l.length≤16777216;omega,Nat.zero_le _⟩
       ·exact h.ok x hx
  ·rename_i f hg
   split
   ·exact h
   ·rename_i hl
    split
    ·exact h.change
    ·have hf:=h.ok f (rJ hg)
     refine ⟨h.srt.put _,?_,h.change.arm,fun x hx=>?_⟩
     ·show (pM S.f _).length≤8
      rw [vw h.srt.uniq];simp only [sQ hg,hg,Option.isSome_some,if_true];exact h.len
     ·rcases Am hx with rfl | hx
      ·exact ⟨hf.name,by show (f.b++l).length≤16777216;rw [List.length_append];omega,by show f.safe≤(f.b++l).length;have:=hf.safe;rw [List.length_append];omega⟩
      ·exact h.ok x hx
 ·exact h
theorem DInv.rename {S:DS} (h:DInv S) (s t:ByteArray):DInv (S.rename s t).1:=by
 unfold DS.rename;split
 ·rename_i hot
  split
  ·split
   ·exact h
   ·rename_i f hg
    split
    ·exact h.change
    ·have hf:=h.ok f (rJ hg)
     refine ⟨(h.srt.del _).put _,?_,h.change.arm,fun x hx=>?_⟩
     ·show (pM (mf S.f s) _).length≤8
      rw [vw (h.srt.del _).uniq];have:=wL h.srt.uniq hg;have:=h.len;split <;> omega
     ·rcases Am hx with rfl | hx
      ·exact ⟨hot,hf.len,hf.safe⟩
      ·exact h.ok x (BU x hx)
  ·exact h
 ·exact h
theorem OD {f:DF} (h:FOk f) (ks:Ks):FOk (jR ks f):=by
 have hc:=xP (kE ks f.name) (f.b.length - f.safe);have h1:=h.safe;have h2:=h.len;refine ⟨h.name,?_,?_⟩
 ·show (f.b.take _).length≤_
  rw [List.length_take];omega
 ·show f.safe+_≤(f.b.take _).length
  rw [List.length_take];omega
theorem DInv.crash {S:DS} (h:DInv S) (ks:Ks):DInv (S.crash ks):=by
 refine ⟨h.srt.names ?_,by show (S.f.map _).length≤8;rw [List.length_map];exact h.len,Nat.zero_le _,fun x hx=>?_⟩
 ·show (S.f.map (jR ks)).map (·.name)=_
  rw [List.map_map];rfl
 ·obtain ⟨y,hy,rfl⟩:=List.mem_map.1 hx
  exact OD (h.ok y hy) ks
theorem DInv.new:DInv ⟨[],0,false⟩:=⟨List.Pairwise.nil,by simp,by simp,fun f hf=>nomatch hf⟩
end Go.Proofs.YtepkclldbkhanaaGreat
/- The disk: Names: the files' names, in order. Conditions: at most 8 files, in order. -/
namespace Go.Proofs.YtepkclldbkhanaaGreat
open Go.RowKit Go.Maps Go.Sort
variable {F:Nat→Prop} {d:Nat} {S:DS} {b:Nat} {D:DataW Unit} {s:ByteArray} {w w':World}
def lM (l:List DF):List Value:=l.map fun f=>.string f.name
theorem um {l:List DF} {s:ByteArray}:(fJ l s).isSome=true↔∃ f∈l,f.name=s:=by
 unfold fJ;rw [List.find?_isSome];simp
theorem AO (h:DkIn w F d S b D) (hs:Srt S.f):(S.f.map fun f=>bl f.name).Perm (strKeys D):=by
 refine Collected.perm (left:=fun _=>false) ⟨?_,fun x=>?_⟩ h.own vF underlying9 (fun _=>rfl)
 ·refine List.pairwise_map.2 (hs.imp fun {a b} hlt e=>?_)
  exact ni hlt (kY e)
 ·have hh:=h.files.has (mkS x)
  rw [show nk (mkS x)=.string x from rfl] at hh;rw [hh,um];simp only [and_true,List.mem_map];constructor
  ·rintro ⟨f,hf,rfl⟩;exact ⟨f,hf,(Fg _).symm⟩
  ·rintro ⟨f,hf,e⟩;exact ⟨f,hf,by rw [e];rfl⟩
theorem Fe (h:DkIn w F d S b D) (hs:Srt S.f) {ss:List (List UInt8)} (hp:ss.Perm (strKeys D)):ss.mergeSort (fun x y=>decide (x≤y))=S.f.map fun f=>bl f.name:=by
 have e1:=mergeSort_of_perm (hp.trans (AO h hs).symm);refine e1.trans (List.mergeSort_of_pairwise ?_);refine List.pairwise_map.2 (hs.imp fun {a b} hlt=>?_);simp only [leB,decide_eq_true_eq];exact List.le_of_lt (kD.1 hlt)
theorem OY (h:DkIn w F d S b D) (hs:Srt S.f) (h8:S.f.length≤8):Calls prog 45 #[.pointer (some ⟨d,0,none⟩)] w fun e w'=>∃ a cap,e=.returned (.slice a S.f.length cap)∧CellsIn w' a (lM S.f)∧Below w.heap.size w w':=by
 refine (OZ h h8).mono ?_;rintro e w' ⟨v,ss,rfl,hp,hrow,_,hb⟩;rw [Fe h hs hp] at hrow;have hlen:ss.length=S.f.length:=by have:=(hp.trans (AO h hs).symm).length_eq;rwa [List.length_map] at this
 have he:(S.f.map fun f=>bl f.name).map encStr=lM S.f:=by
  rw [List.map_map];refine List.map_congr_left fun f _=>?_;show encStr (bl f.name)=_;unfold encStr;rfl
 rw [he,hlen] at hrow;obtain ⟨a,cap,rfl,hc,_⟩:=iV hrow;exact ⟨a,cap,rfl,hc,hb⟩
variable {F:Nat→Prop} {d:Nat} {S:DS} {b:Nat} {D:DataW Unit} {s:ByteArray} {w w':World}
abbrev LK (p:ByteArray×Int):List Value:=[.string p.1,.int .i64 p.2]
def kcs:Ks→List Value
 | []=>[]
 | p :: l=>LK p++kcs l
theorem J5 (l:Ks):(kcs l).length=l.length * 2:=by
 induction l with
 | nil=>rfl
 | cons g l ih=>simp only [kcs,List.length_append,ih,List.length_cons,List.length_nil];omega
theorem Hl:∀ (l:Ks) (k:Nat),(kcs l).drop (k * 2)=kcs (l.drop k)
 | l,0=>by simp
 | [],k+1=>by simp [kcs]
 | g :: l,k+1=>by
   rw [show (k+1) * 2=k * 2+2 by omega,List.drop_succ_cons,← Hl l k];simp [kcs]
theorem TQ {w:World} {a:Option Addr} {ks:Ks} (h:CellsIn w a (kcs ks)) {k:Nat} (hk:k<ks.length) :
 ∃ A off,a=some ⟨A,off,none⟩∧w.cell? ⟨A,off+k * 2,none⟩=some (.string ks[k].1)∧w.cell? ⟨A,off+k * 2+1,none⟩=some (.int .i64 ks[k].2):=by
 have hd:(kcs ks).drop (k * 2)=LK ks[k]++kcs (ks.drop (k+1)):=by rw [Hl,List.drop_eq_getElem_cons hk];rfl
 rcases h with h | ⟨A,off,h1,h2⟩
 ·have:=congrArg List.length h
  rw [J5] at this;simp at this;omega
 ·refine ⟨A,off,h1,h2 (k * 2) _ ?_,?_⟩
  ·have:=congrArg (·[0]?) hd
   simpa using this
  ·have:=h2 (k * 2+1) (.int .i64 ks[k].2) (by have:=congrArg (·[1]?) hd;simpa using this)
   rwa [← Nat.add_assoc] at this
/-- cells that begin with a text stay, whatever turns where no text lies -/
theorem CellsIn.frS {T:Nat→Prop} {a:Option Addr} {cs:List Value} (h:CellsIn w a cs) (hf:Fr T w w') (hT:∀ k,T k→I8 w k) (h0:cs=[]∨∃ t,cs[0]?=some (.string t)):CellsIn w' a cs:=by
 rcases h with h | ⟨A,off,h1,h2⟩
 ·exact Or.inl h
 ·rcases h0 with h0 | ⟨t,h0⟩
  ·exact Or.inl h0
  ·exact Or.inr ⟨A,off,h1,fun j v hv=>hf.kept (h2 j v hv) (fun hA=>hT A hA _ _ (h2 0 _ h0))⟩
theorem PU (ks:Ks):kcs ks=[]∨∃ t,(kcs ks)[0]?=some (.string t):=by
 cases ks with
 | nil=>exact Or.inl rfl
 | cons p r=>exact Or.inr ⟨p.1,rfl⟩
theorem CY (l:List DF):lM l=[]∨∃ t,(lM l)[0]?=some (.string t):=by
 cases l with
 | nil=>exact Or.inl rfl
 | cons p r=>exact Or.inr ⟨p.name,rfl⟩
theorem DkCells.noStr {w:World} {k b arm:Nat} {down:Bool} (h:DkCells w k b arm down):I8 w k:=by
 exact z118
theorem FileAt.noStr {w:World} {fb:Nat} {f:DF} (h:FileAt w fb f):I8 w fb:=by
 obtain ⟨a,cap,h1,_⟩:=h;intro o c e;simp only [World.cell?,h1] at e;match o,e with
 | 0,e=>simp at e
 | 1,e=>simp at e
 | o+2,e=>simp at e
/-- a map of numbers by names -/
abbrev KeepMap (w:World) (M n:Nat) (E:DataW Unit):Prop:=w.ownsMap prog 9 (plainElem prog 3) M n E
theorem KeepMap.keep {M n:Nat} {E:DataW Unit} (h:KeepMap w M n E) (hk:w'.heap[M]?=w.heap[M]?):KeepMap w' M n E:=by
 obtain ⟨es,cl,hb,r⟩:=h;exact ⟨es,cl,hk.trans hb,r⟩
theorem KeepMap.lt {M n:Nat} {E:DataW Unit} (h:KeepMap w M n E):M<w.heap.size:=by
 obtain ⟨es,cl,hb,r⟩:=h;exact (Array.getElem?_eq_some_iff.1 hb).1
/-- the map has the last number of each name -/
def KeepIs (E:DataW Unit) (ks:Ks):Prop:=∀ s:ByteArray,E.atKey (nk s) (.lit (.int .i64 0))=.lit (.int .i64 (kE ks s))
theorem KeepIs.put {E:DataW Unit} {ks:Ks} {k:Nat} (h:KeepIs E (ks.take k)) (hm:Maps.IsMap E) (hk:k<ks.length):KeepIs (E.put (nk ks[k].1) (.lit (.int .i64 ks[k].2))) (ks.take (k+1)):=by
 intro s;rw [G9 ks k hk];by_cases e:ks[k].1=s
 ·rw [if_pos e,e,Maps.atKey_put_same hm (rE s)]
 ·rw [if_neg e,Maps.atKey_put_other (fun e2=>e (lu e2).symm),h s]
theorem PW {n:Int} (h:(Lit.int .i64 n).wf=true):plainElem (H:=Unit) prog 3 (.int .i64 n)=some (.lit (.int .i64 n),[]):=plainElem_int underlying3 h
theorem TG {l:List DF} (hs:Srt l) {f g:DF} (hf:f∈l) (hg:g∈l) (hn:f.name=g.name):f=g:=by
 obtain ⟨i,hi,rfl⟩:=List.getElem_of_mem hf;obtain ⟨j,hj,rfl⟩:=List.getElem_of_mem hg;rcases Nat.lt_trichotomy i j with h | h | h
 ·exact absurd hn (ni (List.pairwise_iff_getElem.1 hs i j hi hj h))
 ·subst h;rfl
 ·exact absurd hn.symm (ni (List.pairwise_iff_getElem.1 hs j i hj hi h))
/-- so many files are behind a crash -/
def jb (S:DS) (ks:Ks) (k:Nat):DS:=⟨(S.f.take k).map (jR ks)++S.f.drop k,0,false⟩
theorem FO (S:DS) (ks:Ks):jb S ks 0=⟨S.f,0,false⟩:=by simp [jb]
theorem Iz (S:DS) (ks:Ks):jb S ks S.f.length=S.crash ks:=by simp [jb,DS.crash]
theorem Dp (S:DS) (ks:Ks) (k:Nat):(jb S ks k).f.map (·.name)=S.f.map (·.name):=by
 show ((S.f.take k).map (jR ks)++S.f.drop k).map (·.name)=_;rw [List.map_append,List.map_map];conv=>rhs;rw [← List.take_append_drop k S.f,List.map_append]
 rfl
theorem BV {S:DS} {ks:Ks} {k:Nat} (hs:Srt S.f) (h:k<S.f.length):fJ (jb S ks k).f S.f[k].name=some S.f[k]:=by
 have hsk:Srt (jb S ks k).f:=hs.names (Dp S ks k);have hmem:S.f[k]∈(jb S ks k).f:=List.mem_append_right _ (List.mem_drop_iff_getElem.2 ⟨0,by omega,by simp⟩);obtain ⟨f,hf⟩:=Option.isSome_iff_exists.1 (um.2 ⟨_,hmem,rfl⟩);have h1:=rJ hf;have h2:=sQ hf;rw [hf];congr 1
 exact TG hsk h1 hmem h2
theorem FP {S:DS} {ks:Ks} {k:Nat} (hs:Srt S.f) (h:k<S.f.length):nH (jb S ks k).f (jR ks S.f[k])=(jb S ks (k+1)).f:=by
 have hsk:Srt S.f:=hs;have hne:∀ i (hi:i<S.f.length),i≠k→S.f[i].name≠S.f[k].name:=fun i hi hik e=>by
  rcases Nat.lt_or_gt_of_ne hik with h1 | h1
  ·exact ni (List.pairwise_iff_getElem.1 hs i k hi h h1) e
  ·exact ni (List.pairwise_iff_getElem.1 hs k i h hi h1) e.symm
 show nH ((S.f.take k).map (jR ks)++S.f.drop k) _=(S.f.take (k+1)).map (jR ks)++S.f.drop (k+1);unfold nH;rw [List.map_append,List.take_succ_eq_append_getElem h,List.map_append,List.append_assoc,List.drop_eq_getElem_cons h,List.map_cons];congr 1
 ·conv=>rhs;rw [← List.map_id ((S.f.take k).map (jR ks))]
  refine List.map_congr_left fun x hx=>if_neg ?_;obtain ⟨y,hy,rfl⟩:=List.mem_map.1 hx;obtain ⟨i,hi,rfl⟩:=List.mem_take_iff_getElem.1 hy;exact hne i (by omega) (by omega)
 ·rw [show (S.f[k].name=(jR ks S.f[k]).name) from rfl]
  simp only [if_true,List.map_cons,List.map_nil,List.cons_append,List.nil_append];congr 1
  conv=>rhs;rw [← List.map_id (S.f.drop (k+1))]
  refine List.map_congr_left fun x hx=>if_neg ?_;obtain ⟨i,hi,rfl⟩:=List.mem_drop_iff_getElem.1 hx;exact hne _ (by omega) (by omega)
end Go.Proofs.YtepkclldbkhanaaGreat
