/- Slices, bytes, numbers that came in as arguments, out of their readings. Conditions: none. -/
import Derived.Test.YthphepeniaemoaaGreatCel
import Derived.ProofKit
import Derived.Deep.Slices
import Derived.OpenShut
set_option linter.unusedSimpArgs false
set_option linter.unusedVariables false
set_option linter.unnecessarySimpa false
set_option maxHeartbeats 16000000
set_option maxRecDepth 100000
namespace Go.Proofs.YthphepeniaemoaaGreat
open Go.ChangeShapes Go.WideShapes Go.ChangeAt Go.RowKit
section
variable {H:Type} {enc:TypeId×Value->H} {P:Program} {w:World} {base:Nat} {spare:Nat->Bool} {held:Bool}
/-- one field of a struct, read by itself -/
theorem bg {t:TypeId} {fs:Array Field} {fuel:Nat} {cs:List Value} {x:DataW H×List MemPlace} (ht:P.underlying t=some (.struct fs)) (h:DataW.trod enc P w base spare held fuel t cs=some x)
 (i:Nat) (f:Field) (hf:fs[i]?=some f) (n:Nat) (hn:P.cellsOf f.type=n) (sub:List Value) (hsub:(cs.drop f.offset).take n=sub) :
 ∃ y m,DataW.trod enc P w base spare held m f.type sub=some y:=by
 obtain ⟨xs,n',_,hx,_,hlen,hfs⟩:=DataW.trod_struct ht h;have h1:=hfs i f hf;have hi:i<xs.length:=by
  rw [hlen];exact (Array.getElem?_eq_some_iff.1 hf).1
 rw [List.getElem?_eq_getElem hi,hn,hsub] at h1;exact ⟨_,_,h1⟩
theorem zW {α:Type} {R:Nat->α->Prop}:∀ (n:Nat),(∀ i,i<n->∃ x,R i x)->∃ l:List α,l.length=n/\∀ i (hi:i<l.length),R i l[i]
 | 0,_=>⟨[],rfl,fun i hi=>by simp at hi⟩
 | n+1,h=>by
   obtain ⟨l,hl,hr⟩:=zW n (fun i hi=>h i (by omega));obtain ⟨x,hx⟩:=h n (by omega);refine ⟨l++[x],by simp [hl],fun i hi=>?_⟩;by_cases hin:i<l.length
   ·rw [List.getElem_append_left hin];exact hr i hin
   ·have:i=n:=by simp at hi;omega
    subst this;rw [List.getElem_append_right (by omega)];simpa [hl] using hx
theorem cells3 {a:Addr} {cs:List Value} (h:w.cells? base a 3=some cs):∃ c0 c1 c2 b off,cs=[c0,c1,c2]/\a=⟨b,off,none⟩/\w.cell? ⟨b,off,none⟩=some c0/\w.cell? ⟨b,off+1,none⟩=some c1/\w.cell? ⟨b,off+2,none⟩=some c2:=by
 obtain ⟨hb,hl,hc⟩:=World.cells?_some h;match cs,hl with
 | [c0,c1,c2],_ =>
   have h0:=hc 0 (by simp);have h1:=hc 1 (by simp);have h2:=hc 2 (by simp);obtain ⟨b,off,spot⟩:=a;have hs:spot=none:=by simpa [Addr.add] using World.cell?_spot h0
   subst hs;rw [Go.WideShapes.add_plain] at h0 h1 h2;exact ⟨c0,c1,c2,b,off,rfl,rfl,by simpa using h0,by simpa using h1,by simpa using h2⟩
end
section
variable {H:Type} {enc:TypeId×Value->H} {w:World} {base:Nat} {spare:Nat->Bool} {held:Bool}
theorem zB {a:Addr} {n:Nat} {cs:List Value} (h:w.cells? base a n=some cs) (hn:0<n):∃ b off,a=⟨b,off,none⟩/\cs.length=n/\w.rangeAt b off cs:=by
 obtain ⟨hb,hl,hc⟩:=World.cells?_some h;have h0:=hc 0 (by omega);rw [List.getElem?_eq_getElem (by omega)] at h0;obtain ⟨b,off,spot⟩:=a;have hs:spot=none:=by simpa [Addr.add] using World.cell?_spot h0
 subst hs;refine ⟨b,off,rfl,hl,fun j v hv=>?_⟩;have hj:=(List.getElem?_eq_some_iff.1 hv).1;have h1:=hc j (by omega);rw [Go.WideShapes.add_plain] at h1;rw [h1];exact hv
/-- a slice's elements, n cells each: where they lie -/
theorem L8 {a:Addr} {n len:Nat} (hn:0<n) {R:Nat->List Value->Prop} (hel:∀ i,i<len->∃ cs,w.cells? base (a.add (i * n)) n=some cs/\R i cs) :
 len=0\/∃ A off,a=⟨A,off,none⟩/\∀ i,i<len->∃ cs,cs.length=n/\w.rangeAt A (off+i * n) cs/\R i cs:=by
 rcases Nat.eq_zero_or_pos len with h0 | h0
 ·exact bb h0
 ·right
  obtain ⟨A,off,spot⟩:=a;obtain ⟨cs0,hc0,_⟩:=hel 0 h0;obtain ⟨b',off',hab,_⟩:=zB hc0 hn;have hs:spot=none:=by simp [Addr.add] at hab;exact hab.2.2
  subst hs;refine ⟨A,off,rfl,fun i hi=>?_⟩;obtain ⟨cs,hc,hR⟩:=hel i hi;obtain ⟨b',off',hab,hl,hr⟩:=zB hc hn;rw [Go.WideShapes.add_plain] at hab;simp only [Addr.mk.injEq,and_true] at hab;obtain ⟨rfl,rfl⟩:=hab;exact ⟨cs,hl,hr,hR⟩
theorem uZ {α:Type} {A:Nat} (f:α->List Value) (n:Nat):∀ (l:List α) (off:Nat),(∀ i (hi:i<l.length),(f l[i]).length=n/\w.rangeAt A (off+i * n) (f l[i]))->w.rangeAt A off (l.flatMap f)
 | [],off,_=>fun j v hv=>by simp at hv
 | x :: r,off,h=>by
   have h0:=h 0 (by simp);simp only [List.getElem_cons_zero,Nat.zero_mul,Nat.add_zero] at h0;have ih:=uZ f n r (off+n) fun i hi=>by
     have:=h (i+1) (by simp;omega);simp only [List.getElem_cons_succ] at this;rw [show off+n+i * n=off+(i+1) * n by rw [Nat.add_mul];omega];exact this
   intro j v hv;rw [List.flatMap_cons] at hv;by_cases hj:j<(f x).length
   ·rw [List.getElem?_append_left hj] at hv
    exact h0.2 j v hv
   ·rw [List.getElem?_append_right (by omega),h0.1] at hv
    have:=ih (j - n) v hv;rwa [show off+n+(j - n)=off+j by omega] at this
/-- a slice of structs, out of its reading: f: an element's cells -/
theorem open_list {α:Type} (T E:TypeId) (hT:Tryz.prog.underlying T=some (.slice E)) (n:Nat) (hn:0<n) (hc:Tryz.prog.cellsOf E=n) (f:α->List Value) (Pr:α->Prop)
 (hE:∀ m cs x,cs.length=n->DataW.trod enc Tryz.prog w 0 spare held m E cs=some x->∃ y,cs=f y/\Pr y) {fuel:Nat} {cs:List Value} {x:DataW H×List MemPlace} (h:DataW.trod enc Tryz.prog w 0 spare held fuel T cs=some x) :
 ∃ (a:Option Addr) (l:List α) (cap:Nat),cs=[.slice a l.length cap]/\CellsIn w a (l.flatMap f)/\(∀ y∈l,Pr y)/\l.length<=maxLen/\l.length<=cap:=by
 rcases Deep.open_slice hT h with ⟨rfl,_⟩ | ⟨a,len,cap,m,k,D,Pl,rfl,_,hl,hm,hmm,_,hel⟩
 ·exact ⟨none,[],0,rfl,bb rfl,fun y hy=>(nomatch hy),Nat.zero_le _,ar _⟩
 have hlm:len<=m:=by rw [hmm];split <;> omega
 rw [hc] at hel;have hrows:=L8 (a:=a) (n:=n) (len:=len) hn (R:=fun i cs=>∃ y,cs=f y/\Pr y) (fun i hi=>by
  obtain ⟨cs',hcs,ht⟩:=hel i (by omega);obtain ⟨_,hlen,_⟩:=World.cells?_some hcs;exact ⟨cs',hcs,hE _ _ _ hlen ht⟩)
 rcases hrows with h0 | ⟨A,off,rfl,hr⟩
 ·subst h0
  exact ⟨some a,[],cap,rfl,bb rfl,fun y hy=>(nomatch hy),Nat.zero_le _,Nat.zero_le _⟩
 ·obtain ⟨l,hll,hlr⟩:=zW (R:=fun i (y:α)=>(f y).length=n/\w.rangeAt A (off+i * n) (f y)/\Pr y) len (fun i hi=>by
   obtain ⟨cs',hlen,hrg,y,rfl,hp⟩:=hr i hi;exact ⟨y,hlen,hrg,hp⟩)
  subst hll;refine ⟨some ⟨A,off,none⟩,l,cap,rfl,bd ⟨A,off,rfl,?_⟩,fun y hy=>?_,by omega,hl⟩
  ·exact uZ f n l off fun i hi=>⟨(hlr i hi).1,(hlr i hi).2.1⟩
  ·obtain ⟨i,hi,rfl⟩:=List.getElem_of_mem hy
   exact (hlr i hi).2.2
end
end Go.Proofs.YthphepeniaemoaaGreat
