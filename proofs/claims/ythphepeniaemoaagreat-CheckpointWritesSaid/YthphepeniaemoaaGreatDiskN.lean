/- The disk: Read, Sync. Conditions: as in the text. -/
import Derived.Test.YthphepeniaemoaaGreatDiskF
set_option linter.unusedSimpArgs false
set_option linter.unusedVariables false
set_option linter.unnecessarySimpa false
set_option maxHeartbeats 16000000
set_option maxRecDepth 100000
open Go.Proofs.Tryz
namespace Go.Proofs.YthphepeniaemoaaGreat
open Go.RowKit
variable {F:Nat->Prop} {d:Nat} {S:DS} {b:Nat} {D:DataW Unit} {s:ByteArray} {w w':World}
theorem DkIn.mono {G:Nat->Prop} (h:DkIn w F d S b D) (hG:∀ k,F k->G k):DkIn w G d S b D :=
 ⟨hG _ h.fd,h.cells,hG _ h.fb,h.own,h.files.none,fun s f hg=>let ⟨fb,h1,h2,h3⟩:=h.files.some s f hg;⟨fb,hG _ h1,h2,h3⟩,h.files.apart,h.files.has,h.files.size⟩
/-- a change of a disk: its answer, the disk behind it; what was there ahead and is not the disk's stays -/
def RetDk (F:Nat->Prop) (d b:Nat) (S':DS) (c:Int) (w:World) (e:Ending) (w':World):Prop :=
 e=.returned (.int .i64 c)/\(∃ D',DkIn w' (grow F w) d S' b D')/\Fr F w w'
theorem RetDk.same {c:Int} (h:DkIn w F d S b D):RetDk F d b S c w (.returned (.int .i64 c)) w:=⟨rfl,⟨D,h.mono fun _ g=>bb g⟩,Fr.refl _ _⟩
/-! ### Read -/
/-- why a file's bytes are not told: 17 nil, 1 form, 10 none, 12 down; 0 -/
def sJ (S:DS) (s:ByteArray):Int:=if bK s then (match bY S.f s with | none=>10 | some _=>if S.down then 12 else 0) else 1
theorem TG (hs:s.size<=maxLen) (h:DkIn w F d S b D) (hE:sJ S s≠0) :
 Calls prog 45 #[.pointer (some ⟨d,0,none⟩),.string s] w fun e w'=>e=.returned (.tuple #[.slice none 0 0,.int .i64 (sJ S s)])/\w=w':=by
 by_cases hok:bK s=true
 case neg =>
  have HN:=aq (nM (d:=d) (w:=w) hs rfl (Bool.eq_false_iff.2 hok));have hr:sJ S s=1:=by unfold sJ;rw [if_neg hok]
  rw [hr];clear h hok hr hE;go_enter func45,ntmps45;go_wp2_with (go_at_call 69;(with_reducible refine HN.out.mono ?_);rintro e w1 ⟨rfl,rfl⟩)
  all_goals
   go_ret2;exact ⟨rfl,rfl⟩
 case pos =>
 cases hg:bY S.f s with
 | none =>
   have HN:=aq (nK hs h hok hg);have hr:sJ S s=10:=by unfold sJ;rw [if_pos hok,hg]
   rw [hr];clear h hok hr hg hE;go_enter func45,ntmps45;go_wp2_with (go_at_call 69;(with_reducible refine HN.out.mono ?_);rintro e w1 ⟨rfl,rfl⟩)
   all_goals
    go_ret2;exact ⟨rfl,rfl⟩
 | some f =>
   have hd:S.down=true:=by
    cases hd:S.down with
    | true=>rfl
    | false=>exact absurd (by unfold sJ;rw [if_pos hok,hg,hd];rfl) hE
   obtain ⟨fb,h1,h2,a,cap,h3,h4,h5⟩:=h.files.some s f hg;have HN:=aq (lD hs h hok h2);have hr:sJ S s=12:=by unfold sJ;rw [if_pos hok,hg,hd];rfl
   rw [hr];obtain ⟨q0,q1,q2,g0,g1,g2⟩:=dL h.cells;rw [hd] at q2;clear h hok hr hg h2 h3 h4 hE;go_enter func45,ntmps45;go_wp2_with (go_at_call 69;(with_reducible refine HN.out.mono ?_);rintro e w1 ⟨rfl,rfl⟩)
   all_goals
    go_ret2;exact ⟨rfl,rfl⟩
theorem Js {f:DF} (hs:s.size<=maxLen) (h:DkIn w F d S b D) (hok:bK s=true) (hg:bY S.f s=some f) (hd:S.down=false) (hl:f.b.length<=1073741824) :
 Calls prog 45 #[.pointer (some ⟨d,0,none⟩),.string s] w fun e w'=>∃ v,e=.returned (.tuple #[v,.int .i64 0])/\w'.ownsRow w.heap.size 5 1 v f.b.length (aA f.b)/\Below w.heap.size w w':=by
 obtain ⟨fb,h1,h2,h3⟩:=h.files.some s f hg;have HN:=aq (lD hs h hok h2);have HA:=aq (TA hl h3);obtain ⟨q0,q1,q2,g0,g1,g2⟩:=dL h.cells;rw [hd] at q2;clear h hok hg h2 h3;go_enter func45,ntmps45;go_wp2_with (first
  | (go_at_call 69;(with_reducible refine HN.out.mono ?_);rintro e w1 ⟨rfl,rfl⟩)
  | (go_at_call 86;(with_reducible refine HA.out.mono ?_);rintro e w1 ⟨v,rfl,hown,hb⟩))
 all_goals
  go_ret2;exact ⟨v,rfl,hown,hb⟩
/-! ### Sync -/
def DS.sync (S:DS) (s:ByteArray):DS×Int :=
 if bK s then (match bY S.f s with
    | none=>(S,10)
    | some f=>if S.change.down then (S.change,12) else ({ S.change with f:=jO S.f { f with safe:=f.b.length } },0)) else (S,1)
theorem FileAt.setSafe {fb:Nat} {f:DF} (h:FileAt w fb f) (n:Nat):FileAt (w.setCell ⟨fb,1,none⟩ (.int .i64 n)) fb { f with safe:=n }:=by
 obtain ⟨a,cap,h1,h2,h3⟩:=h;exact ⟨a,cap,Gz h1 _,h2.fr (S:=isR fb) (dW _) (fun k hk=>by subst hk;exact NoByte.file h1),h3⟩
theorem z60 {p : Prop} (h : p := by
 go_wp2_with (go_at_call 69; (with_reducible refine HN.out.mono ?_); rintro e w1 ⟨rfl, rfl⟩)
 all_goals
  go_ret
  exact RetDk.same HD.out) : p := h
theorem z58 {p : Prop} (h : p := by
 go_wp2_with (first
     | (go_at_call 69; (with_reducible refine HN.out.mono ?_); rintro e w1 ⟨rfl, rfl⟩)
     | (go_at_call 70; (with_reducible refine HC.out.mono ?_); rintro e w2 ⟨rfl, hc2, hf2⟩))
 all_goals
     go_ret
     exact ⟨rfl, ⟨D, ((HD.out.setCells (by rw [<- HE.out] at hc2; exact hc2) hf2).mono fun _ g => bb g)⟩, hf2.mono fun k _ hk => by subst hk; exact HD.out.fd⟩) : p := h
theorem Ri (hs:s.size<=maxLen) (h:DkIn w F d S b D) (ha:S.arm<=1048576) :
 Calls prog 30 #[.pointer (some ⟨d,0,none⟩),.string s] w (RetDk F d b (S.sync s).1 (S.sync s).2 w):=by
 by_cases hok:bK s=true
 case neg =>
  have HN:=aq (nM (d:=d) (w:=w) hs rfl (Bool.eq_false_iff.2 hok));have hr:S.sync s=(S,1):=by unfold DS.sync;rw [if_neg hok]
  rw [hr];have HD:=aq h;clear h hok hr;go_enter func30,ntmps30
  exact z60
 case pos =>
 cases hg:bY S.f s with
 | none =>
   have HN:=aq (nK hs h hok hg);have hr:S.sync s=(S,10):=by unfold DS.sync;rw [if_pos hok,hg]
   rw [hr];have HD:=aq h;clear h hok hr hg;go_enter func30,ntmps30;go_wp2_with (go_at_call 69;(with_reducible refine HN.out.mono ?_);rintro e w1 ⟨rfl,rfl⟩)
   all_goals
    go_ret;exact RetDk.same HD.out
 | some f =>
   obtain ⟨fb,h1,h2,h3⟩:=h.files.some s f hg;have HN:=aq (lD hs h hok h2);have HC:=aq (oN d b S.arm S.down w h.cells ha);have HD:=aq h;have H1:=aq h1;have H2:=aq h2;have H3:=aq h3;have HG:=aq hg;have hfd:=l7 h3 h.cells;by_cases hc:chg S.arm S.down=true
   ·have hr:S.sync s=(S.change,12):=by unfold DS.sync;rw [if_pos hok,hg];exact if_pos hc
    rw [hr];rw [hc,if_pos rfl] at HC;have HE:Hid (chg S.arm S.down=true):=hc;clear h hok hr hg h1 h2 h3 hc;go_enter func30,ntmps30
    exact z58
   ·have hc':chg S.arm S.down=false:=Bool.eq_false_iff.2 hc
    have hr:S.sync s=({ S.change with f:=jO S.f { f with safe:=f.b.length } },0):=by unfold DS.sync;rw [if_pos hok,hg];exact if_neg hc
    rw [hr];rw [hc',if_neg (by decide)] at HC;have HE:Hid (chg S.arm S.down=false):=hc';clear h hok hr hg h1 h2 h3 hc hc';go_enter func30,ntmps30;go_wp2_with (first
        | (go_at_call 69;(with_reducible refine HN.out.mono ?_);rintro e w1 ⟨rfl,rfl⟩)
        | (go_at_call 70;(with_reducible refine HC.out.mono ?_);rintro e w2 ⟨rfl,hc2,hf2⟩;have hF2:=H3.out.fr hf2 (fun k hk=>by subst hk;exact NoByte.disk HD.out.cells) hfd;have HF2:=aq hF2;obtain ⟨a,cap,b1,b2,b3⟩:=hF2;obtain ⟨p0,p1,f0,f1⟩:=fG b1;clear b1 b2 b3))
    all_goals
        go_ret;have hD2:=HD.out.setCells (by rw [<- HE.out] at hc2;exact hc2) hf2;have hD3:=DkIn.setFile (g:=f) (f:={ f with safe:=f.b.length }) hD2 HG.out H2.out (show f.name=s from lw HG.out) (HF2.out.setSafe _) HF2.out (dW _);exact ⟨rfl,⟨D,hD3.mono fun _ g=>bb g⟩,(hf2.mono fun k _ hk=>by subst hk;exact HD.out.fd).again ((dW _).mono fun k _ hk=>by subst hk;exact H1.out)⟩
variable {F:Nat->Prop} {d:Nat} {S:DS} {b:Nat} {D:DataW Unit} {s:ByteArray} {w w':World}
/-! ### Remove -/
def jH (l:List DF) (s:ByteArray):List DF:=l.filter fun f => !decide (f.name=s)
theorem qo (l:List DF) (s t:ByteArray):bY (jH l s) t=if t=s then none else bY l t:=by
 unfold bY jH;induction l with
 | nil=>simp
 | cons g r ih =>
   by_cases hg:g.name=s
   ·rw [List.filter_cons_of_neg (by simp [hg]),List.find?_cons,ih]
    by_cases ht:t=s
    ·simp [ht]
    ·have e:decide (g.name=t)=false:=aM (fun e=>ht (e.symm.trans hg))
     rw [e]
   ·rw [List.filter_cons_of_pos (by simp [hg]),List.find?_cons,List.find?_cons,ih]
    by_cases ht:t=s
    ·subst ht
     simp [hg]
    ·simp [ht]
def DS.remove (S:DS) (s:ByteArray):DS×Int :=
 if bK s then (match bY S.f s with
    | none=>(S,10)
    | some _=>if S.change.down then (S.change,12) else ({ S.change with f:=jH S.f s },0)) else (S,1)
/-- no two files bear one name -/
def Uniq (l:List DF):Prop:=l.Pairwise fun f g=>f.name≠g.name
theorem ET {l:List DF} {s:ByteArray} (h:bY l s=none):jH l s=l:=by
 unfold bY at h;unfold jH;rw [List.filter_eq_self];intro f hf;have:=List.find?_eq_none.1 h f hf;simpa using this
theorem xK:∀ {l:List DF} {s:ByteArray} {f:DF},Uniq l->bY l s=some f->(jH l s).length+1=l.length
 | [],s,f,_,h=>by simp [bY] at h
 | g :: r,s,f,hu,h=>by
   obtain ⟨h1,h2⟩:=List.pairwise_cons.1 hu;by_cases hg:g.name=s
   ·have hn:bY r s=none:=by
        unfold bY;rw [List.find?_eq_none];intro x hx;have:=h1 x hx;simp only [decide_eq_true_eq];intro e;exact this (hg.trans e.symm)
    have e1:jH (g :: r) s=jH r s:=by unfold jH;rw [List.filter_cons_of_neg (by simp [hg])]
    rw [e1,ET hn];rfl
   ·have e1:jH (g :: r) s=g :: jH r s:=by unfold jH;rw [List.filter_cons_of_pos (by simp [hg])]
    have e2:bY r s=some f:=by
        unfold bY at h ⊢;rw [List.find?_cons,show decide (g.name=s)=false from aM hg] at h;exact h
    have:=xK h2 e2;rw [e1];simp only [List.length_cons];omega
theorem uQ {w:World} {b n:Nat} {D:DataW Unit} (h:w.ownsMap prog 9 jL b n D):w.ownsMap prog 9 jL b (Maps.size D) D:=by
 obtain ⟨es,cl,hb,Ft,hs,rfl⟩:=h;exact ⟨es,cl,hb,Ft,by simp [Maps.size,length_sorted],rfl⟩
theorem pR (h:w.grownBy w' (some b)):Fr (isR b) w w':=⟨h.os,h.tape,h.output,h.size,fun k hk hb=>h.block k hk (fun e=>hb (by simpa using e))⟩
/-- a file that is no more -/
theorem DkIn.delFile {f:DF} {n:Nat} (h:DkIn w F d S b D) (hu:Uniq S.f) (hg:bY S.f s=some f) (hown:w'.ownsMap prog 9 jL b n (D.del (nk s))) (hfr:Fr (isR b) w w') :
 DkIn w' F d { S with f:=jH S.f s } b (D.del (nk s)):=by
 have hnb:∀ k,isR b k->NoByte w k:=fun k hk=>by
  subst hk;obtain ⟨es,cl,hb,_⟩:=h.own;exact NoByte.map hb
 have hlen:=xK hu hg;have hsz:Maps.size (D.del (nk s))=(jH S.f s).length:=by
  have h1:=Maps.size_del (k:=nk s) (h.own.tidy wZ);rw [h.files.has,hg] at h1;have h2:=h.files.size;simp at h1;omega
 refine ⟨h.fd,(hfr.block d (Fr.lt h.cells) (vN h.cells h.own)).trans h.cells,h.fb,?_,?_⟩
 ·have h1:=uQ hown
  rw [hsz] at h1;exact h1
 ·refine ⟨?_,?_,?_,?_,hsz⟩
  ·intro t ht
   rw [qo] at ht;by_cases e:t=s
   ·subst e;exact Maps.atKey_del_same _
   ·rw [if_neg e] at ht
    rw [Maps.atKey_del_other (fun e2=>e (lu e2))];exact h.files.none t ht
  ·intro t f' ht
   rw [qo] at ht;by_cases e:t=s
   ·rw [if_pos e] at ht;cases ht
   ·rw [if_neg e] at ht
    obtain ⟨fb,h1,h2,h3⟩:=h.files.some t f' ht;exact ⟨fb,h1,by rw [Maps.atKey_del_other (fun e2=>e (lu e2))];exact h2,h3.fr hfr hnb (oI h3 h.own)⟩
  ·intro t u fb ht hu'
   by_cases e:t=s
   ·subst e;rw [Maps.atKey_del_same] at ht;cases ht
   ·by_cases e2:u=s
    ·subst e2;rw [Maps.atKey_del_same] at hu';cases hu'
    ·rw [Maps.atKey_del_other (fun e3=>e (lu e3))] at ht
     rw [Maps.atKey_del_other (fun e3=>e2 (lu e3))] at hu';exact h.files.apart t u fb ht hu'
  ·intro t
   rw [qo];by_cases e:t=s
   ·subst e;simp [Maps.has_del_same]
   ·rw [if_neg e,Maps.has_del_other (fun e2=>e (lu e2))]
    exact h.files.has t
variable {F:Nat->Prop} {d:Nat} {S:DS} {b:Nat} {D:DataW Unit} {s:ByteArray} {w w':World}
theorem LM (hs:s.size<=maxLen) (h:DkIn w F d S b D) (hu:Uniq S.f) (ha:S.arm<=1048576) :
 Calls prog 25 #[.pointer (some ⟨d,0,none⟩),.string s] w (RetDk F d b (S.remove s).1 (S.remove s).2 w):=by
 by_cases hok:bK s=true
 case neg =>
  have HN:=aq (nM (d:=d) (w:=w) hs rfl (Bool.eq_false_iff.2 hok));have hr:S.remove s=(S,1):=by unfold DS.remove;rw [if_neg hok]
  rw [hr];have HD:=aq h;clear h hok hr hu;go_enter func25,ntmps25
  exact z60
 case pos =>
 cases hg:bY S.f s with
 | none =>
   have HN:=aq (nK hs h hok hg);have hr:S.remove s=(S,10):=by unfold DS.remove;rw [if_pos hok,hg]
   rw [hr];have HD:=aq h;clear h hok hr hg hu;go_enter func25,ntmps25;go_wp2_with (go_at_call 69;(with_reducible refine HN.out.mono ?_);rintro e w1 ⟨rfl,rfl⟩)
   all_goals
    go_ret;exact RetDk.same HD.out
 | some f =>
   obtain ⟨fb,h1,h2,h3⟩:=h.files.some s f hg;have HN:=aq (lD hs h hok h2);have HC:=aq (oN d b S.arm S.down w h.cells ha);have HD:=aq h;have HG:=aq hg;have HU:=aq hu;by_cases hc:chg S.arm S.down=true
   ·have hr:S.remove s=(S.change,12):=by unfold DS.remove;rw [if_pos hok,hg];exact if_pos hc
    rw [hr];rw [hc,if_pos rfl] at HC;have HE:Hid (chg S.arm S.down=true):=hc;clear h hok hr hg h1 h2 h3 hc hu;go_enter func25,ntmps25
    exact z58
   ·have hc':chg S.arm S.down=false:=Bool.eq_false_iff.2 hc
    have hr:S.remove s=({ S.change with f:=jH S.f s },0):=by unfold DS.remove;rw [if_pos hok,hg];exact if_neg hc
    rw [hr];rw [hc',if_neg (by decide)] at HC;have HE:Hid (chg S.arm S.down=false):=hc';clear h hok hr hg h1 h2 h3 hc hc' hu;go_enter func25,ntmps25;go_wp2_with (first
        | (go_at_call 69;(with_reducible refine HN.out.mono ?_);rintro e w1 ⟨rfl,rfl⟩)
        | (go_at_call 70;(with_reducible refine HC.out.mono ?_);rintro e w2 ⟨rfl,hc2,hf2⟩;have HD2:=aq (HD.out.setCells (by rw [<- HE.out] at hc2;exact hc2) hf2);have hown2:=HD2.out.own;obtain ⟨q0,q1,q2,g0,g1,g2⟩:=dL hc2)
        | (at_delete;refine wpList_delete_own _ rfl _ _ 69 9 rfl 111 wZ underlying69 jL b _ D rfl hown2 _ (nk s) rfl (ou hs) ?_;intro w3 hown3 hturn3))
    all_goals
        go_ret;have hfm:=pR hturn3.grown;exact ⟨rfl,⟨_,(HD2.out.delFile HU.out HG.out hown3 hfm).mono fun _ g=>bb g⟩,(hf2.mono fun k _ hk=>by subst hk;exact HD.out.fd).again (hfm.mono fun k _ hk=>by subst hk;exact HD.out.fb)⟩
/-! ### Truncate -/
def DS.trunc (S:DS) (s:ByteArray) (n:Int):DS×Int :=
 if bK s then (match bY S.f s with
    | none=>(S,10)
    | some f=>if n<0\/(f.b.length:Int)<n then (S,4) else if S.change.down then (S.change,12) else ({ S.change with f:=jO S.f { f with b:=f.b.take n.toNat,safe:=min f.safe n.toNat } },0)) else (S,1)
variable {F:Nat->Prop} {d:Nat} {S:DS} {b:Nat} {D:DataW Unit} {s:ByteArray} {w w':World}
variable {F:Nat->Prop} {d:Nat} {S:DS} {b:Nat} {D:DataW Unit} {s:ByteArray} {w w':World}
def iG (a b:ByteArray):Bool:=decide (bl a<bl b)
/-- a file ahead of the first whose name is not less -/
def sW:List DF->DF->List DF
 | [],f=>[f]
 | g :: r,f=>if iG g.name f.name then g :: sW r f else f :: g :: r
/-- files with another one, by names -/
def kK (l:List DF) (f:DF):List DF:=sW (jH l f.name) f
theorem Iq (f:DF):∀ l:List DF,(sW l f).length=l.length+1
 | []=>rfl
 | g :: r=>by
   unfold sW;split
   ·simp [Iq f r]
   ·rfl
theorem EF (f:DF) (u:ByteArray):∀ l:List DF,bY l f.name=none->bY (sW l f) u=if u=f.name then some f else bY l u
 | [],_=>by
   by_cases h:u=f.name
   ·subst h;simp [sW,bY]
   ·have:¬ f.name=u:=fun e=>h e.symm
    simp [sW,bY,h,this]
 | g :: r,hn=>by
   have hg:¬ g.name=f.name:=by
     intro e;simp [bY,e] at hn
   have hr:bY r f.name=none:=by
     unfold bY at hn ⊢;rw [List.find?_cons,show decide (g.name=f.name)=false from aM hg] at hn;exact hn
   have ih:=EF f u r hr;unfold sW;split
   ·unfold bY at ih ⊢
    rw [List.find?_cons,List.find?_cons];by_cases hu:g.name=u
    ·have:¬ u=f.name:=fun e=>hg (hu.trans e)
     simp [hu,this]
    ·simp only [aM hu]
     exact ih
   ·unfold bY
    rw [List.find?_cons];by_cases hu:u=f.name
    ·subst hu;simp
    ·have:¬ f.name=u:=fun e=>hu e.symm
     simp [hu,this]
theorem yC (l:List DF) (f:DF) (u:ByteArray):bY (kK l f) u=if u=f.name then some f else bY l u:=by
 unfold kK;rw [EF f u _ (by rw [qo];simp)];by_cases h:u=f.name
 ·simp [h]
 ·rw [if_neg h,if_neg h,qo,if_neg h]
theorem wW {l:List DF} (hu:Uniq l) (f:DF):(kK l f).length=if (bY l f.name).isSome then l.length else l.length+1:=by
 unfold kK;rw [Iq]
 cases h:bY l f.name with
 | none=>rw [ET h];rfl
 | some g=>rw [xK hu h];rfl
theorem sU (s:ByteArray):WideAt.IsKeyLit (nk s):=by
 unfold nk;exact trivial
/-- a file put at its name -/
theorem DkIn.putFile {f:DF} {fb n:Nat} (h:DkIn w F d S b D) (hu:Uniq S.f) (hF:F fb) (hf:FileAt w fb f) (hfree:∀ u,D.atKey (nk u) .nil=.lit (.int .i64 fb)->u=f.name)
 (hown:w'.ownsMap prog 9 jL b n (D.put (nk f.name) (.lit (.int .i64 fb)))) (hfr:Fr (isR b) w w') :
 DkIn w' F d { S with f:=kK S.f f } b (D.put (nk f.name) (.lit (.int .i64 fb))):=by
 have hnb:∀ k,isR b k->NoByte w k:=fun k hk=>by
  subst hk;obtain ⟨es,cl,hb,_⟩:=h.own;exact NoByte.map hb
 have hM:=h.own.isMap;have hsz:Maps.size (D.put (nk f.name) (.lit (.int .i64 fb)))=(kK S.f f).length:=by
  rw [Maps.size_put (h.own.tidy wZ),h.files.has,h.files.size,wW hu]
 refine ⟨h.fd,(hfr.block d (Fr.lt h.cells) (vN h.cells h.own)).trans h.cells,h.fb,?_,?_⟩
 ·have h1:=uQ hown
  rw [hsz] at h1;exact h1
 ·refine ⟨?_,?_,?_,?_,hsz⟩
  ·intro t ht
   rw [yC] at ht;by_cases e:t=f.name
   ·rw [if_pos e] at ht;cases ht
   ·rw [if_neg e] at ht
    rw [Maps.atKey_put_other (fun e2=>e (lu e2))];exact h.files.none t ht
  ·intro t f' ht
   rw [yC] at ht;by_cases e:t=f.name
   ·rw [if_pos e] at ht
    obtain rfl:f=f':=by simpa using ht
    subst e;exact ⟨fb,hF,Maps.atKey_put_same hM (sU _) _ _,hf.fr hfr hnb (oI hf h.own)⟩
   ·rw [if_neg e] at ht
    obtain ⟨fb',h1,h2,h3⟩:=h.files.some t f' ht;exact ⟨fb',h1,by rw [Maps.atKey_put_other (fun e2=>e (lu e2))];exact h2,h3.fr hfr hnb (oI h3 h.own)⟩
  ·intro t u x ht hu'
   by_cases e:t=f.name
   ·subst e
    rw [Maps.atKey_put_same hM (sU _)] at ht;by_cases e2:u=f.name
    ·exact e2.symm
    ·rw [Maps.atKey_put_other (fun e3=>e2 (lu e3)),<- ht] at hu'
     exact absurd (hfree u hu') e2
   ·rw [Maps.atKey_put_other (fun e3=>e (lu e3))] at ht
    by_cases e2:u=f.name
    ·subst e2
     rw [Maps.atKey_put_same hM (sU _)] at hu';rw [<- hu'] at ht;exact hfree t ht
    ·rw [Maps.atKey_put_other (fun e3=>e2 (lu e3))] at hu'
     exact h.files.apart t u x ht hu'
  ·intro t
   rw [yC];by_cases e:t=f.name
   ·subst e;simp [Maps.has_put_same hM (sU _)]
   ·rw [if_neg e,Maps.has_put_other (fun e2=>e (lu e2))]
    exact h.files.has t
variable {F:Nat->Prop} {d:Nat} {S:DS} {b:Nat} {D:DataW Unit} {s:ByteArray} {w w':World}
theorem NR (l:List DF) (f:DF):kK (jO l f) f=kK l f:=by
 unfold kK;congr 1
 unfold jH jO;induction l with
 | nil=>rfl
 | cons g r ih =>
   rw [List.map_cons];by_cases hg:g.name=f.name
   ·rw [if_pos hg,List.filter_cons_of_neg (by simp),List.filter_cons_of_neg (by simp [hg])]
    exact ih
   ·rw [if_neg hg,List.filter_cons_of_pos (by simp [hg]),List.filter_cons_of_pos (by simp [hg]),ih]
theorem Nz {l:List DF} (h:Uniq l) (f:DF):Uniq (jO l f):=by
 unfold Uniq jO at *;rw [List.pairwise_map];refine h.imp ?_;intro x y hxy;by_cases h1:x.name=f.name <;> by_cases h2:y.name=f.name <;> simp [h1,h2]
 ·exact hxy (h1.trans h2.symm)
 ·exact fun e=>h2 e.symm
 ·exact hxy
def DS.append (S:DS) (s:ByteArray) (l:Bytes):DS×Int :=
 if bK s then (match bY S.f s with
    | none=>if 8<=S.f.length then (S,9) else if 16777216<l.length then (S,9) else if S.change.down then (S.change,12) else ({ S.change with f:=kK S.f ⟨s,l,0⟩ },0)
    | some f=>if 16777216<f.b.length+l.length then (S,9) else if S.change.down then (S.change,12) else ({ S.change with f:=kK S.f { f with b:=f.b++l } },0)) else (S,1)
theorem Jz {v:Value} (hs:s.size<=maxLen) (h:DkIn w F d S b D) (hok:bK s=false) :
 Calls prog 28 #[.pointer (some ⟨d,0,none⟩),.string s,v] w (RetDk F d b S 1 w):=by
 have HN:=aq (nM (d:=d) (w:=w) hs rfl hok);have HD:=aq h;clear h hok;go_enter func28,ntmps28;go_wp2_with (go_at_call 69;(with_reducible refine HN.out.mono ?_);rintro e w1 ⟨rfl,rfl⟩)
 all_goals
  go_ret;exact RetDk.same HD.out
theorem Jw {f:DF} {a2:Option Addr} {l:Bytes} {cap2:Nat} (hs:s.size<=maxLen) (h:DkIn w F d S b D) (hu:Uniq S.f) (ha:S.arm<=1048576) (h8:S.f.length<=8) (hok:bK s=true) (hg:bY S.f s=some f)
 (hlf:f.b.length<=16777216) (hin:BytesIn w a2 l) :
 Calls prog 28 #[.pointer (some ⟨d,0,none⟩),.string s,.slice a2 l.length cap2] w (RetDk F d b (S.append s l).1 (S.append s l).2 w):=by
 obtain ⟨fb,h1,h2,h3⟩:=h.files.some s f hg;have HN:=aq (lD hs h hok h2);have HC:=aq (oN d b S.arm S.down w h.cells ha);have HD:=aq h;have H1:=aq h1;have H2:=aq h2;have H3:=aq h3;have HG:=aq hg;have HU:=aq hu;have hfd:=l7 h3 h.cells;obtain ⟨a,cap,b1,b2,b3⟩:=h3;obtain ⟨p0,p1,f0,f1⟩:=fG b1;clear b1 b2 b3;by_cases hlen:16777216<f.b.length+l.length
 case pos =>
  have hr:S.append s l=(S,9):=by unfold DS.append;rw [if_pos hok,hg];exact if_pos hlen
  rw [hr];clear h hok hr hg h1 h2 HC hu;go_enter func28,ntmps28
  exact z60
 case neg =>
 by_cases hc:chg S.arm S.down=true
 ·have hr:S.append s l=(S.change,12):=by unfold DS.append;rw [if_pos hok,hg];exact (if_neg hlen).trans (if_pos hc)
  rw [hr];rw [hc,if_pos rfl] at HC;have HE:Hid (chg S.arm S.down=true):=hc;clear h hok hr hg h1 h2 hc hu;go_enter func28,ntmps28;go_wp2_with (first
   | (go_at_call 69;(with_reducible refine HN.out.mono ?_);rintro e w1 ⟨rfl,rfl⟩)
   | (go_at_call 70;(with_reducible refine HC.out.mono ?_);rintro e w2 ⟨rfl,hc2,hf2⟩))
  all_goals
   go_ret;exact ⟨rfl,⟨D,((HD.out.setCells (by rw [<- HE.out] at hc2;exact hc2) hf2).mono fun _ g=>bb g)⟩,hf2.mono fun k _ hk=>by subst hk;exact HD.out.fd⟩
 ·have hc':chg S.arm S.down=false:=Bool.eq_false_iff.2 hc
  have hr:S.append s l=({ S.change with f:=kK S.f { f with b:=f.b++l } },0):=by
   unfold DS.append;rw [if_pos hok,hg];exact (if_neg hlen).trans (if_neg hc)
  rw [hr];rw [hc',if_neg (by decide)] at HC;have HE:Hid (chg S.arm S.down=false):=hc';have hname:f.name=s:=lw hg;have HM:=aq hname;have HI:=aq hin;clear h hok hr hg h1 h2 hc hc' hu hin hname;go_enter func28,ntmps28;go_wp2_with (first
   | (go_at_call 69;(with_reducible refine HN.out.mono ?_);rintro e w1 ⟨rfl,rfl⟩)
   | (go_at_call 70;(with_reducible refine HC.out.mono ?_);rintro e w2 ⟨rfl,hc2,hf2⟩;have hF2:=H3.out.fr hf2 (fun k hk=>by subst hk;exact NoByte.disk HD.out.cells) hfd;have HF2:=aq hF2;have HC3:=aq (add_any (cap2:=cap2) (by omega) hF2 (HI.out.fr hf2 (fun k hk=>by subst hk;exact NoByte.disk HD.out.cells)));have HD2:=aq (HD.out.setCells (by rw [<- HE.out] at hc2;exact hc2) hf2);clear hF2 hc2)
   | (go_at_call 71;(with_reducible refine HC3.out.mono ?_);rintro e w3 ⟨rfl,hF3,hf3⟩;have HD3:=aq (DkIn.setFile (g:=f) (f:={ f with b:=f.b++l }) HD2.out HG.out H2.out (show f.name=s from HM.out) hF3 HF2.out hf3);have hown3:=HD3.out.own;obtain ⟨q0,q1,q2,g0,g1,g2⟩:=dL HD3.out.cells;have HF3:=aq hF3;clear hF3)
   | (at_mapUpdate;refine wpList_mapUpdate_own _ rfl _ _ _ 69 rfl 9 111 wZ underlying69 jL b _ D rfl hown3 (by unfold maxLen;simp [jO];omega) _ _ (nk s) rfl rfl (ou hs) (.lit (.int .i64 fb)) [] rfl ?_;intro w4 hown4 hgrow4))
  all_goals
   go_ret;have hput:=DkIn.putFile (f:={ f with b:=f.b++l }) (fb:=fb) HD3.out (Nz HU.out _) H1.out HF3.out (fun u hu2=>(HD.out.files.apart u s fb hu2 H2.out).trans (show s=f.name from HM.out.symm)) (n:=_) (by rw [show ({ f with b:=f.b++l }:DF).name=s from HM.out];exact hown4) (pR hgrow4);rw [NR] at hput;exact ⟨rfl,⟨_,hput.mono fun _ g=>bb g⟩,((hf2.mono (T:=F) fun k _ hk=>by subst hk;exact HD.out.fd).again (hf3.mono fun k _ hk=>by subst hk;exact H1.out)).again ((pR hgrow4).mono fun k _ hk=>by subst hk;exact HD.out.fb)⟩
variable {F:Nat->Prop} {d:Nat} {S:DS} {b:Nat} {D:DataW Unit} {s:ByteArray} {w w':World}
theorem DkIn.below (h:DkIn w F d S b D) (hb:Below w.heap.size w w'):DkIn w' F d S b D :=
 h.fr (T:=fun _=>False) (Fr.of_below hb) (fun _ g=>g.elim) (fun _ _ g=>g)
theorem DkIn.tight (h:DkIn w F d S b D):DkIn w (fun k=>F k/\k<w.heap.size) d S b D :=
 ⟨⟨h.fd,Fr.lt h.cells⟩,h.cells,⟨h.fb,h.own.lt⟩,h.own,h.files.none,fun s f hg=>let ⟨fb,h1,h2,h3⟩:=h.files.some s f hg;⟨fb,⟨h1,let ⟨_,_,e,_⟩:=h3;Fr.lt e⟩,h2,h3⟩,h.files.apart,h.files.has,h.files.size⟩
theorem FileAt.noByte {fb:Nat} {f:DF} (h:FileAt w fb f):∀ k,isR fb k->NoByte w k:=fun k hk=>by
 subst hk;obtain ⟨a,cap,h1,_⟩:=h;exact NoByte.file h1
theorem QH (w:World) (s:ByteArray):FileAt (w.alloc (.cells #[.slice none 0 0,.int .i64 0] 116)) w.heap.size ⟨s,[],0⟩ :=
 ⟨none,0,(MapKept.heap_alloc w _).1,bb rfl,ar _⟩
theorem Jy {a2:Option Addr} {l:Bytes} {cap2:Nat} (hs:s.size<=maxLen) (h:DkIn w F d S b D) (hu:Uniq S.f) (ha:S.arm<=1048576) (hok:bK s=true) (hg:bY S.f s=none) (hl:l.length<=1073741824)
 (hin:BytesIn w a2 l) :
 Calls prog 28 #[.pointer (some ⟨d,0,none⟩),.string s,.slice a2 l.length cap2] w (RetDk F d b (S.append s l).1 (S.append s l).2 w):=by
 have HN:=aq (nK hs h hok hg);have HD:=aq h;have HG:=aq hg;have HU:=aq hu;obtain ⟨q0,q1,q2,g0,g1,g2⟩:=dL h.cells;have hlm:=fun ty=>h.own.len underlying69 ty;rw [h.files.size] at hlm;by_cases h8:8<=S.f.length
 case pos =>
  have hr:S.append s l=(S,9):=by unfold DS.append;rw [if_pos hok,hg];exact if_pos h8
  rw [hr];clear h hok hr hg hu;go_enter func28,ntmps28
  exact z60
 case neg =>
 have hB:=(bh w.heap.size w).alloc (ar _) (Obj.cells #[.slice none 0 0,.int .i64 0] 116);have HB:=aq hB;have HA:=aq (h.below hB);have HC:=aq (oN d b S.arm S.down _ HA.out.cells ha);by_cases hlen:16777216<l.length
 case pos =>
  have hr:S.append s l=(S,9):=by unfold DS.append;rw [if_pos hok,hg];exact (if_neg h8).trans (if_pos hlen)
  rw [hr];clear h hok hr hg HC hu hB;go_enter func28,ntmps28;go_wp2_with (go_at_call 69;(with_reducible refine HN.out.mono ?_);rintro e w1 ⟨rfl,rfl⟩)
  all_goals
   go_ret;exact ⟨rfl,⟨D,HA.out.mono fun _ g=>bb g⟩,Fr.of_below HB.out⟩
 case neg =>
 by_cases hc:chg S.arm S.down=true
 ·have hr:S.append s l=(S.change,12):=by unfold DS.append;rw [if_pos hok,hg];exact (if_neg h8).trans ((if_neg hlen).trans (if_pos hc))
  rw [hr];rw [hc,if_pos rfl] at HC;have HE:Hid (chg S.arm S.down=true):=hc;clear h hok hr hg hc hu hB;go_enter func28,ntmps28;go_wp2_with (first
   | (go_at_call 69;(with_reducible refine HN.out.mono ?_);rintro e w1 ⟨rfl,rfl⟩)
   | (go_at_call 70;(with_reducible refine HC.out.mono ?_);rintro e w2 ⟨rfl,hc2,hf2⟩))
  all_goals
   go_ret;exact ⟨rfl,⟨D,((HA.out.setCells (by rw [<- HE.out] at hc2;exact hc2) hf2).mono fun _ g=>bb g)⟩,(Fr.of_below HB.out).again (hf2.mono fun k _ hk=>by subst hk;exact HD.out.fd)⟩
 ·have hc':chg S.arm S.down=false:=Bool.eq_false_iff.2 hc
  have hr:S.append s l=({ S.change with f:=kK S.f ⟨s,l,0⟩ },0):=by
   unfold DS.append;rw [if_pos hok,hg];exact (if_neg h8).trans ((if_neg hlen).trans (if_neg hc))
  rw [hr];rw [hc',if_neg (by decide)] at HC;have HE:Hid (chg S.arm S.down=false):=hc';have HI:=aq (hin.fr (S:=fun _=>False) (Fr.of_below hB) (fun _ g=>g.elim));have HF:=aq (QH w s);have HT:=aq (HD.out.tight.below hB);have hfd:w.heap.size≠d:=fun e=>by have:=Fr.lt h.cells;omega
  have hfree:Hid (∀ u,D.atKey (nk u) .nil=.lit (.int .i64 w.heap.size)->u=s):=fun u hu2=>by
   cases hgu:bY S.f u with
   | none=>rw [h.files.none u hgu] at hu2;cases hu2
   | some f' =>
     obtain ⟨fb',_,e2,e3⟩:=h.files.some u f' hgu;rw [e2] at hu2;have hx:fb'=w.heap.size:=by simp at hu2;omega
     obtain ⟨_,_,e4,_⟩:=e3;have:=Fr.lt e4;omega
  clear h hok hr hg hc hc' hu hin hB;go_enter func28,ntmps28;go_wp2_with (first
   | (go_at_call 69;(with_reducible refine HN.out.mono ?_);rintro e w1 ⟨rfl,rfl⟩)
   | (go_at_call 70;(with_reducible refine HC.out.mono ?_);rintro e w2 ⟨rfl,hc2,hf2⟩;have hF2:=HF.out.fr hf2 (fun k hk=>by subst hk;exact NoByte.disk HA.out.cells) hfd;have HC3:=aq (add_any (cap2:=cap2) (by simpa using hl) hF2 (HI.out.fr hf2 (fun k hk=>by subst hk;exact NoByte.disk HA.out.cells)));have HD2:=aq (HT.out.setCells (by rw [<- HE.out] at hc2;exact hc2) hf2);have HF2:=aq hF2;clear hF2 hc2)
   | (go_at_call 71;(with_reducible refine HC3.out.mono ?_);rintro e w3 ⟨rfl,hF3,hf3⟩;have HF3:=aq hF3;clear hF3;have HD3:=aq (HD2.out.fr hf3 HF2.out.noByte (fun k g e=>by have e':k=w.heap.size:=e;have:=g.2;omega));have hown3:=HD3.out.own;obtain ⟨x0,x1,x2,y0,y1,y2⟩:=dL HD3.out.cells)
   | (at_mapUpdate;refine wpList_mapUpdate_own _ rfl _ _ _ 69 rfl 9 111 wZ underlying69 jL b _ D rfl hown3 (by unfold maxLen;simp;omega) _ _ (nk s) rfl rfl (ou hs) (.lit (.int .i64 w.heap.size)) [] rfl ?_;intro w4 hown4 hgrow4))
  all_goals
   go_ret;have hput:=DkIn.putFile (f:=⟨s,l,0⟩) (fb:=w.heap.size) (HD3.out.mono (G:=grow F w) fun _ g=>bb g.1) HU.out (bd (ar _)) HF3.out hfree.out (n:=_) hown4 (pR hgrow4);exact ⟨rfl,⟨_,hput⟩,(((Fr.of_below HB.out).again (hf2.mono fun k _ hk=>by subst hk;exact HD.out.fd)).trans (hf3.mono fun k _ hk=>by subst hk;exact bd (ar _))).again ((pR hgrow4).mono fun k _ hk=>by subst hk;exact HD.out.fb)⟩
variable {F:Nat->Prop} {d:Nat} {S:DS} {b:Nat} {D:DataW Unit} {s:ByteArray} {w w':World}
def DS.rename (S:DS) (s t:ByteArray):DS×Int :=
 if bK t then (if bK s then (match bY S.f s with
    | none=>(S,10)
    | some f=>if S.change.down then (S.change,12) else ({ S.change with f:=kK (jH S.f s) { f with name:=t } },0)) else (S,1)) else (S,1)
theorem OM {l:List DF} (h:Uniq l) (s:ByteArray):Uniq (jH l s):=h.filter _
theorem LK {t:ByteArray} (hs:s.size<=maxLen) (ht:t.size<=maxLen) (h:DkIn w F d S b D) (hu:Uniq S.f) (ha:S.arm<=1048576) (h8:S.f.length<=8) :
 Calls prog 32 #[.pointer (some ⟨d,0,none⟩),.string s,.string t] w (RetDk F d b (S.rename s t).1 (S.rename s t).2 w):=by
 have HT:=aq (uo t w ht);by_cases hot:bK t=true
 case neg =>
  have hr:S.rename s t=(S,1):=by unfold DS.rename;rw [if_neg hot]
  rw [hr];rw [Bool.eq_false_iff.2 hot] at HT;have HD:=aq h;clear h hr hu hot;go_enter func32,ntmps32;go_wp2_with (go_at_call 72;(with_reducible refine HT.out.mono ?_);rintro e w1 ⟨rfl,rfl⟩)
  all_goals
   go_ret;exact RetDk.same HD.out
 case pos =>
 rw [hot] at HT;by_cases hok:bK s=true
 case neg =>
  have HN:=aq (nM (d:=d) (w:=w) hs rfl (Bool.eq_false_iff.2 hok));have hr:S.rename s t=(S,1):=by unfold DS.rename;rw [if_pos hot,if_neg hok]
  rw [hr];have HD:=aq h;clear h hok hr hu hot;go_enter func32,ntmps32;go_wp2_with (first
   | (go_at_call 72;(with_reducible refine HT.out.mono ?_);rintro e w1 ⟨rfl,rfl⟩)
   | (go_at_call 69;(with_reducible refine HN.out.mono ?_);rintro e w1 ⟨rfl,rfl⟩))
  all_goals
   go_ret;exact RetDk.same HD.out
 case pos =>
 cases hg:bY S.f s with
 | none =>
   have HN:=aq (nK hs h hok hg);have hr:S.rename s t=(S,10):=by unfold DS.rename;rw [if_pos hot,if_pos hok,hg]
   rw [hr];have HD:=aq h;clear h hok hr hg hu hot;go_enter func32,ntmps32;go_wp2_with (first
    | (go_at_call 72;(with_reducible refine HT.out.mono ?_);rintro e w1 ⟨rfl,rfl⟩)
    | (go_at_call 69;(with_reducible refine HN.out.mono ?_);rintro e w1 ⟨rfl,rfl⟩))
   all_goals
    go_ret;exact RetDk.same HD.out
 | some f =>
   obtain ⟨fb,h1,h2,h3⟩:=h.files.some s f hg;have HN:=aq (lD hs h hok h2);have HC:=aq (oN d b S.arm S.down w h.cells ha);have HD:=aq h;have HG:=aq hg;have HU:=aq hu;have H1:=aq h1;have H2:=aq h2;have H3:=aq h3;have hfd:=l7 h3 h.cells;have hfm:=oI h3 h.own;by_cases hc:chg S.arm S.down=true
   ·have hr:S.rename s t=(S.change,12):=by unfold DS.rename;rw [if_pos hot,if_pos hok,hg];exact if_pos hc
    rw [hr];rw [hc,if_pos rfl] at HC;have HE:Hid (chg S.arm S.down=true):=hc;clear h hok hr hg h1 h2 h3 hc hu hot;go_enter func32,ntmps32;go_wp2_with (first
        | (go_at_call 72;(with_reducible refine HT.out.mono ?_);rintro e w1 ⟨rfl,rfl⟩)
        | (go_at_call 69;(with_reducible refine HN.out.mono ?_);rintro e w1 ⟨rfl,rfl⟩)
        | (go_at_call 70;(with_reducible refine HC.out.mono ?_);rintro e w2 ⟨rfl,hc2,hf2⟩))
    all_goals
        go_ret;exact ⟨rfl,⟨D,((HD.out.setCells (by rw [<- HE.out] at hc2;exact hc2) hf2).mono fun _ g=>bb g)⟩,hf2.mono fun k _ hk=>by subst hk;exact HD.out.fd⟩
   ·have hc':chg S.arm S.down=false:=Bool.eq_false_iff.2 hc
    have hr:S.rename s t=({ S.change with f:=kK (jH S.f s) { f with name:=t } },0):=by unfold DS.rename;rw [if_pos hot,if_pos hok,hg];exact if_neg hc
    rw [hr];rw [hc',if_neg (by decide)] at HC;have HE:Hid (chg S.arm S.down=false):=hc';clear h hok hr hg h1 h2 h3 hc hc' hu hot;go_enter func32,ntmps32;go_wp2_with (first
        | (go_at_call 72;(with_reducible refine HT.out.mono ?_);rintro e w1 ⟨rfl,rfl⟩)
        | (go_at_call 69;(with_reducible refine HN.out.mono ?_);rintro e w1 ⟨rfl,rfl⟩)
        | (go_at_call 70;(with_reducible refine HC.out.mono ?_);rintro e w2 ⟨rfl,hc2,hf2⟩;have HD2:=aq (HD.out.setCells (by rw [<- HE.out] at hc2;exact hc2) hf2);have HF2:=aq (H3.out.fr hf2 (fun k hk=>by subst hk;exact NoByte.disk HD.out.cells) hfd);have hown2:=HD2.out.own;obtain ⟨q0,q1,q2,g0,g1,g2⟩:=dL hc2)
        | (at_delete;refine wpList_delete_own _ rfl _ _ 69 9 rfl 111 wZ underlying69 jL b _ D rfl hown2 _ (nk s) rfl (ou hs) ?_;intro w3 hown3 hturn3;have HD3:=aq (HD2.out.delFile HU.out HG.out hown3 (pR hturn3.grown));obtain ⟨x0,x1,x2,y0,y1,y2⟩:=dL HD3.out.cells)
        | (at_mapUpdate;refine wpList_mapUpdate_own _ rfl _ _ _ 69 rfl 9 111 wZ underlying69 jL b _ _ rfl hown3 (by unfold maxLen;simp;omega) _ _ (nk t) rfl rfl (ou ht) (.lit (.int .i64 fb)) [] rfl ?_;intro w4 hown4 hgrow4))
    all_goals
        go_ret;have hF3:FileAt w3 fb f:=HF2.out.fr (pR hturn3.grown) (fun k hk=>by subst hk;obtain ⟨es,cl,hb,_⟩:=HD2.out.own;exact NoByte.map hb) hfm;have hput:=DkIn.putFile (f:={ f with name:=t }) (fb:=fb) HD3.out (OM HU.out s) H1.out hF3 (fun u hu2=>by
         by_cases e:u=s
         ·subst e;rw [Maps.atKey_del_same] at hu2;cases hu2
         ·rw [Maps.atKey_del_other (fun e2=>e (lu e2))] at hu2
          exact absurd (HD.out.files.apart u s fb hu2 H2.out) e) (n:=_) hown4 (pR hgrow4)
        exact ⟨rfl,⟨_,hput.mono fun _ g=>bb g⟩,((hf2.mono (T:=F) fun k _ hk=>by subst hk;exact HD.out.fd).again ((pR hturn3.grown).mono fun k _ hk=>by subst hk;exact HD.out.fb)).again ((pR hgrow4).mono fun k _ hk=>by subst hk;exact HD.out.fb)⟩
end Go.Proofs.YthphepeniaemoaaGreat
