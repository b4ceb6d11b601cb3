/- The map of events: Apply. Conditions: as in the text. -/
import Derived.Test.YthphepeniaemoaaGreatOrmD
import Derived.Test.YthphepeniaemoaaGreatLoad
set_option linter.unusedSimpArgs false
set_option linter.unusedVariables false
set_option linter.unnecessarySimpa false
set_option maxHeartbeats 16000000
set_option maxRecDepth 100000
open Go.Proofs.Tryz
namespace Go.Proofs.YthphepeniaemoaaGreat
open Go.RowKit
def jI (s:MS) (e:Ev):Bool:=dm e && (!iq s.ctx e.dot && (decide (fC s.ctx e.dot.a+1=e.dot.seq) && decide (s.K.length<2048)))
def kZ (s:MS) (e:Ev):Int:=if dm e=true then (if iq s.ctx e.dot=true then 0 else if fC s.ctx e.dot.a+1=e.dot.seq then (if s.K.length<2048 then 0 else 9) else 6) else 1
/-- the alive dots as soon as an event is kept -/
def qO (s:MS) (e:Ev):List (Key×Dot):=if e.kind=1/\e.dot ∉ s.dead then (e.key,e.dot) :: s.pairs else s.pairs
theorem Ce {l:List Dot} (h:∀ d∈l,bn d=true) (a:Actor):0<=fC l a/\fC l a<=4294967296:=by
 cases hf:l.find? fun d=>decide (d.a=a) with
 | none=>rw [(yA hf).1];omega
 | some d =>
   obtain ⟨h1,h2,_⟩:=yz hf;have:=h d h2;simp only [bn,Bool.and_eq_true,decide_eq_true_eq] at this;omega
structure Applied (s:MS) (e:Ev) (s':MS):Prop where
 ctx:s'.ctx=setM s.ctx e.dot.a e.dot.seq
 kept:∃ a c,s'.K.Perm ((e,a,c) :: s.K)
 dead:s'.dead=e.over.foldl (fun l d=>mM d l) s.dead
 pairs:s'.pairs=e.over.foldl strike (qO s e)
/-- what holds of every map -/
structure MInv (s:MS):Prop where
 ctx:pW s.ctx
 ctxOk:∀ d∈s.ctx,bn d=true
 kept:∀ x∈s.K,dm x.1=true/\iq s.ctx x.1.dot=true
 pairs:∀ k d,(k,d)∈s.pairs↔∃ x∈s.K,x.1.kind=1/\x.1.dot=d/\x.1.key=k/\d ∉ s.dead
 pnd:s.pairs.Nodup
 dead:∀ d∈s.dead,bn d=true
 len:s.K.length<=2048
/-- an event's dots lie in a block of dots -/
def TypD (w:World) (e:Ev) (a:Option Addr):Prop:=e.over=[]\/∃ A off cs f,a=some ⟨A,off,none⟩/\w.heap[A]?=some (.cells cs 76 f)
theorem TypD.kept {w w':World} {e:Ev} {a:Option Addr} (h:TypD w e a) (hb:Below w.heap.size w w'):TypD w' e a:=h.imp id fun ⟨A,off,cs,f,h1,h2⟩=>⟨A,off,cs,f,h1,(hb.block A (lt_of_block h2)).trans h2⟩
theorem TypD.keepC {w w':World} {e:Ev} {a:Option Addr} (h:TypD w e a) (hk:KeepsC w w'):TypD w' e a:=h.imp id fun ⟨A,off,cs,f,h1,h2⟩=>⟨A,off,cs,f,h1,hk _ _ _ _ h2⟩
def RetAp (m:Nat) (b:MB) (s:MS) (e:Ev) (w:World) (x:Ending) (w':World):Prop :=
 ∃ s',x=.returned (.tuple #[.bool (jI s e),.int .i64 (kZ s e)])/\MpIn w' m b s'/\Fr (foot b s.A) w w'/\(∀ k,foot b s'.A k->foot b s.A k\/w.heap.size<=k)/\(if jI s e=true then Applied s e s' else s'=s)
/-- and a new kept event's dots lie in a block of dots -/
def Vd (m:Nat) (b:MB) (s:MS) (e:Ev) (w:World) (x:Ending) (w':World):Prop :=
 ∃ s',x=.returned (.tuple #[.bool (jI s e),.int .i64 (kZ s e)])/\MpIn w' m b s'/\Fr (foot b s.A) w w'/\(∀ k,foot b s'.A k->foot b s.A k\/w.heap.size<=k)/\(if jI s e=true then Applied s e s' else s'=s)/\∀ x∈s'.K,x∈s.K\/TypD w' x.1 x.2.1
theorem Bd {d:Dot}:∀ {l:List Dot} {p:Option Dot},dh d p l=true->∀ x∈l,bn x=true
 | [],_,_,x,hx=>by simp at hx
 | y :: l,p,h,x,hx=>by
   unfold dh at h;rw [Bool.and_eq_true] at h;rcases List.mem_cons.1 hx with rfl | hx
   ·have:=h.1
    unfold jS at this;rw [Bool.and_eq_true] at this;exact this.1
   ·exact Bd h.2 x hx
theorem fH {e:Ev} (h:dm e=true):bn e.dot=true/\(∀ d∈e.over,bn d=true)/\e.over.length<=64/\KeyW e.key/\(e.kind=1\/e.kind=2):=by
 unfold dm at h;simp only [Bool.and_eq_true,decide_eq_true_eq] at h;obtain ⟨h1,_,_,h4,h5⟩:=h;unfold overOk at h4;simp only [Bool.and_eq_true,decide_eq_true_eq] at h4;refine ⟨h1,Bd h4.2,h4.1,?_⟩;unfold kindOk at h5;by_cases hk2:e.kind=2
 ·rw [if_pos hk2] at h5
  simp only [Bool.and_eq_true,decide_eq_true_eq] at h5;obtain ⟨⟨h6,_⟩,_⟩:=h5;rw [h6];exact ⟨⟨Nat.zero_le _,Nat.zero_le _,Nat.zero_le _⟩,bd hk2⟩
 ·rw [if_neg hk2] at h5
  by_cases hk1:e.kind=1
  ·rw [if_pos hk1] at h5
   unfold gq kL fE gm at h5;simp only [Bool.and_eq_true,decide_eq_true_eq,aB] at h5;obtain ⟨_,⟨hn,_⟩,⟨hv,_⟩,⟨hd,_⟩,⟨_,_,hp⟩,_⟩:=h5;exact ⟨⟨by unfold maxLen;omega,by unfold maxLen;omega,by unfold maxLen;omega⟩,bb hk1⟩
  ·rw [if_neg hk1] at h5
   cases h5
theorem qh {α:Type}:∀ {l m:List α},l.Nodup->(∀ x∈l,x∈m)->l.length<=m.length
 | [],_,_,_=>Nat.zero_le _
 | x :: l,m,hn,hs=>by
   obtain ⟨h1,h2⟩:=List.nodup_cons.1 hn;obtain ⟨r,hr⟩:=jV (hs x List.mem_cons_self);have h3:∀ y∈l,y∈r:=fun y hy=>by
     rcases List.mem_cons.1 (hr.mem_iff.1 (hs y (List.mem_cons_of_mem _ hy))) with rfl | h
     ·exact absurd hy h1
     ·exact h
   have h4:=qh h2 h3;have h5:=hr.length_eq;simp only [List.length_cons] at h5 ⊢;omega
theorem MInv.bounds {w:World} {m:Nat} {b:MB} {s:MS} (hi:MInv s) (h:MpIn w m b s):s.A.length<=2048/\∀ k,(atK s.pairs k).length<=2048:=by
 have hp:s.pairs.length<=2048:=by
  have h1:(s.pairs.map (·.2)).Nodup:=by
   rw [List.Nodup,List.pairwise_map];refine hi.pnd.imp_of_mem fun {x y} hx hy hne e=>hne ?_;obtain ⟨z,hz,_,hz2,hz3,_⟩:=(hi.pairs x.1 x.2).1 hx;obtain ⟨z',hz',_,hz2',WT,_⟩:=(hi.pairs y.1 y.2).1 hy;have:z=z':=by
        have hap:=List.pairwise_map.1 h.kept.apart;obtain ⟨i,hi2,rfl⟩:=List.getElem_of_mem hz;obtain ⟨j,hj2,rfl⟩:=List.getElem_of_mem hz';have hh:=List.pairwise_iff_getElem.1 hap;have e1:s.K[i].1.dot=s.K[j].1.dot:=by rw [hz2,hz2',e]
        rcases Nat.lt_trichotomy i j with hij | hij | hij
        ·exact absurd e1 (hh i j hi2 hj2 hij)
        ·subst hij;rfl
        ·exact absurd e1.symm (hh j i hj2 hi2 hij)
   subst this;exact Prod.ext (by rw [<- hz3,<- WT]) e
  have h2:=qh h1 (m:=s.K.map (·.1.dot)) fun d hd=>by
   obtain ⟨q,hq,rfl⟩:=List.mem_map.1 hd;obtain ⟨z,hz,_,hz2,_⟩:=(hi.pairs q.1 q.2).1 hq;exact List.mem_map.2 ⟨z,hz,hz2⟩
  rw [List.length_map,List.length_map] at h2;exact Nat.le_trans h2 hi.len
 refine ⟨?_,fun k=>?_⟩
 ·have h1:(s.A.map (·.1)).Nodup:=List.pairwise_map.2 h.alive.apart
  have h2:=qh h1 (m:=s.pairs.map (·.1)) fun k hk=>by
   obtain ⟨p,hp,rfl⟩:=List.mem_map.1 hk;obtain ⟨d,hd⟩:=List.exists_mem_of_ne_nil _ (h.some p hp);exact List.mem_map.2 ⟨(p.1,d),nz.1 hd,rfl⟩
  rw [List.length_map,List.length_map] at h2;omega
 ·unfold atK
  rw [List.length_map];exact Nat.le_trans (List.length_filter_le _ _) hp
theorem MpIn.setCtx {w w':World} {m:Nat} {b:MB} {s:MS} {l:List Dot} (h:MpIn w m b s) (ht:VecIn w' b.v b.vb l) (hf:Fr (isR b.vb) w w'):MpIn w' m b { s with ctx:=l }:=by
 obtain ⟨n1,n2,n3,n4,n5,n6,n7,n8⟩:=jc h.nodup;have hK:=h.keeps hf (fun i hi=>by subst hi;exact uy b _);exact ⟨hK _ _ _ _ h.cell,ht,h.kept.fr hf n3,fun x hx=>hK.dots (h.overs x hx),h.dead.fr hf n6,h.alive.fr hf n5,fun p hp=>(h.inner p hp).fr hf (n7 p hp).2.2.2.symm,h.some,h.keys,h.nodup⟩
theorem MpIn.setKept {w w':World} {m:Nat} {b:MB} {s:MS} {K:List EvIt} (h:MpIn w m b s) (ht:KTab w' b.kb K) (ho:∀ x∈K,DotsIn w' x.2.1 x.1.over) (hf:Fr (isR b.kb) w w'):MpIn w' m b { s with K:=K }:=by
 obtain ⟨n1,n2,n3,n4,n5,n6,n7,n8⟩:=jc h.nodup;have hK:=h.keeps hf (fun i hi=>by subst hi;exact jT b _);exact ⟨hK _ _ _ _ h.cell,⟨hK _ _ _ _ h.vec.cell,h.vec.tab.fr hf (Ne.symm n3)⟩,ht,ho,h.dead.fr hf (Ne.symm n2),h.alive.fr hf (Ne.symm n1),fun p hp=>(h.inner p hp).fr hf (n7 p hp).1.symm,h.some,h.keys,h.nodup⟩
theorem kD:∀ (l dead:List Dot),(l.foldl (fun l d=>mM d l) dead).length<=dead.length+l.length
 | [],dead=>by simp
 | d :: l,dead=>by
   have h1:=kD l (mM d dead);have h2:(mM d dead).length<=dead.length+1:=by unfold mM;split <;> simp
   simp only [List.foldl_cons,List.length_cons];omega
theorem tN:∀ (l:List Dot) {P:List (Key×Dot)} {q:Key×Dot},q∈l.foldl strike P->q∈P
 | [],_,_,h=>h
 | _ :: l,_,_,h=>sD (tN l h)
theorem z15 {p : Prop} (h : p := by (rintro w hSw; have s0 := kept hSw z0; have s1 := kept hSw z1; have s2 := kept hSw z2; have s3 := kept hSw z3; go_simp; try with_reducible rfl)) : p := h
theorem z81 {p : Prop} (h : p := by
 unfold Hid
 rw [List.take_add_one, List.getElem?_eq_getElem hlt]
 rfl) : p := h
theorem z66 {p : Prop} (h : p := by
 obtain ⟨q1, q2, q3⟩ := HZ.out
 obtain ⟨p1, p2, p3⟩ := HKK.out
 have hX1 : Fr (foot b s.A) w Wx := p2.again (Fr.of_below hbx)
 refine ⟨k + 1, A3, by go_num, HLT.out, ?_, ?_, hX1.trans (q2.mono fun i _ hi => (p3 i hi)), fun i hi => ?_⟩
 ·rw [HT.out, List.foldl_append, List.foldl_append]
  exact q1
 ·exact (p1.trans (KeepsC.of_below hbx)).trans ((HMK.out.kept_w hbx).keeps q2 (fun _ h => h))
 ·rcases q3 i hi with h | h
  ·exact p3 i h
  ·exact bd (by have := hbx.size; omega)) : p := h
theorem z65 {p : Prop} (h : p := by have := HLT.out; simp [intOf] <;> omega) : p := h
theorem y38 {p q : Prop} (k : q) (h : PLift q -> p := by
 intro kk
 refine aI (fun Wx hWx => ?_)
 have hbx : Below wr.heap.size wr Wx := by rw [hWx.out]; go_grown
 have y0 : Wx.cell? ⟨wr.heap.size, 0, none⟩ = some (.int .i64 d.a.dev) := by rw [hWx.out]; go_simp
 have y1 : Wx.cell? ⟨wr.heap.size, 1, none⟩ = some (.int .i64 d.a.inc) := by rw [hWx.out]; go_simp
 have y2 : Wx.cell? ⟨wr.heap.size, 2, none⟩ = some (.int .i64 d.seq) := by rw [hWx.out]; go_simp
 revert Wx hWx hbx y0 y1 y2
 exact kk.down) : p := h ⟨k⟩
theorem y79 {p q : Prop} (k : q) (h : PLift q -> p := by
 intro kk
 have HKL := aq (fun (X : World) (hX : Below wr.heap.size wr X) => Qk d hdw X (hMk.kept_w hX) Xr.out (fun k' hk' => by obtain ⟨x, h1, h2, h3, h4⟩ := HP0.out _ (tN _ hk'); exact ⟨x, h1, h2, h3, h4⟩) KP)
 revert HKL
 exact kk.down) : p := h ⟨k⟩
theorem z9 {p : Prop} (h : p := by
 obtain ⟨k, A1, rfl, hk, hMk, hKk, hfk, KI⟩ := hrel
 have HKK := aq (ba hKk (ba hfk KI))
 have HMK := aq hMk
 by_cases hlt : k < e.over.length
 ·have hzw : w.heap.size <= wr.heap.size := hfk.size
  obtain ⟨A2, off, rfl, c0, c1, c2⟩ := (hKk.dots HN7.out.2.1).at hlt
  have hdw : DotW e.over[k] := iw (HOV.out _ (List.getElem_mem hlt))
  have HT : Hid (e.over.take (k + 1) = e.over.take k ++ [e.over[k]]) := by
   exact z81
  have KP : ((e.over.take k).foldl (fun l d => mM d l) s.dead).length <= 1073741824 := by
   have h1 := kD (e.over.take k) s.dead
   rw [List.length_take] at h1
   omega
  have HLT := aq hlt
  generalize e.over[k] = d at c0 c1 c2 hdw HT
  refine y79 ?_
  intro HKL
  clear hMk hKk hfk KI hlt
  go_upto_region 18 with fail
  refine y38 ?_
  intro Wx hWx hbx y0 y1 y2
  clear hWx c0 c1 c2
  go_wp2_with (go_at_call 60; (with_reducible refine (HKL.out _ hbx).mono ?_); rintro x wk ⟨rfl, A3, hM3, hf3, Qw⟩)
  have HZ := aq (ba hM3 (ba hf3 Qw))
  clear hM3 hf3 Qw y0 y1 y2
  go_roundw
  case rel =>
   exact z66
  case measure => exact z65
 ·obtain rfl : k = e.over.length := by omega
  clear hKk hfk KI hMk
  go_wp2
  all_goals
   go_ret2
   obtain ⟨p1, p2, p3⟩ := HKK.out
   exact ⟨⟨setM s.ctx e.dot.a e.dot.seq, (e, a5, c5) :: s.K, e.over.foldl (fun l d => mM d l) s.dead, A1, e.over.foldl strike (s.pairs)⟩, by rw [HE1.out, HE2.out]; rfl, by have := HMK.out; rw [List.take_length] at this; exact this, p2, p3, by rw [HE1.out, if_pos rfl]; exact ⟨rfl, ⟨a5, c5, List.Perm.refl _⟩, rfl, by rw [HP.out]⟩, fun x hx => (List.mem_cons.1 hx).elim (fun h => bd (by rw [h]; exact HTY.out.keepC p1)) bb⟩) : p := h
theorem Ie {m:Nat} {b:MB} {s:MS} (e:Ev) (a:Option Addr) (cap:Nat) (w:World) (h:MpIn w m b s) (hi:MInv s) (hs:EvSmall e) (hin:DotsIn w a e.over) (hn0:a=none->e.over=[]) (hcl:s.ctx.length<=536870912) (hdl:s.dead.length<=536870912) :
 Calls prog 22 #[.pointer (some ⟨m,0,none⟩),kV e a cap] w (Vd m b s e w):=by
 have HH:=aq h;have HI:=aq hi;have hbd:=hi.bounds h;have HR0:=fun (X:World) (h:DotsIn X a e.over)=>fQ e a cap X hs h;go_enter func22,ntmps22;go_upto_region 3 with fail
 refine aI (fun W hW=>?_);have hbw:Below w.heap.size w W:=by rw [hW.out];go_grown
 have hR:W.rangeAt w.heap.size 0 (az e a cap):=by rw [hW.out];exact dU e a cap w _
 have hin1:=hin.kept hbw;have HRR:=aq hR;clear hW
 cases hok:dm e with
 | false =>
   have HE1:Hid (jI s e=false):=by unfold Hid jI;rw [hok];rfl
   have HE2:Hid (kZ s e=1):=by unfold Hid kZ;rw [hok];rfl
   rw [hok] at HR0;have HR:=aq HR0;clear HR0 hok h hi hs hn0;go_upto_region 4 with (first
    | ((with_reducible refine bf _ w.heap.size e a cap hR ?_ rfl ?_);exact rfl)
    | (go_at_call 52;(with_reducible refine (HR.out _ hin1).mono ?_);rintro x w1 ⟨rfl,hb1⟩))
   have hbt:=below2 hbw hb1;clear hR hin hin1;go_wp2;all_goals
    go_ret2;exact ⟨s,by rw [HE1.out,HE2.out];rfl,HH.out.kept_w hbt,Fr.of_below hbt,fun k hk=>bb hk,by rw [HE1.out];rfl,fun x hx=>bb hx⟩
 | true =>
   obtain ⟨hdo,hov,hol,hkw,hkd⟩:=fH hok;rw [hok] at HR0;have HR:=aq HR0;have HV:=aq (fun (X:World) (h:VecIn X b.v b.vb s.ctx)=>Af e.dot X h);clear HR0;go_upto_region 5 with (first
    | ((with_reducible refine bf _ w.heap.size e a cap hR ?_ rfl ?_);exact rfl)
    | (go_at_call 52;(with_reducible refine (HR.out _ hin1).mono ?_);rintro x w1 ⟨rfl,hb1⟩))
   have UW:=below2 hbw hb1;have hR1:=ai hR hb1;have h1:=h.kept_w UW;have v0:w1.cell? ⟨w.heap.size,0,none⟩=some (.int .i64 e.dot.a.dev):=by have:=hR1 0 _ rfl;rwa [aw] at this
   have v1:w1.cell? ⟨w.heap.size,1,none⟩=some (.int .i64 e.dot.a.inc):=by have:=hR1 1 _ rfl;rwa [aw] at this
   have v2:w1.cell? ⟨w.heap.size,2,none⟩=some (.int .i64 e.dot.seq):=by have:=hR1 2 _ rfl;rwa [aw] at this
   have v6:w1.cell? ⟨w.heap.size,6,none⟩=some (.int .i64 e.kind):=by have:=hR1 6 _ rfl;rwa [aw] at this
   have v7:w1.cell? ⟨w.heap.size,7,none⟩=some (.string e.key.name):=by have:=hR1 7 _ rfl;rwa [aw] at this
   have v8:w1.cell? ⟨w.heap.size,8,none⟩=some (.string e.key.domain):=by have:=hR1 8 _ rfl;rwa [aw] at this
   have v9:w1.cell? ⟨w.heap.size,9,none⟩=some (.string e.key.path):=by have:=hR1 9 _ rfl;rwa [aw] at this
   have y3:=(dC h1.cell).2.2.2;have x0:=fun i:After w1=>i.cell v0;have x1:=fun i:After w1=>i.cell v1;have x2:=fun i:After w1=>i.cell v2;have xm:=fun i:After w1=>i.cell y3;have hgb:0<=fC s.ctx e.dot.a/\fC s.ctx e.dot.a<=4294967296:=Ce HI.out.ctxOk _;clear hR hin hR1 h hi
   cases hh:iq s.ctx e.dot with
   | true =>
     have HE1:Hid (jI s e=false):=by unfold Hid jI;rw [hok,hh];rfl
     have HE2:Hid (kZ s e=0):=by unfold Hid kZ;rw [if_pos hok,if_pos hh]
     rw [hh] at HV;clear hok hh;refine aN (by kernel_rfl) (by kernel_rfl) (fun W2 hW2=>?_);rw [hW2.out];clear hW2;iterate 6 go_big_quiet_step (fail)
     go_big_quiet_step (exact Calls.after (HV.out _ (h1.vec.kept (After.h _))))
     go_big_quiet_step (fail)
     refine wpQuiet_nil ?_;rintro _ ⟨i,rfl⟩;have hib:=i.h;generalize i.w=wi at hib ⊢;have hbt:=below2 UW hib;go_wp2;all_goals
        go_ret2;exact ⟨s,by rw [HE1.out,HE2.out];rfl,HH.out.kept_w hbt,Fr.of_below hbt,fun k hk=>bb hk,by rw [HE1.out];rfl,fun x hx=>bb hx⟩
   | false =>
     rw [hh] at HV;have HHH:=aq hh;clear hh;refine aN (by kernel_rfl) (by kernel_rfl) (fun W2 hW2=>?_);rw [hW2.out];clear hW2;iterate 6 go_big_quiet_step (fail)
     go_big_quiet_step (exact Calls.after (HV.out _ (h1.vec.kept (After.h _))))
     go_big_quiet_step (fail)
     refine wpQuiet_nil ?_;rintro _ ⟨i,rfl⟩;have hib:=i.h;generalize i.w=wi at hib ⊢;have BZ:=below2 UW hib;have h2:=h1.kept_w hib;have hin2:=(hin1.kept hb1).kept hib;have hR2:=ai (ai (show W.rangeAt _ _ _ from HRR.out) hb1) hib;have HG:=aq (fun (X:World) (h:VecIn X b.v b.vb s.ctx)=>Ag e.dot.a (iw hdo).a X h);clear x0 x1 x2 xm v0 v1 v2 v6 v7 v8 v9 y3 h1 hin1;generalize wi=w2 at *;have v0:w2.cell? ⟨w.heap.size,0,none⟩=some (.int .i64 e.dot.a.dev):=by have:=hR2 0 _ rfl;rwa [aw] at this
     have v1:w2.cell? ⟨w.heap.size,1,none⟩=some (.int .i64 e.dot.a.inc):=by have:=hR2 1 _ rfl;rwa [aw] at this
     have v2:w2.cell? ⟨w.heap.size,2,none⟩=some (.int .i64 e.dot.seq):=by have:=hR2 2 _ rfl;rwa [aw] at this
     have v6:w2.cell? ⟨w.heap.size,6,none⟩=some (.int .i64 e.kind):=by have:=hR2 6 _ rfl;rwa [aw] at this
     have v7:w2.cell? ⟨w.heap.size,7,none⟩=some (.string e.key.name):=by have:=hR2 7 _ rfl;rwa [aw] at this
     have v8:w2.cell? ⟨w.heap.size,8,none⟩=some (.string e.key.domain):=by have:=hR2 8 _ rfl;rwa [aw] at this
     have v9:w2.cell? ⟨w.heap.size,9,none⟩=some (.string e.key.path):=by have:=hR2 9 _ rfl;rwa [aw] at this
     have y3:=(dC h2.cell).2.2.2;go_upto_region 7 with fail
     have x0:=fun i:After w2=>i.cell v0;have x1:=fun i:After w2=>i.cell v1;have x2:=fun i:After w2=>i.cell v2;have xm:=fun i:After w2=>i.cell y3;have hwr:IntKind.i64.wrap (fC s.ctx e.dot.a+1)=fC s.ctx e.dot.a+1:=IntWalk.i64_in _ (by omega);by_cases hsq:fC s.ctx e.dot.a+1=e.dot.seq
     case neg =>
        have HE1:Hid (jI s e=false):=by unfold Hid jI;rw [aM hsq];simp
        have HE2:Hid (kZ s e=6):=by unfold Hid kZ;rw [if_pos hok,if_neg (by rw [HHH.out];decide),if_neg hsq]
        have hq1:(e.dot.seq != fC s.ctx e.dot.a+1)=true:=by rw [bne_iff_ne];omega
        clear hsq hok;refine aN (by kernel_rfl) (by kernel_rfl) (fun W3 hW3=>?_);rw [hW3.out];clear hW3;iterate 10 go_big_quiet_step (fail)
        go_big_quiet_step (exact Calls.after (HG.out _ (h2.vec.kept (After.h _))))
        iterate 3 go_big_quiet_step (fail)
        refine wpQuiet_nil ?_;rintro _ ⟨i,rfl⟩;have hib:=i.h;generalize i.w=wi at hib ⊢;have hbt:=below2 BZ hib;go_wp2;all_goals
         go_ret2;exact ⟨s,by rw [HE1.out,HE2.out];rfl,HH.out.kept_w hbt,Fr.of_below hbt,fun k hk=>bb hk,by rw [HE1.out];rfl,fun x hx=>bb hx⟩
     have hq1:(e.dot.seq != fC s.ctx e.dot.a+1)=false:=by rw [bne_eq_false_iff_eq];omega
     refine aN (by kernel_rfl) (by kernel_rfl) (fun W3 hW3=>?_);rw [hW3.out];clear hW3;iterate 10 go_big_quiet_step (fail)
     go_big_quiet_step (exact Calls.after (HG.out _ (h2.vec.kept (After.h _))))
     iterate 3 go_big_quiet_step (fail)
     refine wpQuiet_nil ?_;rintro _ ⟨i,rfl⟩;have hib:=i.h;generalize i.w=wi at hib ⊢;have mG:=below2 BZ hib;have h3:=h2.kept_w hib;have oD:=hin2.kept hib;have hR3:=ai hR2 hib;have HRM:=aq (Kv wi h3 (by have:=HI.out.len;omega));clear x0 x1 x2 xm v0 v1 v2 v6 v7 v8 v9 y3 h2 hin2 hR2 HG hwr;generalize wi=w3 at *;by_cases hfl:s.K.length<2048
     case neg =>
        have HE1:Hid (jI s e=false):=by unfold Hid jI;rw [aM hfl];simp
        have HE2:Hid (kZ s e=9):=by unfold Hid kZ;rw [if_pos hok,if_neg (by rw [HHH.out];decide),if_pos hsq,if_neg hfl]
        rw [aM hfl] at HRM;clear hsq hok hfl;go_wp2_with (go_at_call 55;(with_reducible refine HRM.out.mono ?_);rintro x wr ⟨rfl,rfl⟩)
        all_goals
         go_ret2;exact ⟨s,by rw [HE1.out,HE2.out];rfl,HH.out.kept_w mG,Fr.of_below mG,fun k hk=>bb hk,by rw [HE1.out];rfl,fun x hx=>bb hx⟩
     rw [aR hfl] at HRM;have HE1:Hid (jI s e=true):=by unfold Hid jI;rw [hok,HHH.out,aR hsq,aR hfl];rfl
     have HE2:Hid (kZ s e=0):=by unfold Hid kZ;rw [if_pos hok,if_neg (by rw [HHH.out];decide),if_pos hsq,if_pos hfl]
     have htk:pI s.ctx e.dot=true:=by unfold pI;rw [hdo,aR hsq];rfl
     have Vf:=fun (X:World) (h:VecIn X b.v b.vb s.ctx)=>Nc e.dot X h HI.out.ctx (by omega);rw [htk,if_pos rfl] at Vf;have HTK:=aq Vf;have HFL:=aq hfl;have HOK:=aq hok;clear Vf htk hsq hfl hok;go_upto_region 11 with (go_at_call 55;(with_reducible refine HRM.out.mono ?_);rintro x wr ⟨rfl,rfl⟩)
     have z0:w3.cell? ⟨w.heap.size,0,none⟩=some (.int .i64 e.dot.a.dev):=by have:=hR3 0 _ rfl;rwa [aw] at this
     have z1:w3.cell? ⟨w.heap.size,1,none⟩=some (.int .i64 e.dot.a.inc):=by have:=hR3 1 _ rfl;rwa [aw] at this
     have z2:w3.cell? ⟨w.heap.size,2,none⟩=some (.int .i64 e.dot.seq):=by have:=hR3 2 _ rfl;rwa [aw] at this
     have z6:w3.cell? ⟨w.heap.size,6,none⟩=some (.int .i64 e.kind):=by have:=hR3 6 _ rfl;rwa [aw] at this
     have z7:w3.cell? ⟨w.heap.size,7,none⟩=some (.string e.key.name):=by have:=hR3 7 _ rfl;rwa [aw] at this
     have z8:w3.cell? ⟨w.heap.size,8,none⟩=some (.string e.key.domain):=by have:=hR3 8 _ rfl;rwa [aw] at this
     have z9:w3.cell? ⟨w.heap.size,9,none⟩=some (.string e.key.path):=by have:=hR3 9 _ rfl;rwa [aw] at this
     replace z0:w3.drew.cell? _=_:=z0;replace z1:w3.drew.cell? _=_:=z1;replace z2:w3.drew.cell? _=_:=z2;replace h3:MpIn w3.drew m b s:=h3.kept_w (bh _ _).drew;replace hR3:w3.drew.rangeAt w.heap.size 0 (az e a cap):=hR3;have z3:=(dC h3.cell).2.2.2;have oD:DotsIn w3.drew a e.over:=oD.kept (bh w3.heap.size w3).drew;clear z6 z7 z8 z9;have hb0:Below w3.drew.heap.size w3.drew w3.drew:=bh _ _;refine wp_region_noPanic ?_;refine bH (fun X=>Below w3.drew.heap.size w3.drew X) [6] (by kernel_rfl) ?_;refine tL (v:=?_) 0 41 rfl (bb ⟨by rfl,?_⟩) ?_
     case refine_2 => exact z15
     try simp only [pS]
     refine tL (v:=?_) 1 42 rfl (bb ⟨by rfl,?_⟩) ?_
     case refine_2 => exact z15
     try simp only [pS]
     refine tL (v:=?_) 2 43 rfl (bb ⟨by rfl,?_⟩) ?_
     case refine_2 => exact z15
     try simp only [pS]
     refine tL (v:=?_) 3 44 rfl (bb ⟨by rfl,?_⟩) ?_
     case refine_2 => exact z15
     try simp only [pS]
     refine tL (v:=?_) 4 45 rfl (bb ⟨by rfl,?_⟩) ?_
     case refine_2 => exact z15
     try simp only [pS]
     refine tL (v:=?_) 5 46 rfl (bb ⟨by rfl,?_⟩) ?_
     case refine_2 => exact z15
     try simp only [pS]
     refine bD (i:=6) (o:=⟨some 47,_,_,_,_,_⟩) (by kernel_rfl) rfl ?_;intro K hK;go_simp;go_at_call 56;(with_reducible refine (HTK.out _ h3.vec).mono ?_)
     rintro x w4 ⟨rfl,hv4,hf4⟩;go_simp;refine hK.out _ _ (bb (by kernel_rfl)) ?_;clear hK K;try simp only [pS]
     refine jZ (by kernel_rfl) ?_ _;refine NoPanic.normal ?_;have hK4:=h3.keeps hf4 (fun i hi=>by subst hi;exact uy b _);have h4:MpIn w4.drew m b { s with ctx:=setM s.ctx e.dot.a e.dot.seq }:=(h3.setCtx hv4 hf4).kept_w (bh _ _).drew;have hR4:w4.drew.rangeAt w.heap.size 0 (az e a cap):=hK4.range hR3;have oC:DotsIn w4.drew a e.over:=(hK4.dots oD).kept (bh w4.heap.size w4).drew;have VY:Fr (foot b s.A) w w4.drew:=((Fr.of_below mG).again (hf4.undrew.mono fun k _ hk=>by rw [show k=b.vb from hk];exact uy b _)).again (Fr.of_below (bh w4.heap.size w4).drew);have HCL:Hid (∀ X:World,DotsIn X a e.over->Calls prog 57 #[.agg (az e a cap).toArray] X (Di e X)):=aq (fun (X:World) (h:DotsIn X a e.over)=>ug e a cap X (by omega) hn0 h);clear h3 hR3 oD z0 z1 z2 z3 hb0 hv4 hf4 hK4 mG;go_upto_region 12 with fail
     have z0:w4.drew.cell? ⟨w.heap.size,0,none⟩=some (.int .i64 e.dot.a.dev):=by have:=hR4 0 _ rfl;rwa [aw] at this
     have z1:w4.drew.cell? ⟨w.heap.size,1,none⟩=some (.int .i64 e.dot.a.inc):=by have:=hR4 1 _ rfl;rwa [aw] at this
     have z2:w4.drew.cell? ⟨w.heap.size,2,none⟩=some (.int .i64 e.dot.seq):=by have:=hR4 2 _ rfl;rwa [aw] at this
     have z6:w4.drew.cell? ⟨w.heap.size,6,none⟩=some (.int .i64 e.kind):=by have:=hR4 6 _ rfl;rwa [aw] at this
     have z7:w4.drew.cell? ⟨w.heap.size,7,none⟩=some (.string e.key.name):=by have:=hR4 7 _ rfl;rwa [aw] at this
     have z8:w4.drew.cell? ⟨w.heap.size,8,none⟩=some (.string e.key.domain):=by have:=hR4 8 _ rfl;rwa [aw] at this
     have z9:w4.drew.cell? ⟨w.heap.size,9,none⟩=some (.string e.key.path):=by have:=hR4 9 _ rfl;rwa [aw] at this
     have z3:=(dC h4.cell).1;have hb0:Below w4.drew.heap.size w4.drew w4.drew:=bh _ _;clear z6 z7 z8 z9;refine wp_region_noPanic ?_;refine bH (fun X=>Below w4.drew.heap.size w4.drew X) [8] (by kernel_rfl) ?_;refine tL (v:=?_) 0 48 rfl (bb ⟨by rfl,?_⟩) ?_
     case refine_2 => exact z15
     try simp only [pS]
     refine tL (v:=?_) 1 49 rfl (bb ⟨by rfl,?_⟩) ?_
     case refine_2 => exact z15
     try simp only [pS]
     refine tL (v:=?_) 2 50 rfl (bb ⟨by rfl,?_⟩) ?_
     case refine_2 => exact z15
     try simp only [pS]
     refine tL (v:=?_) 3 51 rfl (bb ⟨by rfl,?_⟩) ?_
     case refine_2 => exact z15
     try simp only [pS]
     refine tL (v:=?_) 4 52 rfl (bb ⟨by rfl,?_⟩) ?_
     case refine_2 => exact z15
     try simp only [pS]
     refine tL (v:=?_) 5 53 rfl (bb ⟨by rfl,?_⟩) ?_
     case refine_2 => exact z15
     try simp only [pS]
     refine tL 6 54 rfl (yieldsIf_load_mid (by rfl) 82 _ rfl w.heap.size 0 rfl (az e a cap) _ (fun X hX=>ai hR4 hX) underlying82 rfl (by kernel_rfl)) ?_;try simp only [pS]
     refine bD (i:=7) (o:=⟨some 55,_,_,_,_,_⟩) (by kernel_rfl) rfl ?_;intro K hK;go_simp;go_at_call 57;(with_reducible refine (HCL.out _ oC).mono ?_)
     rintro x w5 ⟨a5,c5,rfl,hown5,hb5⟩;go_simp;refine hK.out _ _ (bd (hb5)) ?_;clear hK K;try simp only [pS]
     have h5:=h4.kept_w hb5;have hnew:∀ p∈kC s.K,p.1≠e.dot:=fun p hp e2=>by
        obtain ⟨x,hx,rfl⟩:=List.mem_map.1 hp;have:=(HI.out.kept x hx).2;rw [show x.1.dot=e.dot from e2,HHH.out] at this
        cases this
     obtain ⟨w6,hrun6,Iw,hf6⟩:=h5.kept.store_new jE underlying119 (by show (kC s.K).length<_;unfold kC maxLen;rw [List.length_map];have:=HFL.out;omega) (iw hdo) hnew ((e,a5,c5):EvIt);have hK6:=h5.keeps hf6 (fun i hi=>by rw [show i=b.kb from hi];exact jT b _);have ho5:=iF hown5;obtain ⟨a5',c5',he5,hd5⟩:=ho5;have hd6:DotsIn w6 a5 e.over:=by
        simp only [Value.slice.injEq] at he5;rw [he5.1];exact hK6.dots hd5
     have h6:MpIn w6 m b { s with ctx:=setM s.ctx e.dot.a e.dot.seq,K:=(e,a5,c5) :: s.K }:=h5.setKept Iw (fun x hx=>by
        rcases List.mem_cons.1 hx with rfl | hx
        ·exact hd6
        ·exact hK6.dots (h5.overs x hx)) hf6
     have HT6:Hid (TypD w6 e a5):=TypD.keepC (MG hown5 rfl).2 hK6;have hR6:w6.rangeAt w.heap.size 0 (az e a cap):=hK6.range (ai hR4 hb5);have tC:DotsIn w6 a e.over:=hK6.dots (oC.kept hb5);have Qx:Fr (foot b s.A) w w6:=(VY.again (Fr.of_below hb5)).again (hf6.mono fun k _ hk=>by rw [show k=b.kb from hk];exact jT b _);clear hd6 hd5 he5 hown5 Iw hf6 hK6 hb5 h5 hnew h4 hR4 oC z0 z1 z2 z3 VY;refine bD (i:=8) (o:=⟨none,_,_,_,_,_⟩) (by kernel_rfl) rfl ?_;intro K hK;go_simp;refine hK.out _ _ (bb (by kernel_rfl)) ?_;clear hK K;try simp only [pS]
     refine jZ (by kernel_rfl) ?_ _;refine NoPanic.normal ?_;clear hrun6 hb0 HCL HTK HRM HV HR;have z0:w6.cell? ⟨w.heap.size,0,none⟩=some (.int .i64 e.dot.a.dev):=by have:=hR6 0 _ rfl;rwa [aw] at this
     have z1:w6.cell? ⟨w.heap.size,1,none⟩=some (.int .i64 e.dot.a.inc):=by have:=hR6 1 _ rfl;rwa [aw] at this
     have z2:w6.cell? ⟨w.heap.size,2,none⟩=some (.int .i64 e.dot.seq):=by have:=hR6 2 _ rfl;rwa [aw] at this
     have z6:w6.cell? ⟨w.heap.size,6,none⟩=some (.int .i64 e.kind):=by have:=hR6 6 _ rfl;rwa [aw] at this
     have z7:w6.cell? ⟨w.heap.size,7,none⟩=some (.string e.key.name):=by have:=hR6 7 _ rfl;rwa [aw] at this
     have z8:w6.cell? ⟨w.heap.size,8,none⟩=some (.string e.key.domain):=by have:=hR6 8 _ rfl;rwa [aw] at this
     have z9:w6.cell? ⟨w.heap.size,9,none⟩=some (.string e.key.path):=by have:=hR6 9 _ rfl;rwa [aw] at this
     have XM:w.heap.size<w6.heap.size:=World.block_lt_of_cell? w6 _ z0;have Xr:Hid (∀ x∈((e,a5,c5):EvIt) :: s.K,KeyW x.1.key):=fun x hx=>by
        rcases List.mem_cons.1 hx with rfl | hx
        ·exact hkw
        ·exact (fH (HI.out.kept x hx).1).2.2.2.1
     have hPS:Hid (∀ q∈s.pairs,∃ x∈((e,a5,c5):EvIt) :: s.K,x.1.dot=q.2/\x.1.kind=1/\x.1.key=q.1):=fun q hq=>by
        obtain ⟨x,hx,h1,h2,h3,_⟩:=(HI.out.pairs q.1 q.2).1 hq;exact ⟨x,List.mem_cons_of_mem _ hx,h2,h1,h3⟩
     have SL:Hid (∀ k,(k,e.dot) ∉ s.pairs):=fun k hk=>by
        obtain ⟨x,hx,h1,h2,h3,_⟩:=(HI.out.pairs k e.dot).1 hk;have:=(HI.out.kept x hx).2;rw [h2,HHH.out] at this
        cases this
     have uG:=Es e.dot (iw hdo) w6 h6;have HOV:=aq hov;have VT:∀ q,foot b s.A q->foot b s.A q\/w.heap.size<=q:=fun q hq=>bb hq;clear z1 z2 z7 z8 z9;by_cases hk1:e.kind=1
     case neg =>
        have UU:(e.kind == 1)=false:=beq_eq_false_iff_ne.2 hk1;have HP:Hid (qO s e=s.pairs):=by unfold Hid qO;rw [if_neg (fun h=>hk1 h.1)]
        have HP0:=hPS;clear uG hk1;have z18:w6.cell? ⟨w.heap.size,18,none⟩=some (.slice a e.over.length cap):=by have:=hR6 18 _ rfl;rwa [aw] at this
        have HM7:=aq h6;have HTY:=aq (show TypD w6 e a5 from HT6.out);have HN7:=aq (ba hR6 (ba tC (ba Qx VT)));go_wp2;go_loopw [72] (fun i wr=>∃ (k:Nat) (A':List (Key×Nat)),i=.int .i64 k/\k<=e.over.length/\MpIn wr m b ⟨setM s.ctx e.dot.a e.dot.seq,(e,a5,c5) :: s.K,(e.over.take k).foldl (fun l d=>mM d l) s.dead,A',(e.over.take k).foldl strike (s.pairs)⟩/\KeepsC w6 wr/\Fr (foot b s.A) w wr/\(∀ q,foot b A' q->foot b s.A q\/w.heap.size<=q)) (fun i _=>e.over.length - (intOf i).toNat)
        case atStart=>exact ⟨0,s.A,rfl,Nat.zero_le _,HM7.out,fun _ _ _ _ h=>h,HN7.out.2.2.1,HN7.out.2.2.2⟩
        case round =>
         exact z9
     have UU:(e.kind == 1)=true:=beq_iff_eq.2 hk1;have HK1:=aq hk1;clear hk1;by_cases hdd:e.dot∈s.dead
     case pos =>
        have HP:Hid (qO s e=s.pairs):=by unfold Hid qO;rw [if_neg (fun h=>h.2 hdd)]
        have HP0:=hPS;have hD1:decide (e.dot∈s.dead)=true:=aR hdd;rw [hD1] at uG;have HD:=aq uG;clear uG hdd hD1;have z0:w6.cell? ⟨w.heap.size,0,none⟩=some (.int .i64 e.dot.a.dev):=by have:=hR6 0 _ rfl;rwa [aw] at this
        have z1:w6.cell? ⟨w.heap.size,1,none⟩=some (.int .i64 e.dot.a.inc):=by have:=hR6 1 _ rfl;rwa [aw] at this
        have z2:w6.cell? ⟨w.heap.size,2,none⟩=some (.int .i64 e.dot.seq):=by have:=hR6 2 _ rfl;rwa [aw] at this
        have z6:w6.cell? ⟨w.heap.size,6,none⟩=some (.int .i64 e.kind):=by have:=hR6 6 _ rfl;rwa [aw] at this
        have z7:w6.cell? ⟨w.heap.size,7,none⟩=some (.string e.key.name):=by have:=hR6 7 _ rfl;rwa [aw] at this
        have z8:w6.cell? ⟨w.heap.size,8,none⟩=some (.string e.key.domain):=by have:=hR6 8 _ rfl;rwa [aw] at this
        have z9:w6.cell? ⟨w.heap.size,9,none⟩=some (.string e.key.path):=by have:=hR6 9 _ rfl;rwa [aw] at this
        clear z7 z8 z9;go_upto_region 15 with (go_at_call 58;(with_reducible refine HD.out.mono ?_);rintro x w7 ⟨rfl,hb7⟩)
        have h7:=h6.kept_w hb7;have hR7:=ai hR6 hb7;have DN:=tC.kept hb7;have hf7:=Qx.again (Fr.of_below hb7);clear z0 z1 z2 z6 h6 hR6 tC Qx;have z18:w7.cell? ⟨w.heap.size,18,none⟩=some (.slice a e.over.length cap):=by have:=hR7 18 _ rfl;rwa [aw] at this
        have HM7:=aq h7;have HTY:=aq (show TypD w7 e a5 from HT6.out.keepC (KeepsC.of_below hb7));have HN7:=aq (ba hR7 (ba DN (ba hf7 VT)));go_wp2;go_loopw [72] (fun i wr=>∃ (k:Nat) (A':List (Key×Nat)),i=.int .i64 k/\k<=e.over.length/\MpIn wr m b ⟨setM s.ctx e.dot.a e.dot.seq,(e,a5,c5) :: s.K,(e.over.take k).foldl (fun l d=>mM d l) s.dead,A',(e.over.take k).foldl strike (s.pairs)⟩/\KeepsC w7 wr/\Fr (foot b s.A) w wr/\(∀ q,foot b A' q->foot b s.A q\/w.heap.size<=q)) (fun i _=>e.over.length - (intOf i).toNat)
        case atStart=>exact ⟨0,s.A,rfl,Nat.zero_le _,HM7.out,fun _ _ _ _ h=>h,HN7.out.2.2.1,HN7.out.2.2.2⟩
        case round =>
         exact z9
     have HP:Hid (qO s e=(e.key,e.dot) :: s.pairs):=by unfold Hid qO;rw [if_pos ⟨HK1.out,hdd⟩]
     have HP0:Hid (∀ q∈(e.key,e.dot) :: s.pairs,∃ x∈((e,a5,c5):EvIt) :: s.K,x.1.dot=q.2/\x.1.kind=1/\x.1.key=q.1):=fun q hq=>by
        rcases List.mem_cons.1 hq with rfl | hq
        ·exact ⟨_,List.mem_cons_self,rfl,HK1.out,rfl⟩
        ·exact hPS.out q hq
     have hD1:decide (e.dot∈s.dead)=false:=aM hdd;rw [hD1] at uG;have HD:=aq uG;clear uG hdd hD1;have z0:w6.cell? ⟨w.heap.size,0,none⟩=some (.int .i64 e.dot.a.dev):=by have:=hR6 0 _ rfl;rwa [aw] at this
     have z1:w6.cell? ⟨w.heap.size,1,none⟩=some (.int .i64 e.dot.a.inc):=by have:=hR6 1 _ rfl;rwa [aw] at this
     have z2:w6.cell? ⟨w.heap.size,2,none⟩=some (.int .i64 e.dot.seq):=by have:=hR6 2 _ rfl;rwa [aw] at this
     have z6:w6.cell? ⟨w.heap.size,6,none⟩=some (.int .i64 e.kind):=by have:=hR6 6 _ rfl;rwa [aw] at this
     have z7:w6.cell? ⟨w.heap.size,7,none⟩=some (.string e.key.name):=by have:=hR6 7 _ rfl;rwa [aw] at this
     have z8:w6.cell? ⟨w.heap.size,8,none⟩=some (.string e.key.domain):=by have:=hR6 8 _ rfl;rwa [aw] at this
     have z9:w6.cell? ⟨w.heap.size,9,none⟩=some (.string e.key.path):=by have:=hR6 9 _ rfl;rwa [aw] at this
     clear z7 z8 z9;go_upto_region 14 with (go_at_call 58;(with_reducible refine HD.out.mono ?_);rintro x w7 ⟨rfl,hb7⟩)
     have h7:=h6.kept_w hb7;have hR7:=ai hR6 hb7;have DN:=tC.kept hb7;have hf7:=Qx.again (Fr.of_below hb7);clear z0 z1 z2 z6 h6 hR6 tC Qx;have HT7:Hid (TypD w7 e a5):=HT6.out.keepC (KeepsC.of_below hb7);have HLV:=aq (Ih e a cap w7 h7 hkw (iw hdo) (fun hm=>SL.out _ (nz.1 hm)) (Nat.le_trans (hbd.2 _) (by decide)) (Nat.le_trans hbd.1 (by decide)));go_upto_region 15 with (first
        | ((with_reducible refine bf _ w.heap.size e a cap hR7 ?_ rfl ?_);exact rfl)
        | (go_at_call 59;(with_reducible refine HLV.out.mono ?_);rintro x w8 ⟨rfl,A8,h8,Oz,IA⟩))
     have hK8:=h7.keeps Oz (fun _ h=>h);have HK8:=aq hK8;have hR8:=hK8.range hR7;have UJ:=hK8.dots DN;have hf8:=hf7.again Oz;have Xg:∀ q,foot b A8 q->foot b s.A q\/w.heap.size<=q:=fun q hq=>(IA q hq).imp id (fun h=>by have:=hf7.size;omega);clear h7 hR7 DN hf7 Oz IA hK8;have z18:w8.cell? ⟨w.heap.size,18,none⟩=some (.slice a e.over.length cap):=by have:=hR8 18 _ rfl;rwa [aw] at this
     have HM7:=aq h8;have HTY:=aq (show TypD w8 e a5 from HT7.out.keepC HK8.out);have HN7:=aq (ba hR8 (ba UJ (ba hf8 Xg)));go_wp2;go_loopw [72] (fun i wr=>∃ (k:Nat) (A':List (Key×Nat)),i=.int .i64 k/\k<=e.over.length/\MpIn wr m b ⟨setM s.ctx e.dot.a e.dot.seq,(e,a5,c5) :: s.K,(e.over.take k).foldl (fun l d=>mM d l) s.dead,A',(e.over.take k).foldl strike ((e.key,e.dot) :: s.pairs)⟩/\KeepsC w8 wr/\Fr (foot b s.A) w wr/\(∀ q,foot b A' q->foot b s.A q\/w.heap.size<=q)) (fun i _=>e.over.length - (intOf i).toNat)
     case atStart=>exact ⟨0,A8,rfl,Nat.zero_le _,HM7.out,fun _ _ _ _ h=>h,HN7.out.2.2.1,HN7.out.2.2.2⟩
     case round =>
        obtain ⟨k,A1,rfl,hk,hMk,hKk,hfk,KI⟩:=hrel;have HKK:=aq (ba hKk (ba hfk KI));have HMK:=aq hMk;by_cases hlt:k<e.over.length
        ·have hzw:w.heap.size<=wr.heap.size:=hfk.size
         obtain ⟨A2,off,rfl,c0,c1,c2⟩:=(hKk.dots HN7.out.2.1).at hlt;have hdw:DotW e.over[k]:=iw (HOV.out _ (List.getElem_mem hlt));have HT:Hid (e.over.take (k+1)=e.over.take k++[e.over[k]]):=by
           exact z81
         have KP:((e.over.take k).foldl (fun l d=>mM d l) s.dead).length<=1073741824:=by
           have h1:=kD (e.over.take k) s.dead;rw [List.length_take] at h1;omega
         have HLT:=aq hlt;generalize e.over[k]=d at c0 c1 c2 hdw HT
         refine y79 ?_
         intro HKL
         clear hMk hKk hfk KI hlt
         go_upto_region 18 with fail
         refine y38 ?_
         intro Wx hWx hbx y0 y1 y2
         clear hWx c0 c1 c2
         go_wp2_with (go_at_call 60;(with_reducible refine (HKL.out _ hbx).mono ?_);rintro x wk ⟨rfl,A3,hM3,hf3,Qw⟩)
         have HZ:=aq (ba hM3 (ba hf3 Qw));clear hM3 hf3 Qw y0 y1 y2;go_roundw
         case rel =>
           exact z66
         case measure => exact z65
        ·obtain rfl:k=e.over.length:=by omega
         clear hKk hfk KI hMk;go_wp2;all_goals
           go_ret2;obtain ⟨p1,p2,p3⟩:=HKK.out;exact ⟨⟨setM s.ctx e.dot.a e.dot.seq,(e,a5,c5) :: s.K,e.over.foldl (fun l d=>mM d l) s.dead,A1,e.over.foldl strike ((e.key,e.dot) :: s.pairs)⟩,by rw [HE1.out,HE2.out];rfl,by have:=HMK.out;rw [List.take_length] at this;exact this,p2,p3,by rw [HE1.out,if_pos rfl];exact ⟨rfl,⟨a5,c5,List.Perm.refl _⟩,rfl,by rw [HP.out]⟩,fun x hx=>(List.mem_cons.1 hx).elim (fun h=>bd (by rw [h];exact HTY.out.keepC p1)) bb⟩
theorem Kz {m:Nat} {b:MB} {s:MS} (e:Ev) (a:Option Addr) (cap:Nat) (w:World) (h:MpIn w m b s) (hi:MInv s) (hs:EvSmall e) (hin:DotsIn w a e.over) (hn0:a=none->e.over=[]) (hcl:s.ctx.length<=536870912) (hdl:s.dead.length<=536870912) :
 Calls prog 22 #[.pointer (some ⟨m,0,none⟩),kV e a cap] w (RetAp m b s e w):=by
 refine (Ie e a cap w h hi hs hin hn0 hcl hdl).mono ?_;rintro x w' ⟨s',h1,h2,h3,h4,h5,_⟩;exact ⟨s',h1,h2,h3,h4,h5⟩
theorem QZ {d x:Dot} {l:List Dot}:x∈mM d l↔x=d\/x∈l:=by
 unfold mM;split
 ·rename_i h
  constructor
  ·exact bd
  ·rintro (rfl | h2)
   ·exact h
   ·exact h2
 ·exact List.mem_cons
theorem lZ:∀ {l dead:List Dot} {x:Dot},x∈l.foldl (fun l d=>mM d l) dead↔x∈l\/x∈dead
 | [],dead,x=>by simp
 | d :: l,dead,x=>by
   rw [List.foldl_cons,lZ,QZ,List.mem_cons];constructor
   ·rintro (h | h | h)
    ·exact bb (bd h)
    ·exact bb (bb h)
    ·exact bd h
   ·rintro ((h | h) | h)
    ·exact bd (bb h)
    ·exact bb h
    ·exact bd (bd h)
theorem JL {pairs:List (Key×Dot)} {d:Dot} {q:Key×Dot}:q∈strike pairs d↔q∈pairs/\q.2≠d:=by
 unfold strike;rw [List.mem_filter,decide_eq_true_eq]
theorem tV:∀ {l:List Dot} {P:List (Key×Dot)} {q:Key×Dot},q∈l.foldl strike P↔q∈P/\q.2 ∉ l
 | [],P,q=>by simp
 | d :: l,P,q=>by
   rw [List.foldl_cons,tV,JL,List.mem_cons];constructor
   ·rintro ⟨⟨h1,h2⟩,h3⟩
    exact ⟨h1,fun h=>h.elim h2 h3⟩
   ·rintro ⟨h1,h2⟩
    exact ⟨⟨h1,fun h=>h2 (bb h)⟩,fun h=>h2 (bd h)⟩
theorem qp:∀ (l:List Dot) {P:List (Key×Dot)},P.Nodup->(l.foldl strike P).Nodup
 | [],_,h=>h
 | _ :: l,_,h=>qp l (h.filter _)
theorem jY {s:MS} {e:Ev} (h:jI s e=true):dm e=true/\iq s.ctx e.dot=false/\fC s.ctx e.dot.a+1=e.dot.seq/\s.K.length<2048:=by
 unfold jI at h;simpa using h
theorem xw {l:List Dot} {e d:Dot} (hd:bn d=true) (he:fC l e.a+1=e.seq):iq (setM l e.a e.seq) d=(iq l d || decide (d=e)):=by
 unfold iq;rw [hd,Cc,Bool.true_and,Bool.true_and,Bool.eq_iff_iff];simp only [Bool.or_eq_true,decide_eq_true_eq];by_cases h:d.a=e.a
 ·rw [if_pos h]
  constructor
  ·intro h2
   by_cases h3:d.seq=e.seq
   ·exact bd (by cases d;cases e;simp_all)
   ·exact bb (by rw [h];omega)
  ·rintro (h2 | h2)
   ·rw [h] at h2;omega
   ·rw [h2];omega
 ·rw [if_neg h]
  constructor
  ·exact bb
  ·rintro (h2 | h2)
   ·exact h2
   ·exact absurd (by rw [h2]) h
theorem z123 {p : Prop} (h : p := by
 obtain ⟨x, hx, y1, y2, y3, y4⟩ := (hi.pairs _ _).1 hq
 exact ⟨x, hK.mem_iff.2 (List.mem_cons_of_mem _ hx), y1, y2, y3, fun h => h.elim hno y4⟩) : p := h
theorem MInv.applied {s s':MS} {e:Ev} (hi:MInv s) (h:jI s e=true) (ha:Applied s e s'):MInv s':=by
 obtain ⟨h1,h2,h3,h4⟩:=jY h;obtain ⟨p1,p2,p3,p4,p5⟩:=fH h1;obtain ⟨a,c,hK⟩:=ha.kept;have hold:∀ x∈s.K,x.1.dot≠e.dot:=fun x hx e2=>by
  have:=(hi.kept x hx).2;rw [e2,h2] at this
  cases this
 have hpe:∀ k,(k,e.dot) ∉ s.pairs:=fun k hk=>by
  obtain ⟨x,hx,_,q,_⟩:=(hi.pairs _ _).1 hk;exact hold x hx q
 refine ⟨by rw [ha.ctx];exact Ap hi.ctx,fun d hd=>?_,fun x hx=>?_,fun k d=>?_,?_,fun d hd=>?_,?_⟩
 ·rw [ha.ctx] at hd
  rcases Aq hd with rfl | hd
  ·exact p1
  ·exact hi.ctxOk d hd
 ·rcases List.mem_cons.1 (hK.mem_iff.1 hx) with rfl | hx
  ·refine ⟨h1,?_⟩
   rw [ha.ctx,xw p1 h3];simp
  ·obtain ⟨q1,q2⟩:=hi.kept x hx
   refine ⟨q1,?_⟩;rw [ha.ctx,xw (fH q1).1 h3,q2];rfl
 ·rw [ha.pairs,tV,ha.dead,lZ]
  unfold qO;by_cases hp:e.kind=1/\e.dot ∉ s.dead
  ·rw [if_pos hp,List.mem_cons]
   constructor
   ·rintro ⟨hq | hq,hno⟩
    ·simp only [Prod.mk.injEq] at hq
     obtain ⟨rfl,rfl⟩:=hq;exact ⟨(e,a,c),hK.mem_iff.2 List.mem_cons_self,hp.1,rfl,rfl,fun h=>h.elim hno hp.2⟩
    ·exact z123
   ·rintro ⟨x,hx,y1,y2,y3,y4⟩
    refine ⟨?_,fun h=>y4 (bb h)⟩;rcases List.mem_cons.1 (hK.mem_iff.1 hx) with rfl | hx
    ·exact bb (by rw [<- y2,<- y3])
    ·exact bd ((hi.pairs _ _).2 ⟨x,hx,y1,y2,y3,fun h=>y4 (bd h)⟩)
  ·rw [if_neg hp]
   constructor
   ·rintro ⟨hq,hno⟩
    exact z123
   ·rintro ⟨x,hx,y1,y2,y3,y4⟩
    refine ⟨?_,fun h=>y4 (bb h)⟩;rcases List.mem_cons.1 (hK.mem_iff.1 hx) with rfl | hx
    ·exact absurd ⟨y1,fun h=>y4 (bd (by rw [<- y2];exact h))⟩ hp
    ·exact (hi.pairs _ _).2 ⟨x,hx,y1,y2,y3,fun h=>y4 (bd h)⟩
 ·rw [ha.pairs]
  apply qp;unfold qO;split
  ·exact List.nodup_cons.2 ⟨hpe _,hi.pnd⟩
  ·exact hi.pnd
 ·rw [ha.dead,lZ] at hd
  rcases hd with hd | hd
  ·exact p2 d hd
  ·exact hi.dead d hd
 ·rw [hK.length_eq]
  simp only [List.length_cons];omega
theorem MInv.empty:MInv MS.empty:=⟨List.Pairwise.nil,fun d hd=>(nomatch hd),fun x hx=>(nomatch hx),fun k d=>⟨fun h=>(nomatch h),fun ⟨x,hx,_⟩=>(nomatch hx)⟩,List.nodup_nil,fun d hd=>(nomatch hd),Nat.zero_le _⟩
/-- behind Apply, whatever was answered -/
theorem RetAp.inv {m:Nat} {b:MB} {s s':MS} {e:Ev} (hi:MInv s) (h:if jI s e=true then Applied s e s' else s'=s):MInv s':=by
 split at h
 ·rename_i h1;exact hi.applied h1 h
 ·rw [h];exact hi
theorem RetAp.sizes {s s':MS} {e:Ev} (h:if jI s e=true then Applied s e s' else s'=s):s'.ctx.length<=s.ctx.length+1/\s'.dead.length<=s.dead.length+64:=by
 split at h
 ·rename_i h1
  have h2:=(fH (jY h1).1).2.2.1;rw [h.ctx,h.dead];have h3:=yT s.ctx e.dot.a e.dot.seq;have h4:=kD e.over s.dead;omega
 ·rw [h];omega
end Go.Proofs.YthphepeniaemoaaGreat
