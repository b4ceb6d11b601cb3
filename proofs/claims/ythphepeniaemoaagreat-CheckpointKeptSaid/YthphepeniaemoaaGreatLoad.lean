/- A whole struct loaded out of a block, at once; which cells an event has. Conditions: none. -/
import Derived.Test.YthphepeniaemoaaGreatCel
import Derived.Deep.MidRow
import Derived.Maps.AppendAt
import Derived.Deep.AppendLies
import Derived.Test.YthphepeniaemoaaGreatDot
import Derived.WalkSmall
set_option linter.unusedSimpArgs false
set_option linter.unusedVariables false
set_option linter.unnecessarySimpa false
set_option maxHeartbeats 16000000
set_option maxRecDepth 100000
open Go.Proofs.Tryz
namespace Go.Proofs.YthphepeniaemoaaGreat
open Go.RowKit
theorem iL {P:Program} {ops:Array Oper} {rest:List Oper} {a:Act} {w:World} {Q:Exit->Act->World->Prop} {dst:Option Tmp} {type:TypeId} {pos:String} {after:Array Edge} {guard:Option (Nat×Bool)} (ty:TypeId) (x:Operand)
 (b o:Nat) (cs:List Value) (d:TypeDesc) (hu:P.underlying ty=some d) (hd:d.isRow=true) (hi:(P.info? ty).map (·.size)=some cs.length)
 (hc:w.rangeAt b o cs)
 (hw:Region.wanted ⟨dst,.load ty x,type,pos,after,guard⟩ (yielded ops a.tmps)=true)
 (hx:a.eval x=.pointer (some ⟨b,o,none⟩))
 (h:wpList P ops Q rest (a.put dst (.agg cs.toArray)) w):wpList P ops Q (⟨dst,.load ty x,type,pos,after,guard⟩ :: rest) a w :=
 BigFrame.wpList_want hw fun _ hK=>wp_load_mid ty x rfl b o hx cs d hc hu hd hi (hK _ _ h)
theorem ai {w w':World} {b o:Nat} {cs:List Value} (h:w.rangeAt b o cs) (hb:Below w.heap.size w w'):w'.rangeAt b o cs:=fun j v hv=>kept hb (h j v hv)
def ah (e:Ev) (a:Option Addr) (cap:Nat):List Value :=
 [.int .i64 e.dot.a.dev,.int .i64 e.dot.a.inc,.int .i64 e.dot.seq,.int .i64 e.stamp.wall,.int .i64 e.stamp.count,.int .i64 e.stamp.dev,.int .i64 e.kind,.string e.key.name,.string e.key.domain,.string e.key.path,.string e.ck.value,.bool e.ck.hostOnly,.bool e.ck.secure,.bool e.ck.httpOnly,.bool e.ck.persistent,.int .i64 e.ck.expiry,.int .i64 e.ck.creation,.int .i64 e.ck.access,.slice a e.over.length cap]
theorem dA (e:Ev) (a:Option Addr) (cap:Nat) (w:World) (t:TypeId):(w.alloc (Obj.cells #[.int .i64 e.dot.a.dev,.int .i64 e.dot.a.inc,.int .i64 e.dot.seq,.int .i64 e.stamp.wall,.int .i64 e.stamp.count,.int .i64 e.stamp.dev,.int .i64 e.kind,.string e.key.name,.string e.key.domain,.string e.key.path,.string e.ck.value,.bool e.ck.hostOnly,.bool e.ck.secure,.bool e.ck.httpOnly,.bool e.ck.persistent,.int .i64 e.ck.expiry,.int .i64 e.ck.creation,.int .i64 e.ck.access,.slice a e.over.length cap] t)).rangeAt w.heap.size 0 (ah e a cap):=by
 intro j v hv;rw [av,World.cell?_alloc_new];exact (by simpa [ah] using hv)
/-- the load of an event that lies in block b -/
theorem bf {ops:Array Oper} {rest:List Oper} {a:Act} {w:World} {Q:Exit->Act->World->Prop} {dst:Option Tmp} {type:TypeId} {pos:String} {after:Array Edge} {guard:Option (Nat×Bool)} (x:Operand)
 (b:Nat) (e:Ev) (ad:Option Addr) (cap:Nat) (hc:w.rangeAt b 0 (ah e ad cap))
 (hw:Region.wanted ⟨dst,.load 82 x,type,pos,after,guard⟩ (yielded ops a.tmps)=true)
 (hx:a.eval x=.pointer (some ⟨b,0,none⟩))
 (h:wpList prog ops Q rest (a.put dst (jD e ad cap)) w):wpList prog ops Q (⟨dst,.load 82 x,type,pos,after,guard⟩ :: rest) a w :=
 iL 82 x b 0 (ah e ad cap) _ underlying82 rfl (by kernel_rfl) hc hw hx h
theorem zF {P:Program} {ops:Array Oper} {rest:List Oper} {a:Act} {C:World->Prop} {Q:Act->Prop} {dst:Option Tmp} {type:TypeId} {pos:String} {after:Array Edge} {guard:Option (Nat×Bool)} (ty:TypeId) (x:Operand)
 (b o:Nat) (cs:List Value) (d:TypeDesc) (hu:P.underlying ty=some d) (hd:d.isRow=true) (hi:(P.info? ty).map (·.size)=some cs.length)
 (hc:∀ w,C w->w.rangeAt b o cs)
 (hw:Region.wanted ⟨dst,.load ty x,type,pos,after,guard⟩ (yielded ops a.tmps)=true)
 (hx:a.eval x=.pointer (some ⟨b,o,none⟩))
 (h:wpQuiet P ops C Q rest (a.put dst (.agg cs.toArray))):wpQuiet P ops C Q (⟨dst,.load ty x,type,pos,after,guard⟩ :: rest) a :=
 BigFrame.wpQuiet_want hw fun K hK=>⟨.agg cs.toArray,fun w hw'=>by
  unfold Oper.quietAt execOp;simp only [hx,Instr.loadAt,Instr.sureAddr,Sem.run_bind,Sem.run_pure,Result.andThen_ok,run_loadVar_mid w b o ty cs d (hc w hw') hu hd hi];exact ⟨rfl,rfl⟩,hK _ h⟩
theorem bz {P:Program} {ops:Array Oper} {rest:List Oper} {a:Act} {w:World} {Q:Exit->Act->World->Prop} {dst:Option Tmp} {type:TypeId} {pos:String} {after:Array Edge} {guard:Option (Nat×Bool)} (ty:TypeId) (x:Operand)
 (b o:Nat) (cs:List Value) (v:Value) (hv:Value.agg cs.toArray=v) (d:TypeDesc) (hu:P.underlying ty=some d) (hd:d.isRow=true) (hi:(P.info? ty).map (·.size)=some cs.length)
 (hc:w.rangeAt b o cs)
 (hw:Region.wanted ⟨dst,.load ty x,type,pos,after,guard⟩ (yielded ops a.tmps)=true)
 (hx:a.eval x=.pointer (some ⟨b,o,none⟩))
 (h:wpList P ops Q rest (a.put dst v) w):wpList P ops Q (⟨dst,.load ty x,type,pos,after,guard⟩ :: rest) a w :=
 iL ty x b o cs d hu hd hi hc hw hx (by rw [hv];exact h)
/-- an event out of block b, place o -/
theorem bu {ops:Array Oper} {rest:List Oper} {a:Act} {w:World} {Q:Exit->Act->World->Prop} {dst:Option Tmp} {type:TypeId} {pos:String} {after:Array Edge} {guard:Option (Nat×Bool)} (x:Operand)
 (b o:Nat) (e:Ev) (ad:Option Addr) (cap:Nat) (hc:w.rangeAt b o (ah e ad cap))
 (hw:Region.wanted ⟨dst,.load 82 x,type,pos,after,guard⟩ (yielded ops a.tmps)=true)
 (hx:a.eval x=.pointer (some ⟨b,o,none⟩))
 (h:wpList prog ops Q rest (a.put dst (jD e ad cap)) w):wpList prog ops Q (⟨dst,.load 82 x,type,pos,after,guard⟩ :: rest) a w :=
 iL 82 x b o (ah e ad cap) _ underlying82 rfl (by kernel_rfl) hc hw hx h
theorem jE {ops:Array Oper} {rest:List Oper} {a:Act} {W:World} {Q:Act->Prop} {dst:Option Tmp} {type:TypeId} {pos:String} {after:Array Edge} {guard:Option (Nat×Bool)} (x:Operand)
 (b o:Nat) (e:Ev) (ad:Option Addr) (cap:Nat) (hc:W.rangeAt b o (ah e ad cap))
 (hw:Region.wanted ⟨dst,.load 82 x,type,pos,after,guard⟩ (yielded ops a.tmps)=true)
 (hx:a.eval x=.pointer (some ⟨b,o,none⟩))
 (h:wpQuiet prog ops (fun w'=>∃ i:After W,w'=i.w) Q rest (a.put dst (jD e ad cap))):wpQuiet prog ops (fun w'=>∃ i:After W,w'=i.w) Q (⟨dst,.load 82 x,type,pos,after,guard⟩ :: rest) a :=
 zF 82 x b o (ah e ad cap) _ underlying82 rfl (by kernel_rfl) (fun _ hw'=>by obtain ⟨i,rfl⟩:=hw';exact ai hc i.h) hw hx h
theorem ML {α:Type} {l m:List α} {k:Nat} (h1:k<l.length) (h2:k<m.length) (h:l[k]≠m[k]):l≠m:=fun e=>h (by subst e;rfl)
theorem Ee {α:Type} {l m:List α} {k:Nat} (h1:k<l.length) (h2:k<m.length) (hp:l.take k=m.take k) (h:l[k]=m[k]):l.take (k+1)=m.take (k+1):=by
 rw [List.take_succ_eq_append_getElem h1,List.take_succ_eq_append_getElem h2,hp,h]
theorem GR {α:Type} {l m:List α} {k:Nat} (h1:¬ k<l.length) (h2:¬ k<m.length) (hp:l.take k=m.take k):l=m:=by
 rwa [List.take_of_length_le (by omega),List.take_of_length_le (by omega)] at hp
theorem KE {α:Type} {l m:List α} (h:¬ l.length=m.length):¬ l=m:=fun e=>h (by rw [e])
theorem z33 {p : Prop} (h : p := by
 by_cases he : l[k] = m[k]
 ·rw [aR he] at hEq
  have HS := aa (Ee hlt hlm HP.out he)
  clear he
  generalize l[k] = x at *
  generalize m[k] = y at *
  go_wp2
  go_quiet (fail)
  go_wp2
  go_roundw
  case rel => exact ⟨k + 1, by omega, by go_num, HS.out, below_drewN hbw nq⟩
  case measure => exact z69
 ·have HE : Hid (decide (l = m) = false) := aM (ML hlt hlm he)
  rw [aM he] at hEq
  clear he
  generalize l[k] = x at *
  generalize m[k] = y at *
  go_wp2
  go_quiet (fail)
  go_wp2
  go_ret
  exact ⟨au HE.out.symm, below_drewN hbw nq⟩) : p := h
theorem z98 {p : Prop} (h : p := by
 have hlm : ¬ k < m.length := by omega
 have HE : Hid (decide (l = m) = true) := aR (GR hlt hlm HP.out)
 go_wp2
 go_ret
 exact ⟨au HE.out.symm, hbw⟩) : p := h
theorem z135 {p : Prop} (h : p := by rw [h] at hlt; simp at hlt) : p := h
theorem y48 {p q : Prop} (k : q) (h : PLift q -> p := by
 intro kk
 have hb1 : ((l.length : Nat) != (m.length : Nat)) = true := by rw [bne_iff_ne]; exact hlen
 have hb2 : ((l.length : Int) != (m.length : Int)) = true := by rw [bne_iff_ne]; omega
 revert hb1 hb2
 exact kk.down) : p := h ⟨k⟩
theorem y30 {p q : Prop} (k : q) (h : PLift q -> p := by
 intro kk
 have hb1 : ((l.length : Nat) != (m.length : Nat)) = false := by rw [bne_eq_false_iff_eq]; exact hlen
 have hb2 : ((l.length : Int) != (m.length : Int)) = false := by rw [bne_eq_false_iff_eq]; omega
 have hl1 : l.length <= m.length := by omega
 have hl2 : m.length <= l.length := by omega
 revert hb1 hb2 hl1 hl2
 exact kk.down) : p := h ⟨k⟩
theorem y72 {p q : Prop} (k : q) (h : PLift q -> p := by
 intro kk
 have x0 := (hda.kept hbw).dev k hlt
 have x1 := (hda.kept hbw).inc k hlt
 have x2 := (hda.kept hbw).seq k hlt
 have y0 := (hdb.kept hbw).dev k hlm
 have y1 := (hdb.kept hbw).inc k hlm
 have y2 := (hdb.kept hbw).seq k hlm
 revert x0 x1 x2 y0 y1 y2
 exact kk.down) : p := h ⟨k⟩
theorem ul (a b:Option Addr) (ca cb:Nat) (l m:List Dot) (w:World) (hl:l.length<=1073741824) (hm:m.length<=1073741824) (ha:DotsIn w a l) (hb:DotsIn w b m) :
 Calls prog 102 #[.slice a l.length ca,.slice b m.length cb] w fun x w'=>x=.returned (.bool (decide (l=m)))/\Below w.heap.size w w':=by
 by_cases hlen:l.length=m.length
 ·refine y30 ?_
  intro hb1 hb2 hl1 hl2
  clear hlen
  go_enter func102,ntmps102;go_wp2;go_loopw [5] (fun i wr=>∃ k:Nat,k<=l.length/\i=.int .i64 k/\l.take k=m.take k/\Below w.heap.size w wr) (fun i _=>l.length - (intOf i).toNat)
  case atStart=>exact ⟨0,Nat.zero_le _,rfl,rfl,by go_grown⟩
  case round =>
        obtain ⟨k,hk,rfl,hpre,hbw⟩:=hrel;have HP:=aa hpre;clear hpre;by_cases hlt:k<l.length
        ·have hlm:k<m.length:=by omega
         rcases ha with h | ⟨A,off,rfl,hda⟩
         ·exact z135
         rcases hb with h | ⟨B,ofb,rfl,hdb⟩
         ·rw [h] at hlm;simp at hlm
         refine y72 ?_
         intro x0 x1 x2 y0 y1 y2
         have hEq:=fun (W:World)=>EQ W 9997 l[k] m[k];have hm:=lw
         exact z33
        ·exact z98
 ·have HE:Hid (decide (l=m)=false):=aM (KE hlen)
  refine y48 ?_
  intro hb1 hb2
  clear hlen
  go_enter func102,ntmps102
  exact z52
theorem Vl (e f:Ev):e=f↔e.dot=f.dot/\e.stamp=f.stamp/\e.kind=f.kind/\e.key=f.key/\e.ck=f.ck/\e.over=f.over:=by
 cases e;cases f;simp
theorem z120 {p : Prop} (h : p := by
 go_enter func140, ntmps140
 exact z52) : p := h
theorem Ho (e f:Ev) (a b:Option Addr) (ca cb:Nat) (w:World) (hl:e.over.length<=1073741824) (hm:f.over.length<=1073741824) (ha:DotsIn w a e.over) (hb:DotsIn w b f.over) :
 Calls prog 140 #[jD e a ca,jD f b cb] w fun x w'=>x=.returned (.bool (decide (e=f)))/\Below w.heap.size w w':=by
 have HV:=aa (Vl e f);have hq1:∀ W:World,(Op.equalIn 10000 76 (.agg #[.int .i64 e.dot.a.dev,.int .i64 e.dot.a.inc,.int .i64 e.dot.seq]) (.agg #[.int .i64 f.dot.a.dev,.int .i64 f.dot.a.inc,.int .i64 f.dot.seq])).run prog W=.ok (decide (e.dot=f.dot)) W:=fun W=>EQ W 9997 e.dot f.dot;have hq2:∀ W:World,(Op.equalIn 10000 32 (.agg #[.int .i64 e.stamp.wall,.int .i64 e.stamp.count,.int .i64 e.stamp.dev]) (.agg #[.int .i64 f.stamp.wall,.int .i64 f.stamp.count,.int .i64 f.stamp.dev])).run prog W=.ok (decide (e.stamp=f.stamp)) W:=fun W=>Nl W 9998 e.stamp f.stamp;have hq4:∀ W:World,(Op.equalIn 10000 78 (.agg #[.string e.key.name,.string e.key.domain,.string e.key.path]) (.agg #[.string f.key.name,.string f.key.domain,.string f.key.path])).run prog W=.ok (decide (e.key=f.key)) W:=fun W=>Uj W 9998 e.key f.key;have hq5:∀ W:World,(Op.equalIn 10000 80 (.agg #[.string e.ck.value,.bool e.ck.hostOnly,.bool e.ck.secure,.bool e.ck.httpOnly,.bool e.ck.persistent,.int .i64 e.ck.expiry,.int .i64 e.ck.creation,.int .i64 e.ck.access]) (.agg #[.string f.ck.value,.bool f.ck.hostOnly,.bool f.ck.secure,.bool f.ck.httpOnly,.bool f.ck.persistent,.int .i64 f.ck.expiry,.int .i64 f.ck.creation,.int .i64 f.ck.access])).run prog W=.ok (decide (e.ck=f.ck)) W:=fun W=>X5 W 9998 e.ck f.ck;have g1:=lw;have g2:=wE;have g4:=Bv;have g5:=DR;have HO:=aa (fun (W:World) (h1:DotsIn W a e.over) (h2:DotsIn W b f.over)=>ul a b ca cb e.over f.over W hl hm h1 h2);by_cases t0:e.dot=f.dot
 ·rw [aR t0] at hq1
  by_cases t1:e.stamp=f.stamp
  ·rw [aR t1] at hq2
   by_cases t2:e.kind=f.kind
   ·skip
    by_cases t3:e.key=f.key
    ·rw [aR t3] at hq4
     by_cases t4:e.ck=f.ck
     ·rw [aR t4] at hq5
      have HE:Hid (decide (e=f)=decide (e.over=f.over)):=by rw [Hid,Bool.eq_iff_iff,decide_eq_true_eq,decide_eq_true_eq,HV.out];simp [t0,t1,t2,t3,t4]
      clear t0;clear t1;have u2:(e.kind == f.kind)=true:=beq_iff_eq.2 t2;clear t2;clear t3;clear t4;go_enter func140,ntmps140;go_upto_region 1 with fail
      refine aN (fun W hW=>?_);have hbt:Below w.heap.size w W:=by rw [hW.out];go_grown
      have ha1:=ha.kept hbt;have hb1:=hb.kept hbt;have hR:W.rangeAt w.heap.size 0 (ah e a ca):=by rw [hW.out];exact World.rangeAt_alloc (dA e a ca w _) _
      have hS:W.rangeAt (w.heap.size+1) 0 (ah f b cb):=by
         have h:=dA f b cb (w.alloc (Obj.cells #[.int .i64 e.dot.a.dev,.int .i64 e.dot.a.inc,.int .i64 e.dot.seq,.int .i64 e.stamp.wall,.int .i64 e.stamp.count,.int .i64 e.stamp.dev,.int .i64 e.kind,.string e.key.name,.string e.key.domain,.string e.key.path,.string e.ck.value,.bool e.ck.hostOnly,.bool e.ck.secure,.bool e.ck.httpOnly,.bool e.ck.persistent,.int .i64 e.ck.expiry,.int .i64 e.ck.creation,.int .i64 e.ck.access,.slice a e.over.length ca] 82)) 82;rw [hW.out];simpa using h
      have q0:=hR 0 _ rfl;have r0:=hS 0 _ rfl;have q1:=hR 1 _ rfl;have r1:=hS 1 _ rfl;have q2:=hR 2 _ rfl;have r2:=hS 2 _ rfl;have q3:=hR 3 _ rfl;have r3:=hS 3 _ rfl;have q4:=hR 4 _ rfl;have r4:=hS 4 _ rfl;have q5:=hR 5 _ rfl;have r5:=hS 5 _ rfl;have q6:=hR 6 _ rfl;have r6:=hS 6 _ rfl;have q7:=hR 7 _ rfl;have r7:=hS 7 _ rfl;have q8:=hR 8 _ rfl;have r8:=hS 8 _ rfl;have q9:=hR 9 _ rfl;have r9:=hS 9 _ rfl;have q10:=hR 10 _ rfl;have r10:=hS 10 _ rfl;have q11:=hR 11 _ rfl;have r11:=hS 11 _ rfl;have q12:=hR 12 _ rfl;have r12:=hS 12 _ rfl;have q13:=hR 13 _ rfl;have r13:=hS 13 _ rfl;have q14:=hR 14 _ rfl;have r14:=hS 14 _ rfl;have q15:=hR 15 _ rfl;have r15:=hS 15 _ rfl;have q16:=hR 16 _ rfl;have r16:=hS 16 _ rfl;have q17:=hR 17 _ rfl;have r17:=hS 17 _ rfl;have q18:=hR 18 _ rfl;have r18:=hS 18 _ rfl;clear hW hR hS ha hb;go_wp2_with (go_at_call 102;(with_reducible refine (HO.out _ ha1 hb1).mono ?_);rintro x w1 ⟨rfl,hb2⟩)
      go_ret;exact ⟨au HE.out.symm,below2 hbt hb2⟩
     ·rw [aM t4] at hq5
      have HE:Hid (decide (e=f)=false):=by rw [Hid,decide_eq_false_iff_not,HV.out];intro h;exact t4 (by simp only [h])
      have u2:(e.kind == f.kind)=true:=beq_iff_eq.2 t2;clear t0;clear t1;clear t2;clear t3;clear t4
      exact z120
    ·rw [aM t3] at hq4
     have HE:Hid (decide (e=f)=false):=by rw [Hid,decide_eq_false_iff_not,HV.out];intro h;exact t3 (by simp only [h])
     have u2:(e.kind == f.kind)=true:=beq_iff_eq.2 t2;clear t0;clear t1;clear t2;clear t3
     exact z120
   ·have u2:(e.kind == f.kind)=false:=beq_eq_false_iff_ne.2 t2
    have HE:Hid (decide (e=f)=false):=by rw [Hid,decide_eq_false_iff_not,HV.out];intro h;exact t2 (by simp only [h])
    clear t0;clear t1;clear t2
    exact z120
  ·rw [aM t1] at hq2
   have HE:Hid (decide (e=f)=false):=by rw [Hid,decide_eq_false_iff_not,HV.out];intro h;exact t1 (by simp only [h])
   clear t0;clear t1
   exact z120
 ·rw [aM t0] at hq1
  have HE:Hid (decide (e=f)=false):=by rw [Hid,decide_eq_false_iff_not,HV.out];intro h;exact t0 (by simp only [h])
  clear t0
  exact z120
theorem z37 {p : Prop} (h : p := by
 clear h3
 go_wp2_with (first
  | (go_at_call 157; refine (HD.out _).mono ?_; rintro x w1 ⟨rfl, hb⟩; replace q0 := kept hb q0; replace q1 := kept hb q1; replace q2 := kept hb q2; replace q3 := kept hb q3; replace q4 := kept hb q4; replace q5 := kept hb q5; replace q18 := kept hb q18; replace hR := ai hR hb; replace hbt := below2 hbt hb)
  | (go_at_call 33; refine (HS.out _).mono ?_; rintro x w1 ⟨rfl, hb⟩; replace q0 := kept hb q0; replace q1 := kept hb q1; replace q2 := kept hb q2; replace q3 := kept hb q3; replace q4 := kept hb q4; replace q5 := kept hb q5; replace q18 := kept hb q18; replace hR := ai hR hb; replace hbt := below2 hbt hb))
 go_ret
 exact ⟨au HE.out.symm, hbt⟩) : p := h
theorem y1 {p q : Prop} (k : q) (h : PLift q -> p := by
 intro kk
 refine y63 ?_
 intro W2 hW2 a0 a1 a2
 have b0 : ∀ i : After W2, i.w.cell? ⟨w.heap.size, 0, none⟩ = some (.int .i64 e.dot.a.dev) := fun i => i.cell (by rw [hW2.out]; exact hw0)
 have b1 : ∀ i : After W2, i.w.cell? ⟨w.heap.size, 1, none⟩ = some (.int .i64 e.dot.a.inc) := fun i => i.cell (by rw [hW2.out]; exact hw1)
 have b2 : ∀ i : After W2, i.w.cell? ⟨w.heap.size, 2, none⟩ = some (.int .i64 e.dot.seq) := fun i => i.cell (by rw [hW2.out]; exact hw2)
 have b18 : ∀ i : After W2, i.w.cell? ⟨w.heap.size, 18, none⟩ = some (.slice (some ⟨A, off, none⟩) e.over.length cap) := fun i => i.cell (by rw [hW2.out]; exact zO)
 revert W2 hW2 a0 a1 a2 b0 b1 b2 b18
 exact kk.down) : p := h ⟨k⟩
theorem z13 {p : Prop} (h : p := by
 clear h4 hT2
 refine y1 ?_
 intro W2 hW2 a0 a1 a2 b0 b1 b2 b18
 skip
 refine y9 ?_
 rintro _ ⟨i, rfl⟩
 have hib := i.h
 clear a0 a1 a2 b0 b1 b2 b18
 skip
 generalize i.w = wi at hib ⊢
 rw [hW2.out] at hib
 go_wp2
 go_roundw
 case rel => exact ⟨k + 1, by omega, by go_num, HE.out, nI hbw hB1 hib⟩
 case measure => simp [intOf] <;> omega) : p := h
theorem z89 {p : Prop} (h : p := by
 generalize i.w = wi at hib ⊢
 rw [hW2.out] at hib
 go_wp2
 go_ret
 exact ⟨au (HEV.out HE.out).symm, hb0.trans ((nI hbw hB1 hib).mono (by omega))⟩) : p := h
theorem z62 {p : Prop} (h : p := by
 clear h4 hT2
 refine y1 ?_
 intro W2 hW2 a0 a1 a2 b0 b1 b2 b18
 exact z8) : p := h
theorem zM (e:Ev) (a:Option Addr) (cap:Nat) (w:World) (hs:EvSmall e) (ut:DotsIn w a e.over) :
 Calls prog 111 #[jD e a cap] w fun x w'=>x=.returned (.bool (dC e))/\Below w.heap.size w w':=by
 have HV:Hid (dC e=(bi e.dot && (eF e.stamp && (decide (e.stamp.dev=e.dot.a.dev) && (overOk e.dot e.over && kindOk e))))):=rfl;have HD0:=fun (W:World)=>oU e.dot W;have HS0:=fun (W:World)=>qN e.stamp W;have HC0:=aa (fun (W:World)=>FQ e.key e.ck e.ck.persistent rfl W hs.name hs.domain hs.value);have hq0:∀ W:World,(Op.equalIn 10000 183 (.agg #[.string e.key.name,.string e.key.domain,.string e.key.path,.string e.ck.value,.bool e.ck.hostOnly,.bool e.ck.secure,.bool e.ck.httpOnly,.bool e.ck.persistent,.int .i64 e.ck.expiry,.int .i64 e.ck.creation,.int .i64 e.ck.access]) (.agg #[.string ⟨#[]⟩,.string ⟨#[]⟩,.string ⟨#[]⟩,.string ⟨#[]⟩,.bool false,.bool false,.bool false,.bool false,.int .i64 0,.int .i64 0,.int .i64 0])).run prog W=.ok (decide (e.key=dW) && decide (e.ck=ck0)) W:=fun W=>Rl W 9997 e.key dW e.ck ck0;have hk0:kindOk e=if e.kind=2 then (decide (e.key=dW) && decide (e.ck=ck0)) && decide (0<e.over.length) else if e.kind=1 then gJ e.key e.ck else false:=rfl
 have HQ:=aa hq0;have HK:=aa hk0;clear hq0 hk0;have hol:=hs.over;go_enter func111,ntmps111;go_upto_region 1 with fail
 refine aN (fun W hW=>?_);have hbt:Below w.heap.size w W:=by rw [hW.out];go_grown
 have hz:w.heap.size<W.heap.size:=by rw [hW.out];simp
 have q0:W.cell? ⟨w.heap.size,0,none⟩=some (.int .i64 e.dot.a.dev):=by rw [hW.out];go_simp
 have q1:W.cell? ⟨w.heap.size,1,none⟩=some (.int .i64 e.dot.a.inc):=by rw [hW.out];go_simp
 have q2:W.cell? ⟨w.heap.size,2,none⟩=some (.int .i64 e.dot.seq):=by rw [hW.out];go_simp
 have q3:W.cell? ⟨w.heap.size,3,none⟩=some (.int .i64 e.stamp.wall):=by rw [hW.out];go_simp
 have q4:W.cell? ⟨w.heap.size,4,none⟩=some (.int .i64 e.stamp.count):=by rw [hW.out];go_simp
 have q5:W.cell? ⟨w.heap.size,5,none⟩=some (.int .i64 e.stamp.dev):=by rw [hW.out];go_simp
 have q18:W.cell? ⟨w.heap.size,18,none⟩=some (.slice a e.over.length cap):=by rw [hW.out];go_simp
 have hR:W.rangeAt w.heap.size 0 (ah e a cap):=by rw [hW.out];exact dA e a cap w _
 clear hW
 cases h1:bi e.dot with
 | false =>
   have HE:Hid (dC e=false):=by rw [Hid,HV.out,h1];rfl
   rw [h1] at HD0;have HD:=aa HD0;have HS:=aa HS0;clear HD0 HS0;go_wp2_with (first
    | (go_at_call 157;refine (HD.out _).mono ?_;rintro x w1 ⟨rfl,hb⟩;replace q0:=kept hb q0;replace q1:=kept hb q1;replace q2:=kept hb q2;replace q3:=kept hb q3;replace q4:=kept hb q4;replace q5:=kept hb q5;replace q18:=kept hb q18;replace hR:=ai hR hb;replace hbt:=below2 hbt hb)
    | (go_at_call 33;refine (HS.out _).mono ?_;rintro x w1 ⟨rfl,hb⟩;replace q0:=kept hb q0;replace q1:=kept hb q1;replace q2:=kept hb q2;replace q3:=kept hb q3;replace q4:=kept hb q4;replace q5:=kept hb q5;replace q18:=kept hb q18;replace hR:=ai hR hb;replace hbt:=below2 hbt hb))
   go_ret;exact ⟨au HE.out.symm,hbt⟩
 | true =>
   rw [h1] at HD0;have HD:=aa HD0;clear HD0
   cases h2:eF e.stamp with
   | false =>
     have HE:Hid (dC e=false):=by rw [Hid,HV.out,h1,h2];rfl
     rw [h2] at HS0;have HS:=aa HS0;clear HS0;go_wp2_with (first
        | (go_at_call 157;refine (HD.out _).mono ?_;rintro x w1 ⟨rfl,hb⟩;replace q0:=kept hb q0;replace q1:=kept hb q1;replace q2:=kept hb q2;replace q3:=kept hb q3;replace q4:=kept hb q4;replace q5:=kept hb q5;replace q18:=kept hb q18;replace hR:=ai hR hb;replace hbt:=below2 hbt hb)
        | (go_at_call 33;refine (HS.out _).mono ?_;rintro x w1 ⟨rfl,hb⟩;replace q0:=kept hb q0;replace q1:=kept hb q1;replace q2:=kept hb q2;replace q3:=kept hb q3;replace q4:=kept hb q4;replace q5:=kept hb q5;replace q18:=kept hb q18;replace hR:=ai hR hb;replace hbt:=below2 hbt hb))
     go_ret;exact ⟨au HE.out.symm,hbt⟩
   | true =>
     rw [h2] at HS0;have HS:=aa HS0;clear HS0;by_cases h3:e.stamp.dev=e.dot.a.dev
     ·have h3':(e.stamp.dev != e.dot.a.dev)=false:=by rw [bne_eq_false_iff_eq];exact h3
      by_cases h64:e.over.length<=64
      ·have HEV:Hid (overOk e.dot e.over=false->dC e=false):=fun h=>by rw [HV.out,h1,h2,aR h3,h];rfl
       have HEK:Hid (overOk e.dot e.over=true->dC e=kindOk e):=fun h=>by rw [HV.out,h1,h2,aR h3,h];rfl
       have HO:Hid (overOk e.dot e.over=bZ e.dot (bF e.over 0) (e.over.drop 0)):=by unfold Hid overOk;simp [h64,bF]
       clear h3;go_upto_block 0 with (first
        | (go_at_call 157;refine (HD.out _).mono ?_;rintro x w1 ⟨rfl,hb⟩;replace q0:=kept hb q0;replace q1:=kept hb q1;replace q2:=kept hb q2;replace q3:=kept hb q3;replace q4:=kept hb q4;replace q5:=kept hb q5;replace q18:=kept hb q18;replace hR:=ai hR hb;replace hbt:=below2 hbt hb)
        | (go_at_call 33;refine (HS.out _).mono ?_;rintro x w1 ⟨rfl,hb⟩;replace q0:=kept hb q0;replace q1:=kept hb q1;replace q2:=kept hb q2;replace q3:=kept hb q3;replace q4:=kept hb q4;replace q5:=kept hb q5;replace q18:=kept hb q18;replace hR:=ai hR hb;replace hbt:=below2 hbt hb))
       refine aN (fun W0 hW0=>?_);rw [<- hW0.out] at q0 q1 q2 q18 hR hbt;have hz0:w.heap.size<W0.heap.size:=World.block_lt_of_cell? W0 _ q0;have hb0:=hbt;have We:=ut.kept hbt;have c0:=q0;have c1:=q1;have c2:=q2;have c18:=q18;clear hW0 q0 q1 q2 q18 q3 q4 q5 ut hbt;go_wp2;go_loopw [3] (fun i wr=>∃ k:Nat,k<=e.over.length/\i=.int .i64 k/\overOk e.dot e.over=bZ e.dot (bF e.over k) (e.over.drop k)/\Below W0.heap.size W0 wr) (fun i _=>e.over.length - (intOf i).toNat)
       case atStart=>exact ⟨0,Nat.zero_le _,rfl,HO.out,bb _ _⟩
       case round =>
        obtain ⟨k,hk,rfl,hpre,hbw⟩:=hrel;have HP:=aa hpre;clear hpre;have hbw':=hbw;by_cases hlt:k<e.over.length
        ·rcases We with h | ⟨A,off,rfl,hd0⟩
         ·exact z135
         ·have hdr:=hd0.kept hbw'
          have e0:=hdr.dev k hlt;have e1:=hdr.inc k hlt;have e2:=hdr.seq k hlt;have hst:=uo e.dot e.over k hlt;have HT:Hid (overOk e.dot e.over=(jV e.dot (bF e.over k) e.over[k] && bZ e.dot (bF e.over (k+1)) (e.over.drop (k+1)))):=by rw [Hid,HP.out,hst]
          clear hst HP;generalize e.over[k]=x at e0 e1 e2 HT;have hw0:=kept hbw' c0;have hw1:=kept hbw' c1;have hw2:=kept hbw' c2;have zO:=kept hbw' c18;go_wp2;refine aN (fun W1 hW1=>?_);have hB1:Below wr.heap.size wr W1:=by rw [hW1.out];go_grown
          refine y19 ?_
          intro x0 x1 x2
          replace hw0:=kept hB1 hw0;replace hw1:=kept hB1 hw1;replace hw2:=kept hB1 hw2;replace zO:=kept hB1 zO;replace hdr:=hdr.kept hB1;clear hW1 e0 e1 e2 c0 c1 c2 c18;have hR0:=fun (W:World)=>oU x W;have yx:=fun (W:World)=>tX W 9998 x.a e.dot.a;have hm:=kP
          cases h1:bi x with
          | false =>
            have HE:Hid (overOk e.dot e.over=false):=by rw [Hid,HT.out];unfold jV;rw [h1];simp
            rw [h1] at hR0;have HR:=aa hR0;clear hR0 yx h1;refine aH (by kernel_rfl) (by kernel_rfl) (fun W2 hW2=>?_);have a0:∀ i:After W2,i.w.cell? ⟨wr.heap.size,0,none⟩=some (.int .i64 x.a.dev):=fun i=>i.cell (by rw [hW2.out];exact x0);have a1:∀ i:After W2,i.w.cell? ⟨wr.heap.size,1,none⟩=some (.int .i64 x.a.inc):=fun i=>i.cell (by rw [hW2.out];exact x1);have a2:∀ i:After W2,i.w.cell? ⟨wr.heap.size,2,none⟩=some (.int .i64 x.seq):=fun i=>i.cell (by rw [hW2.out];exact x2);have b0:∀ i:After W2,i.w.cell? ⟨w.heap.size,0,none⟩=some (.int .i64 e.dot.a.dev):=fun i=>i.cell (by rw [hW2.out];exact hw0);have b1:∀ i:After W2,i.w.cell? ⟨w.heap.size,1,none⟩=some (.int .i64 e.dot.a.inc):=fun i=>i.cell (by rw [hW2.out];exact hw1);have b2:∀ i:After W2,i.w.cell? ⟨w.heap.size,2,none⟩=some (.int .i64 e.dot.seq):=fun i=>i.cell (by rw [hW2.out];exact hw2);have b18:∀ i:After W2,i.w.cell? ⟨w.heap.size,18,none⟩=some (.slice (some ⟨A,off,none⟩) e.over.length cap):=fun i=>i.cell (by rw [hW2.out];exact zO);skip
            go_big_quiet_step (fail)
            go_big_quiet_step (exact Calls.after (HR.out _))
            iterate 12 go_big_quiet_step (fail)
            go_big_quiet_step (exact Calls.after (HLT.out _))
            iterate 19 go_big_quiet_step (fail)
            refine wpQuiet_nil ?_;rintro _ ⟨i,rfl⟩;have hib:=i.h;clear a0 a1 a2 b0 b1 b2 b18;skip
            generalize i.w=wi at hib ⊢;rw [hW2.out] at hib;go_wp2;go_ret;exact ⟨au (HEV.out HE.out).symm,hb0.trans ((nI hbw hB1 hib).mono (by omega))⟩
          | true =>
            rw [h1] at hR0;have HR:=aa hR0;clear hR0;rcases Nat.eq_zero_or_pos k with hk0 | hk0
            ·refine y71 ?_
             intro OU hdk
             have hT2:Hid (overOk e.dot e.over=(!(decide (x.a=e.dot.a) && decide (e.dot.seq<=x.seq)) && bZ e.dot (bF e.over (k+1)) (e.over.drop (k+1)))):=by
              rw [Hid,HT.out];unfold jV;rw [h1];subst hk0;simp [bF]
             clear HT h1 hk0;by_cases h4:x.a=e.dot.a
             ·rw [aR h4] at yx
              by_cases h5:e.dot.seq<=x.seq
              ·have HE:Hid (overOk e.dot e.over=false):=by rw [Hid,hT2.out];simp [h4,h5]
               clear h4 hT2
               refine y1 ?_
               intro W2 hW2 a0 a1 a2 b0 b1 b2 b18
               skip
               refine y9 ?_
               rintro _ ⟨i,rfl⟩;have hib:=i.h;clear a0 a1 a2 b0 b1 b2 b18;skip
               exact z89
              ·have HE:Hid (overOk e.dot e.over=bZ e.dot (bF e.over (k+1)) (e.over.drop (k+1))):=by rw [Hid,hT2.out];simp [h5]
               exact z13
             ·rw [aM h4] at yx
              have HE:Hid (overOk e.dot e.over=bZ e.dot (bF e.over (k+1)) (e.over.drop (k+1))):=by rw [Hid,hT2.out];simp [h4]
              exact z13
            ·obtain ⟨j,rfl⟩:∃ j,k=j+1:=⟨k - 1,by omega⟩
             have hj:j<e.over.length:=by omega
             have f0:=hdr.dev j hj;have f1:=hdr.inc j hj;have f2:=hdr.seq j hj;have hpv:bF e.over (j+1)=some e.over[j]:=by simp [bF,hj]
             have hT1:Hid (overOk e.dot e.over=(bV e.over[j] x && (!(decide (x.a=e.dot.a) && decide (e.dot.seq<=x.seq)) && bZ e.dot (bF e.over (j+1+1)) (e.over.drop (j+1+1))))):=by
              rw [Hid,HT.out,hpv];unfold jV;rw [h1];simp [Bool.and_assoc]
             have yw:=fun (W:World)=>xQ e.over[j] x W;generalize e.over[j]=y at *
             refine y23 ?_
             intro hdk hww
             clear HT h1 hpv hdr hd0
             cases h2:bV y x with
             | false =>
               have HE:Hid (overOk e.dot e.over=false):=by rw [Hid,hT1.out,h2];rfl
               rw [h2] at yw;have HLT:=aa yw;clear yw yx h2 hT1;refine aH (by kernel_rfl) (by kernel_rfl) (fun W2 hW2=>?_);have a0:∀ i:After W2,i.w.cell? ⟨wr.heap.size,0,none⟩=some (.int .i64 x.a.dev):=fun i=>i.cell (by rw [hW2.out];exact x0);have a1:∀ i:After W2,i.w.cell? ⟨wr.heap.size,1,none⟩=some (.int .i64 x.a.inc):=fun i=>i.cell (by rw [hW2.out];exact x1);have a2:∀ i:After W2,i.w.cell? ⟨wr.heap.size,2,none⟩=some (.int .i64 x.seq):=fun i=>i.cell (by rw [hW2.out];exact x2);have b0:∀ i:After W2,i.w.cell? ⟨w.heap.size,0,none⟩=some (.int .i64 e.dot.a.dev):=fun i=>i.cell (by rw [hW2.out];exact hw0);have b1:∀ i:After W2,i.w.cell? ⟨w.heap.size,1,none⟩=some (.int .i64 e.dot.a.inc):=fun i=>i.cell (by rw [hW2.out];exact hw1);have b2:∀ i:After W2,i.w.cell? ⟨w.heap.size,2,none⟩=some (.int .i64 e.dot.seq):=fun i=>i.cell (by rw [hW2.out];exact hw2);have b18:∀ i:After W2,i.w.cell? ⟨w.heap.size,18,none⟩=some (.slice (some ⟨A,off,none⟩) e.over.length cap):=fun i=>i.cell (by rw [hW2.out];exact zO);have g0:∀ i:After W2,i.w.cell? ⟨A,off+j * 3,none⟩=some (.int .i64 y.a.dev):=fun i=>i.cell (by rw [hW2.out];exact f0);have g1:∀ i:After W2,i.w.cell? ⟨A,off+j * 3+1,none⟩=some (.int .i64 y.a.inc):=fun i=>i.cell (by rw [hW2.out];exact f1);have g2:∀ i:After W2,i.w.cell? ⟨A,off+j * 3+2,none⟩=some (.int .i64 y.seq):=fun i=>i.cell (by rw [hW2.out];exact f2);go_big_quiet_step (fail)
               go_big_quiet_step (exact Calls.after (HR.out _))
               iterate 12 go_big_quiet_step (fail)
               go_big_quiet_step (exact Calls.after (HLT.out _))
               iterate 19 go_big_quiet_step (fail)
               refine wpQuiet_nil ?_;rintro _ ⟨i,rfl⟩;have hib:=i.h;clear a0 a1 a2 b0 b1 b2 b18;clear g0 g1 g2 hww;generalize i.w=wi at hib ⊢;rw [hW2.out] at hib;go_wp2;go_ret;exact ⟨au (HEV.out HE.out).symm,hb0.trans ((nI hbw hB1 hib).mono (by omega))⟩
             | true =>
               have hT2:Hid (overOk e.dot e.over=(!(decide (x.a=e.dot.a) && decide (e.dot.seq<=x.seq)) && bZ e.dot (bF e.over (j+1+1)) (e.over.drop (j+1+1)))):=by
                        rw [Hid,hT1.out,h2];rfl
               rw [h2] at yw;have HLT:=aa yw;clear yw h2 hT1;by_cases h4:x.a=e.dot.a
               ·rw [aR h4] at yx
                by_cases h5:e.dot.seq<=x.seq
                ·have HE:Hid (overOk e.dot e.over=false):=by rw [Hid,hT2.out];simp [h4,h5]
                 clear h4 hT2
                 refine y1 ?_
                 intro W2 hW2 a0 a1 a2 b0 b1 b2 b18
                 refine y20 ?_
                 intro g0 g1 g2
                 refine y9 ?_
                 rintro _ ⟨i,rfl⟩;have hib:=i.h;clear a0 a1 a2 b0 b1 b2 b18;clear g0 g1 g2 hww
                 exact z89
                ·have HE:Hid (overOk e.dot e.over=bZ e.dot (bF e.over (j+1+1)) (e.over.drop (j+1+1))):=by rw [Hid,hT2.out];simp [h5]
                 exact z62
               ·rw [aM h4] at yx
                have HE:Hid (overOk e.dot e.over=bZ e.dot (bF e.over (j+1+1)) (e.over.drop (j+1+1))):=by rw [Hid,hT2.out];simp [h4]
                exact z62
        ·have HEE:=aa (HEK.out (by rw [HP.out,List.drop_eq_nil_of_le (by omega)];rfl))
         have zO:=kept hbw' c18;have hRw:=ai hR hbw';have hbt:=below2 hb0 hbw';have q6:wr.cell? ⟨w.heap.size,6,none⟩=some (.int .i64 e.kind):=by have:=hRw 6 _ rfl;exact this
         have q7:wr.cell? ⟨w.heap.size,7,none⟩=some (.string e.key.name):=by have:=hRw 7 _ rfl;exact this
         have q8:wr.cell? ⟨w.heap.size,8,none⟩=some (.string e.key.domain):=by have:=hRw 8 _ rfl;exact this
         have q9:wr.cell? ⟨w.heap.size,9,none⟩=some (.string e.key.path):=by have:=hRw 9 _ rfl;exact this
         have q10:wr.cell? ⟨w.heap.size,10,none⟩=some (.string e.ck.value):=by have:=hRw 10 _ rfl;exact this
         have q11:wr.cell? ⟨w.heap.size,11,none⟩=some (.bool e.ck.hostOnly):=by have:=hRw 11 _ rfl;exact this
         have q12:wr.cell? ⟨w.heap.size,12,none⟩=some (.bool e.ck.secure):=by have:=hRw 12 _ rfl;exact this
         have q13:wr.cell? ⟨w.heap.size,13,none⟩=some (.bool e.ck.httpOnly):=by have:=hRw 13 _ rfl;exact this
         have q14:wr.cell? ⟨w.heap.size,14,none⟩=some (.bool e.ck.persistent):=by have:=hRw 14 _ rfl;exact this
         have q15:wr.cell? ⟨w.heap.size,15,none⟩=some (.int .i64 e.ck.expiry):=by have:=hRw 15 _ rfl;exact this
         have q16:wr.cell? ⟨w.heap.size,16,none⟩=some (.int .i64 e.ck.creation):=by have:=hRw 16 _ rfl;exact this
         have q17:wr.cell? ⟨w.heap.size,17,none⟩=some (.int .i64 e.ck.access):=by have:=hRw 17 _ rfl;exact this
         have hkd:=HK.out;have hzr:w.heap.size<wr.heap.size:=by have:=hbw.size;omega
         have hzn:¬ w.heap.size=wr.heap.size:=by omega
         have Yk:¬ wr.heap.size=w.heap.size:=by omega
         have hm:=yT;have hk':e.over.length<=k:=by omega
         clear HP hRw hlt HO HEV HEK We c0 c1 c2 c18;by_cases hk1:e.kind=1
         ·have e1:(e.kind == 1)=true:=beq_iff_eq.2 hk1
          have HE:Hid (dC e=gJ e.key e.ck):=by rw [Hid,HEE.out,hkd,if_neg (by omega),if_pos hk1]
          clear hk1 hkd;go_wp2_with (go_at_call 159;refine (HC0.out _).mono ?_;rintro x w9 ⟨rfl,hb9⟩)
          go_ret;exact ⟨au HE.out.symm,below2 (below2 hbt (by go_grown)) hb9⟩
         ·have e1:(e.kind == 1)=false:=beq_eq_false_iff_ne.2 hk1
          have hqq:=HQ.out;by_cases hk2:e.kind=2
          ·rw [if_pos hk2] at hkd
           have e2:(e.kind == 2)=true:=beq_iff_eq.2 hk2
           cases hz0:decide (e.key=dW) && decide (e.ck=ck0) with
           | false =>
             have HE:Hid (dC e=false):=by rw [Hid,HEE.out,hkd,hz0];rfl
             rw [hz0] at hqq;clear hk1 hk2 hkd hz0;go_wp2;go_ret;exact ⟨au HE.out.symm,below2 hbt (by go_grown)⟩
           | true =>
             have HE:Hid (dC e=decide (0<e.over.length)):=by rw [Hid,HEE.out,hkd,hz0];rfl
             rw [hz0] at hqq;clear hk1 hk2 hkd hz0;go_wp2;go_ret;exact ⟨au (by first | (rw [HE.out];done) | (rw [HE.out];rfl) | (rw [HE.out,Bool.eq_iff_iff];simp)),below2 hbt (by go_grown)⟩
          ·have HE:Hid (dC e=false):=by rw [Hid,HEE.out,hkd,if_neg hk2,if_neg hk1]
           have e2:(e.kind == 2)=false:=beq_eq_false_iff_ne.2 hk2;clear hk1 hk2 hkd;go_wp2;go_ret;exact ⟨au HE.out.symm,below2 hbt (by go_grown)⟩
      ·have HE:Hid (dC e=false):=by rw [Hid,HV.out];unfold overOk;simp [h64]
       exact z37
     ·have h3':(e.stamp.dev != e.dot.a.dev)=true:=by rw [bne_iff_ne];exact h3
      have HE:Hid (dC e=false):=by rw [Hid,HV.out,aM h3];simp
      exact z37
def lW (e:Ev):Bool:=decide (e.over.length<=100) && (decide (e.key.name.size<=2000) && (decide (e.key.domain.size<=2000) && (decide (e.key.path.size<=2000) && decide (e.ck.value.size<=2000))))
theorem Io {e:Ev} (h:lW e=true):EvSmall e:=by
 unfold lW at h;simp only [Bool.and_eq_true,decide_eq_true_eq] at h;obtain ⟨h1,h2,h3,h4,h5⟩:=h;exact ⟨by omega,by omega,by omega,by omega,by omega⟩
theorem z39 {p : Prop} (h : p := by
 go_enter func21, ntmps21
 go_wp2
 go_ret
 exact ⟨au (by first | exact HE.out.symm | (rw [HE.out]; simp; omega)), by go_grown⟩) : p := h
theorem PQ (e:Ev) (a:Option Addr) (cap:Nat) (w:World) (hol:e.over.length<=maxLen) (h7:e.key.name.size<=maxLen) (h8:e.key.domain.size<=maxLen) (h9:e.key.path.size<=maxLen) (h10:e.ck.value.size<=maxLen) :
 Calls prog 21 #[jD e a cap] w fun x w'=>x=.returned (.bool (lW e))/\Below w.heap.size w w':=by
 unfold maxLen at hol h7 h8 h9 h10;have HL:Hid (lW e=(decide (e.over.length<=100) && (decide (e.key.name.size<=2000) && (decide (e.key.domain.size<=2000) && (decide (e.key.path.size<=2000) && decide (e.ck.value.size<=2000)))))):=rfl;by_cases t0:e.over.length<=100
 ·skip
  by_cases t1:e.key.name.size<=2000
  ·skip
   by_cases t2:e.key.domain.size<=2000
   ·skip
    by_cases t3:e.key.path.size<=2000
    ·skip
     by_cases t4:e.ck.value.size<=2000
     ·skip
      have HE:Hid (lW e=true):=by rw [Hid,HL.out];simp [t0,t1,t2,t3,t4]
      exact z39
     ·have d4:decide (e.ck.value.size<=2000)=false:=aM t4
      have HE:Hid (lW e=false):=by rw [Hid,HL.out];simp [t0,t1,t2,t3,t4]
      exact z39
    ·have d3:decide (e.key.path.size<=2000)=false:=aM t3
     have HE:Hid (lW e=false):=by rw [Hid,HL.out];simp [t0,t1,t2,t3]
     exact z39
   ·have d2:decide (e.key.domain.size<=2000)=false:=aM t2
    have HE:Hid (lW e=false):=by rw [Hid,HL.out];simp [t0,t1,t2]
    exact z39
  ·have d1:decide (e.key.name.size<=2000)=false:=aM t1
   have HE:Hid (lW e=false):=by rw [Hid,HL.out];simp [t0,t1]
   exact z39
 ·have d0:decide (e.over.length<=100)=false:=aM t0
  have HE:Hid (lW e=false):=by rw [Hid,HL.out];simp [t0]
  exact z39
theorem z5 {p : Prop} (h : p := by
 have HD := aa HD0
 have HS := aa HS0
 have HO := aa HO0
 have HC := aa HC0
 clear HD0 HS0 HO0 HC0 hk0
 go_wp2_with (first
  | ((with_reducible refine bf _ w.heap.size e a cap hR ?_ rfl ?_); exact rfl)
  | (go_at_call 104; refine (HD.out _).mono ?_; rintro x w1 ⟨rfl, hb⟩; replace q0 := kept hb q0; replace q1 := kept hb q1; replace q2 := kept hb q2; replace q3 := kept hb q3; replace q4 := kept hb q4; replace q5 := kept hb q5; replace q6 := kept hb q6; replace q18 := kept hb q18; replace hR := ai hR hb; replace hbt := below2 hbt hb; replace ho := ho.kept hb)
  | (go_at_call 105; refine (HS.out _).mono ?_; rintro x w1 ⟨rfl, hb⟩; replace q0 := kept hb q0; replace q1 := kept hb q1; replace q2 := kept hb q2; replace q3 := kept hb q3; replace q4 := kept hb q4; replace q5 := kept hb q5; replace q6 := kept hb q6; replace q18 := kept hb q18; replace hR := ai hR hb; replace hbt := below2 hbt hb; replace ho := ho.kept hb)
  | (go_at_call 106; refine (HO.out _ ho).mono ?_; rintro x w1 ⟨rfl, hb⟩; replace q0 := kept hb q0; replace q1 := kept hb q1; replace q2 := kept hb q2; replace q3 := kept hb q3; replace q4 := kept hb q4; replace q5 := kept hb q5; replace q6 := kept hb q6; replace q18 := kept hb q18; replace hR := ai hR hb; replace hbt := below2 hbt hb)
  | (go_at_call 107; refine (HI.out _).mono ?_; rintro x w1 ⟨rfl, hb⟩; replace q0 := kept hb q0; replace q1 := kept hb q1; replace q2 := kept hb q2; replace q3 := kept hb q3; replace q4 := kept hb q4; replace q5 := kept hb q5; replace q6 := kept hb q6; replace q18 := kept hb q18; replace hR := ai hR hb; replace hbt := below2 hbt hb)
  | (go_at_call 108; refine (HC.out _).mono ?_; rintro x w1 ⟨rfl, hb⟩; replace q0 := kept hb q0; replace q1 := kept hb q1; replace q2 := kept hb q2; replace q3 := kept hb q3; replace q4 := kept hb q4; replace q5 := kept hb q5; replace q6 := kept hb q6; replace q18 := kept hb q18; replace hR := ai hR hb; replace hbt := below2 hbt hb))
 go_ret
 exact ⟨au HE.out.symm, hbt⟩) : p := h
theorem fO (e:Ev) (a:Option Addr) (cap:Nat) (w:World) (hs:EvSmall e) (ut:DotsIn w a e.over) :
 Calls prog 52 #[jD e a cap] w fun x w'=>x=.returned (.bool (dC e))/\Below w.heap.size w w':=by
 have HV:Hid (dC e=(bi e.dot && (eF e.stamp && (decide (e.stamp.dev=e.dot.a.dev) && (overOk e.dot e.over && kindOk e))))):=rfl;have HD0:=fun (W:World)=>iG e.dot W;have HS0:=fun (W:World)=>og e.stamp W;have HO0:=fun (W:World) (h:DotsIn W a e.over)=>Qj e.dot (.int .i64 e.stamp.wall) (.int .i64 e.stamp.count) (.int .i64 e.stamp.dev) (.int .i64 e.kind) (.string e.key.name) (.string e.key.domain) (.string e.key.path) (.string e.ck.value) (.bool e.ck.hostOnly) (.bool e.ck.secure) (.bool e.ck.httpOnly) (.bool e.ck.persistent) (.int .i64 e.ck.expiry) (.int .i64 e.ck.creation) (.int .i64 e.ck.access) a cap e.over W h hs.over;have HI:=aa (fun (W:World)=>Si e a cap W);have HC0:=fun (W:World)=>Ea e.key e.ck e.ck.persistent rfl W hs.name hs.domain hs.path hs.value;have hq0:∀ W:World,(Op.equalIn 10000 183 (.agg #[.string e.key.name,.string e.key.domain,.string e.key.path,.string e.ck.value,.bool e.ck.hostOnly,.bool e.ck.secure,.bool e.ck.httpOnly,.bool e.ck.persistent,.int .i64 e.ck.expiry,.int .i64 e.ck.creation,.int .i64 e.ck.access]) (.agg #[.string ⟨#[]⟩,.string ⟨#[]⟩,.string ⟨#[]⟩,.string ⟨#[]⟩,.bool false,.bool false,.bool false,.bool false,.int .i64 0,.int .i64 0,.int .i64 0])).run prog W=.ok (decide (e.key=dW) && decide (e.ck=ck0)) W:=fun W=>Rl W 9997 e.key dW e.ck ck0;have hm:=yT;have hk0:kindOk e=if e.kind=2 then (decide (e.key=dW) && decide (e.ck=ck0)) && decide (0<e.over.length) else if e.kind=1 then gJ e.key e.ck else false:=rfl
 go_enter func52,ntmps52;go_upto_region 1 with fail
 refine aN (fun W hW=>?_);have hbt:Below w.heap.size w W:=by rw [hW.out];go_grown
 have hz:w.heap.size<W.heap.size:=by rw [hW.out];simp
 have q0:W.cell? ⟨w.heap.size,0,none⟩=some (.int .i64 e.dot.a.dev):=by rw [hW.out];go_simp
 have q1:W.cell? ⟨w.heap.size,1,none⟩=some (.int .i64 e.dot.a.inc):=by rw [hW.out];go_simp
 have q2:W.cell? ⟨w.heap.size,2,none⟩=some (.int .i64 e.dot.seq):=by rw [hW.out];go_simp
 have q3:W.cell? ⟨w.heap.size,3,none⟩=some (.int .i64 e.stamp.wall):=by rw [hW.out];go_simp
 have q4:W.cell? ⟨w.heap.size,4,none⟩=some (.int .i64 e.stamp.count):=by rw [hW.out];go_simp
 have q5:W.cell? ⟨w.heap.size,5,none⟩=some (.int .i64 e.stamp.dev):=by rw [hW.out];go_simp
 have q6:W.cell? ⟨w.heap.size,6,none⟩=some (.int .i64 e.kind):=by rw [hW.out];go_simp
 have q18:W.cell? ⟨w.heap.size,18,none⟩=some (.slice a e.over.length cap):=by rw [hW.out];go_simp
 have hR:W.rangeAt w.heap.size 0 (ah e a cap):=by rw [hW.out];exact dA e a cap w _
 have ho:=ut.kept hbt;clear hW ut
 cases h1:bi e.dot with
 | false =>
   have HE:Hid (dC e=false):=by rw [Hid,HV.out,h1];rfl
   rw [h1] at HD0;have HD:=aa HD0;have HS:=aa HS0;have HO:=aa HO0;have HC:=aa HC0;clear HD0 HS0 HO0 HC0 hk0;go_wp2_with (first
    | ((with_reducible refine bf _ w.heap.size e a cap hR ?_ rfl ?_);exact rfl)
    | (go_at_call 104;refine (HD.out _).mono ?_;rintro x w1 ⟨rfl,hb⟩;replace q0:=kept hb q0;replace q1:=kept hb q1;replace q2:=kept hb q2;replace q3:=kept hb q3;replace q4:=kept hb q4;replace q5:=kept hb q5;replace q6:=kept hb q6;replace q18:=kept hb q18;replace hR:=ai hR hb;replace hbt:=below2 hbt hb;replace ho:=ho.kept hb)
    | (go_at_call 105;refine (HS.out _).mono ?_;rintro x w1 ⟨rfl,hb⟩;replace q0:=kept hb q0;replace q1:=kept hb q1;replace q2:=kept hb q2;replace q3:=kept hb q3;replace q4:=kept hb q4;replace q5:=kept hb q5;replace q6:=kept hb q6;replace q18:=kept hb q18;replace hR:=ai hR hb;replace hbt:=below2 hbt hb;replace ho:=ho.kept hb)
    | (go_at_call 106;refine (HO.out _ ho).mono ?_;rintro x w1 ⟨rfl,hb⟩;replace q0:=kept hb q0;replace q1:=kept hb q1;replace q2:=kept hb q2;replace q3:=kept hb q3;replace q4:=kept hb q4;replace q5:=kept hb q5;replace q6:=kept hb q6;replace q18:=kept hb q18;replace hR:=ai hR hb;replace hbt:=below2 hbt hb)
    | (go_at_call 107;refine (HI.out _).mono ?_;rintro x w1 ⟨rfl,hb⟩;replace q0:=kept hb q0;replace q1:=kept hb q1;replace q2:=kept hb q2;replace q3:=kept hb q3;replace q4:=kept hb q4;replace q5:=kept hb q5;replace q6:=kept hb q6;replace q18:=kept hb q18;replace hR:=ai hR hb;replace hbt:=below2 hbt hb)
    | (go_at_call 108;refine (HC.out _).mono ?_;rintro x w1 ⟨rfl,hb⟩;replace q0:=kept hb q0;replace q1:=kept hb q1;replace q2:=kept hb q2;replace q3:=kept hb q3;replace q4:=kept hb q4;replace q5:=kept hb q5;replace q6:=kept hb q6;replace q18:=kept hb q18;replace hR:=ai hR hb;replace hbt:=below2 hbt hb))
   go_ret;exact ⟨au HE.out.symm,hbt⟩
 | true =>
   rw [h1] at HD0
   cases h2:eF e.stamp with
   | false =>
     have HE:Hid (dC e=false):=by rw [Hid,HV.out,h1,h2];rfl
     rw [h2] at HS0;have HD:=aa HD0;have HS:=aa HS0;have HO:=aa HO0;have HC:=aa HC0;clear HD0 HS0 HO0 HC0 hk0;go_wp2_with (first
        | ((with_reducible refine bf _ w.heap.size e a cap hR ?_ rfl ?_);exact rfl)
        | (go_at_call 104;refine (HD.out _).mono ?_;rintro x w1 ⟨rfl,hb⟩;replace q0:=kept hb q0;replace q1:=kept hb q1;replace q2:=kept hb q2;replace q3:=kept hb q3;replace q4:=kept hb q4;replace q5:=kept hb q5;replace q6:=kept hb q6;replace q18:=kept hb q18;replace hR:=ai hR hb;replace hbt:=below2 hbt hb;replace ho:=ho.kept hb)
        | (go_at_call 105;refine (HS.out _).mono ?_;rintro x w1 ⟨rfl,hb⟩;replace q0:=kept hb q0;replace q1:=kept hb q1;replace q2:=kept hb q2;replace q3:=kept hb q3;replace q4:=kept hb q4;replace q5:=kept hb q5;replace q6:=kept hb q6;replace q18:=kept hb q18;replace hR:=ai hR hb;replace hbt:=below2 hbt hb;replace ho:=ho.kept hb)
        | (go_at_call 106;refine (HO.out _ ho).mono ?_;rintro x w1 ⟨rfl,hb⟩;replace q0:=kept hb q0;replace q1:=kept hb q1;replace q2:=kept hb q2;replace q3:=kept hb q3;replace q4:=kept hb q4;replace q5:=kept hb q5;replace q6:=kept hb q6;replace q18:=kept hb q18;replace hR:=ai hR hb;replace hbt:=below2 hbt hb)
        | (go_at_call 107;refine (HI.out _).mono ?_;rintro x w1 ⟨rfl,hb⟩;replace q0:=kept hb q0;replace q1:=kept hb q1;replace q2:=kept hb q2;replace q3:=kept hb q3;replace q4:=kept hb q4;replace q5:=kept hb q5;replace q6:=kept hb q6;replace q18:=kept hb q18;replace hR:=ai hR hb;replace hbt:=below2 hbt hb)
        | (go_at_call 108;refine (HC.out _).mono ?_;rintro x w1 ⟨rfl,hb⟩;replace q0:=kept hb q0;replace q1:=kept hb q1;replace q2:=kept hb q2;replace q3:=kept hb q3;replace q4:=kept hb q4;replace q5:=kept hb q5;replace q6:=kept hb q6;replace q18:=kept hb q18;replace hR:=ai hR hb;replace hbt:=below2 hbt hb))
     go_ret;exact ⟨au HE.out.symm,hbt⟩
   | true =>
     rw [h2] at HS0;by_cases h3:e.stamp.dev=e.dot.a.dev
     ·have h3':(e.stamp.dev != e.dot.a.dev)=false:=by rw [bne_eq_false_iff_eq];exact h3
      cases h4:overOk e.dot e.over with
      | false =>
        have HE:Hid (dC e=false):=by rw [Hid,HV.out,h1,h2,h4,aR h3];rfl
        rw [h4] at HO0;clear h3;have HD:=aa HD0;have HS:=aa HS0;have HO:=aa HO0;have HC:=aa HC0;clear HD0 HS0 HO0 HC0 hk0;go_wp2_with (first
         | ((with_reducible refine bf _ w.heap.size e a cap hR ?_ rfl ?_);exact rfl)
         | (go_at_call 104;refine (HD.out _).mono ?_;rintro x w1 ⟨rfl,hb⟩;replace q0:=kept hb q0;replace q1:=kept hb q1;replace q2:=kept hb q2;replace q3:=kept hb q3;replace q4:=kept hb q4;replace q5:=kept hb q5;replace q6:=kept hb q6;replace q18:=kept hb q18;replace hR:=ai hR hb;replace hbt:=below2 hbt hb;replace ho:=ho.kept hb)
         | (go_at_call 105;refine (HS.out _).mono ?_;rintro x w1 ⟨rfl,hb⟩;replace q0:=kept hb q0;replace q1:=kept hb q1;replace q2:=kept hb q2;replace q3:=kept hb q3;replace q4:=kept hb q4;replace q5:=kept hb q5;replace q6:=kept hb q6;replace q18:=kept hb q18;replace hR:=ai hR hb;replace hbt:=below2 hbt hb;replace ho:=ho.kept hb)
         | (go_at_call 106;refine (HO.out _ ho).mono ?_;rintro x w1 ⟨rfl,hb⟩;replace q0:=kept hb q0;replace q1:=kept hb q1;replace q2:=kept hb q2;replace q3:=kept hb q3;replace q4:=kept hb q4;replace q5:=kept hb q5;replace q6:=kept hb q6;replace q18:=kept hb q18;replace hR:=ai hR hb;replace hbt:=below2 hbt hb)
         | (go_at_call 107;refine (HI.out _).mono ?_;rintro x w1 ⟨rfl,hb⟩;replace q0:=kept hb q0;replace q1:=kept hb q1;replace q2:=kept hb q2;replace q3:=kept hb q3;replace q4:=kept hb q4;replace q5:=kept hb q5;replace q6:=kept hb q6;replace q18:=kept hb q18;replace hR:=ai hR hb;replace hbt:=below2 hbt hb)
         | (go_at_call 108;refine (HC.out _).mono ?_;rintro x w1 ⟨rfl,hb⟩;replace q0:=kept hb q0;replace q1:=kept hb q1;replace q2:=kept hb q2;replace q3:=kept hb q3;replace q4:=kept hb q4;replace q5:=kept hb q5;replace q6:=kept hb q6;replace q18:=kept hb q18;replace hR:=ai hR hb;replace hbt:=below2 hbt hb))
        go_ret;exact ⟨au HE.out.symm,hbt⟩
      | true =>
        have HK:Hid (dC e=kindOk e):=by rw [Hid,HV.out,h1,h2,h4,aR h3];rfl
        rw [h4] at HO0;clear h3;by_cases hk2:e.kind=2
        ·rw [if_pos hk2] at hk0
         have e2:(e.kind == 2)=true:=beq_iff_eq.2 hk2;clear hk2
         cases hz0:decide (e.key=dW) && decide (e.ck=ck0) with
         | false =>
           have HE:Hid (dC e=false):=by rw [Hid,HK.out,hk0,hz0];rfl
           rw [hz0] at hq0;clear hz0;have HD:=aa HD0;have HS:=aa HS0;have HO:=aa HO0;have HC:=aa HC0;clear HD0 HS0 HO0 HC0 hk0;go_wp2_with (first
             | ((with_reducible refine bf _ w.heap.size e a cap hR ?_ rfl ?_);exact rfl)
             | (go_at_call 104;refine (HD.out _).mono ?_;rintro x w1 ⟨rfl,hb⟩;replace q0:=kept hb q0;replace q1:=kept hb q1;replace q2:=kept hb q2;replace q3:=kept hb q3;replace q4:=kept hb q4;replace q5:=kept hb q5;replace q6:=kept hb q6;replace q18:=kept hb q18;replace hR:=ai hR hb;replace hbt:=below2 hbt hb;replace ho:=ho.kept hb)
             | (go_at_call 105;refine (HS.out _).mono ?_;rintro x w1 ⟨rfl,hb⟩;replace q0:=kept hb q0;replace q1:=kept hb q1;replace q2:=kept hb q2;replace q3:=kept hb q3;replace q4:=kept hb q4;replace q5:=kept hb q5;replace q6:=kept hb q6;replace q18:=kept hb q18;replace hR:=ai hR hb;replace hbt:=below2 hbt hb;replace ho:=ho.kept hb)
             | (go_at_call 106;refine (HO.out _ ho).mono ?_;rintro x w1 ⟨rfl,hb⟩;replace q0:=kept hb q0;replace q1:=kept hb q1;replace q2:=kept hb q2;replace q3:=kept hb q3;replace q4:=kept hb q4;replace q5:=kept hb q5;replace q6:=kept hb q6;replace q18:=kept hb q18;replace hR:=ai hR hb;replace hbt:=below2 hbt hb)
             | (go_at_call 107;refine (HI.out _).mono ?_;rintro x w1 ⟨rfl,hb⟩;replace q0:=kept hb q0;replace q1:=kept hb q1;replace q2:=kept hb q2;replace q3:=kept hb q3;replace q4:=kept hb q4;replace q5:=kept hb q5;replace q6:=kept hb q6;replace q18:=kept hb q18;replace hR:=ai hR hb;replace hbt:=below2 hbt hb)
             | (go_at_call 108;refine (HC.out _).mono ?_;rintro x w1 ⟨rfl,hb⟩;replace q0:=kept hb q0;replace q1:=kept hb q1;replace q2:=kept hb q2;replace q3:=kept hb q3;replace q4:=kept hb q4;replace q5:=kept hb q5;replace q6:=kept hb q6;replace q18:=kept hb q18;replace hR:=ai hR hb;replace hbt:=below2 hbt hb))
           go_ret;exact ⟨au HE.out.symm,hbt⟩
         | true =>
           have HE:Hid (dC e=decide (0<e.over.length)):=by rw [Hid,HK.out,hk0,hz0];rfl
           rw [hz0] at hq0;clear hz0;have HD:=aa HD0;have HS:=aa HS0;have HO:=aa HO0;have HC:=aa HC0;clear HD0 HS0 HO0 HC0 hk0;go_wp2_with (first
             | ((with_reducible refine bf _ w.heap.size e a cap hR ?_ rfl ?_);exact rfl)
             | (go_at_call 104;refine (HD.out _).mono ?_;rintro x w1 ⟨rfl,hb⟩;replace q0:=kept hb q0;replace q1:=kept hb q1;replace q2:=kept hb q2;replace q3:=kept hb q3;replace q4:=kept hb q4;replace q5:=kept hb q5;replace q6:=kept hb q6;replace q18:=kept hb q18;replace hR:=ai hR hb;replace hbt:=below2 hbt hb;replace ho:=ho.kept hb)
             | (go_at_call 105;refine (HS.out _).mono ?_;rintro x w1 ⟨rfl,hb⟩;replace q0:=kept hb q0;replace q1:=kept hb q1;replace q2:=kept hb q2;replace q3:=kept hb q3;replace q4:=kept hb q4;replace q5:=kept hb q5;replace q6:=kept hb q6;replace q18:=kept hb q18;replace hR:=ai hR hb;replace hbt:=below2 hbt hb;replace ho:=ho.kept hb)
             | (go_at_call 106;refine (HO.out _ ho).mono ?_;rintro x w1 ⟨rfl,hb⟩;replace q0:=kept hb q0;replace q1:=kept hb q1;replace q2:=kept hb q2;replace q3:=kept hb q3;replace q4:=kept hb q4;replace q5:=kept hb q5;replace q6:=kept hb q6;replace q18:=kept hb q18;replace hR:=ai hR hb;replace hbt:=below2 hbt hb)
             | (go_at_call 107;refine (HI.out _).mono ?_;rintro x w1 ⟨rfl,hb⟩;replace q0:=kept hb q0;replace q1:=kept hb q1;replace q2:=kept hb q2;replace q3:=kept hb q3;replace q4:=kept hb q4;replace q5:=kept hb q5;replace q6:=kept hb q6;replace q18:=kept hb q18;replace hR:=ai hR hb;replace hbt:=below2 hbt hb)
             | (go_at_call 108;refine (HC.out _).mono ?_;rintro x w1 ⟨rfl,hb⟩;replace q0:=kept hb q0;replace q1:=kept hb q1;replace q2:=kept hb q2;replace q3:=kept hb q3;replace q4:=kept hb q4;replace q5:=kept hb q5;replace q6:=kept hb q6;replace q18:=kept hb q18;replace hR:=ai hR hb;replace hbt:=below2 hbt hb))
           go_ret;exact ⟨au (by first | (rw [HE.out];done) | (rw [HE.out];rfl) | (rw [HE.out,Bool.eq_iff_iff];simp)),hbt⟩
        ·have e2:(e.kind == 2)=false:=beq_eq_false_iff_ne.2 hk2
         rw [if_neg hk2] at hk0;clear hk2;by_cases hk1:e.kind=1
         ·rw [if_pos hk1] at hk0
          have e1:(e.kind == 1)=true:=beq_iff_eq.2 hk1;clear hk1;have HE:Hid (dC e=gJ e.key e.ck):=by rw [Hid,HK.out,hk0]
          exact z5
         ·rw [if_neg hk1] at hk0
          have e1:(e.kind == 1)=false:=beq_eq_false_iff_ne.2 hk1;clear hk1;have HE:Hid (dC e=false):=by rw [Hid,HK.out,hk0]
          exact z5
     ·have h3':(e.stamp.dev != e.dot.a.dev)=true:=by rw [bne_iff_ne];exact h3
      have HE:Hid (dC e=false):=by rw [Hid,HV.out,h1,h2,aM h3];rfl
      clear h3
      exact z5
end Go.Proofs.YthphepeniaemoaaGreat
