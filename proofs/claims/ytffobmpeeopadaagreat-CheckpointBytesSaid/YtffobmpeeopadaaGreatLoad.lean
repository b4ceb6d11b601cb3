/- A whole struct loaded out of a block, at once; which cells an event has. Conditions: none. -/
import Derived.Test.YtffobmpeeopadaaGreatCel
import Derived.Deep.MidRow
import Derived.Maps.AppendAt
import Derived.Deep.AppendLies
import Derived.Test.YtffobmpeeopadaaGreatDot
import Derived.WalkSmall
set_option linter.unusedSimpArgs false
set_option linter.unusedVariables false
set_option linter.unnecessarySimpa false
set_option maxHeartbeats 16000000
set_option maxRecDepth 100000
open Go.Proofs.Tryz
namespace Go.Proofs.YtffobmpeeopadaaGreat
open Go.RowKit
theorem iT {P:Program} {ops:Array Oper} {rest:List Oper} {a:Act} {w:World} {Q:Exit->Act->World->Prop} {dst:Option Tmp} {type:TypeId} {pos:String} {after:Array Edge} {guard:Option (Nat×Bool)} (ty:TypeId) (x:Operand)
 (b o:Nat) (cs:List Value) (d:TypeDesc) (hu:P.underlying ty=some d) (hd:d.isRow=true) (hi:(P.info? ty).map (·.size)=some cs.length)
 (hc:w.rangeAt b o cs)
 (hw:Region.wanted ⟨dst,.load ty x,type,pos,after,guard⟩ (yielded ops a.tmps)=true)
 (hx:a.eval x=.pointer (some ⟨b,o,none⟩))
 (h:wpList P ops Q rest (a.put dst (.agg cs.toArray)) w):wpList P ops Q (⟨dst,.load ty x,type,pos,after,guard⟩ :: rest) a w :=
 BigFrame.wpList_want hw fun _ hK=>wp_load_mid ty x rfl b o hx cs d hc hu hd hi (hK _ _ h)
theorem ah {w w':World} {b o:Nat} {cs:List Value} (h:w.rangeAt b o cs) (hb:Below w.heap.size w w'):w'.rangeAt b o cs:=fun j v hv=>kept hb (h j v hv)
def ai (e:Ev) (a:Option Addr) (cap:Nat):List Value :=
 [.int .i64 e.dot.a.dev,.int .i64 e.dot.a.inc,.int .i64 e.dot.seq,.int .i64 e.stamp.wall,.int .i64 e.stamp.count,.int .i64 e.stamp.dev,.int .i64 e.kind,.string e.key.name,.string e.key.domain,.string e.key.path,.string e.ck.value,.bool e.ck.hostOnly,.bool e.ck.secure,.bool e.ck.httpOnly,.bool e.ck.persistent,.int .i64 e.ck.expiry,.int .i64 e.ck.creation,.int .i64 e.ck.access,.slice a e.over.length cap]
theorem dB (e:Ev) (a:Option Addr) (cap:Nat) (w:World) (t:TypeId):(w.alloc (Obj.cells #[.int .i64 e.dot.a.dev,.int .i64 e.dot.a.inc,.int .i64 e.dot.seq,.int .i64 e.stamp.wall,.int .i64 e.stamp.count,.int .i64 e.stamp.dev,.int .i64 e.kind,.string e.key.name,.string e.key.domain,.string e.key.path,.string e.ck.value,.bool e.ck.hostOnly,.bool e.ck.secure,.bool e.ck.httpOnly,.bool e.ck.persistent,.int .i64 e.ck.expiry,.int .i64 e.ck.creation,.int .i64 e.ck.access,.slice a e.over.length cap] t)).rangeAt w.heap.size 0 (ai e a cap):=by
 intro j v hv;rw [ar,World.cell?_alloc_new];exact (by simpa [ai] using hv)
/-- the load of an event that lies in block b -/
theorem bu {ops:Array Oper} {rest:List Oper} {a:Act} {w:World} {Q:Exit->Act->World->Prop} {dst:Option Tmp} {type:TypeId} {pos:String} {after:Array Edge} {guard:Option (Nat×Bool)} (x:Operand)
 (b:Nat) (e:Ev) (ad:Option Addr) (cap:Nat) (hc:w.rangeAt b 0 (ai e ad cap))
 (hw:Region.wanted ⟨dst,.load 61 x,type,pos,after,guard⟩ (yielded ops a.tmps)=true)
 (hx:a.eval x=.pointer (some ⟨b,0,none⟩))
 (h:wpList prog ops Q rest (a.put dst (jC e ad cap)) w):wpList prog ops Q (⟨dst,.load 61 x,type,pos,after,guard⟩ :: rest) a w :=
 iT 61 x b 0 (ai e ad cap) _ underlying61 rfl (by kernel_rfl) hc hw hx h
theorem zV {P:Program} {ops:Array Oper} {rest:List Oper} {a:Act} {C:World->Prop} {Q:Act->Prop} {dst:Option Tmp} {type:TypeId} {pos:String} {after:Array Edge} {guard:Option (Nat×Bool)} (ty:TypeId) (x:Operand)
 (b o:Nat) (cs:List Value) (d:TypeDesc) (hu:P.underlying ty=some d) (hd:d.isRow=true) (hi:(P.info? ty).map (·.size)=some cs.length)
 (hc:∀ w,C w->w.rangeAt b o cs)
 (hw:Region.wanted ⟨dst,.load ty x,type,pos,after,guard⟩ (yielded ops a.tmps)=true)
 (hx:a.eval x=.pointer (some ⟨b,o,none⟩))
 (h:wpQuiet P ops C Q rest (a.put dst (.agg cs.toArray))):wpQuiet P ops C Q (⟨dst,.load ty x,type,pos,after,guard⟩ :: rest) a :=
 BigFrame.wpQuiet_want hw fun K hK=>⟨.agg cs.toArray,fun w hw'=>by
  unfold Oper.quietAt execOp;simp only [hx,Instr.loadAt,Instr.sureAddr,Sem.run_bind,Sem.run_pure,Result.andThen_ok,run_loadVar_mid w b o ty cs d (hc w hw') hu hd hi];exact ⟨rfl,rfl⟩,hK _ h⟩
theorem bC {P:Program} {ops:Array Oper} {rest:List Oper} {a:Act} {w:World} {Q:Exit->Act->World->Prop} {dst:Option Tmp} {type:TypeId} {pos:String} {after:Array Edge} {guard:Option (Nat×Bool)} (ty:TypeId) (x:Operand)
 (b o:Nat) (cs:List Value) (v:Value) (hv:Value.agg cs.toArray=v) (d:TypeDesc) (hu:P.underlying ty=some d) (hd:d.isRow=true) (hi:(P.info? ty).map (·.size)=some cs.length)
 (hc:w.rangeAt b o cs)
 (hw:Region.wanted ⟨dst,.load ty x,type,pos,after,guard⟩ (yielded ops a.tmps)=true)
 (hx:a.eval x=.pointer (some ⟨b,o,none⟩))
 (h:wpList P ops Q rest (a.put dst v) w):wpList P ops Q (⟨dst,.load ty x,type,pos,after,guard⟩ :: rest) a w :=
 iT ty x b o cs d hu hd hi hc hw hx (by rw [hv];exact h)
/-- an event out of block b, place o -/
theorem bg {ops:Array Oper} {rest:List Oper} {a:Act} {w:World} {Q:Exit->Act->World->Prop} {dst:Option Tmp} {type:TypeId} {pos:String} {after:Array Edge} {guard:Option (Nat×Bool)} (x:Operand)
 (b o:Nat) (e:Ev) (ad:Option Addr) (cap:Nat) (hc:w.rangeAt b o (ai e ad cap))
 (hw:Region.wanted ⟨dst,.load 61 x,type,pos,after,guard⟩ (yielded ops a.tmps)=true)
 (hx:a.eval x=.pointer (some ⟨b,o,none⟩))
 (h:wpList prog ops Q rest (a.put dst (jC e ad cap)) w):wpList prog ops Q (⟨dst,.load 61 x,type,pos,after,guard⟩ :: rest) a w :=
 iT 61 x b o (ai e ad cap) _ underlying61 rfl (by kernel_rfl) hc hw hx h
theorem jL {ops:Array Oper} {rest:List Oper} {a:Act} {W:World} {Q:Act->Prop} {dst:Option Tmp} {type:TypeId} {pos:String} {after:Array Edge} {guard:Option (Nat×Bool)} (x:Operand)
 (b o:Nat) (e:Ev) (ad:Option Addr) (cap:Nat) (hc:W.rangeAt b o (ai e ad cap))
 (hw:Region.wanted ⟨dst,.load 61 x,type,pos,after,guard⟩ (yielded ops a.tmps)=true)
 (hx:a.eval x=.pointer (some ⟨b,o,none⟩))
 (h:wpQuiet prog ops (fun w'=>∃ i:After W,w'=i.w) Q rest (a.put dst (jC e ad cap))):wpQuiet prog ops (fun w'=>∃ i:After W,w'=i.w) Q (⟨dst,.load 61 x,type,pos,after,guard⟩ :: rest) a :=
 zV 61 x b o (ai e ad cap) _ underlying61 rfl (by kernel_rfl) (fun _ hw'=>by obtain ⟨i,rfl⟩:=hw';exact ah hc i.h) hw hx h
/-- append of bytes to a row of bytes of one's own, whatever the source is -/
theorem yw (w:World) (base:Nat) (v:Value) (d:Bytes) (hown:w.ownsRow base 5 1 v d.length (aI d)) (A:Option Addr) (m:Bytes) (c:Nat) (hin:BytesIn w A m)
 (hb:d.length+m.length<=1073741824) (hbase:base<=w.heap.size) :
 ∃ v' w',(Builtin.append_ #[40,40] 40 #[v,.slice A m.length c]).run prog w=.ok v' w'/\w'.ownsRow base 5 1 v' (d++m).length (aI (d++m))/\w.grownBy w' v.ownBlock:=by
 obtain ⟨i0,hi,hz0,hz1,hz2⟩:=info_parts Tryz.infoByte;have key:∀ (ad:Addr),A=some ad->(∀ j u,(aI m)[j]?=some u->w.cell? (ad.add j)=some u)->∃ v' w',(Builtin.append_ #[40,40] 40 #[v,.slice A m.length c]).run prog w=.ok v' w'/\w'.ownsRow base 5 1 v' (d++m).length (aI (d++m))/\w.grownBy w' v.ownBlock:=fun ad hA hn=>by
  obtain ⟨v',w',hrun,h2,h3,_,_⟩:=run_append_own_at (P:=prog) w base 40 40 5 i0 (.int .u8 0) 1 1 underlying40 hi hz0 hz1 hz2 rfl (by decide) v d.length (aI d) hown ad m.length c (aI m) (by simp [aZ]) hn (bW m) (by unfold maxLen;omega) (by omega) hbase;exact ⟨v',w',by rw [hA];exact hrun,by rw [bQ,aq];exact h2,h3⟩
 rcases hin with h0 | ⟨B,off,rfl,hb2⟩
 ·subst h0
  rcases A with _ | ad
  ·refine ⟨v,w,?_,by simpa using hown,World.grownBy.refl w _⟩
   rcases hown.2 with ⟨rfl,h0⟩ | ⟨g,cap,cur,rfl,_,_,hnc,_⟩
   ·simp [Builtin.append_,run_underlying underlying40,sizeOf,typeInfo,hi,Builtin.lenOf,Builtin.firstCells]
   ·simp [Builtin.append_,run_underlying underlying40,sizeOf,typeInfo,hi,Builtin.lenOf,Builtin.firstCells,hnc,storeCells]
  ·exact key ad rfl (fun j u hu=>by simp [aI] at hu)
 ·exact key _ rfl hb2.news
theorem rM {o:Oper} {a:Act} {w:World} {K:Act->World->Prop} {Q:Exit->Act->World->Prop} (s x:Operand)
 (ho:o.op=.call { callee:=.builtin .append,args:=#[s,x],argTypes:=#[40,40] }) (hty:o.type=40)
 (base:Nat) (v:Value) (d:Bytes) (hs:a.eval s=v) (hown:w.ownsRow base 5 1 v d.length (aI d)) (A:Option Addr) (m:Bytes) (c:Nat) (hx:a.eval x=.slice A m.length c) (hin:BytesIn w A m)
 (hb:d.length+m.length<=1073741824) (hbase:base<=w.heap.size)
 (h:∀ v' w',w'.ownsRow base 5 1 v' (d++m).length (aI (d++m))->w.grownBy w' v.ownBlock->K (a.put o.dst v') w'):o.wp prog a w K Q:=by
 obtain ⟨v',w',hrun,h2,h3⟩:=yw w base v d hown A m c hin hb hbase;unfold Oper.wp execOp;simp only [ho,hty,resolve,invoke,builtin,Sem.run_bind,Sem.run_pure,Result.andThen_ok,List.map_toArray,List.map_cons,List.map_nil,hs,hx,hrun];exact h v' w' h2 h3
theorem fB {ops:Array Oper} {rest:List Oper} {o:Oper} {a:Act} {w:World} {Q:Exit->Act->World->Prop} (hgd:o.guard=none) (s x:Operand)
 (ho:o.op=.call { callee:=.builtin .append,args:=#[s,x],argTypes:=#[40,40] }) (hty:o.type=40)
 (base:Nat) (v:Value) (d:Bytes) (hs:a.eval s=v) (hown:w.ownsRow base 5 1 v d.length (aI d)) (A:Option Addr) (m:Bytes) (c:Nat) (hx:a.eval x=.slice A m.length c) (hin:BytesIn w A m)
 (hb:d.length+m.length<=1073741824) (hbase:base<=w.heap.size)
 (h:∀ v' w',w'.ownsRow base 5 1 v' (d++m).length (aI (d++m))->w.grownBy w' v.ownBlock->wpList prog ops Q rest (a.put o.dst v') w'):wpList prog ops Q (o :: rest) a w :=
 wpList_plain hgd fun _ hK=>rM s x ho hty base v d hs hown A m c hx hin hb hbase fun v' w' h2 h3=>hK _ _ (h v' w' h2 h3)
theorem o7 {ops:Array Oper} {o:Oper} {a:Act} {w:World} {K:Act->World->Prop} {Q:Exit->Act->World->Prop} {E:Prop} (hw:Region.wanted o (yielded ops a.tmps)=true) (s x:Operand)
 (ho:o.op=.call { callee:=.builtin .append,args:=#[s,x],argTypes:=#[40,40] }) (hty:o.type=40)
 (base:Nat) (v:Value) (d:Bytes) (hs:a.eval s=v) (hown:w.ownsRow base 5 1 v d.length (aI d)) (A:Option Addr) (m:Bytes) (c:Nat) (hx:a.eval x=.slice A m.length c) (hin:BytesIn w A m)
 (hb:d.length+m.length<=1073741824) (hbase:base<=w.heap.size)
 (h:∀ v' w',w'.ownsRow base 5 1 v' (d++m).length (aI (d++m))->w.grownBy w' v.ownBlock->K (a.put o.dst v') w') :
 if Region.wanted o (yielded ops a.tmps)=true then Oper.wp prog o a w K Q else E:=by
 rw [if_pos hw];exact rM s x ho hty base v d hs hown A m c hx hin hb hbase h
theorem FW {α:Type} {l m:List α} {k:Nat} (h1:k<l.length) (h2:k<m.length) (h:l[k]≠m[k]):l≠m:=fun e=>h (by subst e;rfl)
theorem EH {α:Type} {l m:List α} {k:Nat} (h1:k<l.length) (h2:k<m.length) (hp:l.take k=m.take k) (h:l[k]=m[k]):l.take (k+1)=m.take (k+1):=by
 rw [List.take_succ_eq_append_getElem h1,List.take_succ_eq_append_getElem h2,hp,h]
theorem H8 {α:Type} {l m:List α} {k:Nat} (h1:¬ k<l.length) (h2:¬ k<m.length) (hp:l.take k=m.take k):l=m:=by
 rwa [List.take_of_length_le (by omega),List.take_of_length_le (by omega)] at hp
theorem Gz {α:Type} {l m:List α} (h:¬ l.length=m.length):¬ l=m:=fun e=>h (by rw [e])
theorem z59 {p : Prop} (h : p := by
 have hlm : ¬ k < m.length := by omega
 have HE : Hid (decide (l = m) = true) := decide_eq_true (H8 hlt hlm HP.out)
 go_wp2
 go_ret
 exact ⟨aB HE.out.symm, hbw⟩) : p := h
theorem z149 {p : Prop} (h : p := by exact ⟨0, Nat.zero_le _, rfl, rfl, by go_grown⟩) : p := h
theorem z124 {p : Prop} (h : p := by rw [h] at hlt; simp at hlt) : p := h
theorem z121 {p : Prop} (h : p := by
 have HS := aa (EH hlt hlm HP.out he)
 clear he
 generalize l[k] = x at *
 generalize m[k] = y at *
 go_wp2
 go_quiet (fail)
 go_wp2
 go_roundw
 case rel => exact ⟨k + 1, by omega, by go_num, HS.out, below_drewN hbw nq⟩
 case measure => exact z67) : p := h
theorem y36 {p q : Prop} (k : q) (h : PLift q -> p := by
 intro kk
 have hb1 : ((l.length : Nat) != (m.length : Nat)) = true := by rw [bne_iff_ne]; exact hlen
 have hb2 : ((l.length : Int) != (m.length : Int)) = true := by rw [bne_iff_ne]; omega
 revert hb1 hb2
 exact kk.down) : p := h ⟨k⟩
theorem y22 {p q : Prop} (k : q) (h : PLift q -> p := by
 intro kk
 have hb1 : ((l.length : Nat) != (m.length : Nat)) = false := by rw [bne_eq_false_iff_eq]; exact hlen
 have hb2 : ((l.length : Int) != (m.length : Int)) = false := by rw [bne_eq_false_iff_eq]; omega
 have hl1 : l.length <= m.length := by omega
 have hl2 : m.length <= l.length := by omega
 revert hb1 hb2 hl1 hl2
 exact kk.down) : p := h ⟨k⟩
theorem Bv (a b:Option Addr) (ca cb:Nat) (l m:Bytes) (w:World) (hl:l.length<=1073741824) (hm:m.length<=1073741824) (ha:BytesIn w a l) (hb:BytesIn w b m) :
 Calls prog 10 #[.slice a l.length ca,.slice b m.length cb] w fun x w'=>x=.returned (.bool (decide (l=m)))/\Below w.heap.size w w':=by
 by_cases hlen:l.length=m.length
 ·refine y22 ?_
  intro hb1 hb2 hl1 hl2
  clear hlen
  go_enter func10,ntmps10;go_wp2;go_loopw [5] (fun i wr=>∃ k:Nat,k<=l.length/\i=.int .i64 k/\l.take k=m.take k/\Below w.heap.size w wr) (fun i _=>l.length - (intOf i).toNat)
  case atStart => exact z149
  case round =>
        obtain ⟨k,hk,rfl,hpre,hbw⟩:=hrel;have HP:=aa hpre;clear hpre;by_cases hlt:k<l.length
        ·have hlm:k<m.length:=by omega
         rcases ha with h | ⟨A,off,rfl,hda⟩
         ·exact z124
         rcases hb with h | ⟨B,ofb,rfl,hdb⟩
         ·rw [h] at hlm;simp at hlm
         have x0:=(hda.below hbw).cell hlt;have y0:=(hdb.below hbw).cell hlm;by_cases he:l[k]=m[k]
         ·have hq:((l[k].toNat:Int) != (m[k].toNat:Int))=false:=by rw [bne_eq_false_iff_eq,he]
          exact z121
         ·have HE:Hid (decide (l=m)=false):=decide_eq_false (FW hlt hlm he)
          have hq:((l[k].toNat:Int) != (m[k].toNat:Int))=true:=by rw [bne_iff_ne];exact fun e=>he (UInt8.toNat_inj.1 (by omega))
          clear he;generalize l[k]=x at *;generalize m[k]=y at *;go_wp2;go_quiet (fail)
          go_wp2;go_ret;exact ⟨aB HE.out.symm,below_drewN hbw nq⟩
        ·exact z59
 ·have HE:Hid (decide (l=m)=false):=decide_eq_false (Gz hlen)
  refine y36 ?_
  intro hb1 hb2
  clear hlen
  go_enter func10,ntmps10
  exact z52
theorem z34 {p : Prop} (h : p := by
 by_cases he : l[k] = m[k]
 ·rw [decide_eq_true he] at hEq
  exact z121
 ·have HE : Hid (decide (l = m) = false) := decide_eq_false (FW hlt hlm he)
  rw [decide_eq_false he] at hEq
  clear he
  generalize l[k] = x at *
  generalize m[k] = y at *
  go_wp2
  go_quiet (fail)
  go_wp2
  go_ret
  exact ⟨aB HE.out.symm, below_drewN hbw nq⟩) : p := h
theorem y76 {p q : Prop} (k : q) (h : PLift q -> p := by
 intro kk
 have x0 := (hda.kept hbw).dev k hlt
 have x1 := (hda.kept hbw).inc k hlt
 have x2 := (hda.kept hbw).seq k hlt
 have y0 := (hdb.kept hbw).dev k hlm
 have y1 := (hdb.kept hbw).inc k hlm
 have y2 := (hdb.kept hbw).seq k hlm
 revert x0 x1 x2 y0 y1 y2
 exact kk.down) : p := h ⟨k⟩
theorem uM (a b:Option Addr) (ca cb:Nat) (l m:List Dot) (w:World) (hl:l.length<=1073741824) (hm:m.length<=1073741824) (ha:DotsIn w a l) (hb:DotsIn w b m) :
 Calls prog 98 #[.slice a l.length ca,.slice b m.length cb] w fun x w'=>x=.returned (.bool (decide (l=m)))/\Below w.heap.size w w':=by
 by_cases hlen:l.length=m.length
 ·refine y22 ?_
  intro hb1 hb2 hl1 hl2
  clear hlen
  go_enter func98,ntmps98;go_wp2;go_loopw [5] (fun i wr=>∃ k:Nat,k<=l.length/\i=.int .i64 k/\l.take k=m.take k/\Below w.heap.size w wr) (fun i _=>l.length - (intOf i).toNat)
  case atStart => exact z149
  case round =>
        obtain ⟨k,hk,rfl,hpre,hbw⟩:=hrel;have HP:=aa hpre;clear hpre;by_cases hlt:k<l.length
        ·have hlm:k<m.length:=by omega
         rcases ha with h | ⟨A,off,rfl,hda⟩
         ·exact z124
         rcases hb with h | ⟨B,ofb,rfl,hdb⟩
         ·rw [h] at hlm;simp at hlm
         refine y76 ?_
         intro x0 x1 x2 y0 y1 y2
         have hEq:=fun (W:World)=>Fv W 9997 l[k] m[k];have hm:=lS
         exact z34
        ·exact z59
 ·have HE:Hid (decide (l=m)=false):=decide_eq_false (Gz hlen)
  refine y36 ?_
  intro hb1 hb2
  clear hlen
  go_enter func98,ntmps98
  exact z52
theorem VN (e f:Ev):e=f↔e.dot=f.dot/\e.stamp=f.stamp/\e.kind=f.kind/\e.key=f.key/\e.ck=f.ck/\e.over=f.over:=by
 cases e;cases f;simp
theorem z120 {p : Prop} (h : p := by
 go_enter func140, ntmps140
 exact z52) : p := h
theorem Io (e f:Ev) (a b:Option Addr) (ca cb:Nat) (w:World) (hl:e.over.length<=1073741824) (hm:f.over.length<=1073741824) (ha:DotsIn w a e.over) (hb:DotsIn w b f.over) :
 Calls prog 140 #[jC e a ca,jC f b cb] w fun x w'=>x=.returned (.bool (decide (e=f)))/\Below w.heap.size w w':=by
 have HV:=aa (VN e f);have hq1:∀ W:World,(Op.equalIn 10000 55 (.agg #[.int .i64 e.dot.a.dev,.int .i64 e.dot.a.inc,.int .i64 e.dot.seq]) (.agg #[.int .i64 f.dot.a.dev,.int .i64 f.dot.a.inc,.int .i64 f.dot.seq])).run prog W=.ok (decide (e.dot=f.dot)) W:=fun W=>Fv W 9997 e.dot f.dot;have hq2:∀ W:World,(Op.equalIn 10000 23 (.agg #[.int .i64 e.stamp.wall,.int .i64 e.stamp.count,.int .i64 e.stamp.dev]) (.agg #[.int .i64 f.stamp.wall,.int .i64 f.stamp.count,.int .i64 f.stamp.dev])).run prog W=.ok (decide (e.stamp=f.stamp)) W:=fun W=>NM W 9998 e.stamp f.stamp;have hq4:∀ W:World,(Op.equalIn 10000 57 (.agg #[.string e.key.name,.string e.key.domain,.string e.key.path]) (.agg #[.string f.key.name,.string f.key.domain,.string f.key.path])).run prog W=.ok (decide (e.key=f.key)) W:=fun W=>UN W 9998 e.key f.key;have hq5:∀ W:World,(Op.equalIn 10000 59 (.agg #[.string e.ck.value,.bool e.ck.hostOnly,.bool e.ck.secure,.bool e.ck.httpOnly,.bool e.ck.persistent,.int .i64 e.ck.expiry,.int .i64 e.ck.creation,.int .i64 e.ck.access]) (.agg #[.string f.ck.value,.bool f.ck.hostOnly,.bool f.ck.secure,.bool f.ck.httpOnly,.bool f.ck.persistent,.int .i64 f.ck.expiry,.int .i64 f.ck.creation,.int .i64 f.ck.access])).run prog W=.ok (decide (e.ck=f.ck)) W:=fun W=>YB W 9998 e.ck f.ck;have g1:=lS;have g2:=xe;have g4:=BV;have g5:=Eh;have HO:=aa (fun (W:World) (h1:DotsIn W a e.over) (h2:DotsIn W b f.over)=>uM a b ca cb e.over f.over W hl hm h1 h2);by_cases t0:e.dot=f.dot
 ·rw [decide_eq_true t0] at hq1
  by_cases t1:e.stamp=f.stamp
  ·rw [decide_eq_true t1] at hq2
   by_cases t2:e.kind=f.kind
   ·skip
    by_cases t3:e.key=f.key
    ·rw [decide_eq_true t3] at hq4
     by_cases t4:e.ck=f.ck
     ·rw [decide_eq_true t4] at hq5
      have HE:Hid (decide (e=f)=decide (e.over=f.over)):=by rw [Hid,Bool.eq_iff_iff,decide_eq_true_eq,decide_eq_true_eq,HV.out];simp [t0,t1,t2,t3,t4]
      clear t0;clear t1;have u2:(e.kind == f.kind)=true:=beq_iff_eq.2 t2;clear t2;clear t3;clear t4;go_enter func140,ntmps140;go_upto_region 1 with fail
      refine aU (fun W hW=>?_);have hbt:Below w.heap.size w W:=by rw [hW.out];go_grown
      have ha1:=ha.kept hbt;have hb1:=hb.kept hbt;have hR:W.rangeAt w.heap.size 0 (ai e a ca):=by rw [hW.out];exact World.rangeAt_alloc (dB e a ca w _) _
      have hS:W.rangeAt (w.heap.size+1) 0 (ai f b cb):=by
         have h:=dB f b cb (w.alloc (Obj.cells #[.int .i64 e.dot.a.dev,.int .i64 e.dot.a.inc,.int .i64 e.dot.seq,.int .i64 e.stamp.wall,.int .i64 e.stamp.count,.int .i64 e.stamp.dev,.int .i64 e.kind,.string e.key.name,.string e.key.domain,.string e.key.path,.string e.ck.value,.bool e.ck.hostOnly,.bool e.ck.secure,.bool e.ck.httpOnly,.bool e.ck.persistent,.int .i64 e.ck.expiry,.int .i64 e.ck.creation,.int .i64 e.ck.access,.slice a e.over.length ca] 61)) 61;rw [hW.out];simpa using h
      have q0:=hR 0 _ rfl;have r0:=hS 0 _ rfl;have q1:=hR 1 _ rfl;have r1:=hS 1 _ rfl;have q2:=hR 2 _ rfl;have r2:=hS 2 _ rfl;have q3:=hR 3 _ rfl;have r3:=hS 3 _ rfl;have q4:=hR 4 _ rfl;have r4:=hS 4 _ rfl;have q5:=hR 5 _ rfl;have r5:=hS 5 _ rfl;have q6:=hR 6 _ rfl;have r6:=hS 6 _ rfl;have q7:=hR 7 _ rfl;have r7:=hS 7 _ rfl;have q8:=hR 8 _ rfl;have r8:=hS 8 _ rfl;have q9:=hR 9 _ rfl;have r9:=hS 9 _ rfl;have q10:=hR 10 _ rfl;have r10:=hS 10 _ rfl;have q11:=hR 11 _ rfl;have r11:=hS 11 _ rfl;have q12:=hR 12 _ rfl;have r12:=hS 12 _ rfl;have q13:=hR 13 _ rfl;have r13:=hS 13 _ rfl;have q14:=hR 14 _ rfl;have r14:=hS 14 _ rfl;have q15:=hR 15 _ rfl;have r15:=hS 15 _ rfl;have q16:=hR 16 _ rfl;have r16:=hS 16 _ rfl;have q17:=hR 17 _ rfl;have r17:=hS 17 _ rfl;have q18:=hR 18 _ rfl;have r18:=hS 18 _ rfl;clear hW hR hS ha hb;go_wp2_with (go_at_call 98;(with_reducible refine (HO.out _ ha1 hb1).mono ?_);rintro x w1 ⟨rfl,hb2⟩)
      go_ret;exact ⟨aB HE.out.symm,below2 hbt hb2⟩
     ·rw [decide_eq_false t4] at hq5
      have HE:Hid (decide (e=f)=false):=by rw [Hid,decide_eq_false_iff_not,HV.out];intro h;exact t4 (by simp only [h])
      have u2:(e.kind == f.kind)=true:=beq_iff_eq.2 t2;clear t0;clear t1;clear t2;clear t3;clear t4
      exact z120
    ·rw [decide_eq_false t3] at hq4
     have HE:Hid (decide (e=f)=false):=by rw [Hid,decide_eq_false_iff_not,HV.out];intro h;exact t3 (by simp only [h])
     have u2:(e.kind == f.kind)=true:=beq_iff_eq.2 t2;clear t0;clear t1;clear t2;clear t3
     exact z120
   ·have u2:(e.kind == f.kind)=false:=beq_eq_false_iff_ne.2 t2
    have HE:Hid (decide (e=f)=false):=by rw [Hid,decide_eq_false_iff_not,HV.out];intro h;exact t2 (by simp only [h])
    clear t0;clear t1;clear t2
    exact z120
  ·rw [decide_eq_false t1] at hq2
   have HE:Hid (decide (e=f)=false):=by rw [Hid,decide_eq_false_iff_not,HV.out];intro h;exact t1 (by simp only [h])
   clear t0;clear t1
   exact z120
 ·rw [decide_eq_false t0] at hq1
  have HE:Hid (decide (e=f)=false):=by rw [Hid,decide_eq_false_iff_not,HV.out];intro h;exact t0 (by simp only [h])
  clear t0
  exact z120
theorem z38 {p : Prop} (h : p := by
 clear h3
 go_wp2_with (first
  | (go_at_call 157; refine (HD.out _).mono ?_; rintro x w1 ⟨rfl, hb⟩; replace q0 := kept hb q0; replace q1 := kept hb q1; replace q2 := kept hb q2; replace q3 := kept hb q3; replace q4 := kept hb q4; replace q5 := kept hb q5; replace q18 := kept hb q18; replace hR := ah hR hb; replace hbt := below2 hbt hb)
  | (go_at_call 29; refine (HS.out _).mono ?_; rintro x w1 ⟨rfl, hb⟩; replace q0 := kept hb q0; replace q1 := kept hb q1; replace q2 := kept hb q2; replace q3 := kept hb q3; replace q4 := kept hb q4; replace q5 := kept hb q5; replace q18 := kept hb q18; replace hR := ah hR hb; replace hbt := below2 hbt hb))
 go_ret
 exact ⟨aB HE.out.symm, hbt⟩) : p := h
theorem y1 {p q : Prop} (k : q) (h : PLift q -> p := by
 intro kk
 refine y63 ?_
 intro W2 hW2 a0 a1 a2
 have b0 : ∀ i : After W2, i.w.cell? ⟨w.heap.size, 0, none⟩ = some (.int .i64 e.dot.a.dev) := fun i => i.cell (by rw [hW2.out]; exact hw0)
 have b1 : ∀ i : After W2, i.w.cell? ⟨w.heap.size, 1, none⟩ = some (.int .i64 e.dot.a.inc) := fun i => i.cell (by rw [hW2.out]; exact hw1)
 have b2 : ∀ i : After W2, i.w.cell? ⟨w.heap.size, 2, none⟩ = some (.int .i64 e.dot.seq) := fun i => i.cell (by rw [hW2.out]; exact hw2)
 have b18 : ∀ i : After W2, i.w.cell? ⟨w.heap.size, 18, none⟩ = some (.slice (some ⟨A, off, none⟩) e.over.length cap) := fun i => i.cell (by rw [hW2.out]; exact Ag)
 revert W2 hW2 a0 a1 a2 b0 b1 b2 b18
 exact kk.down) : p := h ⟨k⟩
theorem z14 {p : Prop} (h : p := by
 clear h4 hT2
 refine y1 ?_
 intro W2 hW2 a0 a1 a2 b0 b1 b2 b18
 skip
 refine y9 ?_
 rintro _ ⟨i, rfl⟩
 have hib := i.h
 clear a0 a1 a2 b0 b1 b2 b18
 skip
 generalize i.w = wi at hib ⊢
 rw [hW2.out] at hib
 go_wp2
 go_roundw
 case rel => exact ⟨k + 1, by omega, by go_num, HE.out, nU hbw hB1 hib⟩
 case measure => simp [intOf] <;> omega) : p := h
theorem z91 {p : Prop} (h : p := by
 generalize i.w = wi at hib ⊢
 rw [hW2.out] at hib
 go_wp2
 go_ret
 exact ⟨aB (HEV.out HE.out).symm, hb0.trans ((nU hbw hB1 hib).mono (by omega))⟩) : p := h
theorem z62 {p : Prop} (h : p := by
 clear h4 hT2
 refine y1 ?_
 intro W2 hW2 a0 a1 a2 b0 b1 b2 b18
 exact z8) : p := h
theorem Ae (e:Ev) (a:Option Addr) (cap:Nat) (w:World) (hs:EvSmall e) (qo:DotsIn w a e.over) :
 Calls prog 112 #[jC e a cap] w fun x w'=>x=.returned (.bool (dw e))/\Below w.heap.size w w':=by
 have HV:Hid (dw e=(bi e.dot && (dM e.stamp && (decide (e.stamp.dev=e.dot.a.dev) && (overOk e.dot e.over && kindOk e))))):=rfl;have HD0:=fun (W:World)=>pU e.dot W;have HS0:=fun (W:World)=>rP e.stamp W;have HC0:=aa (fun (W:World)=>Gm e.key e.ck e.ck.persistent rfl W hs.name hs.domain hs.value);have hq0:∀ W:World,(Op.equalIn 10000 178 (.agg #[.string e.key.name,.string e.key.domain,.string e.key.path,.string e.ck.value,.bool e.ck.hostOnly,.bool e.ck.secure,.bool e.ck.httpOnly,.bool e.ck.persistent,.int .i64 e.ck.expiry,.int .i64 e.ck.creation,.int .i64 e.ck.access]) (.agg #[.string ⟨#[]⟩,.string ⟨#[]⟩,.string ⟨#[]⟩,.string ⟨#[]⟩,.bool false,.bool false,.bool false,.bool false,.int .i64 0,.int .i64 0,.int .i64 0])).run prog W=.ok (decide (e.key=ed) && decide (e.ck=ck0)) W:=fun W=>Sj W 9997 e.key ed e.ck ck0;have hk0:kindOk e=if e.kind=2 then (decide (e.key=ed) && decide (e.ck=ck0)) && decide (0<e.over.length) else if e.kind=1 then gI e.key e.ck else false:=rfl
 have HQ:=aa hq0;have HK:=aa hk0;clear hq0 hk0;have hol:=hs.over;go_enter func112,ntmps112;go_upto_region 1 with fail
 refine aU (fun W hW=>?_);have hbt:Below w.heap.size w W:=by rw [hW.out];go_grown
 have hz:w.heap.size<W.heap.size:=by rw [hW.out];simp
 have q0:W.cell? ⟨w.heap.size,0,none⟩=some (.int .i64 e.dot.a.dev):=by rw [hW.out];go_simp
 have q1:W.cell? ⟨w.heap.size,1,none⟩=some (.int .i64 e.dot.a.inc):=by rw [hW.out];go_simp
 have q2:W.cell? ⟨w.heap.size,2,none⟩=some (.int .i64 e.dot.seq):=by rw [hW.out];go_simp
 have q3:W.cell? ⟨w.heap.size,3,none⟩=some (.int .i64 e.stamp.wall):=by rw [hW.out];go_simp
 have q4:W.cell? ⟨w.heap.size,4,none⟩=some (.int .i64 e.stamp.count):=by rw [hW.out];go_simp
 have q5:W.cell? ⟨w.heap.size,5,none⟩=some (.int .i64 e.stamp.dev):=by rw [hW.out];go_simp
 have q18:W.cell? ⟨w.heap.size,18,none⟩=some (.slice a e.over.length cap):=by rw [hW.out];go_simp
 have hR:W.rangeAt w.heap.size 0 (ai e a cap):=by rw [hW.out];exact dB e a cap w _
 clear hW
 cases h1:bi e.dot with
 | false =>
   have HE:Hid (dw e=false):=by rw [Hid,HV.out,h1];rfl
   rw [h1] at HD0;have HD:=aa HD0;have HS:=aa HS0;clear HD0 HS0;go_wp2_with (first
    | (go_at_call 157;refine (HD.out _).mono ?_;rintro x w1 ⟨rfl,hb⟩;replace q0:=kept hb q0;replace q1:=kept hb q1;replace q2:=kept hb q2;replace q3:=kept hb q3;replace q4:=kept hb q4;replace q5:=kept hb q5;replace q18:=kept hb q18;replace hR:=ah hR hb;replace hbt:=below2 hbt hb)
    | (go_at_call 29;refine (HS.out _).mono ?_;rintro x w1 ⟨rfl,hb⟩;replace q0:=kept hb q0;replace q1:=kept hb q1;replace q2:=kept hb q2;replace q3:=kept hb q3;replace q4:=kept hb q4;replace q5:=kept hb q5;replace q18:=kept hb q18;replace hR:=ah hR hb;replace hbt:=below2 hbt hb))
   go_ret;exact ⟨aB HE.out.symm,hbt⟩
 | true =>
   rw [h1] at HD0;have HD:=aa HD0;clear HD0
   cases h2:dM e.stamp with
   | false =>
     have HE:Hid (dw e=false):=by rw [Hid,HV.out,h1,h2];rfl
     rw [h2] at HS0;have HS:=aa HS0;clear HS0;go_wp2_with (first
        | (go_at_call 157;refine (HD.out _).mono ?_;rintro x w1 ⟨rfl,hb⟩;replace q0:=kept hb q0;replace q1:=kept hb q1;replace q2:=kept hb q2;replace q3:=kept hb q3;replace q4:=kept hb q4;replace q5:=kept hb q5;replace q18:=kept hb q18;replace hR:=ah hR hb;replace hbt:=below2 hbt hb)
        | (go_at_call 29;refine (HS.out _).mono ?_;rintro x w1 ⟨rfl,hb⟩;replace q0:=kept hb q0;replace q1:=kept hb q1;replace q2:=kept hb q2;replace q3:=kept hb q3;replace q4:=kept hb q4;replace q5:=kept hb q5;replace q18:=kept hb q18;replace hR:=ah hR hb;replace hbt:=below2 hbt hb))
     go_ret;exact ⟨aB HE.out.symm,hbt⟩
   | true =>
     rw [h2] at HS0;have HS:=aa HS0;clear HS0;by_cases h3:e.stamp.dev=e.dot.a.dev
     ·have h3':(e.stamp.dev != e.dot.a.dev)=false:=by rw [bne_eq_false_iff_eq];exact h3
      by_cases h64:e.over.length<=64
      ·have HEV:Hid (overOk e.dot e.over=false->dw e=false):=fun h=>by rw [HV.out,h1,h2,decide_eq_true h3,h];rfl
       have HEK:Hid (overOk e.dot e.over=true->dw e=kindOk e):=fun h=>by rw [HV.out,h1,h2,decide_eq_true h3,h];rfl
       have HO:Hid (overOk e.dot e.over=di e.dot (bF e.over 0) (e.over.drop 0)):=by unfold Hid overOk;simp [h64,bF]
       clear h3;go_upto_block 0 with (first
        | (go_at_call 157;refine (HD.out _).mono ?_;rintro x w1 ⟨rfl,hb⟩;replace q0:=kept hb q0;replace q1:=kept hb q1;replace q2:=kept hb q2;replace q3:=kept hb q3;replace q4:=kept hb q4;replace q5:=kept hb q5;replace q18:=kept hb q18;replace hR:=ah hR hb;replace hbt:=below2 hbt hb)
        | (go_at_call 29;refine (HS.out _).mono ?_;rintro x w1 ⟨rfl,hb⟩;replace q0:=kept hb q0;replace q1:=kept hb q1;replace q2:=kept hb q2;replace q3:=kept hb q3;replace q4:=kept hb q4;replace q5:=kept hb q5;replace q18:=kept hb q18;replace hR:=ah hR hb;replace hbt:=below2 hbt hb))
       refine aU (fun W0 hW0=>?_);rw [<- hW0.out] at q0 q1 q2 q18 hR hbt;have hz0:w.heap.size<W0.heap.size:=World.block_lt_of_cell? W0 _ q0;have hb0:=hbt;have WT:=qo.kept hbt;have c0:=q0;have c1:=q1;have c2:=q2;have c18:=q18;clear hW0 q0 q1 q2 q18 q3 q4 q5 qo hbt;go_wp2;go_loopw [3] (fun i wr=>∃ k:Nat,k<=e.over.length/\i=.int .i64 k/\overOk e.dot e.over=di e.dot (bF e.over k) (e.over.drop k)/\Below W0.heap.size W0 wr) (fun i _=>e.over.length - (intOf i).toNat)
       case atStart=>exact ⟨0,Nat.zero_le _,rfl,HO.out,Below.refl _ _⟩
       case round =>
        obtain ⟨k,hk,rfl,hpre,hbw⟩:=hrel;have HP:=aa hpre;clear hpre;have hbw':=hbw;by_cases hlt:k<e.over.length
        ·rcases WT with h | ⟨A,off,rfl,hd0⟩
         ·exact z124
         ·have hdr:=hd0.kept hbw'
          have e0:=hdr.dev k hlt;have e1:=hdr.inc k hlt;have e2:=hdr.seq k hlt;have hst:=uO e.dot e.over k hlt;have HT:Hid (overOk e.dot e.over=(kC e.dot (bF e.over k) e.over[k] && di e.dot (bF e.over (k+1)) (e.over.drop (k+1)))):=by rw [Hid,HP.out,hst]
          clear hst HP;generalize e.over[k]=x at e0 e1 e2 HT;have hw0:=kept hbw' c0;have hw1:=kept hbw' c1;have hw2:=kept hbw' c2;have Ag:=kept hbw' c18;go_wp2;refine aU (fun W1 hW1=>?_);have hB1:Below wr.heap.size wr W1:=by rw [hW1.out];go_grown
          refine y19 ?_
          intro x0 x1 x2
          replace hw0:=kept hB1 hw0;replace hw1:=kept hB1 hw1;replace hw2:=kept hB1 hw2;replace Ag:=kept hB1 Ag;replace hdr:=hdr.kept hB1;clear hW1 e0 e1 e2 c0 c1 c2 c18;have hR0:=fun (W:World)=>pU x W;have yK:=fun (W:World)=>uA W 9998 x.a e.dot.a;have hm:=lm
          cases h1:bi x with
          | false =>
            have HE:Hid (overOk e.dot e.over=false):=by rw [Hid,HT.out];unfold kC;rw [h1];simp
            rw [h1] at hR0;have HR:=aa hR0;clear hR0 yK h1;refine aJ (by kernel_rfl) (by kernel_rfl) (fun W2 hW2=>?_);have a0:∀ i:After W2,i.w.cell? ⟨wr.heap.size,0,none⟩=some (.int .i64 x.a.dev):=fun i=>i.cell (by rw [hW2.out];exact x0);have a1:∀ i:After W2,i.w.cell? ⟨wr.heap.size,1,none⟩=some (.int .i64 x.a.inc):=fun i=>i.cell (by rw [hW2.out];exact x1);have a2:∀ i:After W2,i.w.cell? ⟨wr.heap.size,2,none⟩=some (.int .i64 x.seq):=fun i=>i.cell (by rw [hW2.out];exact x2);have b0:∀ i:After W2,i.w.cell? ⟨w.heap.size,0,none⟩=some (.int .i64 e.dot.a.dev):=fun i=>i.cell (by rw [hW2.out];exact hw0);have b1:∀ i:After W2,i.w.cell? ⟨w.heap.size,1,none⟩=some (.int .i64 e.dot.a.inc):=fun i=>i.cell (by rw [hW2.out];exact hw1);have b2:∀ i:After W2,i.w.cell? ⟨w.heap.size,2,none⟩=some (.int .i64 e.dot.seq):=fun i=>i.cell (by rw [hW2.out];exact hw2);have b18:∀ i:After W2,i.w.cell? ⟨w.heap.size,18,none⟩=some (.slice (some ⟨A,off,none⟩) e.over.length cap):=fun i=>i.cell (by rw [hW2.out];exact Ag);skip
            go_big_quiet_step (fail)
            go_big_quiet_step (exact Calls.after (HR.out _))
            iterate 12 go_big_quiet_step (fail)
            go_big_quiet_step (exact Calls.after (HLT.out _))
            iterate 19 go_big_quiet_step (fail)
            refine wpQuiet_nil ?_;rintro _ ⟨i,rfl⟩;have hib:=i.h;clear a0 a1 a2 b0 b1 b2 b18;skip
            generalize i.w=wi at hib ⊢;rw [hW2.out] at hib;go_wp2;go_ret;exact ⟨aB (HEV.out HE.out).symm,hb0.trans ((nU hbw hB1 hib).mono (by omega))⟩
          | true =>
            rw [h1] at hR0;have HR:=aa hR0;clear hR0;rcases Nat.eq_zero_or_pos k with hk0 | hk0
            ·refine y75 ?_
             intro Py hdk
             have hT2:Hid (overOk e.dot e.over=(!(decide (x.a=e.dot.a) && decide (e.dot.seq<=x.seq)) && di e.dot (bF e.over (k+1)) (e.over.drop (k+1)))):=by
              rw [Hid,HT.out];unfold kC;rw [h1];subst hk0;simp [bF]
             clear HT h1 hk0;by_cases h4:x.a=e.dot.a
             ·rw [decide_eq_true h4] at yK
              by_cases h5:e.dot.seq<=x.seq
              ·have HE:Hid (overOk e.dot e.over=false):=by rw [Hid,hT2.out];simp [h4,h5]
               clear h4 hT2
               refine y1 ?_
               intro W2 hW2 a0 a1 a2 b0 b1 b2 b18
               skip
               refine y9 ?_
               rintro _ ⟨i,rfl⟩;have hib:=i.h;clear a0 a1 a2 b0 b1 b2 b18;skip
               exact z91
              ·have HE:Hid (overOk e.dot e.over=di e.dot (bF e.over (k+1)) (e.over.drop (k+1))):=by rw [Hid,hT2.out];simp [h5]
               exact z14
             ·rw [decide_eq_false h4] at yK
              have HE:Hid (overOk e.dot e.over=di e.dot (bF e.over (k+1)) (e.over.drop (k+1))):=by rw [Hid,hT2.out];simp [h4]
              exact z14
            ·obtain ⟨j,rfl⟩:∃ j,k=j+1:=⟨k - 1,by omega⟩
             have hj:j<e.over.length:=by omega
             have f0:=hdr.dev j hj;have f1:=hdr.inc j hj;have f2:=hdr.seq j hj;have hpv:bF e.over (j+1)=some e.over[j]:=by simp [bF,hj]
             have hT1:Hid (overOk e.dot e.over=(df e.over[j] x && (!(decide (x.a=e.dot.a) && decide (e.dot.seq<=x.seq)) && di e.dot (bF e.over (j+1+1)) (e.over.drop (j+1+1))))):=by
              rw [Hid,HT.out,hpv];unfold kC;rw [h1];simp [Bool.and_assoc]
             have yJ:=fun (W:World)=>yx e.over[j] x W;generalize e.over[j]=y at *
             refine y24 ?_
             intro hdk hww
             clear HT h1 hpv hdr hd0
             cases h2:df y x with
             | false =>
               have HE:Hid (overOk e.dot e.over=false):=by rw [Hid,hT1.out,h2];rfl
               rw [h2] at yJ;have HLT:=aa yJ;clear yJ yK h2 hT1;refine aJ (by kernel_rfl) (by kernel_rfl) (fun W2 hW2=>?_);have a0:∀ i:After W2,i.w.cell? ⟨wr.heap.size,0,none⟩=some (.int .i64 x.a.dev):=fun i=>i.cell (by rw [hW2.out];exact x0);have a1:∀ i:After W2,i.w.cell? ⟨wr.heap.size,1,none⟩=some (.int .i64 x.a.inc):=fun i=>i.cell (by rw [hW2.out];exact x1);have a2:∀ i:After W2,i.w.cell? ⟨wr.heap.size,2,none⟩=some (.int .i64 x.seq):=fun i=>i.cell (by rw [hW2.out];exact x2);have b0:∀ i:After W2,i.w.cell? ⟨w.heap.size,0,none⟩=some (.int .i64 e.dot.a.dev):=fun i=>i.cell (by rw [hW2.out];exact hw0);have b1:∀ i:After W2,i.w.cell? ⟨w.heap.size,1,none⟩=some (.int .i64 e.dot.a.inc):=fun i=>i.cell (by rw [hW2.out];exact hw1);have b2:∀ i:After W2,i.w.cell? ⟨w.heap.size,2,none⟩=some (.int .i64 e.dot.seq):=fun i=>i.cell (by rw [hW2.out];exact hw2);have b18:∀ i:After W2,i.w.cell? ⟨w.heap.size,18,none⟩=some (.slice (some ⟨A,off,none⟩) e.over.length cap):=fun i=>i.cell (by rw [hW2.out];exact Ag);have g0:∀ i:After W2,i.w.cell? ⟨A,off+j * 3,none⟩=some (.int .i64 y.a.dev):=fun i=>i.cell (by rw [hW2.out];exact f0);have g1:∀ i:After W2,i.w.cell? ⟨A,off+j * 3+1,none⟩=some (.int .i64 y.a.inc):=fun i=>i.cell (by rw [hW2.out];exact f1);have g2:∀ i:After W2,i.w.cell? ⟨A,off+j * 3+2,none⟩=some (.int .i64 y.seq):=fun i=>i.cell (by rw [hW2.out];exact f2);go_big_quiet_step (fail)
               go_big_quiet_step (exact Calls.after (HR.out _))
               iterate 12 go_big_quiet_step (fail)
               go_big_quiet_step (exact Calls.after (HLT.out _))
               iterate 19 go_big_quiet_step (fail)
               refine wpQuiet_nil ?_;rintro _ ⟨i,rfl⟩;have hib:=i.h;clear a0 a1 a2 b0 b1 b2 b18;clear g0 g1 g2 hww;generalize i.w=wi at hib ⊢;rw [hW2.out] at hib;go_wp2;go_ret;exact ⟨aB (HEV.out HE.out).symm,hb0.trans ((nU hbw hB1 hib).mono (by omega))⟩
             | true =>
               have hT2:Hid (overOk e.dot e.over=(!(decide (x.a=e.dot.a) && decide (e.dot.seq<=x.seq)) && di e.dot (bF e.over (j+1+1)) (e.over.drop (j+1+1)))):=by
                        rw [Hid,hT1.out,h2];rfl
               rw [h2] at yJ;have HLT:=aa yJ;clear yJ h2 hT1;by_cases h4:x.a=e.dot.a
               ·rw [decide_eq_true h4] at yK
                by_cases h5:e.dot.seq<=x.seq
                ·have HE:Hid (overOk e.dot e.over=false):=by rw [Hid,hT2.out];simp [h4,h5]
                 clear h4 hT2
                 refine y1 ?_
                 intro W2 hW2 a0 a1 a2 b0 b1 b2 b18
                 refine y20 ?_
                 intro g0 g1 g2
                 refine y9 ?_
                 rintro _ ⟨i,rfl⟩;have hib:=i.h;clear a0 a1 a2 b0 b1 b2 b18;clear g0 g1 g2 hww
                 exact z91
                ·have HE:Hid (overOk e.dot e.over=di e.dot (bF e.over (j+1+1)) (e.over.drop (j+1+1))):=by rw [Hid,hT2.out];simp [h5]
                 exact z62
               ·rw [decide_eq_false h4] at yK
                have HE:Hid (overOk e.dot e.over=di e.dot (bF e.over (j+1+1)) (e.over.drop (j+1+1))):=by rw [Hid,hT2.out];simp [h4]
                exact z62
        ·have HEE:=aa (HEK.out (by rw [HP.out,List.drop_eq_nil_of_le (by omega)];rfl))
         have Ag:=kept hbw' c18;have hRw:=ah hR hbw';have hbt:=below2 hb0 hbw';have q6:wr.cell? ⟨w.heap.size,6,none⟩=some (.int .i64 e.kind):=by have:=hRw 6 _ rfl;exact this
         have q7:wr.cell? ⟨w.heap.size,7,none⟩=some (.string e.key.name):=by have:=hRw 7 _ rfl;exact this
         have q8:wr.cell? ⟨w.heap.size,8,none⟩=some (.string e.key.domain):=by have:=hRw 8 _ rfl;exact this
         have q9:wr.cell? ⟨w.heap.size,9,none⟩=some (.string e.key.path):=by have:=hRw 9 _ rfl;exact this
         have q10:wr.cell? ⟨w.heap.size,10,none⟩=some (.string e.ck.value):=by have:=hRw 10 _ rfl;exact this
         have q11:wr.cell? ⟨w.heap.size,11,none⟩=some (.bool e.ck.hostOnly):=by have:=hRw 11 _ rfl;exact this
         have q12:wr.cell? ⟨w.heap.size,12,none⟩=some (.bool e.ck.secure):=by have:=hRw 12 _ rfl;exact this
         have q13:wr.cell? ⟨w.heap.size,13,none⟩=some (.bool e.ck.httpOnly):=by have:=hRw 13 _ rfl;exact this
         have q14:wr.cell? ⟨w.heap.size,14,none⟩=some (.bool e.ck.persistent):=by have:=hRw 14 _ rfl;exact this
         have q15:wr.cell? ⟨w.heap.size,15,none⟩=some (.int .i64 e.ck.expiry):=by have:=hRw 15 _ rfl;exact this
         have q16:wr.cell? ⟨w.heap.size,16,none⟩=some (.int .i64 e.ck.creation):=by have:=hRw 16 _ rfl;exact this
         have q17:wr.cell? ⟨w.heap.size,17,none⟩=some (.int .i64 e.ck.access):=by have:=hRw 17 _ rfl;exact this
         have hkd:=HK.out;have hzr:w.heap.size<wr.heap.size:=by have:=hbw.size;omega
         have hzn:¬ w.heap.size=wr.heap.size:=by omega
         have YQ:¬ wr.heap.size=w.heap.size:=by omega
         have hm:=zo;have hk':e.over.length<=k:=by omega
         clear HP hRw hlt HO HEV HEK WT c0 c1 c2 c18;by_cases hk1:e.kind=1
         ·have e1:(e.kind == 1)=true:=beq_iff_eq.2 hk1
          have HE:Hid (dw e=gI e.key e.ck):=by rw [Hid,HEE.out,hkd,if_neg (by omega),if_pos hk1]
          clear hk1 hkd;go_wp2_with (go_at_call 159;refine (HC0.out _).mono ?_;rintro x w9 ⟨rfl,hb9⟩)
          go_ret;exact ⟨aB HE.out.symm,below2 (below2 hbt (by go_grown)) hb9⟩
         ·have e1:(e.kind == 1)=false:=beq_eq_false_iff_ne.2 hk1
          have hqq:=HQ.out;by_cases hk2:e.kind=2
          ·rw [if_pos hk2] at hkd
           have e2:(e.kind == 2)=true:=beq_iff_eq.2 hk2
           cases hz0:decide (e.key=ed) && decide (e.ck=ck0) with
           | false =>
             have HE:Hid (dw e=false):=by rw [Hid,HEE.out,hkd,hz0];rfl
             rw [hz0] at hqq;clear hk1 hk2 hkd hz0;go_wp2;go_ret;exact ⟨aB HE.out.symm,below2 hbt (by go_grown)⟩
           | true =>
             have HE:Hid (dw e=decide (0<e.over.length)):=by rw [Hid,HEE.out,hkd,hz0];rfl
             rw [hz0] at hqq;clear hk1 hk2 hkd hz0;go_wp2;go_ret;exact ⟨aB (by first | (rw [HE.out];done) | (rw [HE.out];rfl) | (rw [HE.out,Bool.eq_iff_iff];simp)),below2 hbt (by go_grown)⟩
          ·have HE:Hid (dw e=false):=by rw [Hid,HEE.out,hkd,if_neg hk2,if_neg hk1]
           have e2:(e.kind == 2)=false:=beq_eq_false_iff_ne.2 hk2;clear hk1 hk2 hkd;go_wp2;go_ret;exact ⟨aB HE.out.symm,below2 hbt (by go_grown)⟩
      ·have HE:Hid (dw e=false):=by rw [Hid,HV.out];unfold overOk;simp [h64]
       exact z38
     ·have h3':(e.stamp.dev != e.dot.a.dev)=true:=by rw [bne_iff_ne];exact h3
      have HE:Hid (dw e=false):=by rw [Hid,HV.out,decide_eq_false h3];simp
      exact z38
def mF (e:Ev):Bool:=decide (e.over.length<=100) && (decide (e.key.name.size<=2000) && (decide (e.key.domain.size<=2000) && (decide (e.key.path.size<=2000) && decide (e.ck.value.size<=2000))))
theorem IY {e:Ev} (h:mF e=true):EvSmall e:=by
 unfold mF at h;simp only [Bool.and_eq_true,decide_eq_true_eq] at h;obtain ⟨h1,h2,h3,h4,h5⟩:=h;exact ⟨by omega,by omega,by omega,by omega,by omega⟩
theorem z40 {p : Prop} (h : p := by
 go_enter func13, ntmps13
 go_wp2
 go_ret
 exact ⟨aB (by first | exact HE.out.symm | (rw [HE.out]; simp; omega)), by go_grown⟩) : p := h
theorem Ql (e:Ev) (a:Option Addr) (cap:Nat) (w:World) (hol:e.over.length<=maxLen) (h7:e.key.name.size<=maxLen) (h8:e.key.domain.size<=maxLen) (h9:e.key.path.size<=maxLen) (h10:e.ck.value.size<=maxLen) :
 Calls prog 13 #[jC e a cap] w fun x w'=>x=.returned (.bool (mF e))/\Below w.heap.size w w':=by
 unfold maxLen at hol h7 h8 h9 h10;have HL:Hid (mF e=(decide (e.over.length<=100) && (decide (e.key.name.size<=2000) && (decide (e.key.domain.size<=2000) && (decide (e.key.path.size<=2000) && decide (e.ck.value.size<=2000)))))):=rfl;by_cases t0:e.over.length<=100
 ·skip
  by_cases t1:e.key.name.size<=2000
  ·skip
   by_cases t2:e.key.domain.size<=2000
   ·skip
    by_cases t3:e.key.path.size<=2000
    ·skip
     by_cases t4:e.ck.value.size<=2000
     ·skip
      have HE:Hid (mF e=true):=by rw [Hid,HL.out];simp [t0,t1,t2,t3,t4]
      exact z40
     ·have d4:decide (e.ck.value.size<=2000)=false:=decide_eq_false t4
      have HE:Hid (mF e=false):=by rw [Hid,HL.out];simp [t0,t1,t2,t3,t4]
      exact z40
    ·have d3:decide (e.key.path.size<=2000)=false:=decide_eq_false t3
     have HE:Hid (mF e=false):=by rw [Hid,HL.out];simp [t0,t1,t2,t3]
     exact z40
   ·have d2:decide (e.key.domain.size<=2000)=false:=decide_eq_false t2
    have HE:Hid (mF e=false):=by rw [Hid,HL.out];simp [t0,t1,t2]
    exact z40
  ·have d1:decide (e.key.name.size<=2000)=false:=decide_eq_false t1
   have HE:Hid (mF e=false):=by rw [Hid,HL.out];simp [t0,t1]
   exact z40
 ·have d0:decide (e.over.length<=100)=false:=decide_eq_false t0
  have HE:Hid (mF e=false):=by rw [Hid,HL.out];simp [t0]
  exact z40
theorem z5 {p : Prop} (h : p := by
 have HD := aa HD0
 have HS := aa HS0
 have HO := aa HO0
 have HC := aa HC0
 clear HD0 HS0 HO0 HC0 hk0
 go_wp2_with (first
  | ((with_reducible refine bu _ w.heap.size e a cap hR ?_ rfl ?_); exact rfl)
  | (go_at_call 106; refine (HD.out _).mono ?_; rintro x w1 ⟨rfl, hb⟩; replace q0 := kept hb q0; replace q1 := kept hb q1; replace q2 := kept hb q2; replace q3 := kept hb q3; replace q4 := kept hb q4; replace q5 := kept hb q5; replace q6 := kept hb q6; replace q18 := kept hb q18; replace hR := ah hR hb; replace hbt := below2 hbt hb; replace ho := ho.kept hb)
  | (go_at_call 65; refine (HS.out _).mono ?_; rintro x w1 ⟨rfl, hb⟩; replace q0 := kept hb q0; replace q1 := kept hb q1; replace q2 := kept hb q2; replace q3 := kept hb q3; replace q4 := kept hb q4; replace q5 := kept hb q5; replace q6 := kept hb q6; replace q18 := kept hb q18; replace hR := ah hR hb; replace hbt := below2 hbt hb; replace ho := ho.kept hb)
  | (go_at_call 107; refine (HO.out _ ho).mono ?_; rintro x w1 ⟨rfl, hb⟩; replace q0 := kept hb q0; replace q1 := kept hb q1; replace q2 := kept hb q2; replace q3 := kept hb q3; replace q4 := kept hb q4; replace q5 := kept hb q5; replace q6 := kept hb q6; replace q18 := kept hb q18; replace hR := ah hR hb; replace hbt := below2 hbt hb)
  | (go_at_call 108; refine (HI.out _).mono ?_; rintro x w1 ⟨rfl, hb⟩; replace q0 := kept hb q0; replace q1 := kept hb q1; replace q2 := kept hb q2; replace q3 := kept hb q3; replace q4 := kept hb q4; replace q5 := kept hb q5; replace q6 := kept hb q6; replace q18 := kept hb q18; replace hR := ah hR hb; replace hbt := below2 hbt hb)
  | (go_at_call 109; refine (HC.out _).mono ?_; rintro x w1 ⟨rfl, hb⟩; replace q0 := kept hb q0; replace q1 := kept hb q1; replace q2 := kept hb q2; replace q3 := kept hb q3; replace q4 := kept hb q4; replace q5 := kept hb q5; replace q6 := kept hb q6; replace q18 := kept hb q18; replace hR := ah hR hb; replace hbt := below2 hbt hb))
 go_ret
 exact ⟨aB HE.out.symm, hbt⟩) : p := h
theorem gp (e:Ev) (a:Option Addr) (cap:Nat) (w:World) (hs:EvSmall e) (qo:DotsIn w a e.over) :
 Calls prog 55 #[jC e a cap] w fun x w'=>x=.returned (.bool (dw e))/\Below w.heap.size w w':=by
 have HV:Hid (dw e=(bi e.dot && (dM e.stamp && (decide (e.stamp.dev=e.dot.a.dev) && (overOk e.dot e.over && kindOk e))))):=rfl;have HD0:=fun (W:World)=>iM e.dot W;have HS0:=fun (W:World)=>lF e.stamp W;have HO0:=fun (W:World) (h:DotsIn W a e.over)=>QN e.dot (.int .i64 e.stamp.wall) (.int .i64 e.stamp.count) (.int .i64 e.stamp.dev) (.int .i64 e.kind) (.string e.key.name) (.string e.key.domain) (.string e.key.path) (.string e.ck.value) (.bool e.ck.hostOnly) (.bool e.ck.secure) (.bool e.ck.httpOnly) (.bool e.ck.persistent) (.int .i64 e.ck.expiry) (.int .i64 e.ck.creation) (.int .i64 e.ck.access) a cap e.over W h hs.over;have HI:=aa (fun (W:World)=>S9 e a cap W);have HC0:=fun (W:World)=>EC e.key e.ck e.ck.persistent rfl W hs.name hs.domain hs.path hs.value;have hq0:∀ W:World,(Op.equalIn 10000 178 (.agg #[.string e.key.name,.string e.key.domain,.string e.key.path,.string e.ck.value,.bool e.ck.hostOnly,.bool e.ck.secure,.bool e.ck.httpOnly,.bool e.ck.persistent,.int .i64 e.ck.expiry,.int .i64 e.ck.creation,.int .i64 e.ck.access]) (.agg #[.string ⟨#[]⟩,.string ⟨#[]⟩,.string ⟨#[]⟩,.string ⟨#[]⟩,.bool false,.bool false,.bool false,.bool false,.int .i64 0,.int .i64 0,.int .i64 0])).run prog W=.ok (decide (e.key=ed) && decide (e.ck=ck0)) W:=fun W=>Sj W 9997 e.key ed e.ck ck0;have hm:=zo;have hk0:kindOk e=if e.kind=2 then (decide (e.key=ed) && decide (e.ck=ck0)) && decide (0<e.over.length) else if e.kind=1 then gI e.key e.ck else false:=rfl
 go_enter func55,ntmps55;go_upto_region 1 with fail
 refine aU (fun W hW=>?_);have hbt:Below w.heap.size w W:=by rw [hW.out];go_grown
 have hz:w.heap.size<W.heap.size:=by rw [hW.out];simp
 have q0:W.cell? ⟨w.heap.size,0,none⟩=some (.int .i64 e.dot.a.dev):=by rw [hW.out];go_simp
 have q1:W.cell? ⟨w.heap.size,1,none⟩=some (.int .i64 e.dot.a.inc):=by rw [hW.out];go_simp
 have q2:W.cell? ⟨w.heap.size,2,none⟩=some (.int .i64 e.dot.seq):=by rw [hW.out];go_simp
 have q3:W.cell? ⟨w.heap.size,3,none⟩=some (.int .i64 e.stamp.wall):=by rw [hW.out];go_simp
 have q4:W.cell? ⟨w.heap.size,4,none⟩=some (.int .i64 e.stamp.count):=by rw [hW.out];go_simp
 have q5:W.cell? ⟨w.heap.size,5,none⟩=some (.int .i64 e.stamp.dev):=by rw [hW.out];go_simp
 have q6:W.cell? ⟨w.heap.size,6,none⟩=some (.int .i64 e.kind):=by rw [hW.out];go_simp
 have q18:W.cell? ⟨w.heap.size,18,none⟩=some (.slice a e.over.length cap):=by rw [hW.out];go_simp
 have hR:W.rangeAt w.heap.size 0 (ai e a cap):=by rw [hW.out];exact dB e a cap w _
 have ho:=qo.kept hbt;clear hW qo
 cases h1:bi e.dot with
 | false =>
   have HE:Hid (dw e=false):=by rw [Hid,HV.out,h1];rfl
   rw [h1] at HD0;have HD:=aa HD0;have HS:=aa HS0;have HO:=aa HO0;have HC:=aa HC0;clear HD0 HS0 HO0 HC0 hk0;go_wp2_with (first
    | ((with_reducible refine bu _ w.heap.size e a cap hR ?_ rfl ?_);exact rfl)
    | (go_at_call 106;refine (HD.out _).mono ?_;rintro x w1 ⟨rfl,hb⟩;replace q0:=kept hb q0;replace q1:=kept hb q1;replace q2:=kept hb q2;replace q3:=kept hb q3;replace q4:=kept hb q4;replace q5:=kept hb q5;replace q6:=kept hb q6;replace q18:=kept hb q18;replace hR:=ah hR hb;replace hbt:=below2 hbt hb;replace ho:=ho.kept hb)
    | (go_at_call 65;refine (HS.out _).mono ?_;rintro x w1 ⟨rfl,hb⟩;replace q0:=kept hb q0;replace q1:=kept hb q1;replace q2:=kept hb q2;replace q3:=kept hb q3;replace q4:=kept hb q4;replace q5:=kept hb q5;replace q6:=kept hb q6;replace q18:=kept hb q18;replace hR:=ah hR hb;replace hbt:=below2 hbt hb;replace ho:=ho.kept hb)
    | (go_at_call 107;refine (HO.out _ ho).mono ?_;rintro x w1 ⟨rfl,hb⟩;replace q0:=kept hb q0;replace q1:=kept hb q1;replace q2:=kept hb q2;replace q3:=kept hb q3;replace q4:=kept hb q4;replace q5:=kept hb q5;replace q6:=kept hb q6;replace q18:=kept hb q18;replace hR:=ah hR hb;replace hbt:=below2 hbt hb)
    | (go_at_call 108;refine (HI.out _).mono ?_;rintro x w1 ⟨rfl,hb⟩;replace q0:=kept hb q0;replace q1:=kept hb q1;replace q2:=kept hb q2;replace q3:=kept hb q3;replace q4:=kept hb q4;replace q5:=kept hb q5;replace q6:=kept hb q6;replace q18:=kept hb q18;replace hR:=ah hR hb;replace hbt:=below2 hbt hb)
    | (go_at_call 109;refine (HC.out _).mono ?_;rintro x w1 ⟨rfl,hb⟩;replace q0:=kept hb q0;replace q1:=kept hb q1;replace q2:=kept hb q2;replace q3:=kept hb q3;replace q4:=kept hb q4;replace q5:=kept hb q5;replace q6:=kept hb q6;replace q18:=kept hb q18;replace hR:=ah hR hb;replace hbt:=below2 hbt hb))
   go_ret;exact ⟨aB HE.out.symm,hbt⟩
 | true =>
   rw [h1] at HD0
   cases h2:dM e.stamp with
   | false =>
     have HE:Hid (dw e=false):=by rw [Hid,HV.out,h1,h2];rfl
     rw [h2] at HS0;have HD:=aa HD0;have HS:=aa HS0;have HO:=aa HO0;have HC:=aa HC0;clear HD0 HS0 HO0 HC0 hk0;go_wp2_with (first
        | ((with_reducible refine bu _ w.heap.size e a cap hR ?_ rfl ?_);exact rfl)
        | (go_at_call 106;refine (HD.out _).mono ?_;rintro x w1 ⟨rfl,hb⟩;replace q0:=kept hb q0;replace q1:=kept hb q1;replace q2:=kept hb q2;replace q3:=kept hb q3;replace q4:=kept hb q4;replace q5:=kept hb q5;replace q6:=kept hb q6;replace q18:=kept hb q18;replace hR:=ah hR hb;replace hbt:=below2 hbt hb;replace ho:=ho.kept hb)
        | (go_at_call 65;refine (HS.out _).mono ?_;rintro x w1 ⟨rfl,hb⟩;replace q0:=kept hb q0;replace q1:=kept hb q1;replace q2:=kept hb q2;replace q3:=kept hb q3;replace q4:=kept hb q4;replace q5:=kept hb q5;replace q6:=kept hb q6;replace q18:=kept hb q18;replace hR:=ah hR hb;replace hbt:=below2 hbt hb;replace ho:=ho.kept hb)
        | (go_at_call 107;refine (HO.out _ ho).mono ?_;rintro x w1 ⟨rfl,hb⟩;replace q0:=kept hb q0;replace q1:=kept hb q1;replace q2:=kept hb q2;replace q3:=kept hb q3;replace q4:=kept hb q4;replace q5:=kept hb q5;replace q6:=kept hb q6;replace q18:=kept hb q18;replace hR:=ah hR hb;replace hbt:=below2 hbt hb)
        | (go_at_call 108;refine (HI.out _).mono ?_;rintro x w1 ⟨rfl,hb⟩;replace q0:=kept hb q0;replace q1:=kept hb q1;replace q2:=kept hb q2;replace q3:=kept hb q3;replace q4:=kept hb q4;replace q5:=kept hb q5;replace q6:=kept hb q6;replace q18:=kept hb q18;replace hR:=ah hR hb;replace hbt:=below2 hbt hb)
        | (go_at_call 109;refine (HC.out _).mono ?_;rintro x w1 ⟨rfl,hb⟩;replace q0:=kept hb q0;replace q1:=kept hb q1;replace q2:=kept hb q2;replace q3:=kept hb q3;replace q4:=kept hb q4;replace q5:=kept hb q5;replace q6:=kept hb q6;replace q18:=kept hb q18;replace hR:=ah hR hb;replace hbt:=below2 hbt hb))
     go_ret;exact ⟨aB HE.out.symm,hbt⟩
   | true =>
     rw [h2] at HS0;by_cases h3:e.stamp.dev=e.dot.a.dev
     ·have h3':(e.stamp.dev != e.dot.a.dev)=false:=by rw [bne_eq_false_iff_eq];exact h3
      cases h4:overOk e.dot e.over with
      | false =>
        have HE:Hid (dw e=false):=by rw [Hid,HV.out,h1,h2,h4,decide_eq_true h3];rfl
        rw [h4] at HO0;clear h3;have HD:=aa HD0;have HS:=aa HS0;have HO:=aa HO0;have HC:=aa HC0;clear HD0 HS0 HO0 HC0 hk0;go_wp2_with (first
         | ((with_reducible refine bu _ w.heap.size e a cap hR ?_ rfl ?_);exact rfl)
         | (go_at_call 106;refine (HD.out _).mono ?_;rintro x w1 ⟨rfl,hb⟩;replace q0:=kept hb q0;replace q1:=kept hb q1;replace q2:=kept hb q2;replace q3:=kept hb q3;replace q4:=kept hb q4;replace q5:=kept hb q5;replace q6:=kept hb q6;replace q18:=kept hb q18;replace hR:=ah hR hb;replace hbt:=below2 hbt hb;replace ho:=ho.kept hb)
         | (go_at_call 65;refine (HS.out _).mono ?_;rintro x w1 ⟨rfl,hb⟩;replace q0:=kept hb q0;replace q1:=kept hb q1;replace q2:=kept hb q2;replace q3:=kept hb q3;replace q4:=kept hb q4;replace q5:=kept hb q5;replace q6:=kept hb q6;replace q18:=kept hb q18;replace hR:=ah hR hb;replace hbt:=below2 hbt hb;replace ho:=ho.kept hb)
         | (go_at_call 107;refine (HO.out _ ho).mono ?_;rintro x w1 ⟨rfl,hb⟩;replace q0:=kept hb q0;replace q1:=kept hb q1;replace q2:=kept hb q2;replace q3:=kept hb q3;replace q4:=kept hb q4;replace q5:=kept hb q5;replace q6:=kept hb q6;replace q18:=kept hb q18;replace hR:=ah hR hb;replace hbt:=below2 hbt hb)
         | (go_at_call 108;refine (HI.out _).mono ?_;rintro x w1 ⟨rfl,hb⟩;replace q0:=kept hb q0;replace q1:=kept hb q1;replace q2:=kept hb q2;replace q3:=kept hb q3;replace q4:=kept hb q4;replace q5:=kept hb q5;replace q6:=kept hb q6;replace q18:=kept hb q18;replace hR:=ah hR hb;replace hbt:=below2 hbt hb)
         | (go_at_call 109;refine (HC.out _).mono ?_;rintro x w1 ⟨rfl,hb⟩;replace q0:=kept hb q0;replace q1:=kept hb q1;replace q2:=kept hb q2;replace q3:=kept hb q3;replace q4:=kept hb q4;replace q5:=kept hb q5;replace q6:=kept hb q6;replace q18:=kept hb q18;replace hR:=ah hR hb;replace hbt:=below2 hbt hb))
        go_ret;exact ⟨aB HE.out.symm,hbt⟩
      | true =>
        have HK:Hid (dw e=kindOk e):=by rw [Hid,HV.out,h1,h2,h4,decide_eq_true h3];rfl
        rw [h4] at HO0;clear h3;by_cases hk2:e.kind=2
        ·rw [if_pos hk2] at hk0
         have e2:(e.kind == 2)=true:=beq_iff_eq.2 hk2;clear hk2
         cases hz0:decide (e.key=ed) && decide (e.ck=ck0) with
         | false =>
           have HE:Hid (dw e=false):=by rw [Hid,HK.out,hk0,hz0];rfl
           rw [hz0] at hq0;clear hz0;have HD:=aa HD0;have HS:=aa HS0;have HO:=aa HO0;have HC:=aa HC0;clear HD0 HS0 HO0 HC0 hk0;go_wp2_with (first
             | ((with_reducible refine bu _ w.heap.size e a cap hR ?_ rfl ?_);exact rfl)
             | (go_at_call 106;refine (HD.out _).mono ?_;rintro x w1 ⟨rfl,hb⟩;replace q0:=kept hb q0;replace q1:=kept hb q1;replace q2:=kept hb q2;replace q3:=kept hb q3;replace q4:=kept hb q4;replace q5:=kept hb q5;replace q6:=kept hb q6;replace q18:=kept hb q18;replace hR:=ah hR hb;replace hbt:=below2 hbt hb;replace ho:=ho.kept hb)
             | (go_at_call 65;refine (HS.out _).mono ?_;rintro x w1 ⟨rfl,hb⟩;replace q0:=kept hb q0;replace q1:=kept hb q1;replace q2:=kept hb q2;replace q3:=kept hb q3;replace q4:=kept hb q4;replace q5:=kept hb q5;replace q6:=kept hb q6;replace q18:=kept hb q18;replace hR:=ah hR hb;replace hbt:=below2 hbt hb;replace ho:=ho.kept hb)
             | (go_at_call 107;refine (HO.out _ ho).mono ?_;rintro x w1 ⟨rfl,hb⟩;replace q0:=kept hb q0;replace q1:=kept hb q1;replace q2:=kept hb q2;replace q3:=kept hb q3;replace q4:=kept hb q4;replace q5:=kept hb q5;replace q6:=kept hb q6;replace q18:=kept hb q18;replace hR:=ah hR hb;replace hbt:=below2 hbt hb)
             | (go_at_call 108;refine (HI.out _).mono ?_;rintro x w1 ⟨rfl,hb⟩;replace q0:=kept hb q0;replace q1:=kept hb q1;replace q2:=kept hb q2;replace q3:=kept hb q3;replace q4:=kept hb q4;replace q5:=kept hb q5;replace q6:=kept hb q6;replace q18:=kept hb q18;replace hR:=ah hR hb;replace hbt:=below2 hbt hb)
             | (go_at_call 109;refine (HC.out _).mono ?_;rintro x w1 ⟨rfl,hb⟩;replace q0:=kept hb q0;replace q1:=kept hb q1;replace q2:=kept hb q2;replace q3:=kept hb q3;replace q4:=kept hb q4;replace q5:=kept hb q5;replace q6:=kept hb q6;replace q18:=kept hb q18;replace hR:=ah hR hb;replace hbt:=below2 hbt hb))
           go_ret;exact ⟨aB HE.out.symm,hbt⟩
         | true =>
           have HE:Hid (dw e=decide (0<e.over.length)):=by rw [Hid,HK.out,hk0,hz0];rfl
           rw [hz0] at hq0;clear hz0;have HD:=aa HD0;have HS:=aa HS0;have HO:=aa HO0;have HC:=aa HC0;clear HD0 HS0 HO0 HC0 hk0;go_wp2_with (first
             | ((with_reducible refine bu _ w.heap.size e a cap hR ?_ rfl ?_);exact rfl)
             | (go_at_call 106;refine (HD.out _).mono ?_;rintro x w1 ⟨rfl,hb⟩;replace q0:=kept hb q0;replace q1:=kept hb q1;replace q2:=kept hb q2;replace q3:=kept hb q3;replace q4:=kept hb q4;replace q5:=kept hb q5;replace q6:=kept hb q6;replace q18:=kept hb q18;replace hR:=ah hR hb;replace hbt:=below2 hbt hb;replace ho:=ho.kept hb)
             | (go_at_call 65;refine (HS.out _).mono ?_;rintro x w1 ⟨rfl,hb⟩;replace q0:=kept hb q0;replace q1:=kept hb q1;replace q2:=kept hb q2;replace q3:=kept hb q3;replace q4:=kept hb q4;replace q5:=kept hb q5;replace q6:=kept hb q6;replace q18:=kept hb q18;replace hR:=ah hR hb;replace hbt:=below2 hbt hb;replace ho:=ho.kept hb)
             | (go_at_call 107;refine (HO.out _ ho).mono ?_;rintro x w1 ⟨rfl,hb⟩;replace q0:=kept hb q0;replace q1:=kept hb q1;replace q2:=kept hb q2;replace q3:=kept hb q3;replace q4:=kept hb q4;replace q5:=kept hb q5;replace q6:=kept hb q6;replace q18:=kept hb q18;replace hR:=ah hR hb;replace hbt:=below2 hbt hb)
             | (go_at_call 108;refine (HI.out _).mono ?_;rintro x w1 ⟨rfl,hb⟩;replace q0:=kept hb q0;replace q1:=kept hb q1;replace q2:=kept hb q2;replace q3:=kept hb q3;replace q4:=kept hb q4;replace q5:=kept hb q5;replace q6:=kept hb q6;replace q18:=kept hb q18;replace hR:=ah hR hb;replace hbt:=below2 hbt hb)
             | (go_at_call 109;refine (HC.out _).mono ?_;rintro x w1 ⟨rfl,hb⟩;replace q0:=kept hb q0;replace q1:=kept hb q1;replace q2:=kept hb q2;replace q3:=kept hb q3;replace q4:=kept hb q4;replace q5:=kept hb q5;replace q6:=kept hb q6;replace q18:=kept hb q18;replace hR:=ah hR hb;replace hbt:=below2 hbt hb))
           go_ret;exact ⟨aB (by first | (rw [HE.out];done) | (rw [HE.out];rfl) | (rw [HE.out,Bool.eq_iff_iff];simp)),hbt⟩
        ·have e2:(e.kind == 2)=false:=beq_eq_false_iff_ne.2 hk2
         rw [if_neg hk2] at hk0;clear hk2;by_cases hk1:e.kind=1
         ·rw [if_pos hk1] at hk0
          have e1:(e.kind == 1)=true:=beq_iff_eq.2 hk1;clear hk1;have HE:Hid (dw e=gI e.key e.ck):=by rw [Hid,HK.out,hk0]
          exact z5
         ·rw [if_neg hk1] at hk0
          have e1:(e.kind == 1)=false:=beq_eq_false_iff_ne.2 hk1;clear hk1;have HE:Hid (dw e=false):=by rw [Hid,HK.out,hk0]
          exact z5
     ·have h3':(e.stamp.dev != e.dot.a.dev)=true:=by rw [bne_iff_ne];exact h3
      have HE:Hid (dw e=false):=by rw [Hid,HV.out,h1,h2,decide_eq_false h3];rfl
      clear h3
      exact z5
end Go.Proofs.YtffobmpeeopadaaGreat
