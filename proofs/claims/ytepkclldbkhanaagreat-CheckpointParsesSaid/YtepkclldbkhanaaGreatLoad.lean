/- A whole struct loaded out of a block, at once; which cells an event has. Conditions: none. -/
import Derived.Test.YtepkclldbkhanaaGreatEvent
import Derived.Deep.MidRow
import Derived.Test.YtepkclldbkhanaaGreatEq
import Derived.Maps.AppendAt
import Derived.Deep.AppendLies
import Derived.Test.YtepkclldbkhanaaGreatDot
import Derived.WalkSmall
set_option linter.unusedSimpArgs false
set_option linter.unusedVariables false
set_option linter.unnecessarySimpa false
set_option maxHeartbeats 16000000
set_option maxRecDepth 100000
open Go.Proofs.Tryz
namespace Go.Proofs.YtepkclldbkhanaaGreat
open Go.RowKit
theorem iM {P:Program} {ops:Array Oper} {rest:List Oper} {a:Act} {w:World} {Q:Exit→Act→World→Prop} {dst:Option Tmp} {type:TypeId} {pos:String} {after:Array Edge} {guard:Option (Nat×Bool)} (ty:TypeId) (x:Operand)
 (b o:Nat) (cs:List Value) (d:TypeDesc) (hu:P.underlying ty=some d) (hd:d.isRow=true) (hi:(P.info? ty).map (·.size)=some cs.length)
 (hc:w.rangeAt b o cs)
 (hw:Region.wanted ⟨dst,.load ty x,type,pos,after,guard⟩ (yielded ops a.tmps)=true)
 (hx:a.eval x=.pointer (some ⟨b,o,none⟩))
 (h:wpList P ops Q rest (a.put dst (.agg cs.toArray)) w):wpList P ops Q (⟨dst,.load ty x,type,pos,after,guard⟩ :: rest) a w :=
 BigFrame.wpList_want hw fun _ hK=>wp_load_mid ty x rfl b o hx cs d hc hu hd hi (hK _ _ h)
theorem aj {w w':World} {b o:Nat} {cs:List Value} (h:w.rangeAt b o cs) (hb:Below w.heap.size w w'):w'.rangeAt b o cs:=fun j v hv=>kept hb (h j v hv)
def ag (e:Ev) (a:Option Addr) (cap:Nat):List Value :=
 [.int .i64 e.dot.a.dev,.int .i64 e.dot.a.inc,.int .i64 e.dot.seq,.int .i64 e.stamp.wall,.int .i64 e.stamp.count,.int .i64 e.stamp.dev,.int .i64 e.kind,.string e.key.name,.string e.key.domain,.string e.key.path,.string e.ck.value,.bool e.ck.hostOnly,.bool e.ck.secure,.bool e.ck.httpOnly,.bool e.ck.persistent,.int .i64 e.ck.expiry,.int .i64 e.ck.creation,.int .i64 e.ck.access,.slice a e.over.length cap]
theorem eP (e:Ev) (a:Option Addr) (cap:Nat) (w:World) (t:TypeId):(w.alloc (Obj.cells #[.int .i64 e.dot.a.dev,.int .i64 e.dot.a.inc,.int .i64 e.dot.seq,.int .i64 e.stamp.wall,.int .i64 e.stamp.count,.int .i64 e.stamp.dev,.int .i64 e.kind,.string e.key.name,.string e.key.domain,.string e.key.path,.string e.ck.value,.bool e.ck.hostOnly,.bool e.ck.secure,.bool e.ck.httpOnly,.bool e.ck.persistent,.int .i64 e.ck.expiry,.int .i64 e.ck.creation,.int .i64 e.ck.access,.slice a e.over.length cap] t)).rangeAt w.heap.size 0 (ag e a cap):=by
 intro j v hv;rw [Nat.zero_add,World.cell?_alloc_new];exact (by simpa [ag] using hv)
/-- the load of an event that lies in block b -/
theorem bu {ops:Array Oper} {rest:List Oper} {a:Act} {w:World} {Q:Exit→Act→World→Prop} {dst:Option Tmp} {type:TypeId} {pos:String} {after:Array Edge} {guard:Option (Nat×Bool)} (x:Operand)
 (b:Nat) (e:Ev) (ad:Option Addr) (cap:Nat) (hc:w.rangeAt b 0 (ag e ad cap))
 (hw:Region.wanted ⟨dst,.load 127 x,type,pos,after,guard⟩ (yielded ops a.tmps)=true)
 (hx:a.eval x=.pointer (some ⟨b,0,none⟩))
 (h:wpList prog ops Q rest (a.put dst (jY e ad cap)) w):wpList prog ops Q (⟨dst,.load 127 x,type,pos,after,guard⟩ :: rest) a w :=
 iM 127 x b 0 (ag e ad cap) _ underlying127 rfl (by kernel_rfl) hc hw hx h
theorem yS {P:Program} {ops:Array Oper} {rest:List Oper} {a:Act} {C:World→Prop} {Q:Act→Prop} {dst:Option Tmp} {type:TypeId} {pos:String} {after:Array Edge} {guard:Option (Nat×Bool)} (ty:TypeId) (x:Operand)
 (b o:Nat) (cs:List Value) (d:TypeDesc) (hu:P.underlying ty=some d) (hd:d.isRow=true) (hi:(P.info? ty).map (·.size)=some cs.length)
 (hc:∀ w,C w→w.rangeAt b o cs)
 (hw:Region.wanted ⟨dst,.load ty x,type,pos,after,guard⟩ (yielded ops a.tmps)=true)
 (hx:a.eval x=.pointer (some ⟨b,o,none⟩))
 (h:wpQuiet P ops C Q rest (a.put dst (.agg cs.toArray))):wpQuiet P ops C Q (⟨dst,.load ty x,type,pos,after,guard⟩ :: rest) a :=
 BigFrame.wpQuiet_want hw fun K hK=>⟨.agg cs.toArray,fun w hw'=>by
  unfold Oper.quietAt execOp;simp only [hx,Instr.loadAt,Instr.sureAddr,Sem.run_bind,Sem.run_pure,Result.andThen_ok,run_loadVar_mid w b o ty cs d (hc w hw') hu hd hi];exact ⟨rfl,rfl⟩,hK _ h⟩
theorem ah {P:Program} {ops:Array Oper} {rest:List Oper} {a:Act} {w:World} {Q:Exit→Act→World→Prop} {dst:Option Tmp} {type:TypeId} {pos:String} {after:Array Edge} {guard:Option (Nat×Bool)} (ty:TypeId) (x:Operand)
 (b o:Nat) (cs:List Value) (v:Value) (hv:Value.agg cs.toArray=v) (d:TypeDesc) (hu:P.underlying ty=some d) (hd:d.isRow=true) (hi:(P.info? ty).map (·.size)=some cs.length)
 (hc:w.rangeAt b o cs)
 (hw:Region.wanted ⟨dst,.load ty x,type,pos,after,guard⟩ (yielded ops a.tmps)=true)
 (hx:a.eval x=.pointer (some ⟨b,o,none⟩))
 (h:wpList P ops Q rest (a.put dst v) w):wpList P ops Q (⟨dst,.load ty x,type,pos,after,guard⟩ :: rest) a w :=
 iM ty x b o cs d hu hd hi hc hw hx (by rw [hv];exact h)
/-- an event out of block b, place o -/
theorem bC {ops:Array Oper} {rest:List Oper} {a:Act} {w:World} {Q:Exit→Act→World→Prop} {dst:Option Tmp} {type:TypeId} {pos:String} {after:Array Edge} {guard:Option (Nat×Bool)} (x:Operand)
 (b o:Nat) (e:Ev) (ad:Option Addr) (cap:Nat) (hc:w.rangeAt b o (ag e ad cap))
 (hw:Region.wanted ⟨dst,.load 127 x,type,pos,after,guard⟩ (yielded ops a.tmps)=true)
 (hx:a.eval x=.pointer (some ⟨b,o,none⟩))
 (h:wpList prog ops Q rest (a.put dst (jY e ad cap)) w):wpList prog ops Q (⟨dst,.load 127 x,type,pos,after,guard⟩ :: rest) a w :=
 iM 127 x b o (ag e ad cap) _ underlying127 rfl (by kernel_rfl) hc hw hx h
theorem jA {ops:Array Oper} {rest:List Oper} {a:Act} {W:World} {Q:Act→Prop} {dst:Option Tmp} {type:TypeId} {pos:String} {after:Array Edge} {guard:Option (Nat×Bool)} (x:Operand)
 (b o:Nat) (e:Ev) (ad:Option Addr) (cap:Nat) (hc:W.rangeAt b o (ag e ad cap))
 (hw:Region.wanted ⟨dst,.load 127 x,type,pos,after,guard⟩ (yielded ops a.tmps)=true)
 (hx:a.eval x=.pointer (some ⟨b,o,none⟩))
 (h:wpQuiet prog ops (fun w'=>∃ i:After W,w'=i.w) Q rest (a.put dst (jY e ad cap))):wpQuiet prog ops (fun w'=>∃ i:After W,w'=i.w) Q (⟨dst,.load 127 x,type,pos,after,guard⟩ :: rest) a :=
 yS 127 x b o (ag e ad cap) _ underlying127 rfl (by kernel_rfl) (fun _ hw'=>by obtain ⟨i,rfl⟩:=hw';exact aj hc i.h) hw hx h
/-- append of bytes to a row of bytes of one's own, whatever the source is -/
theorem xg (w:World) (base:Nat) (v:Value) (d:Bytes) (hown:w.ownsRow base 5 1 v d.length (aX d)) (A:Option Addr) (m:Bytes) (c:Nat) (hin:BytesIn w A m)
 (hb:d.length+m.length≤1073741824) (hbase:base≤w.heap.size) :
 ∃ v' w',(Builtin.append_ #[22,22] 22 #[v,.slice A m.length c]).run prog w=.ok v' w'∧w'.ownsRow base 5 1 v' (d++m).length (aX (d++m))∧w.grownBy w' v.ownBlock:=by
 obtain ⟨i0,hi,hz0,hz1,hz2⟩:=info_parts Tryz.infoByte;have key:∀ (ad:Addr),A=some ad→(∀ j u,(aX m)[j]?=some u→w.cell? (ad.add j)=some u)→∃ v' w',(Builtin.append_ #[22,22] 22 #[v,.slice A m.length c]).run prog w=.ok v' w'∧w'.ownsRow base 5 1 v' (d++m).length (aX (d++m))∧w.grownBy w' v.ownBlock:=fun ad hA hn=>by
  obtain ⟨v',w',hrun,h2,h3,_,_⟩:=run_append_own_at (P:=prog) w base 22 22 5 i0 (.int .u8 0) 1 1 underlying22 hi hz0 hz1 hz2 rfl (by decide) v d.length (aX d) hown ad m.length c (aX m) (by simp [dO]) hn (qO m) (by unfold maxLen;omega) (by omega) hbase;exact ⟨v',w',by rw [hA];exact hrun,by rw [eQ,List.length_append];exact h2,h3⟩
 rcases hin with h0 | ⟨B,off,rfl,hb2⟩
 ·subst h0
  rcases A with _ | ad
  ·refine ⟨v,w,?_,by simpa using hown,World.grownBy.refl w _⟩
   rcases hown.2 with ⟨rfl,h0⟩ | ⟨g,cap,cur,rfl,_,_,hnc,_⟩
   ·simp [Builtin.append_,run_underlying underlying22,sizeOf,typeInfo,hi,Builtin.lenOf,Builtin.firstCells]
   ·simp [Builtin.append_,run_underlying underlying22,sizeOf,typeInfo,hi,Builtin.lenOf,Builtin.firstCells,hnc,storeCells]
  ·exact key ad rfl (fun j u hu=>by simp [aX] at hu)
 ·exact key _ rfl hb2.news
theorem yR {o:Oper} {a:Act} {w:World} {K:Act→World→Prop} {Q:Exit→Act→World→Prop} (s x:Operand)
 (ho:o.op=.call { callee:=.builtin .append,args:=#[s,x],argTypes:=#[22,22] }) (hty:o.type=22)
 (base:Nat) (v:Value) (d:Bytes) (hs:a.eval s=v) (hown:w.ownsRow base 5 1 v d.length (aX d)) (A:Option Addr) (m:Bytes) (c:Nat) (hx:a.eval x=.slice A m.length c) (hin:BytesIn w A m)
 (hb:d.length+m.length≤1073741824) (hbase:base≤w.heap.size)
 (h:∀ v' w',w'.ownsRow base 5 1 v' (d++m).length (aX (d++m))→w.grownBy w' v.ownBlock→K (a.put o.dst v') w'):o.wp prog a w K Q:=by
 obtain ⟨v',w',hrun,h2,h3⟩:=xg w base v d hown A m c hin hb hbase;unfold Oper.wp execOp;simp only [ho,hty,resolve,invoke,builtin,Sem.run_bind,Sem.run_pure,Result.andThen_ok,List.map_toArray,List.map_cons,List.map_nil,hs,hx,hrun];exact h v' w' h2 h3
theorem tK {ops:Array Oper} {rest:List Oper} {o:Oper} {a:Act} {w:World} {Q:Exit→Act→World→Prop} (hgd:o.guard=none) (s x:Operand)
 (ho:o.op=.call { callee:=.builtin .append,args:=#[s,x],argTypes:=#[22,22] }) (hty:o.type=22)
 (base:Nat) (v:Value) (d:Bytes) (hs:a.eval s=v) (hown:w.ownsRow base 5 1 v d.length (aX d)) (A:Option Addr) (m:Bytes) (c:Nat) (hx:a.eval x=.slice A m.length c) (hin:BytesIn w A m)
 (hb:d.length+m.length≤1073741824) (hbase:base≤w.heap.size)
 (h:∀ v' w',w'.ownsRow base 5 1 v' (d++m).length (aX (d++m))→w.grownBy w' v.ownBlock→wpList prog ops Q rest (a.put o.dst v') w'):wpList prog ops Q (o :: rest) a w :=
 wpList_plain hgd fun _ hK=>yR s x ho hty base v d hs hown A m c hx hin hb hbase fun v' w' h2 h3=>hK _ _ (h v' w' h2 h3)
theorem EG {α:Type} {l m:List α} {k:Nat} (h1:k<l.length) (h2:k<m.length) (h:l[k]≠m[k]):l≠m:=fun e=>h (by subst e;rfl)
theorem Dx {α:Type} {l m:List α} {k:Nat} (h1:k<l.length) (h2:k<m.length) (hp:l.take k=m.take k) (h:l[k]=m[k]):l.take (k+1)=m.take (k+1):=by
 rw [List.take_succ_eq_append_getElem h1,List.take_succ_eq_append_getElem h2,hp,h]
theorem Gj {α:Type} {l m:List α} {k:Nat} (h1:¬ k<l.length) (h2:¬ k<m.length) (hp:l.take k=m.take k):l=m:=by
 rwa [List.take_of_length_le (by omega),List.take_of_length_le (by omega)] at hp
theorem Fv {α:Type} {l m:List α} (h:¬ l.length=m.length):¬ l=m:=fun e=>h (by rw [e])
theorem z48 {p : Prop} (h : p := by
 have hlm : ¬ k < m.length := by omega
 have HE : Hid (decide (l = m) = true) := decide_eq_true (Gj hlt hlm HP.out)
 go_wp2
 go_ret
 exact ⟨aJ HE.out.symm, hbw⟩) : p := h
theorem z153 {p : Prop} (h : p := by exact ⟨0, Nat.zero_le _, rfl, rfl, by go_grown⟩) : p := h
theorem z138 {p : Prop} (h : p := by rw [h] at hlt; simp at hlt) : p := h
theorem z121 {p : Prop} (h : p := by
 have HS := Lib.hid (Dx hlt hlm HP.out he)
 clear he
 generalize l[k] = x at *
 generalize m[k] = y at *
 go_wp2
 go_quiet (fail)
 go_wp2
 go_roundw
 case rel => exact ⟨k + 1, by omega, by go_num, HS.out, below_drewN hbw nq⟩
 case measure => exact z65) : p := h
theorem y26 {p q : Prop} (k : q) (h : PLift q → p := by
 intro kk
 have hb1 : ((l.length : Nat) != (m.length : Nat)) = true := by rw [bne_iff_ne]; exact hlen
 have hb2 : ((l.length : Int) != (m.length : Int)) = true := by rw [bne_iff_ne]; omega
 revert hb1 hb2
 exact kk.down) : p := h ⟨k⟩
theorem y19 {p q : Prop} (k : q) (h : PLift q → p := by
 intro kk
 have hb1 : ((l.length : Nat) != (m.length : Nat)) = false := by rw [bne_eq_false_iff_eq]; exact hlen
 have hb2 : ((l.length : Int) != (m.length : Int)) = false := by rw [bne_eq_false_iff_eq]; omega
 have hl1 : l.length ≤ m.length := by omega
 have hl2 : m.length ≤ l.length := by omega
 revert hb1 hb2 hl1 hl2
 exact kk.down) : p := h ⟨k⟩
theorem zY (a b:Option Addr) (ca cb:Nat) (l m:Bytes) (w:World) (hl:l.length≤1073741824) (hm:m.length≤1073741824) (ha:BytesIn w a l) (hb:BytesIn w b m) :
 Calls prog 9 #[.slice a l.length ca,.slice b m.length cb] w fun x w'=>x=.returned (.bool (decide (l=m)))∧Below w.heap.size w w':=by
 by_cases hlen:l.length=m.length
 ·refine y19 ?_
  intro hb1 hb2 hl1 hl2
  clear hlen
  go_enter func9,ntmps9;go_wp2;go_loopw [5] (fun i wr=>∃ k:Nat,k≤l.length∧i=.int .i64 k∧l.take k=m.take k∧Below w.heap.size w wr) (fun i _=>l.length - (intOf i).toNat)
  case atStart => exact z153
  case round =>
        obtain ⟨k,hk,rfl,hpre,hbw⟩:=hrel;have HP:=Lib.hid hpre;clear hpre;by_cases hlt:k<l.length
        ·have hlm:k<m.length:=by omega
         rcases ha with h | ⟨A,off,rfl,hda⟩
         ·exact z138
         rcases hb with h | ⟨B,ofb,rfl,hdb⟩
         ·rw [h] at hlm;simp at hlm
         have x0:=(hda.below hbw).cell hlt;have y0:=(hdb.below hbw).cell hlm;by_cases he:l[k]=m[k]
         ·have hq:((l[k].toNat:Int) != (m[k].toNat:Int))=false:=by rw [bne_eq_false_iff_eq,he]
          exact z121
         ·have HE:Hid (decide (l=m)=false):=decide_eq_false (EG hlt hlm he)
          have hq:((l[k].toNat:Int) != (m[k].toNat:Int))=true:=by rw [bne_iff_ne];exact fun e=>he (UInt8.toNat_inj.1 (by omega))
          clear he;generalize l[k]=x at *;generalize m[k]=y at *;go_wp2;go_quiet (fail)
          go_wp2;go_ret;exact ⟨aJ HE.out.symm,below_drewN hbw nq⟩
        ·exact z48
 ·have HE:Hid (decide (l=m)=false):=decide_eq_false (Fv hlen)
  refine y26 ?_
  intro hb1 hb2
  clear hlen
  go_enter func9,ntmps9
  exact z43
theorem z26 {p : Prop} (h : p := by
 by_cases he : l[k] = m[k]
 ·rw [decide_eq_true he] at hEq
  exact z121
 ·have HE : Hid (decide (l = m) = false) := decide_eq_false (EG hlt hlm he)
  rw [decide_eq_false he] at hEq
  clear he
  generalize l[k] = x at *
  generalize m[k] = y at *
  go_wp2
  go_quiet (fail)
  go_wp2
  go_ret
  exact ⟨aJ HE.out.symm, below_drewN hbw nq⟩) : p := h
theorem y51 {p q : Prop} (k : q) (h : PLift q → p := by
 intro kk
 have x0 := (hda.kept hbw).dev k hlt
 have x1 := (hda.kept hbw).inc k hlt
 have x2 := (hda.kept hbw).seq k hlt
 have y0 := (hdb.kept hbw).dev k hlm
 have y1 := (hdb.kept hbw).inc k hlm
 have y2 := (hdb.kept hbw).seq k hlm
 revert x0 x1 x2 y0 y1 y2
 exact kk.down) : p := h ⟨k⟩
theorem ui (a b:Option Addr) (ca cb:Nat) (l m:List Dot) (w:World) (hl:l.length≤1073741824) (hm:m.length≤1073741824) (ha:DotsIn w a l) (hb:DotsIn w b m) :
 Calls prog 83 #[.slice a l.length ca,.slice b m.length cb] w fun x w'=>x=.returned (.bool (decide (l=m)))∧Below w.heap.size w w':=by
 by_cases hlen:l.length=m.length
 ·refine y19 ?_
  intro hb1 hb2 hl1 hl2
  clear hlen
  go_enter func83,ntmps83;go_wp2;go_loopw [5] (fun i wr=>∃ k:Nat,k≤l.length∧i=.int .i64 k∧l.take k=m.take k∧Below w.heap.size w wr) (fun i _=>l.length - (intOf i).toNat)
  case atStart => exact z153
  case round =>
        obtain ⟨k,hk,rfl,hpre,hbw⟩:=hrel;have HP:=Lib.hid hpre;clear hpre;by_cases hlt:k<l.length
        ·have hlm:k<m.length:=by omega
         rcases ha with h | ⟨A,off,rfl,hda⟩
         ·exact z138
         rcases hb with h | ⟨B,ofb,rfl,hdb⟩
         ·rw [h] at hlm;simp at hlm
         refine y51 ?_
         intro x0 x1 x2 y0 y1 y2
         have hEq:=fun (W:World)=>Ip W 9997 l[k] m[k];have hm:=nM
         exact z26
        ·exact z48
 ·have HE:Hid (decide (l=m)=false):=decide_eq_false (Fv hlen)
  refine y26 ?_
  intro hb1 hb2
  clear hlen
  go_enter func83,ntmps83
  exact z43
theorem Uw (e f:Ev):e=f↔e.dot=f.dot∧e.stamp=f.stamp∧e.kind=f.kind∧e.key=f.key∧e.ck=f.ck∧e.over=f.over:=by
 cases e;cases f;simp
theorem z119 {p : Prop} (h : p := by
 go_enter func125, ntmps125
 exact z43) : p := h
theorem y63 {p q : Prop} (k : q) (h : PLift q → p := by
 intro kk
 refine au (fun W hW => ?_)
 have hbt : Below w.heap.size w W := by rw [hW.out]; go_grown
 revert W hW hbt
 exact kk.down) : p := h ⟨k⟩
theorem Gx (e f:Ev) (a b:Option Addr) (ca cb:Nat) (w:World) (hl:e.over.length≤1073741824) (hm:f.over.length≤1073741824) (ha:DotsIn w a e.over) (hb:DotsIn w b f.over) :
 Calls prog 125 #[jY e a ca,jY f b cb] w fun x w'=>x=.returned (.bool (decide (e=f)))∧Below w.heap.size w w':=by
 have HV:=Lib.hid (Uw e f);have hq1:∀ W:World,(Op.equalIn 10000 121 (.agg #[.int .i64 e.dot.a.dev,.int .i64 e.dot.a.inc,.int .i64 e.dot.seq]) (.agg #[.int .i64 f.dot.a.dev,.int .i64 f.dot.a.inc,.int .i64 f.dot.seq])).run prog W=.ok (decide (e.dot=f.dot)) W:=fun W=>Ip W 9997 e.dot f.dot;have hq2:∀ W:World,(Op.equalIn 10000 25 (.agg #[.int .i64 e.stamp.wall,.int .i64 e.stamp.count,.int .i64 e.stamp.dev]) (.agg #[.int .i64 f.stamp.wall,.int .i64 f.stamp.count,.int .i64 f.stamp.dev])).run prog W=.ok (decide (e.stamp=f.stamp)) W:=fun W=>FN W 9998 e.stamp f.stamp;have hq4:∀ W:World,(Op.equalIn 10000 123 (.agg #[.string e.key.name,.string e.key.domain,.string e.key.path]) (.agg #[.string f.key.name,.string f.key.domain,.string f.key.path])).run prog W=.ok (decide (e.key=f.key)) W:=fun W=>Tu W 9998 e.key f.key;have hq5:∀ W:World,(Op.equalIn 10000 125 (.agg #[.string e.ck.value,.bool e.ck.hostOnly,.bool e.ck.secure,.bool e.ck.httpOnly,.bool e.ck.persistent,.int .i64 e.ck.expiry,.int .i64 e.ck.creation,.int .i64 e.ck.access]) (.agg #[.string f.ck.value,.bool f.ck.hostOnly,.bool f.ck.secure,.bool f.ck.httpOnly,.bool f.ck.persistent,.int .i64 f.ck.expiry,.int .i64 f.ck.creation,.int .i64 f.ck.access])).run prog W=.ok (decide (e.ck=f.ck)) W:=fun W=>Xn W 9998 e.ck f.ck;have g1:=nM;have g2:=qG;have g4:=AL;have g5:=CX;have HO:=Lib.hid (fun (W:World) (h1:DotsIn W a e.over) (h2:DotsIn W b f.over)=>ui a b ca cb e.over f.over W hl hm h1 h2);by_cases t0:e.dot=f.dot
 ·rw [decide_eq_true t0] at hq1
  by_cases t1:e.stamp=f.stamp
  ·rw [decide_eq_true t1] at hq2
   by_cases t2:e.kind=f.kind
   ·skip
    by_cases t3:e.key=f.key
    ·rw [decide_eq_true t3] at hq4
     by_cases t4:e.ck=f.ck
     ·rw [decide_eq_true t4] at hq5
      have HE:Hid (decide (e=f)=decide (e.over=f.over)):=by rw [Hid,Bool.eq_iff_iff,decide_eq_true_eq,decide_eq_true_eq,HV.out];simp [t0,t1,t2,t3,t4]
      clear t0;clear t1;have u2:(e.kind == f.kind)=true:=beq_iff_eq.2 t2;clear t2;clear t3;clear t4;go_enter func125,ntmps125;go_upto_region 1 with fail
      refine y63 ?_
      intro W hW hbt
      have ha1:=ha.kept hbt;have hb1:=hb.kept hbt;have hR:W.rangeAt w.heap.size 0 (ag e a ca):=by rw [hW.out];exact World.rangeAt_alloc (eP e a ca w _) _
      have hS:W.rangeAt (w.heap.size+1) 0 (ag f b cb):=by
         have h:=eP f b cb (w.alloc (Obj.cells #[.int .i64 e.dot.a.dev,.int .i64 e.dot.a.inc,.int .i64 e.dot.seq,.int .i64 e.stamp.wall,.int .i64 e.stamp.count,.int .i64 e.stamp.dev,.int .i64 e.kind,.string e.key.name,.string e.key.domain,.string e.key.path,.string e.ck.value,.bool e.ck.hostOnly,.bool e.ck.secure,.bool e.ck.httpOnly,.bool e.ck.persistent,.int .i64 e.ck.expiry,.int .i64 e.ck.creation,.int .i64 e.ck.access,.slice a e.over.length ca] 127)) 127;rw [hW.out];simpa using h
      have q0:=hR 0 _ rfl;have r0:=hS 0 _ rfl;have q1:=hR 1 _ rfl;have r1:=hS 1 _ rfl;have q2:=hR 2 _ rfl;have r2:=hS 2 _ rfl;have q3:=hR 3 _ rfl;have r3:=hS 3 _ rfl;have q4:=hR 4 _ rfl;have r4:=hS 4 _ rfl;have q5:=hR 5 _ rfl;have r5:=hS 5 _ rfl;have q6:=hR 6 _ rfl;have r6:=hS 6 _ rfl;have q7:=hR 7 _ rfl;have r7:=hS 7 _ rfl;have q8:=hR 8 _ rfl;have r8:=hS 8 _ rfl;have q9:=hR 9 _ rfl;have r9:=hS 9 _ rfl;have q10:=hR 10 _ rfl;have r10:=hS 10 _ rfl;have q11:=hR 11 _ rfl;have r11:=hS 11 _ rfl;have q12:=hR 12 _ rfl;have r12:=hS 12 _ rfl;have q13:=hR 13 _ rfl;have r13:=hS 13 _ rfl;have q14:=hR 14 _ rfl;have r14:=hS 14 _ rfl;have q15:=hR 15 _ rfl;have r15:=hS 15 _ rfl;have q16:=hR 16 _ rfl;have r16:=hS 16 _ rfl;have q17:=hR 17 _ rfl;have r17:=hS 17 _ rfl;have q18:=hR 18 _ rfl;have r18:=hS 18 _ rfl;clear hW hR hS ha hb;go_wp2_with (go_at_call 83;(with_reducible refine (HO.out _ ha1 hb1).mono ?_);rintro x w1 ⟨rfl,hb2⟩)
      go_ret;exact ⟨aJ HE.out.symm,below2 hbt hb2⟩
     ·rw [decide_eq_false t4] at hq5
      have HE:Hid (decide (e=f)=false):=by rw [Hid,decide_eq_false_iff_not,HV.out];intro h;exact t4 (by simp only [h])
      have u2:(e.kind == f.kind)=true:=beq_iff_eq.2 t2;clear t0;clear t1;clear t2;clear t3;clear t4
      exact z119
    ·rw [decide_eq_false t3] at hq4
     have HE:Hid (decide (e=f)=false):=by rw [Hid,decide_eq_false_iff_not,HV.out];intro h;exact t3 (by simp only [h])
     have u2:(e.kind == f.kind)=true:=beq_iff_eq.2 t2;clear t0;clear t1;clear t2;clear t3
     exact z119
   ·have u2:(e.kind == f.kind)=false:=beq_eq_false_iff_ne.2 t2
    have HE:Hid (decide (e=f)=false):=by rw [Hid,decide_eq_false_iff_not,HV.out];intro h;exact t2 (by simp only [h])
    clear t0;clear t1;clear t2
    exact z119
  ·rw [decide_eq_false t1] at hq2
   have HE:Hid (decide (e=f)=false):=by rw [Hid,decide_eq_false_iff_not,HV.out];intro h;exact t1 (by simp only [h])
   clear t0;clear t1
   exact z119
 ·rw [decide_eq_false t0] at hq1
  have HE:Hid (decide (e=f)=false):=by rw [Hid,decide_eq_false_iff_not,HV.out];intro h;exact t0 (by simp only [h])
  clear t0
  exact z119
theorem z29 {p : Prop} (h : p := by
 clear h3
 go_wp2_with (first
  | (go_at_call 112; refine (HD.out _).mono ?_; rintro x w1 ⟨rfl, hb⟩; replace q0 := kept hb q0; replace q1 := kept hb q1; replace q2 := kept hb q2; replace q3 := kept hb q3; replace q4 := kept hb q4; replace q5 := kept hb q5; replace q18 := kept hb q18; replace hR := aj hR hb; replace hbt := below2 hbt hb)
  | (go_at_call 148; refine (HS.out _).mono ?_; rintro x w1 ⟨rfl, hb⟩; replace q0 := kept hb q0; replace q1 := kept hb q1; replace q2 := kept hb q2; replace q3 := kept hb q3; replace q4 := kept hb q4; replace q5 := kept hb q5; replace q18 := kept hb q18; replace hR := aj hR hb; replace hbt := below2 hbt hb))
 go_ret
 exact ⟨aJ HE.out.symm, hbt⟩) : p := h
theorem y1 {p q : Prop} (k : q) (h : PLift q → p := by
 intro kk
 refine y61 ?_
 intro W2 hW2 a0 a1 a2
 have b0 : ∀ i : After W2, i.w.cell? ⟨w.heap.size, 0, none⟩ = some (.int .i64 e.dot.a.dev) := fun i => i.cell (by rw [hW2.out]; exact hw0)
 have b1 : ∀ i : After W2, i.w.cell? ⟨w.heap.size, 1, none⟩ = some (.int .i64 e.dot.a.inc) := fun i => i.cell (by rw [hW2.out]; exact hw1)
 have b2 : ∀ i : After W2, i.w.cell? ⟨w.heap.size, 2, none⟩ = some (.int .i64 e.dot.seq) := fun i => i.cell (by rw [hW2.out]; exact hw2)
 have b18 : ∀ i : After W2, i.w.cell? ⟨w.heap.size, 18, none⟩ = some (.slice (some ⟨A, off, none⟩) e.over.length cap) := fun i => i.cell (by rw [hW2.out]; exact zh)
 revert W2 hW2 a0 a1 a2 b0 b1 b2 b18
 exact kk.down) : p := h ⟨k⟩
theorem z11 {p : Prop} (h : p := by
 clear h4 hT2
 refine y1 ?_
 intro W2 hW2 a0 a1 a2 b0 b1 b2 b18
 skip
 refine y8 ?_
 rintro _ ⟨i, rfl⟩
 have hib := i.h
 clear a0 a1 a2 b0 b1 b2 b18
 skip
 generalize i.w = wi at hib ⊢
 rw [hW2.out] at hib
 go_wp2
 go_roundw
 case rel => exact ⟨k + 1, by omega, by go_num, HE.out, mX hbw hB1 hib⟩
 case measure => simp [intOf] <;> omega) : p := h
theorem z81 {p : Prop} (h : p := by
 generalize i.w = wi at hib ⊢
 rw [hW2.out] at hib
 go_wp2
 go_ret
 exact ⟨aJ (HEV.out HE.out).symm, hb0.trans ((mX hbw hB1 hib).mono (by omega))⟩) : p := h
theorem z61 {p : Prop} (h : p := by
 clear h4 hT2
 refine y1 ?_
 intro W2 hW2 a0 a1 a2 b0 b1 b2 b18
 exact z6) : p := h
theorem lY (e:Ev) (a:Option Addr) (cap:Nat) (w:World) (hs:EvSmall e) (hover:DotsIn w a e.over) :
 Calls prog 109 #[jY e a cap] w fun x w'=>x=.returned (.bool (eF e))∧Below w.heap.size w w':=by
 have HV:Hid (eF e=(bJ e.dot && (fQ e.stamp && (decide (e.stamp.dev=e.dot.a.dev) && (overOk e.dot e.over && kindOk e))))):=rfl;have HD0:=fun (W:World)=>jV e.dot W;have HS0:=fun (W:World)=>yZ e.stamp W;have HC0:=Lib.hid (fun (W:World)=>EX e.key e.ck e.ck.persistent rfl W hs.name hs.domain hs.value);have hq0:∀ W:World,(Op.equalIn 10000 226 (.agg #[.string e.key.name,.string e.key.domain,.string e.key.path,.string e.ck.value,.bool e.ck.hostOnly,.bool e.ck.secure,.bool e.ck.httpOnly,.bool e.ck.persistent,.int .i64 e.ck.expiry,.int .i64 e.ck.creation,.int .i64 e.ck.access]) (.agg #[.string ⟨#[]⟩,.string ⟨#[]⟩,.string ⟨#[]⟩,.string ⟨#[]⟩,.bool false,.bool false,.bool false,.bool false,.int .i64 0,.int .i64 0,.int .i64 0])).run prog W=.ok (decide (e.key=dC) && decide (e.ck=ck0)) W:=fun W=>Qr W 9997 e.key dC e.ck ck0;have hk0:kindOk e=if e.kind=2 then (decide (e.key=dC) && decide (e.ck=ck0)) && decide (0<e.over.length) else if e.kind=1 then gQ e.key e.ck else false:=rfl
 have HQ:=Lib.hid hq0;have HK:=Lib.hid hk0;clear hq0 hk0;have hol:=hs.over;go_enter func109,ntmps109;go_upto_region 1 with fail
 refine au (fun W hW=>?_);have hbt:Below w.heap.size w W:=by rw [hW.out];go_grown
 have hz:w.heap.size<W.heap.size:=by rw [hW.out];simp
 have q0:W.cell? ⟨w.heap.size,0,none⟩=some (.int .i64 e.dot.a.dev):=by rw [hW.out];go_simp
 have q1:W.cell? ⟨w.heap.size,1,none⟩=some (.int .i64 e.dot.a.inc):=by rw [hW.out];go_simp
 have q2:W.cell? ⟨w.heap.size,2,none⟩=some (.int .i64 e.dot.seq):=by rw [hW.out];go_simp
 have q3:W.cell? ⟨w.heap.size,3,none⟩=some (.int .i64 e.stamp.wall):=by rw [hW.out];go_simp
 have q4:W.cell? ⟨w.heap.size,4,none⟩=some (.int .i64 e.stamp.count):=by rw [hW.out];go_simp
 have q5:W.cell? ⟨w.heap.size,5,none⟩=some (.int .i64 e.stamp.dev):=by rw [hW.out];go_simp
 have q18:W.cell? ⟨w.heap.size,18,none⟩=some (.slice a e.over.length cap):=by rw [hW.out];go_simp
 have hR:W.rangeAt w.heap.size 0 (ag e a cap):=by rw [hW.out];exact eP e a cap w _
 clear hW
 cases h1:bJ e.dot with
 | false =>
   have HE:Hid (eF e=false):=by rw [Hid,HV.out,h1];rfl
   rw [h1] at HD0;have HD:=Lib.hid HD0;have HS:=Lib.hid HS0;clear HD0 HS0;go_wp2_with (first
    | (go_at_call 112;refine (HD.out _).mono ?_;rintro x w1 ⟨rfl,hb⟩;replace q0:=kept hb q0;replace q1:=kept hb q1;replace q2:=kept hb q2;replace q3:=kept hb q3;replace q4:=kept hb q4;replace q5:=kept hb q5;replace q18:=kept hb q18;replace hR:=aj hR hb;replace hbt:=below2 hbt hb)
    | (go_at_call 148;refine (HS.out _).mono ?_;rintro x w1 ⟨rfl,hb⟩;replace q0:=kept hb q0;replace q1:=kept hb q1;replace q2:=kept hb q2;replace q3:=kept hb q3;replace q4:=kept hb q4;replace q5:=kept hb q5;replace q18:=kept hb q18;replace hR:=aj hR hb;replace hbt:=below2 hbt hb))
   go_ret;exact ⟨aJ HE.out.symm,hbt⟩
 | true =>
   rw [h1] at HD0;have HD:=Lib.hid HD0;clear HD0
   cases h2:fQ e.stamp with
   | false =>
     have HE:Hid (eF e=false):=by rw [Hid,HV.out,h1,h2];rfl
     rw [h2] at HS0;have HS:=Lib.hid HS0;clear HS0;go_wp2_with (first
        | (go_at_call 112;refine (HD.out _).mono ?_;rintro x w1 ⟨rfl,hb⟩;replace q0:=kept hb q0;replace q1:=kept hb q1;replace q2:=kept hb q2;replace q3:=kept hb q3;replace q4:=kept hb q4;replace q5:=kept hb q5;replace q18:=kept hb q18;replace hR:=aj hR hb;replace hbt:=below2 hbt hb)
        | (go_at_call 148;refine (HS.out _).mono ?_;rintro x w1 ⟨rfl,hb⟩;replace q0:=kept hb q0;replace q1:=kept hb q1;replace q2:=kept hb q2;replace q3:=kept hb q3;replace q4:=kept hb q4;replace q5:=kept hb q5;replace q18:=kept hb q18;replace hR:=aj hR hb;replace hbt:=below2 hbt hb))
     go_ret;exact ⟨aJ HE.out.symm,hbt⟩
   | true =>
     rw [h2] at HS0;have HS:=Lib.hid HS0;clear HS0;by_cases h3:e.stamp.dev=e.dot.a.dev
     ·have h3':(e.stamp.dev != e.dot.a.dev)=false:=by rw [bne_eq_false_iff_eq];exact h3
      by_cases h64:e.over.length≤64
      ·have HEV:Hid (overOk e.dot e.over=false→eF e=false):=fun h=>by rw [HV.out,h1,h2,decide_eq_true h3,h];rfl
       have HEK:Hid (overOk e.dot e.over=true→eF e=kindOk e):=fun h=>by rw [HV.out,h1,h2,decide_eq_true h3,h];rfl
       have HO:Hid (overOk e.dot e.over=df e.dot (aZ e.over 0) (e.over.drop 0)):=by unfold Hid overOk;simp [h64,aZ]
       clear h3;go_upto_block 0 with (first
        | (go_at_call 112;refine (HD.out _).mono ?_;rintro x w1 ⟨rfl,hb⟩;replace q0:=kept hb q0;replace q1:=kept hb q1;replace q2:=kept hb q2;replace q3:=kept hb q3;replace q4:=kept hb q4;replace q5:=kept hb q5;replace q18:=kept hb q18;replace hR:=aj hR hb;replace hbt:=below2 hbt hb)
        | (go_at_call 148;refine (HS.out _).mono ?_;rintro x w1 ⟨rfl,hb⟩;replace q0:=kept hb q0;replace q1:=kept hb q1;replace q2:=kept hb q2;replace q3:=kept hb q3;replace q4:=kept hb q4;replace q5:=kept hb q5;replace q18:=kept hb q18;replace hR:=aj hR hb;replace hbt:=below2 hbt hb))
       refine au (fun W0 hW0=>?_);rw [← hW0.out] at q0 q1 q2 q18 hR hbt;have hz0:w.heap.size<W0.heap.size:=World.block_lt_of_cell? W0 _ q0;have hb0:=hbt;have Vl:=hover.kept hbt;have c0:=q0;have c1:=q1;have c2:=q2;have c18:=q18;clear hW0 q0 q1 q2 q18 q3 q4 q5 hover hbt;go_wp2;go_loopw [3] (fun i wr=>∃ k:Nat,k≤e.over.length∧i=.int .i64 k∧overOk e.dot e.over=df e.dot (aZ e.over k) (e.over.drop k)∧Below W0.heap.size W0 wr) (fun i _=>e.over.length - (intOf i).toNat)
       case atStart=>exact ⟨0,Nat.zero_le _,rfl,HO.out,Below.refl _ _⟩
       case round =>
        obtain ⟨k,hk,rfl,hpre,hbw⟩:=hrel;have HP:=Lib.hid hpre;clear hpre;have hbw':=hbw;by_cases hlt:k<e.over.length
        ·rcases Vl with h | ⟨A,off,rfl,hd0⟩
         ·exact z138
         ·have hdr:=hd0.kept hbw'
          have e0:=hdr.dev k hlt;have e1:=hdr.inc k hlt;have e2:=hdr.seq k hlt;have hst:=uk e.dot e.over k hlt;have HT:Hid (overOk e.dot e.over=(kS e.dot (aZ e.over k) e.over[k] && df e.dot (aZ e.over (k+1)) (e.over.drop (k+1)))):=by rw [Hid,HP.out,hst]
          clear hst HP;generalize e.over[k]=x at e0 e1 e2 HT;have hw0:=kept hbw' c0;have hw1:=kept hbw' c1;have hw2:=kept hbw' c2;have zh:=kept hbw' c18;go_wp2;refine au (fun W1 hW1=>?_);have hB1:Below wr.heap.size wr W1:=by rw [hW1.out];go_grown
          refine y16 ?_
          intro x0 x1 x2
          replace hw0:=kept hB1 hw0;replace hw1:=kept hB1 hw1;replace hw2:=kept hB1 hw2;replace zh:=kept hB1 zh;replace hdr:=hdr.kept hB1;clear hW1 e0 e1 e2 c0 c1 c2 c18;have hR0:=fun (W:World)=>jV x W;have xH:=fun (W:World)=>wG W 9998 x.a e.dot.a;have hm:=mJ
          cases h1:bJ x with
          | false =>
            have HE:Hid (overOk e.dot e.over=false):=by rw [Hid,HT.out];unfold kS;rw [h1];simp
            rw [h1] at hR0;have HR:=Lib.hid hR0;clear hR0 xH h1;refine aP (by kernel_rfl) (by kernel_rfl) (fun W2 hW2=>?_);have a0:∀ i:After W2,i.w.cell? ⟨wr.heap.size,0,none⟩=some (.int .i64 x.a.dev):=fun i=>i.cell (by rw [hW2.out];exact x0);have a1:∀ i:After W2,i.w.cell? ⟨wr.heap.size,1,none⟩=some (.int .i64 x.a.inc):=fun i=>i.cell (by rw [hW2.out];exact x1);have a2:∀ i:After W2,i.w.cell? ⟨wr.heap.size,2,none⟩=some (.int .i64 x.seq):=fun i=>i.cell (by rw [hW2.out];exact x2);have b0:∀ i:After W2,i.w.cell? ⟨w.heap.size,0,none⟩=some (.int .i64 e.dot.a.dev):=fun i=>i.cell (by rw [hW2.out];exact hw0);have b1:∀ i:After W2,i.w.cell? ⟨w.heap.size,1,none⟩=some (.int .i64 e.dot.a.inc):=fun i=>i.cell (by rw [hW2.out];exact hw1);have b2:∀ i:After W2,i.w.cell? ⟨w.heap.size,2,none⟩=some (.int .i64 e.dot.seq):=fun i=>i.cell (by rw [hW2.out];exact hw2);have b18:∀ i:After W2,i.w.cell? ⟨w.heap.size,18,none⟩=some (.slice (some ⟨A,off,none⟩) e.over.length cap):=fun i=>i.cell (by rw [hW2.out];exact zh);skip
            go_big_quiet_step (fail)
            go_big_quiet_step (exact Calls.after (HR.out _))
            iterate 12 go_big_quiet_step (fail)
            go_big_quiet_step (exact Calls.after (HLT.out _))
            iterate 19 go_big_quiet_step (fail)
            refine wpQuiet_nil ?_;rintro _ ⟨i,rfl⟩;have hib:=i.h;clear a0 a1 a2 b0 b1 b2 b18;skip
            generalize i.w=wi at hib ⊢;rw [hW2.out] at hib;go_wp2;go_ret;exact ⟨aJ (HEV.out HE.out).symm,hb0.trans ((mX hbw hB1 hib).mono (by omega))⟩
          | true =>
            rw [h1] at hR0;have HR:=Lib.hid hR0;clear hR0;rcases Nat.eq_zero_or_pos k with hk0 | hk0
            ·refine y39 ?_
             intro Bo hdk
             have hT2:Hid (overOk e.dot e.over=(!(decide (x.a=e.dot.a) && decide (e.dot.seq≤x.seq)) && df e.dot (aZ e.over (k+1)) (e.over.drop (k+1)))):=by
              rw [Hid,HT.out];unfold kS;rw [h1];subst hk0;simp [aZ]
             clear HT h1 hk0;by_cases h4:x.a=e.dot.a
             ·rw [decide_eq_true h4] at xH
              by_cases h5:e.dot.seq≤x.seq
              ·have HE:Hid (overOk e.dot e.over=false):=by rw [Hid,hT2.out];simp [h4,h5]
               clear h4 hT2
               refine y1 ?_
               intro W2 hW2 a0 a1 a2 b0 b1 b2 b18
               skip
               refine y8 ?_
               rintro _ ⟨i,rfl⟩;have hib:=i.h;clear a0 a1 a2 b0 b1 b2 b18;skip
               exact z81
              ·have HE:Hid (overOk e.dot e.over=df e.dot (aZ e.over (k+1)) (e.over.drop (k+1))):=by rw [Hid,hT2.out];simp [h5]
               exact z11
             ·rw [decide_eq_false h4] at xH
              have HE:Hid (overOk e.dot e.over=df e.dot (aZ e.over (k+1)) (e.over.drop (k+1))):=by rw [Hid,hT2.out];simp [h4]
              exact z11
            ·obtain ⟨j,rfl⟩:∃ j,k=j+1:=⟨k - 1,by omega⟩
             have hj:j<e.over.length:=by omega
             have f0:=hdr.dev j hj;have f1:=hdr.inc j hj;have f2:=hdr.seq j hj;have hpv:aZ e.over (j+1)=some e.over[j]:=by simp [aZ,hj]
             have hT1:Hid (overOk e.dot e.over=(dG e.over[j] x && (!(decide (x.a=e.dot.a) && decide (e.dot.seq≤x.seq)) && df e.dot (aZ e.over (j+1+1)) (e.over.drop (j+1+1))))):=by
              rw [Hid,HT.out,hpv];unfold kS;rw [h1];simp [Bool.and_assoc]
             have xG:=fun (W:World)=>DI e.over[j] x W;generalize e.over[j]=y at *
             refine y13 ?_
             intro hdk hww
             clear HT h1 hpv hdr hd0
             cases h2:dG y x with
             | false =>
               have HE:Hid (overOk e.dot e.over=false):=by rw [Hid,hT1.out,h2];rfl
               rw [h2] at xG;have HLT:=Lib.hid xG;clear xG xH h2 hT1;refine aP (by kernel_rfl) (by kernel_rfl) (fun W2 hW2=>?_);have a0:∀ i:After W2,i.w.cell? ⟨wr.heap.size,0,none⟩=some (.int .i64 x.a.dev):=fun i=>i.cell (by rw [hW2.out];exact x0);have a1:∀ i:After W2,i.w.cell? ⟨wr.heap.size,1,none⟩=some (.int .i64 x.a.inc):=fun i=>i.cell (by rw [hW2.out];exact x1);have a2:∀ i:After W2,i.w.cell? ⟨wr.heap.size,2,none⟩=some (.int .i64 x.seq):=fun i=>i.cell (by rw [hW2.out];exact x2);have b0:∀ i:After W2,i.w.cell? ⟨w.heap.size,0,none⟩=some (.int .i64 e.dot.a.dev):=fun i=>i.cell (by rw [hW2.out];exact hw0);have b1:∀ i:After W2,i.w.cell? ⟨w.heap.size,1,none⟩=some (.int .i64 e.dot.a.inc):=fun i=>i.cell (by rw [hW2.out];exact hw1);have b2:∀ i:After W2,i.w.cell? ⟨w.heap.size,2,none⟩=some (.int .i64 e.dot.seq):=fun i=>i.cell (by rw [hW2.out];exact hw2);have b18:∀ i:After W2,i.w.cell? ⟨w.heap.size,18,none⟩=some (.slice (some ⟨A,off,none⟩) e.over.length cap):=fun i=>i.cell (by rw [hW2.out];exact zh);have g0:∀ i:After W2,i.w.cell? ⟨A,off+j * 3,none⟩=some (.int .i64 y.a.dev):=fun i=>i.cell (by rw [hW2.out];exact f0);have g1:∀ i:After W2,i.w.cell? ⟨A,off+j * 3+1,none⟩=some (.int .i64 y.a.inc):=fun i=>i.cell (by rw [hW2.out];exact f1);have g2:∀ i:After W2,i.w.cell? ⟨A,off+j * 3+2,none⟩=some (.int .i64 y.seq):=fun i=>i.cell (by rw [hW2.out];exact f2);go_big_quiet_step (fail)
               go_big_quiet_step (exact Calls.after (HR.out _))
               iterate 12 go_big_quiet_step (fail)
               go_big_quiet_step (exact Calls.after (HLT.out _))
               iterate 19 go_big_quiet_step (fail)
               refine wpQuiet_nil ?_;rintro _ ⟨i,rfl⟩;have hib:=i.h;clear a0 a1 a2 b0 b1 b2 b18;clear g0 g1 g2 hww;generalize i.w=wi at hib ⊢;rw [hW2.out] at hib;go_wp2;go_ret;exact ⟨aJ (HEV.out HE.out).symm,hb0.trans ((mX hbw hB1 hib).mono (by omega))⟩
             | true =>
               have hT2:Hid (overOk e.dot e.over=(!(decide (x.a=e.dot.a) && decide (e.dot.seq≤x.seq)) && df e.dot (aZ e.over (j+1+1)) (e.over.drop (j+1+1)))):=by
                        rw [Hid,hT1.out,h2];rfl
               rw [h2] at xG;have HLT:=Lib.hid xG;clear xG h2 hT1;by_cases h4:x.a=e.dot.a
               ·rw [decide_eq_true h4] at xH
                by_cases h5:e.dot.seq≤x.seq
                ·have HE:Hid (overOk e.dot e.over=false):=by rw [Hid,hT2.out];simp [h4,h5]
                 clear h4 hT2
                 refine y1 ?_
                 intro W2 hW2 a0 a1 a2 b0 b1 b2 b18
                 refine y17 ?_
                 intro g0 g1 g2
                 refine y8 ?_
                 rintro _ ⟨i,rfl⟩;have hib:=i.h;clear a0 a1 a2 b0 b1 b2 b18;clear g0 g1 g2 hww
                 exact z81
                ·have HE:Hid (overOk e.dot e.over=df e.dot (aZ e.over (j+1+1)) (e.over.drop (j+1+1))):=by rw [Hid,hT2.out];simp [h5]
                 exact z61
               ·rw [decide_eq_false h4] at xH
                have HE:Hid (overOk e.dot e.over=df e.dot (aZ e.over (j+1+1)) (e.over.drop (j+1+1))):=by rw [Hid,hT2.out];simp [h4]
                exact z61
        ·have HEE:=Lib.hid (HEK.out (by rw [HP.out,List.drop_eq_nil_of_le (by omega)];rfl))
         have zh:=kept hbw' c18;have hRw:=aj hR hbw';have hbt:=below2 hb0 hbw';have q6:wr.cell? ⟨w.heap.size,6,none⟩=some (.int .i64 e.kind):=by have:=hRw 6 _ rfl;exact this
         have q7:wr.cell? ⟨w.heap.size,7,none⟩=some (.string e.key.name):=by have:=hRw 7 _ rfl;exact this
         have q8:wr.cell? ⟨w.heap.size,8,none⟩=some (.string e.key.domain):=by have:=hRw 8 _ rfl;exact this
         have q9:wr.cell? ⟨w.heap.size,9,none⟩=some (.string e.key.path):=by have:=hRw 9 _ rfl;exact this
         have q10:wr.cell? ⟨w.heap.size,10,none⟩=some (.string e.ck.value):=by have:=hRw 10 _ rfl;exact this
         have q11:wr.cell? ⟨w.heap.size,11,none⟩=some (.bool e.ck.hostOnly):=by have:=hRw 11 _ rfl;exact this
         have q12:wr.cell? ⟨w.heap.size,12,none⟩=some (.bool e.ck.secure):=by have:=hRw 12 _ rfl;exact this
         have q13:wr.cell? ⟨w.heap.size,13,none⟩=some (.bool e.ck.httpOnly):=by have:=hRw 13 _ rfl;exact this
         have q14:wr.cell? ⟨w.heap.size,14,none⟩=some (.bool e.ck.persistent):=by have:=hRw 14 _ rfl;exact this
         have q15:wr.cell? ⟨w.heap.size,15,none⟩=some (.int .i64 e.ck.expiry):=by have:=hRw 15 _ rfl;exact this
         have q16:wr.cell? ⟨w.heap.size,16,none⟩=some (.int .i64 e.ck.creation):=by have:=hRw 16 _ rfl;exact this
         have q17:wr.cell? ⟨w.heap.size,17,none⟩=some (.int .i64 e.ck.access):=by have:=hRw 17 _ rfl;exact this
         have hkd:=HK.out;have hzr:w.heap.size<wr.heap.size:=by have:=hbw.size;omega
         have hzn:¬ w.heap.size=wr.heap.size:=by omega
         have XB:¬ wr.heap.size=w.heap.size:=by omega
         have hm:=yg;have hk':e.over.length≤k:=by omega
         clear HP hRw hlt HO HEV HEK Vl c0 c1 c2 c18;by_cases hk1:e.kind=1
         ·have e1:(e.kind == 1)=true:=beq_iff_eq.2 hk1
          have HE:Hid (eF e=gQ e.key e.ck):=by rw [Hid,HEE.out,hkd,if_neg (by omega),if_pos hk1]
          clear hk1 hkd;go_wp2_with (go_at_call 149;refine (HC0.out _).mono ?_;rintro x w9 ⟨rfl,hb9⟩)
          go_ret;exact ⟨aJ HE.out.symm,below2 (below2 hbt (by go_grown)) hb9⟩
         ·have e1:(e.kind == 1)=false:=beq_eq_false_iff_ne.2 hk1
          have hqq:=HQ.out;by_cases hk2:e.kind=2
          ·rw [if_pos hk2] at hkd
           have e2:(e.kind == 2)=true:=beq_iff_eq.2 hk2
           cases hz0:decide (e.key=dC) && decide (e.ck=ck0) with
           | false =>
             have HE:Hid (eF e=false):=by rw [Hid,HEE.out,hkd,hz0];rfl
             rw [hz0] at hqq;clear hk1 hk2 hkd hz0;go_wp2;go_ret;exact ⟨aJ HE.out.symm,below2 hbt (by go_grown)⟩
           | true =>
             have HE:Hid (eF e=decide (0<e.over.length)):=by rw [Hid,HEE.out,hkd,hz0];rfl
             rw [hz0] at hqq;clear hk1 hk2 hkd hz0;go_wp2;go_ret;exact ⟨aJ (by first | (rw [HE.out];done) | (rw [HE.out];rfl) | (rw [HE.out,Bool.eq_iff_iff];simp)),below2 hbt (by go_grown)⟩
          ·have HE:Hid (eF e=false):=by rw [Hid,HEE.out,hkd,if_neg hk2,if_neg hk1]
           have e2:(e.kind == 2)=false:=beq_eq_false_iff_ne.2 hk2;clear hk1 hk2 hkd;go_wp2;go_ret;exact ⟨aJ HE.out.symm,below2 hbt (by go_grown)⟩
      ·have HE:Hid (eF e=false):=by rw [Hid,HV.out];unfold overOk;simp [h64]
       exact z29
     ·have h3':(e.stamp.dev != e.dot.a.dev)=true:=by rw [bne_iff_ne];exact h3
      have HE:Hid (eF e=false):=by rw [Hid,HV.out,decide_eq_false h3];simp
      exact z29
theorem z4 {p : Prop} (h : p := by
 have HD := Lib.hid HD0
 have HS := Lib.hid HS0
 have HO := Lib.hid HO0
 have HC := Lib.hid HC0
 clear HD0 HS0 HO0 HC0 hk0
 go_wp2_with (first
  | ((with_reducible refine bu _ w.heap.size e a cap hR ?_ rfl ?_); exact rfl)
  | (go_at_call 97; refine (HD.out _).mono ?_; rintro x w1 ⟨rfl, hb⟩; replace q0 := kept hb q0; replace q1 := kept hb q1; replace q2 := kept hb q2; replace q3 := kept hb q3; replace q4 := kept hb q4; replace q5 := kept hb q5; replace q6 := kept hb q6; replace q18 := kept hb q18; replace hR := aj hR hb; replace hbt := below2 hbt hb; replace ho := ho.kept hb)
  | (go_at_call 64; refine (HS.out _).mono ?_; rintro x w1 ⟨rfl, hb⟩; replace q0 := kept hb q0; replace q1 := kept hb q1; replace q2 := kept hb q2; replace q3 := kept hb q3; replace q4 := kept hb q4; replace q5 := kept hb q5; replace q6 := kept hb q6; replace q18 := kept hb q18; replace hR := aj hR hb; replace hbt := below2 hbt hb; replace ho := ho.kept hb)
  | (go_at_call 139; refine (HO.out _ ho).mono ?_; rintro x w1 ⟨rfl, hb⟩; replace q0 := kept hb q0; replace q1 := kept hb q1; replace q2 := kept hb q2; replace q3 := kept hb q3; replace q4 := kept hb q4; replace q5 := kept hb q5; replace q6 := kept hb q6; replace q18 := kept hb q18; replace hR := aj hR hb; replace hbt := below2 hbt hb)
  | (go_at_call 140; refine (HI.out _).mono ?_; rintro x w1 ⟨rfl, hb⟩; replace q0 := kept hb q0; replace q1 := kept hb q1; replace q2 := kept hb q2; replace q3 := kept hb q3; replace q4 := kept hb q4; replace q5 := kept hb q5; replace q6 := kept hb q6; replace q18 := kept hb q18; replace hR := aj hR hb; replace hbt := below2 hbt hb)
  | (go_at_call 141; refine (HC.out _).mono ?_; rintro x w1 ⟨rfl, hb⟩; replace q0 := kept hb q0; replace q1 := kept hb q1; replace q2 := kept hb q2; replace q3 := kept hb q3; replace q4 := kept hb q4; replace q5 := kept hb q5; replace q6 := kept hb q6; replace q18 := kept hb q18; replace hR := aj hR hb; replace hbt := below2 hbt hb))
 go_ret
 exact ⟨aJ HE.out.symm, hbt⟩) : p := h
theorem gV (e:Ev) (a:Option Addr) (cap:Nat) (w:World) (hs:EvSmall e) (hover:DotsIn w a e.over) :
 Calls prog 96 #[jY e a cap] w fun x w'=>x=.returned (.bool (eF e))∧Below w.heap.size w w':=by
 have HV:Hid (eF e=(bJ e.dot && (fQ e.stamp && (decide (e.stamp.dev=e.dot.a.dev) && (overOk e.dot e.over && kindOk e))))):=rfl;have HD0:=fun (W:World)=>ja e.dot W;have HS0:=fun (W:World)=>oq e.stamp W;have HO0:=fun (W:World) (h:DotsIn W a e.over)=>PH e.dot (.int .i64 e.stamp.wall) (.int .i64 e.stamp.count) (.int .i64 e.stamp.dev) (.int .i64 e.kind) (.string e.key.name) (.string e.key.domain) (.string e.key.path) (.string e.ck.value) (.bool e.ck.hostOnly) (.bool e.ck.secure) (.bool e.ck.httpOnly) (.bool e.ck.persistent) (.int .i64 e.ck.expiry) (.int .i64 e.ck.creation) (.int .i64 e.ck.access) a cap e.over W h hs.over;have HI:=Lib.hid (fun (W:World)=>QM e a cap W);have HC0:=fun (W:World)=>Dq e.key e.ck e.ck.persistent rfl W hs.name hs.domain hs.path hs.value;have hq0:∀ W:World,(Op.equalIn 10000 226 (.agg #[.string e.key.name,.string e.key.domain,.string e.key.path,.string e.ck.value,.bool e.ck.hostOnly,.bool e.ck.secure,.bool e.ck.httpOnly,.bool e.ck.persistent,.int .i64 e.ck.expiry,.int .i64 e.ck.creation,.int .i64 e.ck.access]) (.agg #[.string ⟨#[]⟩,.string ⟨#[]⟩,.string ⟨#[]⟩,.string ⟨#[]⟩,.bool false,.bool false,.bool false,.bool false,.int .i64 0,.int .i64 0,.int .i64 0])).run prog W=.ok (decide (e.key=dC) && decide (e.ck=ck0)) W:=fun W=>Qr W 9997 e.key dC e.ck ck0;have hm:=yg;have hk0:kindOk e=if e.kind=2 then (decide (e.key=dC) && decide (e.ck=ck0)) && decide (0<e.over.length) else if e.kind=1 then gQ e.key e.ck else false:=rfl
 go_enter func96,ntmps96;go_upto_region 1 with fail
 refine au (fun W hW=>?_);have hbt:Below w.heap.size w W:=by rw [hW.out];go_grown
 have hz:w.heap.size<W.heap.size:=by rw [hW.out];simp
 have q0:W.cell? ⟨w.heap.size,0,none⟩=some (.int .i64 e.dot.a.dev):=by rw [hW.out];go_simp
 have q1:W.cell? ⟨w.heap.size,1,none⟩=some (.int .i64 e.dot.a.inc):=by rw [hW.out];go_simp
 have q2:W.cell? ⟨w.heap.size,2,none⟩=some (.int .i64 e.dot.seq):=by rw [hW.out];go_simp
 have q3:W.cell? ⟨w.heap.size,3,none⟩=some (.int .i64 e.stamp.wall):=by rw [hW.out];go_simp
 have q4:W.cell? ⟨w.heap.size,4,none⟩=some (.int .i64 e.stamp.count):=by rw [hW.out];go_simp
 have q5:W.cell? ⟨w.heap.size,5,none⟩=some (.int .i64 e.stamp.dev):=by rw [hW.out];go_simp
 have q6:W.cell? ⟨w.heap.size,6,none⟩=some (.int .i64 e.kind):=by rw [hW.out];go_simp
 have q18:W.cell? ⟨w.heap.size,18,none⟩=some (.slice a e.over.length cap):=by rw [hW.out];go_simp
 have hR:W.rangeAt w.heap.size 0 (ag e a cap):=by rw [hW.out];exact eP e a cap w _
 have ho:=hover.kept hbt;clear hW hover
 cases h1:bJ e.dot with
 | false =>
   have HE:Hid (eF e=false):=by rw [Hid,HV.out,h1];rfl
   rw [h1] at HD0;have HD:=Lib.hid HD0;have HS:=Lib.hid HS0;have HO:=Lib.hid HO0;have HC:=Lib.hid HC0;clear HD0 HS0 HO0 HC0 hk0;go_wp2_with (first
    | ((with_reducible refine bu _ w.heap.size e a cap hR ?_ rfl ?_);exact rfl)
    | (go_at_call 97;refine (HD.out _).mono ?_;rintro x w1 ⟨rfl,hb⟩;replace q0:=kept hb q0;replace q1:=kept hb q1;replace q2:=kept hb q2;replace q3:=kept hb q3;replace q4:=kept hb q4;replace q5:=kept hb q5;replace q6:=kept hb q6;replace q18:=kept hb q18;replace hR:=aj hR hb;replace hbt:=below2 hbt hb;replace ho:=ho.kept hb)
    | (go_at_call 64;refine (HS.out _).mono ?_;rintro x w1 ⟨rfl,hb⟩;replace q0:=kept hb q0;replace q1:=kept hb q1;replace q2:=kept hb q2;replace q3:=kept hb q3;replace q4:=kept hb q4;replace q5:=kept hb q5;replace q6:=kept hb q6;replace q18:=kept hb q18;replace hR:=aj hR hb;replace hbt:=below2 hbt hb;replace ho:=ho.kept hb)
    | (go_at_call 139;refine (HO.out _ ho).mono ?_;rintro x w1 ⟨rfl,hb⟩;replace q0:=kept hb q0;replace q1:=kept hb q1;replace q2:=kept hb q2;replace q3:=kept hb q3;replace q4:=kept hb q4;replace q5:=kept hb q5;replace q6:=kept hb q6;replace q18:=kept hb q18;replace hR:=aj hR hb;replace hbt:=below2 hbt hb)
    | (go_at_call 140;refine (HI.out _).mono ?_;rintro x w1 ⟨rfl,hb⟩;replace q0:=kept hb q0;replace q1:=kept hb q1;replace q2:=kept hb q2;replace q3:=kept hb q3;replace q4:=kept hb q4;replace q5:=kept hb q5;replace q6:=kept hb q6;replace q18:=kept hb q18;replace hR:=aj hR hb;replace hbt:=below2 hbt hb)
    | (go_at_call 141;refine (HC.out _).mono ?_;rintro x w1 ⟨rfl,hb⟩;replace q0:=kept hb q0;replace q1:=kept hb q1;replace q2:=kept hb q2;replace q3:=kept hb q3;replace q4:=kept hb q4;replace q5:=kept hb q5;replace q6:=kept hb q6;replace q18:=kept hb q18;replace hR:=aj hR hb;replace hbt:=below2 hbt hb))
   go_ret;exact ⟨aJ HE.out.symm,hbt⟩
 | true =>
   rw [h1] at HD0
   cases h2:fQ e.stamp with
   | false =>
     have HE:Hid (eF e=false):=by rw [Hid,HV.out,h1,h2];rfl
     rw [h2] at HS0;have HD:=Lib.hid HD0;have HS:=Lib.hid HS0;have HO:=Lib.hid HO0;have HC:=Lib.hid HC0;clear HD0 HS0 HO0 HC0 hk0;go_wp2_with (first
        | ((with_reducible refine bu _ w.heap.size e a cap hR ?_ rfl ?_);exact rfl)
        | (go_at_call 97;refine (HD.out _).mono ?_;rintro x w1 ⟨rfl,hb⟩;replace q0:=kept hb q0;replace q1:=kept hb q1;replace q2:=kept hb q2;replace q3:=kept hb q3;replace q4:=kept hb q4;replace q5:=kept hb q5;replace q6:=kept hb q6;replace q18:=kept hb q18;replace hR:=aj hR hb;replace hbt:=below2 hbt hb;replace ho:=ho.kept hb)
        | (go_at_call 64;refine (HS.out _).mono ?_;rintro x w1 ⟨rfl,hb⟩;replace q0:=kept hb q0;replace q1:=kept hb q1;replace q2:=kept hb q2;replace q3:=kept hb q3;replace q4:=kept hb q4;replace q5:=kept hb q5;replace q6:=kept hb q6;replace q18:=kept hb q18;replace hR:=aj hR hb;replace hbt:=below2 hbt hb;replace ho:=ho.kept hb)
        | (go_at_call 139;refine (HO.out _ ho).mono ?_;rintro x w1 ⟨rfl,hb⟩;replace q0:=kept hb q0;replace q1:=kept hb q1;replace q2:=kept hb q2;replace q3:=kept hb q3;replace q4:=kept hb q4;replace q5:=kept hb q5;replace q6:=kept hb q6;replace q18:=kept hb q18;replace hR:=aj hR hb;replace hbt:=below2 hbt hb)
        | (go_at_call 140;refine (HI.out _).mono ?_;rintro x w1 ⟨rfl,hb⟩;replace q0:=kept hb q0;replace q1:=kept hb q1;replace q2:=kept hb q2;replace q3:=kept hb q3;replace q4:=kept hb q4;replace q5:=kept hb q5;replace q6:=kept hb q6;replace q18:=kept hb q18;replace hR:=aj hR hb;replace hbt:=below2 hbt hb)
        | (go_at_call 141;refine (HC.out _).mono ?_;rintro x w1 ⟨rfl,hb⟩;replace q0:=kept hb q0;replace q1:=kept hb q1;replace q2:=kept hb q2;replace q3:=kept hb q3;replace q4:=kept hb q4;replace q5:=kept hb q5;replace q6:=kept hb q6;replace q18:=kept hb q18;replace hR:=aj hR hb;replace hbt:=below2 hbt hb))
     go_ret;exact ⟨aJ HE.out.symm,hbt⟩
   | true =>
     rw [h2] at HS0;by_cases h3:e.stamp.dev=e.dot.a.dev
     ·have h3':(e.stamp.dev != e.dot.a.dev)=false:=by rw [bne_eq_false_iff_eq];exact h3
      cases h4:overOk e.dot e.over with
      | false =>
        have HE:Hid (eF e=false):=by rw [Hid,HV.out,h1,h2,h4,decide_eq_true h3];rfl
        rw [h4] at HO0;clear h3;have HD:=Lib.hid HD0;have HS:=Lib.hid HS0;have HO:=Lib.hid HO0;have HC:=Lib.hid HC0;clear HD0 HS0 HO0 HC0 hk0;go_wp2_with (first
         | ((with_reducible refine bu _ w.heap.size e a cap hR ?_ rfl ?_);exact rfl)
         | (go_at_call 97;refine (HD.out _).mono ?_;rintro x w1 ⟨rfl,hb⟩;replace q0:=kept hb q0;replace q1:=kept hb q1;replace q2:=kept hb q2;replace q3:=kept hb q3;replace q4:=kept hb q4;replace q5:=kept hb q5;replace q6:=kept hb q6;replace q18:=kept hb q18;replace hR:=aj hR hb;replace hbt:=below2 hbt hb;replace ho:=ho.kept hb)
         | (go_at_call 64;refine (HS.out _).mono ?_;rintro x w1 ⟨rfl,hb⟩;replace q0:=kept hb q0;replace q1:=kept hb q1;replace q2:=kept hb q2;replace q3:=kept hb q3;replace q4:=kept hb q4;replace q5:=kept hb q5;replace q6:=kept hb q6;replace q18:=kept hb q18;replace hR:=aj hR hb;replace hbt:=below2 hbt hb;replace ho:=ho.kept hb)
         | (go_at_call 139;refine (HO.out _ ho).mono ?_;rintro x w1 ⟨rfl,hb⟩;replace q0:=kept hb q0;replace q1:=kept hb q1;replace q2:=kept hb q2;replace q3:=kept hb q3;replace q4:=kept hb q4;replace q5:=kept hb q5;replace q6:=kept hb q6;replace q18:=kept hb q18;replace hR:=aj hR hb;replace hbt:=below2 hbt hb)
         | (go_at_call 140;refine (HI.out _).mono ?_;rintro x w1 ⟨rfl,hb⟩;replace q0:=kept hb q0;replace q1:=kept hb q1;replace q2:=kept hb q2;replace q3:=kept hb q3;replace q4:=kept hb q4;replace q5:=kept hb q5;replace q6:=kept hb q6;replace q18:=kept hb q18;replace hR:=aj hR hb;replace hbt:=below2 hbt hb)
         | (go_at_call 141;refine (HC.out _).mono ?_;rintro x w1 ⟨rfl,hb⟩;replace q0:=kept hb q0;replace q1:=kept hb q1;replace q2:=kept hb q2;replace q3:=kept hb q3;replace q4:=kept hb q4;replace q5:=kept hb q5;replace q6:=kept hb q6;replace q18:=kept hb q18;replace hR:=aj hR hb;replace hbt:=below2 hbt hb))
        go_ret;exact ⟨aJ HE.out.symm,hbt⟩
      | true =>
        have HK:Hid (eF e=kindOk e):=by rw [Hid,HV.out,h1,h2,h4,decide_eq_true h3];rfl
        rw [h4] at HO0;clear h3;by_cases hk2:e.kind=2
        ·rw [if_pos hk2] at hk0
         have e2:(e.kind == 2)=true:=beq_iff_eq.2 hk2;clear hk2
         cases hz0:decide (e.key=dC) && decide (e.ck=ck0) with
         | false =>
           have HE:Hid (eF e=false):=by rw [Hid,HK.out,hk0,hz0];rfl
           rw [hz0] at hq0;clear hz0;have HD:=Lib.hid HD0;have HS:=Lib.hid HS0;have HO:=Lib.hid HO0;have HC:=Lib.hid HC0;clear HD0 HS0 HO0 HC0 hk0;go_wp2_with (first
             | ((with_reducible refine bu _ w.heap.size e a cap hR ?_ rfl ?_);exact rfl)
             | (go_at_call 97;refine (HD.out _).mono ?_;rintro x w1 ⟨rfl,hb⟩;replace q0:=kept hb q0;replace q1:=kept hb q1;replace q2:=kept hb q2;replace q3:=kept hb q3;replace q4:=kept hb q4;replace q5:=kept hb q5;replace q6:=kept hb q6;replace q18:=kept hb q18;replace hR:=aj hR hb;replace hbt:=below2 hbt hb;replace ho:=ho.kept hb)
             | (go_at_call 64;refine (HS.out _).mono ?_;rintro x w1 ⟨rfl,hb⟩;replace q0:=kept hb q0;replace q1:=kept hb q1;replace q2:=kept hb q2;replace q3:=kept hb q3;replace q4:=kept hb q4;replace q5:=kept hb q5;replace q6:=kept hb q6;replace q18:=kept hb q18;replace hR:=aj hR hb;replace hbt:=below2 hbt hb;replace ho:=ho.kept hb)
             | (go_at_call 139;refine (HO.out _ ho).mono ?_;rintro x w1 ⟨rfl,hb⟩;replace q0:=kept hb q0;replace q1:=kept hb q1;replace q2:=kept hb q2;replace q3:=kept hb q3;replace q4:=kept hb q4;replace q5:=kept hb q5;replace q6:=kept hb q6;replace q18:=kept hb q18;replace hR:=aj hR hb;replace hbt:=below2 hbt hb)
             | (go_at_call 140;refine (HI.out _).mono ?_;rintro x w1 ⟨rfl,hb⟩;replace q0:=kept hb q0;replace q1:=kept hb q1;replace q2:=kept hb q2;replace q3:=kept hb q3;replace q4:=kept hb q4;replace q5:=kept hb q5;replace q6:=kept hb q6;replace q18:=kept hb q18;replace hR:=aj hR hb;replace hbt:=below2 hbt hb)
             | (go_at_call 141;refine (HC.out _).mono ?_;rintro x w1 ⟨rfl,hb⟩;replace q0:=kept hb q0;replace q1:=kept hb q1;replace q2:=kept hb q2;replace q3:=kept hb q3;replace q4:=kept hb q4;replace q5:=kept hb q5;replace q6:=kept hb q6;replace q18:=kept hb q18;replace hR:=aj hR hb;replace hbt:=below2 hbt hb))
           go_ret;exact ⟨aJ HE.out.symm,hbt⟩
         | true =>
           have HE:Hid (eF e=decide (0<e.over.length)):=by rw [Hid,HK.out,hk0,hz0];rfl
           rw [hz0] at hq0;clear hz0;have HD:=Lib.hid HD0;have HS:=Lib.hid HS0;have HO:=Lib.hid HO0;have HC:=Lib.hid HC0;clear HD0 HS0 HO0 HC0 hk0;go_wp2_with (first
             | ((with_reducible refine bu _ w.heap.size e a cap hR ?_ rfl ?_);exact rfl)
             | (go_at_call 97;refine (HD.out _).mono ?_;rintro x w1 ⟨rfl,hb⟩;replace q0:=kept hb q0;replace q1:=kept hb q1;replace q2:=kept hb q2;replace q3:=kept hb q3;replace q4:=kept hb q4;replace q5:=kept hb q5;replace q6:=kept hb q6;replace q18:=kept hb q18;replace hR:=aj hR hb;replace hbt:=below2 hbt hb;replace ho:=ho.kept hb)
             | (go_at_call 64;refine (HS.out _).mono ?_;rintro x w1 ⟨rfl,hb⟩;replace q0:=kept hb q0;replace q1:=kept hb q1;replace q2:=kept hb q2;replace q3:=kept hb q3;replace q4:=kept hb q4;replace q5:=kept hb q5;replace q6:=kept hb q6;replace q18:=kept hb q18;replace hR:=aj hR hb;replace hbt:=below2 hbt hb;replace ho:=ho.kept hb)
             | (go_at_call 139;refine (HO.out _ ho).mono ?_;rintro x w1 ⟨rfl,hb⟩;replace q0:=kept hb q0;replace q1:=kept hb q1;replace q2:=kept hb q2;replace q3:=kept hb q3;replace q4:=kept hb q4;replace q5:=kept hb q5;replace q6:=kept hb q6;replace q18:=kept hb q18;replace hR:=aj hR hb;replace hbt:=below2 hbt hb)
             | (go_at_call 140;refine (HI.out _).mono ?_;rintro x w1 ⟨rfl,hb⟩;replace q0:=kept hb q0;replace q1:=kept hb q1;replace q2:=kept hb q2;replace q3:=kept hb q3;replace q4:=kept hb q4;replace q5:=kept hb q5;replace q6:=kept hb q6;replace q18:=kept hb q18;replace hR:=aj hR hb;replace hbt:=below2 hbt hb)
             | (go_at_call 141;refine (HC.out _).mono ?_;rintro x w1 ⟨rfl,hb⟩;replace q0:=kept hb q0;replace q1:=kept hb q1;replace q2:=kept hb q2;replace q3:=kept hb q3;replace q4:=kept hb q4;replace q5:=kept hb q5;replace q6:=kept hb q6;replace q18:=kept hb q18;replace hR:=aj hR hb;replace hbt:=below2 hbt hb))
           go_ret;exact ⟨aJ (by first | (rw [HE.out];done) | (rw [HE.out];rfl) | (rw [HE.out,Bool.eq_iff_iff];simp)),hbt⟩
        ·have e2:(e.kind == 2)=false:=beq_eq_false_iff_ne.2 hk2
         rw [if_neg hk2] at hk0;clear hk2;by_cases hk1:e.kind=1
         ·rw [if_pos hk1] at hk0
          have e1:(e.kind == 1)=true:=beq_iff_eq.2 hk1;clear hk1;have HE:Hid (eF e=gQ e.key e.ck):=by rw [Hid,HK.out,hk0]
          exact z4
         ·rw [if_neg hk1] at hk0
          have e1:(e.kind == 1)=false:=beq_eq_false_iff_ne.2 hk1;clear hk1;have HE:Hid (eF e=false):=by rw [Hid,HK.out,hk0]
          exact z4
     ·have h3':(e.stamp.dev != e.dot.a.dev)=true:=by rw [bne_iff_ne];exact h3
      have HE:Hid (eF e=false):=by rw [Hid,HV.out,h1,h2,decide_eq_false h3];rfl
      clear h3
      exact z4
theorem z130 {p : Prop} (h : p := by
 rcases h.2 with hn | ⟨g, cap, cur, hv, hbs, rest⟩
 ·exact ⟨h.1, .inl hn⟩
 ·exact ⟨h.1, .inr ⟨g, cap, cur, hv, Nat.le_trans hb hbs, rest⟩⟩) : p := h
end Go.Proofs.YtepkclldbkhanaaGreat
