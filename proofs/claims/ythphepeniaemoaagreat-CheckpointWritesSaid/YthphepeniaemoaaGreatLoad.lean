/- A whole struct loaded out of a block, at once; which cells an event has. Conditions: none. -/
import Derived.Test.YthphepeniaemoaaGreatCel
import Derived.Deep.MidRow
import Derived.Maps.AppendAt
import Derived.Deep.AppendLies
import Derived.Test.YthphepeniaemoaaGreatDot
import Derived.WalkSmall
set_option linter.unusedSimpArgs false
set_option linter.unusedVariables false
set_option linter.unnecessarySimpa false
set_option maxHeartbeats 16000000
set_option maxRecDepth 100000
open Go.Proofs.Tryz
namespace Go.Proofs.YthphepeniaemoaaGreat
open Go.RowKit
theorem iC {P:Program} {ops:Array Oper} {rest:List Oper} {a:Act} {w:World} {Q:Exit->Act->World->Prop} {dst:Option Tmp} {type:TypeId} {pos:String} {after:Array Edge} {guard:Option (Nat×Bool)} (ty:TypeId) (x:Operand)
 (b o:Nat) (cs:List Value) (d:TypeDesc) (hu:P.underlying ty=some d) (hd:d.isRow=true) (hi:(P.info? ty).map (·.size)=some cs.length)
 (hc:w.rangeAt b o cs)
 (hw:Region.wanted ⟨dst,.load ty x,type,pos,after,guard⟩ (yielded ops a.tmps)=true)
 (hx:a.eval x=.pointer (some ⟨b,o,none⟩))
 (h:wpList P ops Q rest (a.put dst (.agg cs.toArray)) w):wpList P ops Q (⟨dst,.load ty x,type,pos,after,guard⟩ :: rest) a w :=
 BigFrame.wpList_want hw fun _ hK=>wp_load_mid ty x rfl b o hx cs d hc hu hd hi (hK _ _ h)
theorem ai {w w':World} {b o:Nat} {cs:List Value} (h:w.rangeAt b o cs) (hb:Below w.heap.size w w'):w'.rangeAt b o cs:=fun j v hv=>kept hb (h j v hv)
def az (e:Ev) (a:Option Addr) (cap:Nat):List Value :=
 [.int .i64 e.dot.a.dev,.int .i64 e.dot.a.inc,.int .i64 e.dot.seq,.int .i64 e.stamp.wall,.int .i64 e.stamp.count,.int .i64 e.stamp.dev,.int .i64 e.kind,.string e.key.name,.string e.key.domain,.string e.key.path,.string e.ck.value,.bool e.ck.hostOnly,.bool e.ck.secure,.bool e.ck.httpOnly,.bool e.ck.persistent,.int .i64 e.ck.expiry,.int .i64 e.ck.creation,.int .i64 e.ck.access,.slice a e.over.length cap]
theorem dU (e:Ev) (a:Option Addr) (cap:Nat) (w:World) (t:TypeId):(w.alloc (Obj.cells #[.int .i64 e.dot.a.dev,.int .i64 e.dot.a.inc,.int .i64 e.dot.seq,.int .i64 e.stamp.wall,.int .i64 e.stamp.count,.int .i64 e.stamp.dev,.int .i64 e.kind,.string e.key.name,.string e.key.domain,.string e.key.path,.string e.ck.value,.bool e.ck.hostOnly,.bool e.ck.secure,.bool e.ck.httpOnly,.bool e.ck.persistent,.int .i64 e.ck.expiry,.int .i64 e.ck.creation,.int .i64 e.ck.access,.slice a e.over.length cap] t)).rangeAt w.heap.size 0 (az e a cap):=by
 intro j v hv;rw [aw,World.cell?_alloc_new];exact (by simpa [az] using hv)
/-- the load of an event that lies in block b -/
theorem bf {ops:Array Oper} {rest:List Oper} {a:Act} {w:World} {Q:Exit->Act->World->Prop} {dst:Option Tmp} {type:TypeId} {pos:String} {after:Array Edge} {guard:Option (Nat×Bool)} (x:Operand)
 (b:Nat) (e:Ev) (ad:Option Addr) (cap:Nat) (hc:w.rangeAt b 0 (az e ad cap))
 (hw:Region.wanted ⟨dst,.load 82 x,type,pos,after,guard⟩ (yielded ops a.tmps)=true)
 (hx:a.eval x=.pointer (some ⟨b,0,none⟩))
 (h:wpList prog ops Q rest (a.put dst (kV e ad cap)) w):wpList prog ops Q (⟨dst,.load 82 x,type,pos,after,guard⟩ :: rest) a w :=
 iC 82 x b 0 (az e ad cap) _ underlying82 rfl (by kernel_rfl) hc hw hx h
theorem bT {P:Program} {ops:Array Oper} {rest:List Oper} {a:Act} {w:World} {Q:Exit->Act->World->Prop} {dst:Option Tmp} {type:TypeId} {pos:String} {after:Array Edge} {guard:Option (Nat×Bool)} (ty:TypeId) (x:Operand)
 (b o:Nat) (cs:List Value) (v:Value) (hv:Value.agg cs.toArray=v) (d:TypeDesc) (hu:P.underlying ty=some d) (hd:d.isRow=true) (hi:(P.info? ty).map (·.size)=some cs.length)
 (hc:w.rangeAt b o cs)
 (hw:Region.wanted ⟨dst,.load ty x,type,pos,after,guard⟩ (yielded ops a.tmps)=true)
 (hx:a.eval x=.pointer (some ⟨b,o,none⟩))
 (h:wpList P ops Q rest (a.put dst v) w):wpList P ops Q (⟨dst,.load ty x,type,pos,after,guard⟩ :: rest) a w :=
 iC ty x b o cs d hu hd hi hc hw hx (by rw [hv];exact h)
/-- an event out of block b, place o -/
theorem dn {ops:Array Oper} {rest:List Oper} {a:Act} {w:World} {Q:Exit->Act->World->Prop} {dst:Option Tmp} {type:TypeId} {pos:String} {after:Array Edge} {guard:Option (Nat×Bool)} (x:Operand)
 (b o:Nat) (e:Ev) (ad:Option Addr) (cap:Nat) (hc:w.rangeAt b o (az e ad cap))
 (hw:Region.wanted ⟨dst,.load 82 x,type,pos,after,guard⟩ (yielded ops a.tmps)=true)
 (hx:a.eval x=.pointer (some ⟨b,o,none⟩))
 (h:wpList prog ops Q rest (a.put dst (kV e ad cap)) w):wpList prog ops Q (⟨dst,.load 82 x,type,pos,after,guard⟩ :: rest) a w :=
 iC 82 x b o (az e ad cap) _ underlying82 rfl (by kernel_rfl) hc hw hx h
/-- append of bytes to a row of bytes of one's own, whatever the source is -/
theorem yf (w:World) (base:Nat) (v:Value) (d:Bytes) (hown:w.ownsRow base 5 1 v d.length (aA d)) (A:Option Addr) (m:Bytes) (c:Nat) (hin:BytesIn w A m)
 (hb:d.length+m.length<=1073741824) (hbase:base<=w.heap.size) :
 ∃ v' w',(Builtin.append_ #[54,54] 54 #[v,.slice A m.length c]).run prog w=.ok v' w'/\w'.ownsRow base 5 1 v' (d++m).length (aA (d++m))/\w.grownBy w' v.ownBlock:=by
 obtain ⟨i0,hi,hz0,hz1,hz2⟩:=info_parts Tryz.infoByte;have key:∀ (ad:Addr),A=some ad->(∀ j u,(aA m)[j]?=some u->w.cell? (ad.add j)=some u)->∃ v' w',(Builtin.append_ #[54,54] 54 #[v,.slice A m.length c]).run prog w=.ok v' w'/\w'.ownsRow base 5 1 v' (d++m).length (aA (d++m))/\w.grownBy w' v.ownBlock:=fun ad hA hn=>by
  obtain ⟨v',w',hrun,h2,h3,_,_⟩:=run_append_own_at (P:=prog) w base 54 54 5 i0 (.int .u8 0) 1 1 underlying54 hi hz0 hz1 hz2 rfl (by decide) v d.length (aA d) hown ad m.length c (aA m) (by simp [aU]) hn (bI m) (by unfold maxLen;omega) (by omega) hbase;exact ⟨v',w',by rw [hA];exact hrun,by rw [bG,av];exact h2,h3⟩
 rcases hin with h0 | ⟨B,off,rfl,hb2⟩
 ·subst h0
  rcases A with _ | ad
  ·refine ⟨v,w,?_,by simpa using hown,World.grownBy.refl w _⟩
   rcases hown.2 with ⟨rfl,h0⟩ | ⟨g,cap,cur,rfl,_,_,hnc,_⟩
   ·simp [Builtin.append_,run_underlying underlying54,sizeOf,typeInfo,hi,Builtin.lenOf,Builtin.firstCells]
   ·simp [Builtin.append_,run_underlying underlying54,sizeOf,typeInfo,hi,Builtin.lenOf,Builtin.firstCells,hnc,storeCells]
  ·exact key ad rfl (fun j u hu=>by simp [aA] at hu)
 ·exact key _ rfl hb2.news
theorem rM {o:Oper} {a:Act} {w:World} {K:Act->World->Prop} {Q:Exit->Act->World->Prop} (s x:Operand)
 (ho:o.op=.call { callee:=.builtin .append,args:=#[s,x],argTypes:=#[54,54] }) (hty:o.type=54)
 (base:Nat) (v:Value) (d:Bytes) (hs:a.eval s=v) (hown:w.ownsRow base 5 1 v d.length (aA d)) (A:Option Addr) (m:Bytes) (c:Nat) (hx:a.eval x=.slice A m.length c) (hin:BytesIn w A m)
 (hb:d.length+m.length<=1073741824) (hbase:base<=w.heap.size)
 (h:∀ v' w',w'.ownsRow base 5 1 v' (d++m).length (aA (d++m))->w.grownBy w' v.ownBlock->K (a.put o.dst v') w'):o.wp prog a w K Q:=by
 obtain ⟨v',w',hrun,h2,h3⟩:=yf w base v d hown A m c hin hb hbase;unfold Oper.wp execOp;simp only [ho,hty,resolve,invoke,builtin,Sem.run_bind,Sem.run_pure,Result.andThen_ok,List.map_toArray,List.map_cons,List.map_nil,hs,hx,hrun];exact h v' w' h2 h3
theorem fA {ops:Array Oper} {rest:List Oper} {o:Oper} {a:Act} {w:World} {Q:Exit->Act->World->Prop} (hgd:o.guard=none) (s x:Operand)
 (ho:o.op=.call { callee:=.builtin .append,args:=#[s,x],argTypes:=#[54,54] }) (hty:o.type=54)
 (base:Nat) (v:Value) (d:Bytes) (hs:a.eval s=v) (hown:w.ownsRow base 5 1 v d.length (aA d)) (A:Option Addr) (m:Bytes) (c:Nat) (hx:a.eval x=.slice A m.length c) (hin:BytesIn w A m)
 (hb:d.length+m.length<=1073741824) (hbase:base<=w.heap.size)
 (h:∀ v' w',w'.ownsRow base 5 1 v' (d++m).length (aA (d++m))->w.grownBy w' v.ownBlock->wpList prog ops Q rest (a.put o.dst v') w'):wpList prog ops Q (o :: rest) a w :=
 wpList_plain hgd fun _ hK=>rM s x ho hty base v d hs hown A m c hx hin hb hbase fun v' w' h2 h3=>hK _ _ (h v' w' h2 h3)
theorem o5 {ops:Array Oper} {o:Oper} {a:Act} {w:World} {K:Act->World->Prop} {Q:Exit->Act->World->Prop} {E:Prop} (hw:Region.wanted o (yielded ops a.tmps)=true) (s x:Operand)
 (ho:o.op=.call { callee:=.builtin .append,args:=#[s,x],argTypes:=#[54,54] }) (hty:o.type=54)
 (base:Nat) (v:Value) (d:Bytes) (hs:a.eval s=v) (hown:w.ownsRow base 5 1 v d.length (aA d)) (A:Option Addr) (m:Bytes) (c:Nat) (hx:a.eval x=.slice A m.length c) (hin:BytesIn w A m)
 (hb:d.length+m.length<=1073741824) (hbase:base<=w.heap.size)
 (h:∀ v' w',w'.ownsRow base 5 1 v' (d++m).length (aA (d++m))->w.grownBy w' v.ownBlock->K (a.put o.dst v') w') :
 if Region.wanted o (yielded ops a.tmps)=true then Oper.wp prog o a w K Q else E:=by
 rw [if_pos hw];exact rM s x ho hty base v d hs hown A m c hx hin hb hbase h
theorem RU {α:Type} {l m:List α} {k:Nat} (h1:k<l.length) (h2:k<m.length) (h:l[k]≠m[k]):l≠m:=fun e=>h (by subst e;rfl)
theorem Np {α:Type} {l m:List α} {k:Nat} (h1:k<l.length) (h2:k<m.length) (hp:l.take k=m.take k) (h:l[k]=m[k]):l.take (k+1)=m.take (k+1):=by
 rw [List.take_succ_eq_append_getElem h1,List.take_succ_eq_append_getElem h2,hp,h]
theorem Pz {α:Type} {l m:List α} {k:Nat} (h1:¬ k<l.length) (h2:¬ k<m.length) (hp:l.take k=m.take k):l=m:=by
 rwa [List.take_of_length_le (by omega),List.take_of_length_le (by omega)] at hp
theorem Uy {α:Type} {l m:List α} (h:¬ l.length=m.length):¬ l=m:=fun e=>h (by rw [e])
theorem AL (a b:Option Addr) (ca cb:Nat) (l m:Bytes) (w:World) (hl:l.length<=1073741824) (hm:m.length<=1073741824) (ha:BytesIn w a l) (hb:BytesIn w b m) :
 Calls prog 47 #[.slice a l.length ca,.slice b m.length cb] w fun x w'=>x=.returned (.bool (decide (l=m)))/\Below w.heap.size w w':=by
 by_cases hlen:l.length=m.length
 ·have hb1:((l.length:Nat) != (m.length:Nat))=false:=by rw [bne_eq_false_iff_eq];exact hlen
  have hb2:((l.length:Int) != (m.length:Int))=false:=by rw [bne_eq_false_iff_eq];omega
  have hl1:l.length<=m.length:=by omega
  have hl2:m.length<=l.length:=by omega
  clear hlen;go_enter func47,ntmps47;go_wp2;go_loopw [5] (fun i wr=>∃ k:Nat,k<=l.length/\i=.int .i64 k/\l.take k=m.take k/\Below w.heap.size w wr) (fun i _=>l.length - (intOf i).toNat)
  case atStart=>exact ⟨0,Nat.zero_le _,rfl,rfl,by go_grown⟩
  case round =>
        obtain ⟨k,hk,rfl,hpre,hbw⟩:=hrel;have HP:=aq hpre;clear hpre;by_cases hlt:k<l.length
        ·have hlm:k<m.length:=by omega
         rcases ha with h | ⟨A,off,rfl,hda⟩
         ·rw [h] at hlt;simp at hlt
         rcases hb with h | ⟨B,ofb,rfl,hdb⟩
         ·rw [h] at hlm;simp at hlm
         have x0:=(hda.below hbw).cell hlt;have y0:=(hdb.below hbw).cell hlm;by_cases he:l[k]=m[k]
         ·have hq:((l[k].toNat:Int) != (m[k].toNat:Int))=false:=by rw [bne_eq_false_iff_eq,he]
          have HS:=aq (Np hlt hlm HP.out he);clear he;generalize l[k]=x at *;generalize m[k]=y at *;go_wp2;go_quiet (fail)
          go_wp2;go_roundw
          case rel=>exact ⟨k+1,by omega,by go_num,HS.out,below_drewN hbw nq⟩
          case measure => exact z67
         ·have HE:Hid (decide (l=m)=false):=aM (RU hlt hlm he)
          have hq:((l[k].toNat:Int) != (m[k].toNat:Int))=true:=by rw [bne_iff_ne];exact fun e=>he (UInt8.toNat_inj.1 (by omega))
          clear he;generalize l[k]=x at *;generalize m[k]=y at *;go_wp2;go_quiet (fail)
          go_wp2;go_ret;exact ⟨aH HE.out.symm,below_drewN hbw nq⟩
        ·have hlm:¬ k<m.length:=by omega
         have HE:Hid (decide (l=m)=true):=aR (Pz hlt hlm HP.out);go_wp2;go_ret;exact ⟨aH HE.out.symm,hbw⟩
 ·have HE:Hid (decide (l=m)=false):=aM (Uy hlen)
  have hb1:((l.length:Nat) != (m.length:Nat))=true:=by rw [bne_iff_ne];exact hlen
  have hb2:((l.length:Int) != (m.length:Int))=true:=by rw [bne_iff_ne];omega
  clear hlen;go_enter func47,ntmps47;go_wp2
  exact z133
theorem z39 {p : Prop} (h : p := by
 clear h3
 go_wp2_with (first
  | (go_at_call 157; refine (HD.out _).mono ?_; rintro x w1 ⟨rfl, hb⟩; replace q0 := kept hb q0; replace q1 := kept hb q1; replace q2 := kept hb q2; replace q3 := kept hb q3; replace q4 := kept hb q4; replace q5 := kept hb q5; replace q18 := kept hb q18; replace hR := ai hR hb; replace hbt := below2 hbt hb)
  | (go_at_call 33; refine (HS.out _).mono ?_; rintro x w1 ⟨rfl, hb⟩; replace q0 := kept hb q0; replace q1 := kept hb q1; replace q2 := kept hb q2; replace q3 := kept hb q3; replace q4 := kept hb q4; replace q5 := kept hb q5; replace q18 := kept hb q18; replace hR := ai hR hb; replace hbt := below2 hbt hb))
 go_ret
 exact ⟨aH HE.out.symm, hbt⟩) : p := h
theorem y2 {p q : Prop} (k : q) (h : PLift q -> p := by
 intro kk
 refine y62 ?_
 intro W2 hW2 a0 a1 a2
 have b0 : ∀ i : After W2, i.w.cell? ⟨w.heap.size, 0, none⟩ = some (.int .i64 e.dot.a.dev) := fun i => i.cell (by rw [hW2.out]; exact hw0)
 have b1 : ∀ i : After W2, i.w.cell? ⟨w.heap.size, 1, none⟩ = some (.int .i64 e.dot.a.inc) := fun i => i.cell (by rw [hW2.out]; exact hw1)
 have b2 : ∀ i : After W2, i.w.cell? ⟨w.heap.size, 2, none⟩ = some (.int .i64 e.dot.seq) := fun i => i.cell (by rw [hW2.out]; exact hw2)
 have b18 : ∀ i : After W2, i.w.cell? ⟨w.heap.size, 18, none⟩ = some (.slice (some ⟨A, off, none⟩) e.over.length cap) := fun i => i.cell (by rw [hW2.out]; exact zO)
 revert W2 hW2 a0 a1 a2 b0 b1 b2 b18
 exact kk.down) : p := h ⟨k⟩
theorem z14 {p : Prop} (h : p := by
 clear h4 hT2
 refine y2 ?_
 intro W2 hW2 a0 a1 a2 b0 b1 b2 b18
 skip
 refine y10 ?_
 rintro _ ⟨i, rfl⟩
 have hib := i.h
 clear a0 a1 a2 b0 b1 b2 b18
 skip
 generalize i.w = wi at hib ⊢
 rw [hW2.out] at hib
 go_wp2
 go_roundw
 case rel => exact ⟨k + 1, by omega, by go_num, HE.out, ny hbw hB1 hib⟩
 case measure => simp [intOf] <;> omega) : p := h
theorem z88 {p : Prop} (h : p := by
 generalize i.w = wi at hib ⊢
 rw [hW2.out] at hib
 go_wp2
 go_ret
 exact ⟨aH (HEV.out HE.out).symm, hb0.trans ((ny hbw hB1 hib).mono (by omega))⟩) : p := h
theorem z62 {p : Prop} (h : p := by
 clear h4 hT2
 refine y2 ?_
 intro W2 hW2 a0 a1 a2 b0 b1 b2 b18
 exact z8) : p := h
theorem zM (e:Ev) (a:Option Addr) (cap:Nat) (w:World) (hs:EvSmall e) (qm:DotsIn w a e.over) :
 Calls prog 111 #[kV e a cap] w fun x w'=>x=.returned (.bool (dm e))/\Below w.heap.size w w':=by
 have HV:Hid (dm e=(bn e.dot && (dI e.stamp && (decide (e.stamp.dev=e.dot.a.dev) && (overOk e.dot e.over && kindOk e))))):=rfl;have HD0:=fun (W:World)=>pJ e.dot W;have HS0:=fun (W:World)=>rQ e.stamp W;have HC0:=aq (fun (W:World)=>FM e.key e.ck e.ck.persistent rfl W hs.name hs.domain hs.value);have hq0:∀ W:World,(Op.equalIn 10000 183 (.agg #[.string e.key.name,.string e.key.domain,.string e.key.path,.string e.ck.value,.bool e.ck.hostOnly,.bool e.ck.secure,.bool e.ck.httpOnly,.bool e.ck.persistent,.int .i64 e.ck.expiry,.int .i64 e.ck.creation,.int .i64 e.ck.access]) (.agg #[.string ⟨#[]⟩,.string ⟨#[]⟩,.string ⟨#[]⟩,.string ⟨#[]⟩,.bool false,.bool false,.bool false,.bool false,.int .i64 0,.int .i64 0,.int .i64 0])).run prog W=.ok (decide (e.key=eQ) && decide (e.ck=ck0)) W:=fun W=>QK W 9997 e.key eQ e.ck ck0;have hk0:kindOk e=if e.kind=2 then (decide (e.key=eQ) && decide (e.ck=ck0)) && decide (0<e.over.length) else if e.kind=1 then gq e.key e.ck else false:=rfl
 have HQ:=aq hq0;have HK:=aq hk0;clear hq0 hk0;have hol:=hs.over;go_enter func111,ntmps111;go_upto_region 1 with fail
 refine aI (fun W hW=>?_);have hbt:Below w.heap.size w W:=by rw [hW.out];go_grown
 have hz:w.heap.size<W.heap.size:=by rw [hW.out];simp
 have q0:W.cell? ⟨w.heap.size,0,none⟩=some (.int .i64 e.dot.a.dev):=by rw [hW.out];go_simp
 have q1:W.cell? ⟨w.heap.size,1,none⟩=some (.int .i64 e.dot.a.inc):=by rw [hW.out];go_simp
 have q2:W.cell? ⟨w.heap.size,2,none⟩=some (.int .i64 e.dot.seq):=by rw [hW.out];go_simp
 have q3:W.cell? ⟨w.heap.size,3,none⟩=some (.int .i64 e.stamp.wall):=by rw [hW.out];go_simp
 have q4:W.cell? ⟨w.heap.size,4,none⟩=some (.int .i64 e.stamp.count):=by rw [hW.out];go_simp
 have q5:W.cell? ⟨w.heap.size,5,none⟩=some (.int .i64 e.stamp.dev):=by rw [hW.out];go_simp
 have q18:W.cell? ⟨w.heap.size,18,none⟩=some (.slice a e.over.length cap):=by rw [hW.out];go_simp
 have hR:W.rangeAt w.heap.size 0 (az e a cap):=by rw [hW.out];exact dU e a cap w _
 clear hW
 cases h1:bn e.dot with
 | false =>
   have HE:Hid (dm e=false):=by rw [Hid,HV.out,h1];rfl
   rw [h1] at HD0;have HD:=aq HD0;have HS:=aq HS0;clear HD0 HS0;go_wp2_with (first
    | (go_at_call 157;refine (HD.out _).mono ?_;rintro x w1 ⟨rfl,hb⟩;replace q0:=kept hb q0;replace q1:=kept hb q1;replace q2:=kept hb q2;replace q3:=kept hb q3;replace q4:=kept hb q4;replace q5:=kept hb q5;replace q18:=kept hb q18;replace hR:=ai hR hb;replace hbt:=below2 hbt hb)
    | (go_at_call 33;refine (HS.out _).mono ?_;rintro x w1 ⟨rfl,hb⟩;replace q0:=kept hb q0;replace q1:=kept hb q1;replace q2:=kept hb q2;replace q3:=kept hb q3;replace q4:=kept hb q4;replace q5:=kept hb q5;replace q18:=kept hb q18;replace hR:=ai hR hb;replace hbt:=below2 hbt hb))
   go_ret;exact ⟨aH HE.out.symm,hbt⟩
 | true =>
   rw [h1] at HD0;have HD:=aq HD0;clear HD0
   cases h2:dI e.stamp with
   | false =>
     have HE:Hid (dm e=false):=by rw [Hid,HV.out,h1,h2];rfl
     rw [h2] at HS0;have HS:=aq HS0;clear HS0;go_wp2_with (first
        | (go_at_call 157;refine (HD.out _).mono ?_;rintro x w1 ⟨rfl,hb⟩;replace q0:=kept hb q0;replace q1:=kept hb q1;replace q2:=kept hb q2;replace q3:=kept hb q3;replace q4:=kept hb q4;replace q5:=kept hb q5;replace q18:=kept hb q18;replace hR:=ai hR hb;replace hbt:=below2 hbt hb)
        | (go_at_call 33;refine (HS.out _).mono ?_;rintro x w1 ⟨rfl,hb⟩;replace q0:=kept hb q0;replace q1:=kept hb q1;replace q2:=kept hb q2;replace q3:=kept hb q3;replace q4:=kept hb q4;replace q5:=kept hb q5;replace q18:=kept hb q18;replace hR:=ai hR hb;replace hbt:=below2 hbt hb))
     go_ret;exact ⟨aH HE.out.symm,hbt⟩
   | true =>
     rw [h2] at HS0;have HS:=aq HS0;clear HS0;by_cases h3:e.stamp.dev=e.dot.a.dev
     ·have h3':(e.stamp.dev != e.dot.a.dev)=false:=by rw [bne_eq_false_iff_eq];exact h3
      by_cases h64:e.over.length<=64
      ·have HEV:Hid (overOk e.dot e.over=false->dm e=false):=fun h=>by rw [HV.out,h1,h2,aR h3,h];rfl
       have HEK:Hid (overOk e.dot e.over=true->dm e=kindOk e):=fun h=>by rw [HV.out,h1,h2,aR h3,h];rfl
       have HO:Hid (overOk e.dot e.over=dh e.dot (bu e.over 0) (e.over.drop 0)):=by unfold Hid overOk;simp [h64,bu]
       clear h3;go_upto_block 0 with (first
        | (go_at_call 157;refine (HD.out _).mono ?_;rintro x w1 ⟨rfl,hb⟩;replace q0:=kept hb q0;replace q1:=kept hb q1;replace q2:=kept hb q2;replace q3:=kept hb q3;replace q4:=kept hb q4;replace q5:=kept hb q5;replace q18:=kept hb q18;replace hR:=ai hR hb;replace hbt:=below2 hbt hb)
        | (go_at_call 33;refine (HS.out _).mono ?_;rintro x w1 ⟨rfl,hb⟩;replace q0:=kept hb q0;replace q1:=kept hb q1;replace q2:=kept hb q2;replace q3:=kept hb q3;replace q4:=kept hb q4;replace q5:=kept hb q5;replace q18:=kept hb q18;replace hR:=ai hR hb;replace hbt:=below2 hbt hb))
       refine aI (fun W0 hW0=>?_);rw [<- hW0.out] at q0 q1 q2 q18 hR hbt;have hz0:w.heap.size<W0.heap.size:=World.block_lt_of_cell? W0 _ q0;have hb0:=hbt;have VI:=qm.kept hbt;have c0:=q0;have c1:=q1;have c2:=q2;have c18:=q18;clear hW0 q0 q1 q2 q18 q3 q4 q5 qm hbt;go_wp2;go_loopw [3] (fun i wr=>∃ k:Nat,k<=e.over.length/\i=.int .i64 k/\overOk e.dot e.over=dh e.dot (bu e.over k) (e.over.drop k)/\Below W0.heap.size W0 wr) (fun i _=>e.over.length - (intOf i).toNat)
       case atStart=>exact ⟨0,Nat.zero_le _,rfl,HO.out,bh _ _⟩
       case round =>
        obtain ⟨k,hk,rfl,hpre,hbw⟩:=hrel;have HP:=aq hpre;clear hpre;have hbw':=hbw;by_cases hlt:k<e.over.length
        ·rcases VI with h | ⟨A,off,rfl,hd0⟩
         ·rw [h] at hlt;simp at hlt
         ·have hdr:=hd0.kept hbw'
          have e0:=hdr.dev k hlt;have e1:=hdr.inc k hlt;have e2:=hdr.seq k hlt;have hst:=uS e.dot e.over k hlt;have HT:Hid (overOk e.dot e.over=(jS e.dot (bu e.over k) e.over[k] && dh e.dot (bu e.over (k+1)) (e.over.drop (k+1)))):=by rw [Hid,HP.out,hst]
          clear hst HP;generalize e.over[k]=x at e0 e1 e2 HT;have hw0:=kept hbw' c0;have hw1:=kept hbw' c1;have hw2:=kept hbw' c2;have zO:=kept hbw' c18;go_wp2;refine aI (fun W1 hW1=>?_);have hB1:Below wr.heap.size wr W1:=by rw [hW1.out];go_grown
          refine y19 ?_
          intro x0 x1 x2
          replace hw0:=kept hB1 hw0;replace hw1:=kept hB1 hw1;replace hw2:=kept hB1 hw2;replace zO:=kept hB1 zO;replace hdr:=hdr.kept hB1;clear hW1 e0 e1 e2 c0 c1 c2 c18;have hR0:=fun (W:World)=>pJ x W;have yx:=fun (W:World)=>uB W 9998 x.a e.dot.a;have hm:=kM
          cases h1:bn x with
          | false =>
            have HE:Hid (overOk e.dot e.over=false):=by rw [Hid,HT.out];unfold jS;rw [h1];simp
            rw [h1] at hR0;have HR:=aq hR0;clear hR0 yx h1;refine aN (by kernel_rfl) (by kernel_rfl) (fun W2 hW2=>?_);have a0:∀ i:After W2,i.w.cell? ⟨wr.heap.size,0,none⟩=some (.int .i64 x.a.dev):=fun i=>i.cell (by rw [hW2.out];exact x0);have a1:∀ i:After W2,i.w.cell? ⟨wr.heap.size,1,none⟩=some (.int .i64 x.a.inc):=fun i=>i.cell (by rw [hW2.out];exact x1);have a2:∀ i:After W2,i.w.cell? ⟨wr.heap.size,2,none⟩=some (.int .i64 x.seq):=fun i=>i.cell (by rw [hW2.out];exact x2);have b0:∀ i:After W2,i.w.cell? ⟨w.heap.size,0,none⟩=some (.int .i64 e.dot.a.dev):=fun i=>i.cell (by rw [hW2.out];exact hw0);have b1:∀ i:After W2,i.w.cell? ⟨w.heap.size,1,none⟩=some (.int .i64 e.dot.a.inc):=fun i=>i.cell (by rw [hW2.out];exact hw1);have b2:∀ i:After W2,i.w.cell? ⟨w.heap.size,2,none⟩=some (.int .i64 e.dot.seq):=fun i=>i.cell (by rw [hW2.out];exact hw2);have b18:∀ i:After W2,i.w.cell? ⟨w.heap.size,18,none⟩=some (.slice (some ⟨A,off,none⟩) e.over.length cap):=fun i=>i.cell (by rw [hW2.out];exact zO);skip
            go_big_quiet_step (fail)
            go_big_quiet_step (exact Calls.after (HR.out _))
            iterate 12 go_big_quiet_step (fail)
            go_big_quiet_step (exact Calls.after (HLT.out _))
            iterate 19 go_big_quiet_step (fail)
            refine wpQuiet_nil ?_;rintro _ ⟨i,rfl⟩;have hib:=i.h;clear a0 a1 a2 b0 b1 b2 b18;skip
            generalize i.w=wi at hib ⊢;rw [hW2.out] at hib;go_wp2;go_ret;exact ⟨aH (HEV.out HE.out).symm,hb0.trans ((ny hbw hB1 hib).mono (by omega))⟩
          | true =>
            rw [h1] at hR0;have HR:=aq hR0;clear hR0;rcases Nat.eq_zero_or_pos k with hk0 | hk0
            ·refine y75 ?_
             intro Ou hdk
             have hT2:Hid (overOk e.dot e.over=(!(decide (x.a=e.dot.a) && decide (e.dot.seq<=x.seq)) && dh e.dot (bu e.over (k+1)) (e.over.drop (k+1)))):=by
              rw [Hid,HT.out];unfold jS;rw [h1];subst hk0;simp [bu]
             clear HT h1 hk0;by_cases h4:x.a=e.dot.a
             ·rw [aR h4] at yx
              by_cases h5:e.dot.seq<=x.seq
              ·have HE:Hid (overOk e.dot e.over=false):=by rw [Hid,hT2.out];simp [h4,h5]
               clear h4 hT2
               refine y2 ?_
               intro W2 hW2 a0 a1 a2 b0 b1 b2 b18
               skip
               refine y10 ?_
               rintro _ ⟨i,rfl⟩;have hib:=i.h;clear a0 a1 a2 b0 b1 b2 b18;skip
               exact z88
              ·have HE:Hid (overOk e.dot e.over=dh e.dot (bu e.over (k+1)) (e.over.drop (k+1))):=by rw [Hid,hT2.out];simp [h5]
               exact z14
             ·rw [aM h4] at yx
              have HE:Hid (overOk e.dot e.over=dh e.dot (bu e.over (k+1)) (e.over.drop (k+1))):=by rw [Hid,hT2.out];simp [h4]
              exact z14
            ·obtain ⟨j,rfl⟩:∃ j,k=j+1:=⟨k - 1,by omega⟩
             have hj:j<e.over.length:=by omega
             have f0:=hdr.dev j hj;have f1:=hdr.inc j hj;have f2:=hdr.seq j hj;have hpv:bu e.over (j+1)=some e.over[j]:=by simp [bu,hj]
             have hT1:Hid (overOk e.dot e.over=(cu e.over[j] x && (!(decide (x.a=e.dot.a) && decide (e.dot.seq<=x.seq)) && dh e.dot (bu e.over (j+1+1)) (e.over.drop (j+1+1))))):=by
              rw [Hid,HT.out,hpv];unfold jS;rw [h1];simp [Bool.and_assoc]
             have yw:=fun (W:World)=>yg e.over[j] x W;generalize e.over[j]=y at *
             refine y23 ?_
             intro hdk hww
             clear HT h1 hpv hdr hd0
             cases h2:cu y x with
             | false =>
               have HE:Hid (overOk e.dot e.over=false):=by rw [Hid,hT1.out,h2];rfl
               rw [h2] at yw;have HLT:=aq yw;clear yw yx h2 hT1;refine aN (by kernel_rfl) (by kernel_rfl) (fun W2 hW2=>?_);have a0:∀ i:After W2,i.w.cell? ⟨wr.heap.size,0,none⟩=some (.int .i64 x.a.dev):=fun i=>i.cell (by rw [hW2.out];exact x0);have a1:∀ i:After W2,i.w.cell? ⟨wr.heap.size,1,none⟩=some (.int .i64 x.a.inc):=fun i=>i.cell (by rw [hW2.out];exact x1);have a2:∀ i:After W2,i.w.cell? ⟨wr.heap.size,2,none⟩=some (.int .i64 x.seq):=fun i=>i.cell (by rw [hW2.out];exact x2);have b0:∀ i:After W2,i.w.cell? ⟨w.heap.size,0,none⟩=some (.int .i64 e.dot.a.dev):=fun i=>i.cell (by rw [hW2.out];exact hw0);have b1:∀ i:After W2,i.w.cell? ⟨w.heap.size,1,none⟩=some (.int .i64 e.dot.a.inc):=fun i=>i.cell (by rw [hW2.out];exact hw1);have b2:∀ i:After W2,i.w.cell? ⟨w.heap.size,2,none⟩=some (.int .i64 e.dot.seq):=fun i=>i.cell (by rw [hW2.out];exact hw2);have b18:∀ i:After W2,i.w.cell? ⟨w.heap.size,18,none⟩=some (.slice (some ⟨A,off,none⟩) e.over.length cap):=fun i=>i.cell (by rw [hW2.out];exact zO);have g0:∀ i:After W2,i.w.cell? ⟨A,off+j * 3,none⟩=some (.int .i64 y.a.dev):=fun i=>i.cell (by rw [hW2.out];exact f0);have g1:∀ i:After W2,i.w.cell? ⟨A,off+j * 3+1,none⟩=some (.int .i64 y.a.inc):=fun i=>i.cell (by rw [hW2.out];exact f1);have g2:∀ i:After W2,i.w.cell? ⟨A,off+j * 3+2,none⟩=some (.int .i64 y.seq):=fun i=>i.cell (by rw [hW2.out];exact f2);go_big_quiet_step (fail)
               go_big_quiet_step (exact Calls.after (HR.out _))
               iterate 12 go_big_quiet_step (fail)
               go_big_quiet_step (exact Calls.after (HLT.out _))
               iterate 19 go_big_quiet_step (fail)
               refine wpQuiet_nil ?_;rintro _ ⟨i,rfl⟩;have hib:=i.h;clear a0 a1 a2 b0 b1 b2 b18;clear g0 g1 g2 hww;generalize i.w=wi at hib ⊢;rw [hW2.out] at hib;go_wp2;go_ret;exact ⟨aH (HEV.out HE.out).symm,hb0.trans ((ny hbw hB1 hib).mono (by omega))⟩
             | true =>
               have hT2:Hid (overOk e.dot e.over=(!(decide (x.a=e.dot.a) && decide (e.dot.seq<=x.seq)) && dh e.dot (bu e.over (j+1+1)) (e.over.drop (j+1+1)))):=by
                        rw [Hid,hT1.out,h2];rfl
               rw [h2] at yw;have HLT:=aq yw;clear yw h2 hT1;by_cases h4:x.a=e.dot.a
               ·rw [aR h4] at yx
                by_cases h5:e.dot.seq<=x.seq
                ·have HE:Hid (overOk e.dot e.over=false):=by rw [Hid,hT2.out];simp [h4,h5]
                 clear h4 hT2
                 refine y2 ?_
                 intro W2 hW2 a0 a1 a2 b0 b1 b2 b18
                 refine y20 ?_
                 intro g0 g1 g2
                 refine y10 ?_
                 rintro _ ⟨i,rfl⟩;have hib:=i.h;clear a0 a1 a2 b0 b1 b2 b18;clear g0 g1 g2 hww
                 exact z88
                ·have HE:Hid (overOk e.dot e.over=dh e.dot (bu e.over (j+1+1)) (e.over.drop (j+1+1))):=by rw [Hid,hT2.out];simp [h5]
                 exact z62
               ·rw [aM h4] at yx
                have HE:Hid (overOk e.dot e.over=dh e.dot (bu e.over (j+1+1)) (e.over.drop (j+1+1))):=by rw [Hid,hT2.out];simp [h4]
                exact z62
        ·have HEE:=aq (HEK.out (by rw [HP.out,List.drop_eq_nil_of_le (by omega)];rfl))
         have zO:=kept hbw' c18;have hRw:=ai hR hbw';have hbt:=below2 hb0 hbw';have q6:wr.cell? ⟨w.heap.size,6,none⟩=some (.int .i64 e.kind):=by have:=hRw 6 _ rfl;exact this
         have q7:wr.cell? ⟨w.heap.size,7,none⟩=some (.string e.key.name):=by have:=hRw 7 _ rfl;exact this
         have q8:wr.cell? ⟨w.heap.size,8,none⟩=some (.string e.key.domain):=by have:=hRw 8 _ rfl;exact this
         have q9:wr.cell? ⟨w.heap.size,9,none⟩=some (.string e.key.path):=by have:=hRw 9 _ rfl;exact this
         have q10:wr.cell? ⟨w.heap.size,10,none⟩=some (.string e.ck.value):=by have:=hRw 10 _ rfl;exact this
         have q11:wr.cell? ⟨w.heap.size,11,none⟩=some (.bool e.ck.hostOnly):=by have:=hRw 11 _ rfl;exact this
         have q12:wr.cell? ⟨w.heap.size,12,none⟩=some (.bool e.ck.secure):=by have:=hRw 12 _ rfl;exact this
         have q13:wr.cell? ⟨w.heap.size,13,none⟩=some (.bool e.ck.httpOnly):=by have:=hRw 13 _ rfl;exact this
         have q14:wr.cell? ⟨w.heap.size,14,none⟩=some (.bool e.ck.persistent):=by have:=hRw 14 _ rfl;exact this
         have q15:wr.cell? ⟨w.heap.size,15,none⟩=some (.int .i64 e.ck.expiry):=by have:=hRw 15 _ rfl;exact this
         have q16:wr.cell? ⟨w.heap.size,16,none⟩=some (.int .i64 e.ck.creation):=by have:=hRw 16 _ rfl;exact this
         have q17:wr.cell? ⟨w.heap.size,17,none⟩=some (.int .i64 e.ck.access):=by have:=hRw 17 _ rfl;exact this
         have hkd:=HK.out;have hzr:w.heap.size<wr.heap.size:=by have:=hbw.size;omega
         have hzn:¬ w.heap.size=wr.heap.size:=by omega
         have XJ:¬ wr.heap.size=w.heap.size:=by omega
         have hm:=yY;have hk':e.over.length<=k:=by omega
         clear HP hRw hlt HO HEV HEK VI c0 c1 c2 c18;by_cases hk1:e.kind=1
         ·have e1:(e.kind == 1)=true:=beq_iff_eq.2 hk1
          have HE:Hid (dm e=gq e.key e.ck):=by rw [Hid,HEE.out,hkd,if_neg (by omega),if_pos hk1]
          clear hk1 hkd;go_wp2_with (go_at_call 159;refine (HC0.out _).mono ?_;rintro x w9 ⟨rfl,hb9⟩)
          go_ret;exact ⟨aH HE.out.symm,below2 (below2 hbt (by go_grown)) hb9⟩
         ·have e1:(e.kind == 1)=false:=beq_eq_false_iff_ne.2 hk1
          have hqq:=HQ.out;by_cases hk2:e.kind=2
          ·rw [if_pos hk2] at hkd
           have e2:(e.kind == 2)=true:=beq_iff_eq.2 hk2
           cases hz0:decide (e.key=eQ) && decide (e.ck=ck0) with
           | false =>
             have HE:Hid (dm e=false):=by rw [Hid,HEE.out,hkd,hz0];rfl
             rw [hz0] at hqq;clear hk1 hk2 hkd hz0;go_wp2;go_ret;exact ⟨aH HE.out.symm,below2 hbt (by go_grown)⟩
           | true =>
             have HE:Hid (dm e=decide (0<e.over.length)):=by rw [Hid,HEE.out,hkd,hz0];rfl
             rw [hz0] at hqq;clear hk1 hk2 hkd hz0;go_wp2;go_ret;exact ⟨aH (by first | (rw [HE.out];done) | (rw [HE.out];rfl) | (rw [HE.out,Bool.eq_iff_iff];simp)),below2 hbt (by go_grown)⟩
          ·have HE:Hid (dm e=false):=by rw [Hid,HEE.out,hkd,if_neg hk2,if_neg hk1]
           have e2:(e.kind == 2)=false:=beq_eq_false_iff_ne.2 hk2;clear hk1 hk2 hkd;go_wp2;go_ret;exact ⟨aH HE.out.symm,below2 hbt (by go_grown)⟩
      ·have HE:Hid (dm e=false):=by rw [Hid,HV.out];unfold overOk;simp [h64]
       exact z39
     ·have h3':(e.stamp.dev != e.dot.a.dev)=true:=by rw [bne_iff_ne];exact h3
      have HE:Hid (dm e=false):=by rw [Hid,HV.out,aM h3];simp
      exact z39
def lW (e:Ev):Bool:=decide (e.over.length<=100) && (decide (e.key.name.size<=2000) && (decide (e.key.domain.size<=2000) && (decide (e.key.path.size<=2000) && decide (e.ck.value.size<=2000))))
theorem Ii {e:Ev} (h:lW e=true):EvSmall e:=by
 unfold lW at h;simp only [Bool.and_eq_true,decide_eq_true_eq] at h;obtain ⟨h1,h2,h3,h4,h5⟩:=h;exact ⟨by omega,by omega,by omega,by omega,by omega⟩
theorem z41 {p : Prop} (h : p := by
 go_enter func21, ntmps21
 go_wp2
 go_ret
 exact ⟨aH (by first | exact HE.out.symm | (rw [HE.out]; simp; omega)), by go_grown⟩) : p := h
theorem Pi (e:Ev) (a:Option Addr) (cap:Nat) (w:World) (hol:e.over.length<=maxLen) (h7:e.key.name.size<=maxLen) (h8:e.key.domain.size<=maxLen) (h9:e.key.path.size<=maxLen) (h10:e.ck.value.size<=maxLen) :
 Calls prog 21 #[kV e a cap] w fun x w'=>x=.returned (.bool (lW e))/\Below w.heap.size w w':=by
 unfold maxLen at hol h7 h8 h9 h10;have HL:Hid (lW e=(decide (e.over.length<=100) && (decide (e.key.name.size<=2000) && (decide (e.key.domain.size<=2000) && (decide (e.key.path.size<=2000) && decide (e.ck.value.size<=2000)))))):=rfl;by_cases t0:e.over.length<=100
 ·skip
  by_cases t1:e.key.name.size<=2000
  ·skip
   by_cases t2:e.key.domain.size<=2000
   ·skip
    by_cases t3:e.key.path.size<=2000
    ·skip
     by_cases t4:e.ck.value.size<=2000
     ·skip
      have HE:Hid (lW e=true):=by rw [Hid,HL.out];simp [t0,t1,t2,t3,t4]
      exact z41
     ·have d4:decide (e.ck.value.size<=2000)=false:=aM t4
      have HE:Hid (lW e=false):=by rw [Hid,HL.out];simp [t0,t1,t2,t3,t4]
      exact z41
    ·have d3:decide (e.key.path.size<=2000)=false:=aM t3
     have HE:Hid (lW e=false):=by rw [Hid,HL.out];simp [t0,t1,t2,t3]
     exact z41
   ·have d2:decide (e.key.domain.size<=2000)=false:=aM t2
    have HE:Hid (lW e=false):=by rw [Hid,HL.out];simp [t0,t1,t2]
    exact z41
  ·have d1:decide (e.key.name.size<=2000)=false:=aM t1
   have HE:Hid (lW e=false):=by rw [Hid,HL.out];simp [t0,t1]
   exact z41
 ·have d0:decide (e.over.length<=100)=false:=aM t0
  have HE:Hid (lW e=false):=by rw [Hid,HL.out];simp [t0]
  exact z41
theorem z5 {p : Prop} (h : p := by
 have HD := aq HD0
 have HS := aq HS0
 have HO := aq HO0
 have HC := aq HC0
 clear HD0 HS0 HO0 HC0 hk0
 go_wp2_with (first
  | ((with_reducible refine bf _ w.heap.size e a cap hR ?_ rfl ?_); exact rfl)
  | (go_at_call 104; refine (HD.out _).mono ?_; rintro x w1 ⟨rfl, hb⟩; replace q0 := kept hb q0; replace q1 := kept hb q1; replace q2 := kept hb q2; replace q3 := kept hb q3; replace q4 := kept hb q4; replace q5 := kept hb q5; replace q6 := kept hb q6; replace q18 := kept hb q18; replace hR := ai hR hb; replace hbt := below2 hbt hb; replace ho := ho.kept hb)
  | (go_at_call 105; refine (HS.out _).mono ?_; rintro x w1 ⟨rfl, hb⟩; replace q0 := kept hb q0; replace q1 := kept hb q1; replace q2 := kept hb q2; replace q3 := kept hb q3; replace q4 := kept hb q4; replace q5 := kept hb q5; replace q6 := kept hb q6; replace q18 := kept hb q18; replace hR := ai hR hb; replace hbt := below2 hbt hb; replace ho := ho.kept hb)
  | (go_at_call 106; refine (HO.out _ ho).mono ?_; rintro x w1 ⟨rfl, hb⟩; replace q0 := kept hb q0; replace q1 := kept hb q1; replace q2 := kept hb q2; replace q3 := kept hb q3; replace q4 := kept hb q4; replace q5 := kept hb q5; replace q6 := kept hb q6; replace q18 := kept hb q18; replace hR := ai hR hb; replace hbt := below2 hbt hb)
  | (go_at_call 107; refine (HI.out _).mono ?_; rintro x w1 ⟨rfl, hb⟩; replace q0 := kept hb q0; replace q1 := kept hb q1; replace q2 := kept hb q2; replace q3 := kept hb q3; replace q4 := kept hb q4; replace q5 := kept hb q5; replace q6 := kept hb q6; replace q18 := kept hb q18; replace hR := ai hR hb; replace hbt := below2 hbt hb)
  | (go_at_call 108; refine (HC.out _).mono ?_; rintro x w1 ⟨rfl, hb⟩; replace q0 := kept hb q0; replace q1 := kept hb q1; replace q2 := kept hb q2; replace q3 := kept hb q3; replace q4 := kept hb q4; replace q5 := kept hb q5; replace q6 := kept hb q6; replace q18 := kept hb q18; replace hR := ai hR hb; replace hbt := below2 hbt hb))
 go_ret
 exact ⟨aH HE.out.symm, hbt⟩) : p := h
theorem fQ (e:Ev) (a:Option Addr) (cap:Nat) (w:World) (hs:EvSmall e) (qm:DotsIn w a e.over) :
 Calls prog 52 #[kV e a cap] w fun x w'=>x=.returned (.bool (dm e))/\Below w.heap.size w w':=by
 have HV:Hid (dm e=(bn e.dot && (dI e.stamp && (decide (e.stamp.dev=e.dot.a.dev) && (overOk e.dot e.over && kindOk e))))):=rfl;have HD0:=fun (W:World)=>ig e.dot W;have HS0:=fun (W:World)=>kW e.stamp W;have HO0:=fun (W:World) (h:DotsIn W a e.over)=>PZ e.dot (.int .i64 e.stamp.wall) (.int .i64 e.stamp.count) (.int .i64 e.stamp.dev) (.int .i64 e.kind) (.string e.key.name) (.string e.key.domain) (.string e.key.path) (.string e.ck.value) (.bool e.ck.hostOnly) (.bool e.ck.secure) (.bool e.ck.httpOnly) (.bool e.ck.persistent) (.int .i64 e.ck.expiry) (.int .i64 e.ck.creation) (.int .i64 e.ck.access) a cap e.over W h hs.over;have HI:=aq (fun (W:World)=>Rz e a cap W);have HC0:=fun (W:World)=>DY e.key e.ck e.ck.persistent rfl W hs.name hs.domain hs.path hs.value;have hq0:∀ W:World,(Op.equalIn 10000 183 (.agg #[.string e.key.name,.string e.key.domain,.string e.key.path,.string e.ck.value,.bool e.ck.hostOnly,.bool e.ck.secure,.bool e.ck.httpOnly,.bool e.ck.persistent,.int .i64 e.ck.expiry,.int .i64 e.ck.creation,.int .i64 e.ck.access]) (.agg #[.string ⟨#[]⟩,.string ⟨#[]⟩,.string ⟨#[]⟩,.string ⟨#[]⟩,.bool false,.bool false,.bool false,.bool false,.int .i64 0,.int .i64 0,.int .i64 0])).run prog W=.ok (decide (e.key=eQ) && decide (e.ck=ck0)) W:=fun W=>QK W 9997 e.key eQ e.ck ck0;have hm:=yY;have hk0:kindOk e=if e.kind=2 then (decide (e.key=eQ) && decide (e.ck=ck0)) && decide (0<e.over.length) else if e.kind=1 then gq e.key e.ck else false:=rfl
 go_enter func52,ntmps52;go_upto_region 1 with fail
 refine aI (fun W hW=>?_);have hbt:Below w.heap.size w W:=by rw [hW.out];go_grown
 have hz:w.heap.size<W.heap.size:=by rw [hW.out];simp
 have q0:W.cell? ⟨w.heap.size,0,none⟩=some (.int .i64 e.dot.a.dev):=by rw [hW.out];go_simp
 have q1:W.cell? ⟨w.heap.size,1,none⟩=some (.int .i64 e.dot.a.inc):=by rw [hW.out];go_simp
 have q2:W.cell? ⟨w.heap.size,2,none⟩=some (.int .i64 e.dot.seq):=by rw [hW.out];go_simp
 have q3:W.cell? ⟨w.heap.size,3,none⟩=some (.int .i64 e.stamp.wall):=by rw [hW.out];go_simp
 have q4:W.cell? ⟨w.heap.size,4,none⟩=some (.int .i64 e.stamp.count):=by rw [hW.out];go_simp
 have q5:W.cell? ⟨w.heap.size,5,none⟩=some (.int .i64 e.stamp.dev):=by rw [hW.out];go_simp
 have q6:W.cell? ⟨w.heap.size,6,none⟩=some (.int .i64 e.kind):=by rw [hW.out];go_simp
 have q18:W.cell? ⟨w.heap.size,18,none⟩=some (.slice a e.over.length cap):=by rw [hW.out];go_simp
 have hR:W.rangeAt w.heap.size 0 (az e a cap):=by rw [hW.out];exact dU e a cap w _
 have ho:=qm.kept hbt;clear hW qm
 cases h1:bn e.dot with
 | false =>
   have HE:Hid (dm e=false):=by rw [Hid,HV.out,h1];rfl
   rw [h1] at HD0;have HD:=aq HD0;have HS:=aq HS0;have HO:=aq HO0;have HC:=aq HC0;clear HD0 HS0 HO0 HC0 hk0;go_wp2_with (first
    | ((with_reducible refine bf _ w.heap.size e a cap hR ?_ rfl ?_);exact rfl)
    | (go_at_call 104;refine (HD.out _).mono ?_;rintro x w1 ⟨rfl,hb⟩;replace q0:=kept hb q0;replace q1:=kept hb q1;replace q2:=kept hb q2;replace q3:=kept hb q3;replace q4:=kept hb q4;replace q5:=kept hb q5;replace q6:=kept hb q6;replace q18:=kept hb q18;replace hR:=ai hR hb;replace hbt:=below2 hbt hb;replace ho:=ho.kept hb)
    | (go_at_call 105;refine (HS.out _).mono ?_;rintro x w1 ⟨rfl,hb⟩;replace q0:=kept hb q0;replace q1:=kept hb q1;replace q2:=kept hb q2;replace q3:=kept hb q3;replace q4:=kept hb q4;replace q5:=kept hb q5;replace q6:=kept hb q6;replace q18:=kept hb q18;replace hR:=ai hR hb;replace hbt:=below2 hbt hb;replace ho:=ho.kept hb)
    | (go_at_call 106;refine (HO.out _ ho).mono ?_;rintro x w1 ⟨rfl,hb⟩;replace q0:=kept hb q0;replace q1:=kept hb q1;replace q2:=kept hb q2;replace q3:=kept hb q3;replace q4:=kept hb q4;replace q5:=kept hb q5;replace q6:=kept hb q6;replace q18:=kept hb q18;replace hR:=ai hR hb;replace hbt:=below2 hbt hb)
    | (go_at_call 107;refine (HI.out _).mono ?_;rintro x w1 ⟨rfl,hb⟩;replace q0:=kept hb q0;replace q1:=kept hb q1;replace q2:=kept hb q2;replace q3:=kept hb q3;replace q4:=kept hb q4;replace q5:=kept hb q5;replace q6:=kept hb q6;replace q18:=kept hb q18;replace hR:=ai hR hb;replace hbt:=below2 hbt hb)
    | (go_at_call 108;refine (HC.out _).mono ?_;rintro x w1 ⟨rfl,hb⟩;replace q0:=kept hb q0;replace q1:=kept hb q1;replace q2:=kept hb q2;replace q3:=kept hb q3;replace q4:=kept hb q4;replace q5:=kept hb q5;replace q6:=kept hb q6;replace q18:=kept hb q18;replace hR:=ai hR hb;replace hbt:=below2 hbt hb))
   go_ret;exact ⟨aH HE.out.symm,hbt⟩
 | true =>
   rw [h1] at HD0
   cases h2:dI e.stamp with
   | false =>
     have HE:Hid (dm e=false):=by rw [Hid,HV.out,h1,h2];rfl
     rw [h2] at HS0;have HD:=aq HD0;have HS:=aq HS0;have HO:=aq HO0;have HC:=aq HC0;clear HD0 HS0 HO0 HC0 hk0;go_wp2_with (first
        | ((with_reducible refine bf _ w.heap.size e a cap hR ?_ rfl ?_);exact rfl)
        | (go_at_call 104;refine (HD.out _).mono ?_;rintro x w1 ⟨rfl,hb⟩;replace q0:=kept hb q0;replace q1:=kept hb q1;replace q2:=kept hb q2;replace q3:=kept hb q3;replace q4:=kept hb q4;replace q5:=kept hb q5;replace q6:=kept hb q6;replace q18:=kept hb q18;replace hR:=ai hR hb;replace hbt:=below2 hbt hb;replace ho:=ho.kept hb)
        | (go_at_call 105;refine (HS.out _).mono ?_;rintro x w1 ⟨rfl,hb⟩;replace q0:=kept hb q0;replace q1:=kept hb q1;replace q2:=kept hb q2;replace q3:=kept hb q3;replace q4:=kept hb q4;replace q5:=kept hb q5;replace q6:=kept hb q6;replace q18:=kept hb q18;replace hR:=ai hR hb;replace hbt:=below2 hbt hb;replace ho:=ho.kept hb)
        | (go_at_call 106;refine (HO.out _ ho).mono ?_;rintro x w1 ⟨rfl,hb⟩;replace q0:=kept hb q0;replace q1:=kept hb q1;replace q2:=kept hb q2;replace q3:=kept hb q3;replace q4:=kept hb q4;replace q5:=kept hb q5;replace q6:=kept hb q6;replace q18:=kept hb q18;replace hR:=ai hR hb;replace hbt:=below2 hbt hb)
        | (go_at_call 107;refine (HI.out _).mono ?_;rintro x w1 ⟨rfl,hb⟩;replace q0:=kept hb q0;replace q1:=kept hb q1;replace q2:=kept hb q2;replace q3:=kept hb q3;replace q4:=kept hb q4;replace q5:=kept hb q5;replace q6:=kept hb q6;replace q18:=kept hb q18;replace hR:=ai hR hb;replace hbt:=below2 hbt hb)
        | (go_at_call 108;refine (HC.out _).mono ?_;rintro x w1 ⟨rfl,hb⟩;replace q0:=kept hb q0;replace q1:=kept hb q1;replace q2:=kept hb q2;replace q3:=kept hb q3;replace q4:=kept hb q4;replace q5:=kept hb q5;replace q6:=kept hb q6;replace q18:=kept hb q18;replace hR:=ai hR hb;replace hbt:=below2 hbt hb))
     go_ret;exact ⟨aH HE.out.symm,hbt⟩
   | true =>
     rw [h2] at HS0;by_cases h3:e.stamp.dev=e.dot.a.dev
     ·have h3':(e.stamp.dev != e.dot.a.dev)=false:=by rw [bne_eq_false_iff_eq];exact h3
      cases h4:overOk e.dot e.over with
      | false =>
        have HE:Hid (dm e=false):=by rw [Hid,HV.out,h1,h2,h4,aR h3];rfl
        rw [h4] at HO0;clear h3;have HD:=aq HD0;have HS:=aq HS0;have HO:=aq HO0;have HC:=aq HC0;clear HD0 HS0 HO0 HC0 hk0;go_wp2_with (first
         | ((with_reducible refine bf _ w.heap.size e a cap hR ?_ rfl ?_);exact rfl)
         | (go_at_call 104;refine (HD.out _).mono ?_;rintro x w1 ⟨rfl,hb⟩;replace q0:=kept hb q0;replace q1:=kept hb q1;replace q2:=kept hb q2;replace q3:=kept hb q3;replace q4:=kept hb q4;replace q5:=kept hb q5;replace q6:=kept hb q6;replace q18:=kept hb q18;replace hR:=ai hR hb;replace hbt:=below2 hbt hb;replace ho:=ho.kept hb)
         | (go_at_call 105;refine (HS.out _).mono ?_;rintro x w1 ⟨rfl,hb⟩;replace q0:=kept hb q0;replace q1:=kept hb q1;replace q2:=kept hb q2;replace q3:=kept hb q3;replace q4:=kept hb q4;replace q5:=kept hb q5;replace q6:=kept hb q6;replace q18:=kept hb q18;replace hR:=ai hR hb;replace hbt:=below2 hbt hb;replace ho:=ho.kept hb)
         | (go_at_call 106;refine (HO.out _ ho).mono ?_;rintro x w1 ⟨rfl,hb⟩;replace q0:=kept hb q0;replace q1:=kept hb q1;replace q2:=kept hb q2;replace q3:=kept hb q3;replace q4:=kept hb q4;replace q5:=kept hb q5;replace q6:=kept hb q6;replace q18:=kept hb q18;replace hR:=ai hR hb;replace hbt:=below2 hbt hb)
         | (go_at_call 107;refine (HI.out _).mono ?_;rintro x w1 ⟨rfl,hb⟩;replace q0:=kept hb q0;replace q1:=kept hb q1;replace q2:=kept hb q2;replace q3:=kept hb q3;replace q4:=kept hb q4;replace q5:=kept hb q5;replace q6:=kept hb q6;replace q18:=kept hb q18;replace hR:=ai hR hb;replace hbt:=below2 hbt hb)
         | (go_at_call 108;refine (HC.out _).mono ?_;rintro x w1 ⟨rfl,hb⟩;replace q0:=kept hb q0;replace q1:=kept hb q1;replace q2:=kept hb q2;replace q3:=kept hb q3;replace q4:=kept hb q4;replace q5:=kept hb q5;replace q6:=kept hb q6;replace q18:=kept hb q18;replace hR:=ai hR hb;replace hbt:=below2 hbt hb))
        go_ret;exact ⟨aH HE.out.symm,hbt⟩
      | true =>
        have HK:Hid (dm e=kindOk e):=by rw [Hid,HV.out,h1,h2,h4,aR h3];rfl
        rw [h4] at HO0;clear h3;by_cases hk2:e.kind=2
        ·rw [if_pos hk2] at hk0
         have e2:(e.kind == 2)=true:=beq_iff_eq.2 hk2;clear hk2
         cases hz0:decide (e.key=eQ) && decide (e.ck=ck0) with
         | false =>
           have HE:Hid (dm e=false):=by rw [Hid,HK.out,hk0,hz0];rfl
           rw [hz0] at hq0;clear hz0;have HD:=aq HD0;have HS:=aq HS0;have HO:=aq HO0;have HC:=aq HC0;clear HD0 HS0 HO0 HC0 hk0;go_wp2_with (first
             | ((with_reducible refine bf _ w.heap.size e a cap hR ?_ rfl ?_);exact rfl)
             | (go_at_call 104;refine (HD.out _).mono ?_;rintro x w1 ⟨rfl,hb⟩;replace q0:=kept hb q0;replace q1:=kept hb q1;replace q2:=kept hb q2;replace q3:=kept hb q3;replace q4:=kept hb q4;replace q5:=kept hb q5;replace q6:=kept hb q6;replace q18:=kept hb q18;replace hR:=ai hR hb;replace hbt:=below2 hbt hb;replace ho:=ho.kept hb)
             | (go_at_call 105;refine (HS.out _).mono ?_;rintro x w1 ⟨rfl,hb⟩;replace q0:=kept hb q0;replace q1:=kept hb q1;replace q2:=kept hb q2;replace q3:=kept hb q3;replace q4:=kept hb q4;replace q5:=kept hb q5;replace q6:=kept hb q6;replace q18:=kept hb q18;replace hR:=ai hR hb;replace hbt:=below2 hbt hb;replace ho:=ho.kept hb)
             | (go_at_call 106;refine (HO.out _ ho).mono ?_;rintro x w1 ⟨rfl,hb⟩;replace q0:=kept hb q0;replace q1:=kept hb q1;replace q2:=kept hb q2;replace q3:=kept hb q3;replace q4:=kept hb q4;replace q5:=kept hb q5;replace q6:=kept hb q6;replace q18:=kept hb q18;replace hR:=ai hR hb;replace hbt:=below2 hbt hb)
             | (go_at_call 107;refine (HI.out _).mono ?_;rintro x w1 ⟨rfl,hb⟩;replace q0:=kept hb q0;replace q1:=kept hb q1;replace q2:=kept hb q2;replace q3:=kept hb q3;replace q4:=kept hb q4;replace q5:=kept hb q5;replace q6:=kept hb q6;replace q18:=kept hb q18;replace hR:=ai hR hb;replace hbt:=below2 hbt hb)
             | (go_at_call 108;refine (HC.out _).mono ?_;rintro x w1 ⟨rfl,hb⟩;replace q0:=kept hb q0;replace q1:=kept hb q1;replace q2:=kept hb q2;replace q3:=kept hb q3;replace q4:=kept hb q4;replace q5:=kept hb q5;replace q6:=kept hb q6;replace q18:=kept hb q18;replace hR:=ai hR hb;replace hbt:=below2 hbt hb))
           go_ret;exact ⟨aH HE.out.symm,hbt⟩
         | true =>
           have HE:Hid (dm e=decide (0<e.over.length)):=by rw [Hid,HK.out,hk0,hz0];rfl
           rw [hz0] at hq0;clear hz0;have HD:=aq HD0;have HS:=aq HS0;have HO:=aq HO0;have HC:=aq HC0;clear HD0 HS0 HO0 HC0 hk0;go_wp2_with (first
             | ((with_reducible refine bf _ w.heap.size e a cap hR ?_ rfl ?_);exact rfl)
             | (go_at_call 104;refine (HD.out _).mono ?_;rintro x w1 ⟨rfl,hb⟩;replace q0:=kept hb q0;replace q1:=kept hb q1;replace q2:=kept hb q2;replace q3:=kept hb q3;replace q4:=kept hb q4;replace q5:=kept hb q5;replace q6:=kept hb q6;replace q18:=kept hb q18;replace hR:=ai hR hb;replace hbt:=below2 hbt hb;replace ho:=ho.kept hb)
             | (go_at_call 105;refine (HS.out _).mono ?_;rintro x w1 ⟨rfl,hb⟩;replace q0:=kept hb q0;replace q1:=kept hb q1;replace q2:=kept hb q2;replace q3:=kept hb q3;replace q4:=kept hb q4;replace q5:=kept hb q5;replace q6:=kept hb q6;replace q18:=kept hb q18;replace hR:=ai hR hb;replace hbt:=below2 hbt hb;replace ho:=ho.kept hb)
             | (go_at_call 106;refine (HO.out _ ho).mono ?_;rintro x w1 ⟨rfl,hb⟩;replace q0:=kept hb q0;replace q1:=kept hb q1;replace q2:=kept hb q2;replace q3:=kept hb q3;replace q4:=kept hb q4;replace q5:=kept hb q5;replace q6:=kept hb q6;replace q18:=kept hb q18;replace hR:=ai hR hb;replace hbt:=below2 hbt hb)
             | (go_at_call 107;refine (HI.out _).mono ?_;rintro x w1 ⟨rfl,hb⟩;replace q0:=kept hb q0;replace q1:=kept hb q1;replace q2:=kept hb q2;replace q3:=kept hb q3;replace q4:=kept hb q4;replace q5:=kept hb q5;replace q6:=kept hb q6;replace q18:=kept hb q18;replace hR:=ai hR hb;replace hbt:=below2 hbt hb)
             | (go_at_call 108;refine (HC.out _).mono ?_;rintro x w1 ⟨rfl,hb⟩;replace q0:=kept hb q0;replace q1:=kept hb q1;replace q2:=kept hb q2;replace q3:=kept hb q3;replace q4:=kept hb q4;replace q5:=kept hb q5;replace q6:=kept hb q6;replace q18:=kept hb q18;replace hR:=ai hR hb;replace hbt:=below2 hbt hb))
           go_ret;exact ⟨aH (by first | (rw [HE.out];done) | (rw [HE.out];rfl) | (rw [HE.out,Bool.eq_iff_iff];simp)),hbt⟩
        ·have e2:(e.kind == 2)=false:=beq_eq_false_iff_ne.2 hk2
         rw [if_neg hk2] at hk0;clear hk2;by_cases hk1:e.kind=1
         ·rw [if_pos hk1] at hk0
          have e1:(e.kind == 1)=true:=beq_iff_eq.2 hk1;clear hk1;have HE:Hid (dm e=gq e.key e.ck):=by rw [Hid,HK.out,hk0]
          exact z5
         ·rw [if_neg hk1] at hk0
          have e1:(e.kind == 1)=false:=beq_eq_false_iff_ne.2 hk1;clear hk1;have HE:Hid (dm e=false):=by rw [Hid,HK.out,hk0]
          exact z5
     ·have h3':(e.stamp.dev != e.dot.a.dev)=true:=by rw [bne_iff_ne];exact h3
      have HE:Hid (dm e=false):=by rw [Hid,HV.out,h1,h2,aM h3];rfl
      clear h3
      exact z5
end Go.Proofs.YthphepeniaemoaaGreat
