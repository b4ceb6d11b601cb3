/- Packages dot and clock, their tests and orders, and the references'. Conditions: none. -/
import Derived.Test.YthphepeniaemoaaGreatChecked
import Derived.Test.YthphepeniaemoaaGreatEq
set_option linter.unusedSimpArgs false
set_option linter.unusedVariables false
set_option linter.unnecessarySimpa false
set_option maxHeartbeats 16000000
set_option maxRecDepth 100000
open Go.Proofs.Tryz
namespace Go.Proofs.YthphepeniaemoaaGreat
open Go.RowKit
theorem Oq (a:Int) (w:World) :
 Calls prog 263 #[.int .i64 a] w fun e w'=>e=.returned (.bool false)/\w=w':=by
 go_enter func263,ntmps263;go_wp2;go_ret;exact ⟨aH (by simp),rfl⟩
theorem pF (a b:Int) (w:World) :
 Calls prog 233 #[.int .i64 a,.int .i64 b] w fun e w'=>e=.returned (.int .i64 (rY a b))/\w=w':=by
 go_enter func233,ntmps233;go_wp2_with (go_at_call 263;refine (Oq _ _).mono ?_;rintro e w1 ⟨rfl,rfl⟩)
 all_goals
  go_ret;exact ⟨eH (by unfold rY;split <;> (try split) <;> omega),rfl⟩
theorem FQ (a b:Int) (A:Nat) (w:World) (h0:w.cell? ⟨A,0,none⟩=some (.int .i64 a)) (h1:w.cell? ⟨A,1,none⟩=some (.int .i64 b)) :
 Calls prog 230 #[.slice (some ⟨A,0,none⟩) 2 2] w fun e w'=>e=.returned (.int .i64 (orI a b))/\w=w':=by
 go_enter func230,ntmps230;go_wp2;go_rounds 3
 all_goals
  go_ret;exact ⟨eH (by unfold orI;simp_all),rfl⟩
theorem O9 (a:Actor) (w:World) :
 Calls prog 150 #[.agg #[.int .i64 a.dev,.int .i64 a.inc]] w fun e w'=>e=.returned (.bool (jk a))/\Below w.heap.size w w':=by
 go_enter func150,ntmps150;go_wp2;all_goals
  go_ret;exact ⟨aH (by unfold jk;rw [Bool.eq_iff_iff];simp <;> omega),by go_grown⟩
theorem ig (d:Dot) (w:World) :
 Calls prog 104 #[.agg #[.int .i64 d.a.dev,.int .i64 d.a.inc,.int .i64 d.seq]] w fun e w'=>e=.returned (.bool (bn d))/\Below w.heap.size w w':=by
 have HD:Hid (bn d=(jk d.a && (decide (1<=d.seq) && decide (d.seq<=4294967296)))):=rfl;go_enter func104,ntmps104;go_wp2_with (go_at_call 150;refine (O9 _ _).mono ?_;rintro e w1 ⟨rfl,hb⟩;obtain ⟨hc,hf⟩:=Ub hb)
 all_goals
  go_ret;exact ⟨aH (by rw [HD.out];simp [*] <;> omega),below2 ((bh _ _).alloc (ar _) _) hb⟩
theorem J9 (a:Actor) (w:World) :
 Calls prog 199 #[.agg #[.int .i64 a.dev,.int .i64 a.inc]] w fun e w'=>e=.returned (.bool (jk a))/\Below w.heap.size w w':=by
 go_enter func199,ntmps199;go_wp2;all_goals
  go_ret;exact ⟨aH (by unfold jk;rw [Bool.eq_iff_iff];simp <;> omega),by go_grown⟩
theorem pJ (d:Dot) (w:World) :
 Calls prog 157 #[.agg #[.int .i64 d.a.dev,.int .i64 d.a.inc,.int .i64 d.seq]] w fun e w'=>e=.returned (.bool (bn d))/\Below w.heap.size w w':=by
 have HD:Hid (bn d=(jk d.a && (decide (1<=d.seq) && decide (d.seq<=4294967296)))):=rfl;go_enter func157,ntmps157;go_wp2_with (go_at_call 199;refine (J9 _ _).mono ?_;rintro e w1 ⟨rfl,hb⟩;obtain ⟨hc,hf⟩:=Ub hb)
 all_goals
  go_ret;exact ⟨aH (by rw [HD.out];simp [*] <;> omega),below2 ((bh _ _).alloc (ar _) _) hb⟩
theorem xO (a b:Actor) (w:World) :
 Calls prog 217 #[.agg #[.int .i64 a.dev,.int .i64 a.inc],.agg #[.int .i64 b.dev,.int .i64 b.inc]] w fun e w'=>e=.returned (.int .i64 (eG a b))/\Below w.heap.size w w':=by
 go_enter func217,ntmps217;go_wp2;go_region_held3 (fun w'=>w'.cell? ⟨w.heap.size,0,none⟩=some (.int .i64 a.dev)/\w'.cell? ⟨w.heap.size,1,none⟩=some (.int .i64 a.inc)/\w'.cell? ⟨w.heap.size+1,0,none⟩=some (.int .i64 b.dev)/\w'.cell? ⟨w.heap.size+1,1,none⟩=some (.int .i64 b.inc)) (go_keep)
  (first
   | (go_at_call 233;refine (pF _ _ _).mono ?_;rintro e w1 ⟨rfl,rfl⟩)
   | (go_at_call 230;go_call FQ (rY a.dev b.dev) (rY a.inc b.inc) as e w1 ⟨rfl,rfl⟩))
 go_wp2;go_ret;exact ⟨rfl,by go_grown⟩
theorem NU (a b:Dot) (w:World) :
 Calls prog 192 #[.agg #[.int .i64 a.a.dev,.int .i64 a.a.inc,.int .i64 a.seq],.agg #[.int .i64 b.a.dev,.int .i64 b.a.inc,.int .i64 b.seq]] w fun e w'=>e=.returned (.int .i64 (oM a b))/\Below w.heap.size w w':=by
 go_enter func192,ntmps192;go_wp2;go_region_held3 (fun w'=>w'.cell? ⟨w.heap.size,0,none⟩=some (.int .i64 a.a.dev)/\w'.cell? ⟨w.heap.size,1,none⟩=some (.int .i64 a.a.inc)/\w'.cell? ⟨w.heap.size,2,none⟩=some (.int .i64 a.seq)/\w'.cell? ⟨w.heap.size+1,0,none⟩=some (.int .i64 b.a.dev)/\w'.cell? ⟨w.heap.size+1,1,none⟩=some (.int .i64 b.a.inc)/\w'.cell? ⟨w.heap.size+1,2,none⟩=some (.int .i64 b.seq)) (first | (refine ⟨?_,?_,?_,?_,?_,?_⟩ <;> ((with_reducible refine kept hb ?_);simp [*];done)) | go_keep)
  (first
   | (go_at_call 233;refine (pF _ _ _).mono ?_;rintro e w1 ⟨rfl,rfl⟩)
   | (go_at_call 217;refine (xO a.a b.a _).mono ?_;rintro e w1 ⟨rfl,hb⟩)
   | (go_at_call 230;go_call FQ (eG a.a b.a) (rY a.seq b.seq) as e w2 ⟨rfl,rfl⟩))
 go_wp2;go_ret;refine ⟨rfl,?_⟩;have h0:Below w.heap.size w ((w.alloc (Obj.cells #[.int .i64 a.a.dev,.int .i64 a.a.inc,.int .i64 a.seq] 76)).alloc (Obj.cells #[.int .i64 b.a.dev,.int .i64 b.a.inc,.int .i64 b.seq] 76)).drew:=by go_grown
 exact ((h0.trans (hb.mono h0.size)).alloc (by have:=(below2 h0 hb).size;omega) _)
theorem BA (a b:Dot) (w:World) :
 Calls prog 152 #[.agg #[.int .i64 a.a.dev,.int .i64 a.a.inc,.int .i64 a.seq],.agg #[.int .i64 b.a.dev,.int .i64 b.a.inc,.int .i64 b.seq]] w fun e w'=>e=.returned (.bool (cu a b))/\Below w.heap.size w w':=by
 have HD:=aq (EX a b);go_enter func152,ntmps152;go_wp2_with (go_at_call 192;refine (NU a b _).mono ?_;rintro e w1 ⟨rfl,hb⟩)
 go_ret;exact ⟨aH (by rw [<- HD.out]),below2 (by go_grown) hb⟩
theorem AY (a b:Actor) (w:World) :
 Calls prog 160 #[.agg #[.int .i64 a.dev,.int .i64 a.inc],.agg #[.int .i64 b.dev,.int .i64 b.inc]] w fun e w'=>e=.returned (.bool (bC a b))/\Below w.heap.size w w':=by
 go_enter func160,ntmps160;go_wp2;all_goals
  go_ret;exact ⟨aH (by unfold bC;rw [Bool.eq_iff_iff];simp;(first | omega | (simp only [beq_iff_eq,beq_eq_false_iff_ne,ne_eq,bne_iff_ne,bne_eq_false_iff_eq,decide_eq_true_eq,decide_eq_false_iff_not,Bool.not_eq_eq_eq_not,Bool.not_true,Bool.not_false] at *;omega))),by go_grown⟩
theorem yg (a b:Dot) (w:World) :
 Calls prog 158 #[.agg #[.int .i64 a.a.dev,.int .i64 a.a.inc,.int .i64 a.seq],.agg #[.int .i64 b.a.dev,.int .i64 b.a.inc,.int .i64 b.seq]] w fun e w'=>e=.returned (.bool (cu a b))/\Below w.heap.size w w':=by
 have hE:=fun (W:World)=>uB W 9998 a.a b.a;have hm:=kM;by_cases hab:a.a=b.a
 ·have hY:Hid (cu a b=decide (a.seq<b.seq)):=by unfold Hid cu bC;rw [hab];simp
  rw [aR hab] at hE;clear hab;go_enter func158,ntmps158;go_wp2;go_ret;exact ⟨aH hY.out.symm,by go_grown⟩
 ·have hY:Hid (cu a b=bC a.a b.a):=by
   unfold Hid cu;rw [yO] at hab;have:(decide (a.a.dev=b.a.dev) && decide (a.a.inc=b.a.inc))=false:=by simpa using hab
   rw [this];simp
  rw [aM hab] at hE;clear hab;go_enter func158,ntmps158;go_wp2_with (go_at_call 160;refine (AY a.a b.a _).mono ?_;rintro e w1 ⟨rfl,hb⟩)
  go_ret;exact ⟨aH hY.out.symm,below2 (by go_grown) hb⟩
theorem zT (n m:Int) (w:World) :
 Calls prog 151 #[.int .i64 n,.int .i64 m] w fun e w'=>e=.returned (.bool (decide (0<=n) && decide (n<=m)))/\w=w':=by
 go_enter func151,ntmps151;go_wp2;all_goals
  go_ret;exact ⟨aH (by rw [Bool.eq_iff_iff];simp <;> omega),rfl⟩
theorem kW (s:Stamp) (w:World) :
 Calls prog 105 #[.agg #[.int .i64 s.wall,.int .i64 s.count,.int .i64 s.dev]] w fun e w'=>e=.returned (.bool (dI s))/\Below w.heap.size w w':=by
 go_enter func105,ntmps105;go_wp2_with (go_at_call 151;refine (zT _ _ _).mono ?_;rintro e w1 ⟨rfl,rfl⟩)
 all_goals
  go_ret;exact ⟨aH (by unfold dI;rw [Bool.eq_iff_iff];simp [*] <;> omega),by go_grown⟩
theorem rQ (s:Stamp) (w:World) :
 Calls prog 33 #[.agg #[.int .i64 s.wall,.int .i64 s.count,.int .i64 s.dev]] w fun e w'=>e=.returned (.bool (dI s))/\Below w.heap.size w w':=by
 go_enter func33,ntmps33;go_wp2;all_goals
  go_ret;exact ⟨aH (by unfold dI;rw [Bool.eq_iff_iff];simp <;> omega),by go_grown⟩
/-- dots in memory, three cells each -/
structure DotsAt (w:World) (A off:Nat) (l:List Dot):Prop where
 dev:∀ i (h:i<l.length),w.cell? ⟨A,off+i * 3,none⟩=some (.int .i64 l[i].a.dev)
 inc:∀ i (h:i<l.length),w.cell? ⟨A,off+i * 3+1,none⟩=some (.int .i64 l[i].a.inc)
 seq:∀ i (h:i<l.length),w.cell? ⟨A,off+i * 3+2,none⟩=some (.int .i64 l[i].seq)
theorem DotsAt.kept {w w':World} {A off:Nat} {l:List Dot} (h:DotsAt w A off l) (hb:Below w.heap.size w w'):DotsAt w' A off l :=
 ⟨fun i hi=>YthphepeniaemoaaGreat.kept hb (h.dev i hi),fun i hi=>YthphepeniaemoaaGreat.kept hb (h.inc i hi),fun i hi=>YthphepeniaemoaaGreat.kept hb (h.seq i hi)⟩
/-- a slice of dots -/
def DotsIn (w:World) (a:Option Addr) (l:List Dot):Prop:=l=[]\/∃ A off,a=some ⟨A,off,none⟩/\DotsAt w A off l
theorem DotsIn.kept {w w':World} {a:Option Addr} {l:List Dot} (h:DotsIn w a l) (hb:Below w.heap.size w w'):DotsIn w' a l:=by
 rcases h with h | ⟨A,off,h1,h2⟩
 ·exact bb h
 ·exact bd ⟨A,off,h1,h2.kept hb⟩
def jS (d:Dot) (p:Option Dot) (x:Dot):Bool:=bn x && ((match p with | none=>true | some y=>cu y x) && !(decide (x.a=d.a) && decide (d.seq<=x.seq)))
def dh (d:Dot):Option Dot->List Dot->Bool
 | _,[]=>true
 | p,x :: r=>jS d p x && dh d (some x) r
def overOk (d:Dot) (l:List Dot):Bool:=decide (l.length<=64) && dh d none l
/-- the dot ahead of place k -/
def bu (l:List Dot):Nat->Option Dot
 | 0=>none
 | k+1=>l[k]?
theorem uS (d:Dot) (l:List Dot) (k:Nat) (h:k<l.length):dh d (bu l k) (l.drop k)=(jS d (bu l k) l[k] && dh d (bu l (k+1)) (l.drop (k+1))):=by
 rw [List.drop_eq_getElem_cons h,dh];congr 1
 simp [bu,h]
theorem ny {B:Nat} {W0 wr W1 wi:World} (h:Below B W0 wr) (h1:Below wr.heap.size wr W1) (h2:Below W1.heap.size W1 wi) (hB:B<=W0.heap.size:=by omega):Below B W0 wi :=
 h.trans ((below2 h1 h2).mono (Nat.le_trans hB h.size))
theorem y10 {p q : Prop} (k : q) (h : PLift q -> p := by
 intro kk
 go_big_quiet_step (fail)
 go_big_quiet_step (exact Calls.after (HR.out _))
 iterate 12 go_big_quiet_step (fail)
 go_big_quiet_step (exact Calls.after (HLT.out _))
 iterate 19 go_big_quiet_step (fail)
 refine wpQuiet_nil ?_
 exact kk.down) : p := h ⟨k⟩
theorem y62 {p q : Prop} (k : q) (h : PLift q -> p := by
 intro kk
 refine aN (by kernel_rfl) (by kernel_rfl) (fun W2 hW2 => ?_)
 have a0 : ∀ i : After W2, i.w.cell? ⟨wr.heap.size, 0, none⟩ = some (.int .i64 x.a.dev) := fun i => i.cell (by rw [hW2.out]; exact x0)
 have a1 : ∀ i : After W2, i.w.cell? ⟨wr.heap.size, 1, none⟩ = some (.int .i64 x.a.inc) := fun i => i.cell (by rw [hW2.out]; exact x1)
 have a2 : ∀ i : After W2, i.w.cell? ⟨wr.heap.size, 2, none⟩ = some (.int .i64 x.seq) := fun i => i.cell (by rw [hW2.out]; exact x2)
 revert W2 hW2 a0 a1 a2
 exact kk.down) : p := h ⟨k⟩
theorem y3 {p q : Prop} (k : q) (h : PLift q -> p := by
 intro kk
 refine y62 ?_
 intro W2 hW2 a0 a1 a2
 have b0 : ∀ i : After W2, i.w.cell? ⟨w.heap.size, 0, none⟩ = some (.int .i64 d.a.dev) := fun i => i.cell (by rw [hW2.out]; exact hw0)
 have b1 : ∀ i : After W2, i.w.cell? ⟨w.heap.size, 1, none⟩ = some (.int .i64 d.a.inc) := fun i => i.cell (by rw [hW2.out]; exact hw1)
 have b2 : ∀ i : After W2, i.w.cell? ⟨w.heap.size, 2, none⟩ = some (.int .i64 d.seq) := fun i => i.cell (by rw [hW2.out]; exact hw2)
 have b18 : ∀ i : After W2, i.w.cell? ⟨w.heap.size, 18, none⟩ = some (.slice (some ⟨A, off, none⟩) l.length cap) := fun i => i.cell (by rw [hW2.out]; exact zO)
 revert W2 hW2 a0 a1 a2 b0 b1 b2 b18
 exact kk.down) : p := h ⟨k⟩
theorem z17 {p : Prop} (h : p := by
 clear h4 hT2
 refine y3 ?_
 intro W2 hW2 a0 a1 a2 b0 b1 b2 b18
 skip
 refine y10 ?_
 rintro _ ⟨i, rfl⟩
 have hib := i.h
 clear a0 a1 a2 b0 b1 b2 b18
 skip
 generalize i.w = wi at hib ⊢
 rw [hW2.out] at hib
 go_wp2
 go_roundw
 case rel => exact ⟨k + 1, by omega, by go_num, HE.out, ny hbw hB1 hib⟩
 case measure => simp [intOf] <;> omega) : p := h
theorem y20 {p q : Prop} (k : q) (h : PLift q -> p := by
 intro kk
 have g0 : ∀ i : After W2, i.w.cell? ⟨A, off + j * 3, none⟩ = some (.int .i64 y.a.dev) := fun i => i.cell (by rw [hW2.out]; exact f0)
 have g1 : ∀ i : After W2, i.w.cell? ⟨A, off + j * 3 + 1, none⟩ = some (.int .i64 y.a.inc) := fun i => i.cell (by rw [hW2.out]; exact f1)
 have g2 : ∀ i : After W2, i.w.cell? ⟨A, off + j * 3 + 2, none⟩ = some (.int .i64 y.seq) := fun i => i.cell (by rw [hW2.out]; exact f2)
 revert g0 g1 g2
 exact kk.down) : p := h ⟨k⟩
theorem z8 {p : Prop} (h : p := by
 refine y20 ?_
 intro g0 g1 g2
 refine y10 ?_
 rintro _ ⟨i, rfl⟩
 have hib := i.h
 clear a0 a1 a2 b0 b1 b2 b18
 clear g0 g1 g2 hww
 generalize i.w = wi at hib ⊢
 rw [hW2.out] at hib
 go_wp2
 go_roundw
 case rel => exact ⟨(j + 1) + 1, by omega, by go_num, HE.out, ny hbw hB1 hib⟩
 case measure => simp [intOf] <;> omega) : p := h
theorem z104 {p : Prop} (h : p := by
 generalize i.w = wi at hib ⊢
 rw [hW2.out] at hib
 go_wp2
 go_ret
 exact ⟨aH HE.out.symm, hb0.trans ((ny hbw hB1 hib).mono (by omega))⟩) : p := h
theorem z63 {p : Prop} (h : p := by
 clear h4 hT2
 refine y3 ?_
 intro W2 hW2 a0 a1 a2 b0 b1 b2 b18
 exact z8) : p := h
theorem z133 {p : Prop} (h : p := by
 go_ret
 exact ⟨aH HE.out.symm, by go_grown⟩) : p := h
theorem y23 {p q : Prop} (k : q) (h : PLift q -> p := by
 intro kk
 have hdk : decide ((0 : Int) < (j : Int) + 1) = true := by simp <;> omega
 have hww : IntKind.i64.wrap ((j : Int) + 1 - 1) = (j : Int) := by rw [show (j : Int) + 1 - 1 = j by omega]; exact IntWalk.i64_in _ (by omega)
 revert hdk hww
 exact kk.down) : p := h ⟨k⟩
theorem y19 {p q : Prop} (k : q) (h : PLift q -> p := by
 intro kk
 have x0 : W1.cell? ⟨wr.heap.size, 0, none⟩ = some (.int .i64 x.a.dev) := by rw [hW1.out]; go_simp
 have x1 : W1.cell? ⟨wr.heap.size, 1, none⟩ = some (.int .i64 x.a.inc) := by rw [hW1.out]; go_simp
 have x2 : W1.cell? ⟨wr.heap.size, 2, none⟩ = some (.int .i64 x.seq) := by rw [hW1.out]; go_simp
 revert x0 x1 x2
 exact kk.down) : p := h ⟨k⟩
theorem y75 {p q : Prop} (k : q) (h : PLift q -> p := by
 intro kk
 have Ou : ¬ 0 < k := by omega
 have hdk : decide (0 < k) = false := by simp; omega
 revert Ou hdk
 exact kk.down) : p := h ⟨k⟩
theorem NS (d:Dot) (v3 v4 v5 v6 v7 v8 v9 v10 v11 v12 v13 v14 v15 v16 v17:Value) (A off cap:Nat) (l:List Dot) (w:World) (hd:DotsAt w A off l) (hl:l.length<=1073741824) :
 Calls prog 106 #[.agg #[.int .i64 d.a.dev,.int .i64 d.a.inc,.int .i64 d.seq,v3,v4,v5,v6,v7,v8,v9,v10,v11,v12,v13,v14,v15,v16,v17,.slice (some ⟨A,off,none⟩) l.length cap]] w fun e w'=>e=.returned (.bool (overOk d l))/\Below w.heap.size w w':=by
 by_cases h64:l.length<=64
 ·have HO:Hid (overOk d l=dh d (bu l 0) (l.drop 0)):=by unfold Hid overOk;simp [h64,bu]
  go_enter func106,ntmps106;go_upto_block 0 with fail
  refine aI (fun W0 hW0=>?_);have hb0:Below w.heap.size w W0:=by rw [hW0.out];go_grown
  have hz0:W0.heap.size=w.heap.size+1:=by rw [hW0.out];simp
  have c0:W0.cell? ⟨w.heap.size,0,none⟩=some (.int .i64 d.a.dev):=by rw [hW0.out];go_simp
  have c1:W0.cell? ⟨w.heap.size,1,none⟩=some (.int .i64 d.a.inc):=by rw [hW0.out];go_simp
  have c2:W0.cell? ⟨w.heap.size,2,none⟩=some (.int .i64 d.seq):=by rw [hW0.out];go_simp
  have c18:W0.cell? ⟨w.heap.size,18,none⟩=some (.slice (some ⟨A,off,none⟩) l.length cap):=by rw [hW0.out];go_simp
  have hd0:=hd.kept hb0;clear hW0 hd;go_wp2;go_loopw [12] (fun i wr=>∃ k:Nat,k<=l.length/\i=.int .i64 k/\overOk d l=dh d (bu l k) (l.drop k)/\Below (w.heap.size+1) W0 wr) (fun i _=>l.length - (intOf i).toNat)
  case atStart=>exact ⟨0,Nat.zero_le _,rfl,HO.out,bh _ _⟩
  case round =>
   obtain ⟨k,hk,rfl,hpre,hbw⟩:=hrel;have HP:=aq hpre;clear hpre;have hbw':Below W0.heap.size W0 wr:=hbw.mono (by omega);by_cases hlt:k<l.length
   ·have hdr:=hd0.kept hbw'
    have e0:=hdr.dev k hlt;have e1:=hdr.inc k hlt;have e2:=hdr.seq k hlt;have hst:=uS d l k hlt;have HT:Hid (overOk d l=(jS d (bu l k) l[k] && dh d (bu l (k+1)) (l.drop (k+1)))):=by rw [Hid,HP.out,hst]
    clear hst HP;generalize l[k]=x at e0 e1 e2 HT;have hw0:=kept hbw' c0;have hw1:=kept hbw' c1;have hw2:=kept hbw' c2;have zO:=kept hbw' c18;go_wp2;refine aI (fun W1 hW1=>?_);have hB1:Below wr.heap.size wr W1:=by rw [hW1.out];go_grown
    refine y19 ?_
    intro x0 x1 x2
    replace hw0:=kept hB1 hw0;replace hw1:=kept hB1 hw1;replace hw2:=kept hB1 hw2;replace zO:=kept hB1 zO;replace hdr:=hdr.kept hB1;clear hW1 e0 e1 e2 c0 c1 c2 c18;have hR0:=fun (W:World)=>ig x W;have yx:=fun (W:World)=>uB W 9998 x.a d.a;have hm:=kM
    cases h1:bn x with
    | false =>
      have HE:Hid (overOk d l=false):=by rw [Hid,HT.out];unfold jS;rw [h1];simp
      rw [h1] at hR0;have HR:=aq hR0;clear hR0 yx h1;refine aN (by kernel_rfl) (by kernel_rfl) (fun W2 hW2=>?_);have a0:∀ i:After W2,i.w.cell? ⟨wr.heap.size,0,none⟩=some (.int .i64 x.a.dev):=fun i=>i.cell (by rw [hW2.out];exact x0);have a1:∀ i:After W2,i.w.cell? ⟨wr.heap.size,1,none⟩=some (.int .i64 x.a.inc):=fun i=>i.cell (by rw [hW2.out];exact x1);have a2:∀ i:After W2,i.w.cell? ⟨wr.heap.size,2,none⟩=some (.int .i64 x.seq):=fun i=>i.cell (by rw [hW2.out];exact x2);have b0:∀ i:After W2,i.w.cell? ⟨w.heap.size,0,none⟩=some (.int .i64 d.a.dev):=fun i=>i.cell (by rw [hW2.out];exact hw0);have b1:∀ i:After W2,i.w.cell? ⟨w.heap.size,1,none⟩=some (.int .i64 d.a.inc):=fun i=>i.cell (by rw [hW2.out];exact hw1);have b2:∀ i:After W2,i.w.cell? ⟨w.heap.size,2,none⟩=some (.int .i64 d.seq):=fun i=>i.cell (by rw [hW2.out];exact hw2);have b18:∀ i:After W2,i.w.cell? ⟨w.heap.size,18,none⟩=some (.slice (some ⟨A,off,none⟩) l.length cap):=fun i=>i.cell (by rw [hW2.out];exact zO);skip
      go_big_quiet_step (fail)
      go_big_quiet_step (exact Calls.after (HR.out _))
      iterate 12 go_big_quiet_step (fail)
      go_big_quiet_step (exact Calls.after (HLT.out _))
      iterate 19 go_big_quiet_step (fail)
      refine wpQuiet_nil ?_;rintro _ ⟨i,rfl⟩;have hib:=i.h;clear a0 a1 a2 b0 b1 b2 b18;skip
      generalize i.w=wi at hib ⊢;rw [hW2.out] at hib;go_wp2;go_ret;exact ⟨aH HE.out.symm,hb0.trans ((ny hbw hB1 hib).mono (by omega))⟩
    | true =>
      rw [h1] at hR0;have HR:=aq hR0;clear hR0;rcases Nat.eq_zero_or_pos k with hk0 | hk0
      ·refine y75 ?_
       intro Ou hdk
       have hT2:Hid (overOk d l=(!(decide (x.a=d.a) && decide (d.seq<=x.seq)) && dh d (bu l (k+1)) (l.drop (k+1)))):=by
            rw [Hid,HT.out];unfold jS;rw [h1];subst hk0;simp [bu]
       clear HT h1 hk0;by_cases h4:x.a=d.a
       ·rw [aR h4] at yx
        by_cases h5:d.seq<=x.seq
        ·have HE:Hid (overOk d l=false):=by rw [Hid,hT2.out];simp [h4,h5]
         clear h4 hT2
         refine y3 ?_
         intro W2 hW2 a0 a1 a2 b0 b1 b2 b18
         skip
         refine y10 ?_
         rintro _ ⟨i,rfl⟩;have hib:=i.h;clear a0 a1 a2 b0 b1 b2 b18;skip
         exact z104
        ·have HE:Hid (overOk d l=dh d (bu l (k+1)) (l.drop (k+1))):=by rw [Hid,hT2.out];simp [h5]
         exact z17
       ·rw [aM h4] at yx
        have HE:Hid (overOk d l=dh d (bu l (k+1)) (l.drop (k+1))):=by rw [Hid,hT2.out];simp [h4]
        exact z17
      ·obtain ⟨j,rfl⟩:∃ j,k=j+1:=⟨k - 1,by omega⟩
       have hj:j<l.length:=by omega
       have f0:=hdr.dev j hj;have f1:=hdr.inc j hj;have f2:=hdr.seq j hj;have hpv:bu l (j+1)=some l[j]:=by simp [bu,hj]
       have hT1:Hid (overOk d l=(cu l[j] x && (!(decide (x.a=d.a) && decide (d.seq<=x.seq)) && dh d (bu l (j+1+1)) (l.drop (j+1+1))))):=by
            rw [Hid,HT.out,hpv];unfold jS;rw [h1];simp [Bool.and_assoc]
       have yw:=fun (W:World)=>BA l[j] x W;generalize l[j]=y at *
       refine y23 ?_
       intro hdk hww
       clear HT h1 hpv hdr hd0
       cases h2:cu y x with
       | false =>
         have HE:Hid (overOk d l=false):=by rw [Hid,hT1.out,h2];rfl
         rw [h2] at yw;have HLT:=aq yw;clear yw yx h2 hT1;refine aN (by kernel_rfl) (by kernel_rfl) (fun W2 hW2=>?_);have a0:∀ i:After W2,i.w.cell? ⟨wr.heap.size,0,none⟩=some (.int .i64 x.a.dev):=fun i=>i.cell (by rw [hW2.out];exact x0);have a1:∀ i:After W2,i.w.cell? ⟨wr.heap.size,1,none⟩=some (.int .i64 x.a.inc):=fun i=>i.cell (by rw [hW2.out];exact x1);have a2:∀ i:After W2,i.w.cell? ⟨wr.heap.size,2,none⟩=some (.int .i64 x.seq):=fun i=>i.cell (by rw [hW2.out];exact x2);have b0:∀ i:After W2,i.w.cell? ⟨w.heap.size,0,none⟩=some (.int .i64 d.a.dev):=fun i=>i.cell (by rw [hW2.out];exact hw0);have b1:∀ i:After W2,i.w.cell? ⟨w.heap.size,1,none⟩=some (.int .i64 d.a.inc):=fun i=>i.cell (by rw [hW2.out];exact hw1);have b2:∀ i:After W2,i.w.cell? ⟨w.heap.size,2,none⟩=some (.int .i64 d.seq):=fun i=>i.cell (by rw [hW2.out];exact hw2);have b18:∀ i:After W2,i.w.cell? ⟨w.heap.size,18,none⟩=some (.slice (some ⟨A,off,none⟩) l.length cap):=fun i=>i.cell (by rw [hW2.out];exact zO);have g0:∀ i:After W2,i.w.cell? ⟨A,off+j * 3,none⟩=some (.int .i64 y.a.dev):=fun i=>i.cell (by rw [hW2.out];exact f0);have g1:∀ i:After W2,i.w.cell? ⟨A,off+j * 3+1,none⟩=some (.int .i64 y.a.inc):=fun i=>i.cell (by rw [hW2.out];exact f1);have g2:∀ i:After W2,i.w.cell? ⟨A,off+j * 3+2,none⟩=some (.int .i64 y.seq):=fun i=>i.cell (by rw [hW2.out];exact f2);go_big_quiet_step (fail)
         go_big_quiet_step (exact Calls.after (HR.out _))
         iterate 12 go_big_quiet_step (fail)
         go_big_quiet_step (exact Calls.after (HLT.out _))
         iterate 19 go_big_quiet_step (fail)
         refine wpQuiet_nil ?_;rintro _ ⟨i,rfl⟩;have hib:=i.h;clear a0 a1 a2 b0 b1 b2 b18;clear g0 g1 g2 hww;generalize i.w=wi at hib ⊢;rw [hW2.out] at hib;go_wp2;go_ret;exact ⟨aH HE.out.symm,hb0.trans ((ny hbw hB1 hib).mono (by omega))⟩
       | true =>
         have hT2:Hid (overOk d l=(!(decide (x.a=d.a) && decide (d.seq<=x.seq)) && dh d (bu l (j+1+1)) (l.drop (j+1+1)))):=by
          rw [Hid,hT1.out,h2];rfl
         rw [h2] at yw;have HLT:=aq yw;clear yw h2 hT1;by_cases h4:x.a=d.a
         ·rw [aR h4] at yx
          by_cases h5:d.seq<=x.seq
          ·have HE:Hid (overOk d l=false):=by rw [Hid,hT2.out];simp [h4,h5]
           clear h4 hT2
           refine y3 ?_
           intro W2 hW2 a0 a1 a2 b0 b1 b2 b18
           refine y20 ?_
           intro g0 g1 g2
           refine y10 ?_
           rintro _ ⟨i,rfl⟩;have hib:=i.h;clear a0 a1 a2 b0 b1 b2 b18;clear g0 g1 g2 hww
           exact z104
          ·have HE:Hid (overOk d l=dh d (bu l (j+1+1)) (l.drop (j+1+1))):=by rw [Hid,hT2.out];simp [h5]
           exact z63
         ·rw [aM h4] at yx
          have HE:Hid (overOk d l=dh d (bu l (j+1+1)) (l.drop (j+1+1))):=by rw [Hid,hT2.out];simp [h4]
          exact z63
   ·have HE:Hid (overOk d l=true):=by rw [Hid,HP.out,List.drop_eq_nil_of_le (by omega)];rfl
    go_wp2;go_ret;exact ⟨aH HE.out.symm,hb0.trans (hbw.mono (by omega))⟩
 ·have HE:Hid (overOk d l=false):=by unfold Hid overOk;simp [h64]
  go_enter func106,ntmps106;go_wp2
  exact z133
theorem PZ (d:Dot) (v3 v4 v5 v6 v7 v8 v9 v10 v11 v12 v13 v14 v15 v16 v17:Value) (a:Option Addr) (cap:Nat) (l:List Dot) (w:World) (hd:DotsIn w a l) (hl:l.length<=1073741824) :
 Calls prog 106 #[.agg #[.int .i64 d.a.dev,.int .i64 d.a.inc,.int .i64 d.seq,v3,v4,v5,v6,v7,v8,v9,v10,v11,v12,v13,v14,v15,v16,v17,.slice a l.length cap]] w fun e w'=>e=.returned (.bool (overOk d l))/\Below w.heap.size w w':=by
 rcases hd with rfl | ⟨A,off,rfl,hd⟩
 ·have HE:Hid (overOk d []=true):=rfl
  rw [List.length_nil];go_enter func106,ntmps106;go_wp2;go_rounds 1
  exact z133
 ·exact NS d v3 v4 v5 v6 v7 v8 v9 v10 v11 v12 v13 v14 v15 v16 v17 A off cap l w hd hl
end Go.Proofs.YthphepeniaemoaaGreat
