/- Vectors: Get, Has. Conditions: as in the text. -/
import Derived.Test.YthphepeniaemoaaGreatCel
import Derived.Test.YthphepeniaemoaaGreatMark
import Derived.Test.YthphepeniaemoaaGreatLast
import Derived.WalkSpells
set_option linter.unusedSimpArgs false
set_option linter.unusedVariables false
set_option linter.unnecessarySimpa false
set_option maxHeartbeats 16000000
set_option maxRecDepth 100000
open Go.Proofs.Tryz
namespace Go.Proofs.YthphepeniaemoaaGreat
open Go.RowKit
theorem lF {P:Program} {o:Oper} {a:Act} {w:World} (t:TypeId) (m x:Operand) (c:Bool) (ho:o.op=.lookup t m x c) (v:Value) (h:(Instr.lookup t (a.eval m) (a.eval x) c).run P w=.ok v w):(execOp a.eval o).run P w=.ok (.value v) w:=by
 unfold execOp;simp only [ho];simp [Sem.run_bind,h,Result.andThen]
/-- marks: an actor's number -/
def fC (l:List Dot) (a:Actor):Int:=match l.find? fun d=>decide (d.a=a) with | some d=>d.seq | none=>0
def iq (l:List Dot) (d:Dot):Bool:=bn d && decide (d.seq<=fC l d.a)
/-- marks as entries -/
def xG (l:List Dot):List (Actor×Int):=l.map fun d=>(d.a,d.seq)
abbrev mF (n:Int):Value:=.int .i64 n
/-- block v holds a vector whose map lies in block b: marks l -/
structure VecIn (w:World) (v b:Nat) (l:List Dot):Prop where
 cell:w.heap[v]?=some (.cells #[.map (some b)] 181 (0,0))
 tab:Tab prog 74 fD ActW mF w b (xG l)
theorem VecIn.block {w w':World} {v b:Nat} {l:List Dot} (h:VecIn w v b l) (h1:w'.heap[v]?=w.heap[v]?) (h2:w'.heap[b]?=w.heap[b]?):VecIn w' v b l:=⟨h1.trans h.cell,h.tab.block h2⟩
theorem VecIn.kept {w w':World} {v b:Nat} {l:List Dot} (h:VecIn w v b l) (hb:Below w.heap.size w w'):VecIn w' v b l:=h.block (hb.block v (lt_of_block h.cell)) (hb.block b h.tab.lt)
theorem VecIn.fr {S:Nat->Prop} {w w':World} {v b:Nat} {l:List Dot} (h:VecIn w v b l) (hf:Fr S w w') (h1:¬ S v) (h2:¬ S b):VecIn w' v b l:=h.block (hf.block v (lt_of_block h.cell) h1) (hf.block b h.tab.lt h2)
theorem one_cell {w:World} {R:Nat} {x:Value} {t:TypeId} (h:w.heap[R]?=some (.cells #[x] t (0,0))):w.cell? ⟨R,0,none⟩=some x/\w.frozen? ⟨R,0,none⟩=false:=by
 simp [World.cell?,World.frozen?,h]
theorem yz {l:List Dot} {a:Actor} {d:Dot} (h:l.find? (fun d=>decide (d.a=a))=some d):fC l a=d.seq/\d∈l/\d.a=a:=by
 refine ⟨by unfold fC;rw [h],List.mem_of_find?_eq_some h,?_⟩;simpa using List.find?_some h
theorem yA {l:List Dot} {a:Actor} (h:l.find? (fun d=>decide (d.a=a))=none):fC l a=0/\∀ d∈l,d.a≠a:=by
 refine ⟨by unfold fC;rw [h],fun d hd=>?_⟩;simpa using List.find?_eq_none.1 h d hd
theorem VecIn.look {w:World} {v b:Nat} {l:List Dot} (h:VecIn w v b l) {a:Actor} (ha:ActW a) :
 (Instr.lookup 179 (.map (some b)) (fD a) false).run prog w=.ok (.int .i64 (fC l a)) w:=by
 cases hf:l.find? fun d=>decide (d.a=a) with
 | some d =>
   obtain ⟨h1,h2,h3⟩:=yz hf;have:=h.tab.look_hit vF underlying179 (z:=.int .i64 0) (by kernel_rfl) (p:=(d.a,d.seq)) (List.mem_map.2 ⟨d,h2,rfl⟩) false;rw [h1,<- h3];exact this
 | none =>
   obtain ⟨h1,h2⟩:=yA hf;have:=h.tab.look_miss vF underlying179 (z:=.int .i64 0) (by kernel_rfl) ha (fun p hp=>by obtain ⟨d,hd,rfl⟩:=List.mem_map.1 hp;exact h2 d hd) false;rw [h1];exact this
/-! ### Get -/
theorem y65 {p q : Prop} (k : q) (h : PLift q -> p := by
 intro kk
 refine aN (by kernel_rfl) (by kernel_rfl) (fun W hW => ?_)
 have hbw : Below w.heap.size w W := by rw [hW.out]; go_grown
 revert W hW hbw
 exact kk.down) : p := h ⟨k⟩
theorem y15 {p q : Prop} (k : q) (h : PLift q -> p := by
 intro kk
 refine y65 ?_
 intro W hW hbw
 have h1 := h.kept hbw
 have x0 : ∀ i : After W, i.w.cell? ⟨w.heap.size, 0, none⟩ = some (.int .i64 a.dev) := fun i => i.cell (by rw [hW.out]; go_simp)
 have x1 : ∀ i : After W, i.w.cell? ⟨w.heap.size, 1, none⟩ = some (.int .i64 a.inc) := fun i => i.cell (by rw [hW.out]; go_simp)
 have y0 : ∀ i : After W, i.w.cell? ⟨v, 0, none⟩ = some (.map (some b)) := fun i => i.cell (one_cell h1.cell).1
 clear hW
 iterate 5 go_big_quiet_step (fail)
 revert W hbw h1 x0 x1 y0
 exact kk.down) : p := h ⟨k⟩
theorem Ag {v b:Nat} {l:List Dot} (a:Actor) (ha:ActW a) (w:World) (h:VecIn w v b l):Calls prog 54 #[.pointer (some ⟨v,0,none⟩),fD a] w fun e w'=>e=.returned (.int .i64 (fC l a))/\Below w.heap.size w w':=by
 go_enter func54,ntmps54;go_upto_region 3 with fail
 refine y15 ?_
 clear h
 intro W hbw h1 x0 x1 y0
 refine gp (by rfl) _ (fun X hX=>by obtain ⟨i,rfl⟩:=hX;exact lF _ _ _ _ rfl _ ((h1.kept i.h).look ha)) ?_;try simp only [pS]
 go_big_quiet_step (fail)
 refine wpQuiet_nil ?_;rintro _ ⟨i,rfl⟩;have hib:=i.h;generalize i.w=wi at hib ⊢;go_wp2;go_ret;exact ⟨rfl,below2 hbw hib⟩
/-! ### Has -/
theorem Af {v b:Nat} {l:List Dot} (d:Dot) (w:World) (h:VecIn w v b l):Calls prog 53 #[.pointer (some ⟨v,0,none⟩),bZ d] w fun e w'=>e=.returned (.bool (iq l d))/\Below w.heap.size w w':=by
 have HR0:=fun (X:World)=>ig d X
 cases hd:bn d with
 | false =>
   have HE:Hid (iq l d=false):=by unfold Hid iq;rw [hd];rfl
   rw [hd] at HR0;have HR:=aq HR0;clear HR0 hd;go_enter func53,ntmps53;go_upto_region 1 with fail
   refine aN (by kernel_rfl) (by kernel_rfl) (fun W hW=>?_);have hbw:Below w.heap.size w W:=by rw [hW.out];go_grown
   have x0:∀ i:After W,i.w.cell? ⟨w.heap.size,0,none⟩=some (.int .i64 d.a.dev):=fun i=>i.cell (by rw [hW.out];go_simp);have x1:∀ i:After W,i.w.cell? ⟨w.heap.size,1,none⟩=some (.int .i64 d.a.inc):=fun i=>i.cell (by rw [hW.out];go_simp);have x2:∀ i:After W,i.w.cell? ⟨w.heap.size,2,none⟩=some (.int .i64 d.seq):=fun i=>i.cell (by rw [hW.out];go_simp);clear hW h;go_big_quiet_step (fail)
   go_big_quiet_step (exact Calls.after (HR.out _))
   iterate 10 go_big_quiet_step (fail)
   refine wpQuiet_nil ?_;rintro _ ⟨i,rfl⟩;have hib:=i.h;generalize i.w=wi at hib ⊢;go_wp2;go_ret;exact ⟨aH HE.out.symm,below2 hbw hib⟩
 | true =>
   have hW0:=iw hd;have HE:Hid (iq l d=decide (d.seq<=fC l d.a)):=by unfold Hid iq;rw [hd];rfl
   rw [hd] at HR0;have HR:=aq HR0;have HG:=aq (fun (X:World) (h:VecIn X v b l)=>Ag d.a hW0.a X h);clear HR0 hd hW0;go_enter func53,ntmps53;go_upto_region 1 with fail
   refine aN (by kernel_rfl) (by kernel_rfl) (fun W hW=>?_);have hbw:Below w.heap.size w W:=by rw [hW.out];go_grown
   have h1:=h.kept hbw;have x0:∀ i:After W,i.w.cell? ⟨w.heap.size,0,none⟩=some (.int .i64 d.a.dev):=fun i=>i.cell (by rw [hW.out];go_simp);have x1:∀ i:After W,i.w.cell? ⟨w.heap.size,1,none⟩=some (.int .i64 d.a.inc):=fun i=>i.cell (by rw [hW.out];go_simp);have x2:∀ i:After W,i.w.cell? ⟨w.heap.size,2,none⟩=some (.int .i64 d.seq):=fun i=>i.cell (by rw [hW.out];go_simp);clear hW h;go_big_quiet_step (fail)
   go_big_quiet_step (exact Calls.after (HR.out _))
   iterate 4 go_big_quiet_step (fail)
   go_big_quiet_step (exact Calls.after (HG.out _ (h1.kept (After.h _))))
   iterate 5 go_big_quiet_step (fail)
   refine wpQuiet_nil ?_;rintro _ ⟨i,rfl⟩;have hib:=i.h;generalize i.w=wi at hib ⊢;go_wp2;go_ret;exact ⟨aH (by rw [HE.out]),below2 hbw hib⟩
/-- marks, an actor's number set -/
def setM:List Dot->Actor->Int->List Dot
 | [],a,n=>[⟨a,n⟩]
 | d :: l,a,n=>if d.a=a then ⟨a,n⟩ :: l else if bC d.a a=true then d :: setM l a n else ⟨a,n⟩ :: d :: l
def pW (l:List Dot):Prop:=l.Pairwise fun x y=>bC x.a y.a=true
theorem dF (a:Actor):bC a a=false:=by unfold bC;simp
theorem jd {a b c:Actor} (h:bC a b=true) (k:bC b c=true):bC a c=true:=by
 unfold bC at *;simp only [Bool.or_eq_true,Bool.and_eq_true,decide_eq_true_eq] at *;omega
theorem lQ {a b:Actor} (h:a≠b) (k:bC a b=false):bC b a=true:=by
 unfold bC at *;simp only [Bool.or_eq_true,Bool.or_eq_false_iff,Bool.and_eq_true,Bool.and_eq_false_iff,decide_eq_true_eq,decide_eq_false_iff_not] at *;have:¬ (a.dev=b.dev/\a.inc=b.inc):=fun e=>h (by cases a;cases b;simp_all);omega
theorem GN:∀ {l:List Dot} {a:Actor} {n:Int},(∀ d∈l,d.a≠a)->(setM l a n).Perm (⟨a,n⟩ :: l)
 | [],a,n,_=>List.Perm.refl _
 | d :: l,a,n,h=>by
   unfold setM;rw [if_neg (h d List.mem_cons_self)];split
   ·exact ((GN (fun e he=>h e (List.mem_cons_of_mem _ he))).cons d).trans (List.Perm.swap ..)
   ·exact List.Perm.refl _
theorem GM:∀ {l:List Dot} {a:Actor} {n:Int} {d:Dot},pW l->d∈l->d.a=a->∃ r,l.Perm (d :: r)/\(setM l a n).Perm (⟨a,n⟩ :: r)
 | [],a,n,d,_,h,_=>by simp at h
 | x :: l,a,n,d,hs,h,hd=>by
   obtain ⟨h1,h2⟩:=List.pairwise_cons.1 hs;unfold setM;by_cases hx:x.a=a
   ·rw [if_pos hx]
    rcases List.mem_cons.1 h with rfl | h
    ·exact ⟨l,List.Perm.refl _,List.Perm.refl _⟩
    ·have:=h1 d h
     rw [hx,hd,dF] at this
     cases this
   ·rw [if_neg hx]
    rcases List.mem_cons.1 h with rfl | h
    ·exact absurd hd hx
    ·have:=h1 d h
     rw [hd] at this;rw [if_pos this];obtain ⟨r,p1,p2⟩:=GM (n:=n) h2 h hd;exact ⟨x :: r,(p1.cons x).trans (List.Perm.swap ..),(p2.cons x).trans (List.Perm.swap ..)⟩
theorem Cc:∀ (l:List Dot) (a:Actor) (n:Int) (b:Actor),fC (setM l a n) b=if b=a then n else fC l b
 | [],a,n,b=>by
   unfold setM fC;simp only [List.find?_cons,List.find?_nil];by_cases h:a=b
   ·subst h;simp
   ·rw [aM h,if_neg (fun e=>h e.symm)]
 | d :: l,a,n,b=>by
   have ih:=Cc l a n b;unfold setM;split
   ·rename_i hd
    unfold fC at ih ⊢;simp only [List.find?_cons];by_cases h:a=b
    ·subst h;simp
    ·rw [aM h,if_neg (fun e=>h e.symm),aM (fun e=>h (by rw [<- hd];exact e))]
   ·rename_i hd
    split
    ·unfold fC at ih ⊢
     simp only [List.find?_cons];by_cases h:d.a=b
     ·rw [aR h,if_neg (fun e=>hd (by rw [h,e]))]
     ·rw [aM h]
      exact ih
    ·unfold fC
     simp only [List.find?_cons];by_cases h:a=b
     ·subst h;simp
     ·rw [aM h,if_neg (fun e=>h e.symm)]
theorem Aq {l:List Dot} {a:Actor} {n:Int}:∀ {d:Dot},d∈setM l a n->d=⟨a,n⟩\/d∈l:=by
 induction l with
 | nil=>intro d h;simp [setM] at h;exact bb h
 | cons x l ih =>
   intro d h;unfold setM at h;split at h
   ·rcases List.mem_cons.1 h with h | h
    ·exact bb h
    ·exact bd (List.mem_cons_of_mem _ h)
   ·split at h
    ·rcases List.mem_cons.1 h with h | h
     ·exact bd (by rw [h];exact List.mem_cons_self)
     ·exact (ih h).imp id (List.mem_cons_of_mem _)
    ·rcases List.mem_cons.1 h with h | h
     ·exact bb h
     ·exact bd h
theorem Ap:∀ {l:List Dot} {a:Actor} {n:Int},pW l->pW (setM l a n)
 | [],a,n,_=>by simp [setM,pW]
 | d :: l,a,n,h=>by
   obtain ⟨h1,h2⟩:=List.pairwise_cons.1 h;unfold setM;split
   ·rename_i hd
    exact List.pairwise_cons.2 ⟨fun y hy=>by rw [<- hd];exact h1 y hy,h2⟩
   ·rename_i hd
    split
    ·rename_i hlt
     refine List.pairwise_cons.2 ⟨fun y hy=>?_,Ap h2⟩;rcases Aq hy with rfl | hy
     ·exact hlt
     ·exact h1 y hy
    ·rename_i hlt
     have hda:bC a d.a=true:=lQ hd (Bool.eq_false_iff.2 hlt);refine List.pairwise_cons.2 ⟨fun y hy=>?_,h⟩;rcases List.mem_cons.1 hy with rfl | hy
     ·exact hda
     ·exact jd hda (h1 y hy)
theorem yT (l:List Dot) (a:Actor) (n:Int):(setM l a n).length<=l.length+1:=by
 induction l with
 | nil=>simp [setM]
 | cons d l ih =>
   unfold setM;split
   ·simp
   ·split
    ·simp only [List.length_cons];omega
    ·simp
theorem yK {l m:List Dot} (h:l.Perm m):(xG l).Perm (xG m):=h.map _
theorem Tab.setM {w:World} {b:Nat} {l:List Dot} (h:Tab prog 74 fD ActW mF w b (xG l)) (hs:pW l) (hl:l.length+1<maxLen) {a:Actor} (ha:ActW a) (n:Int) :
 ∃ w',(Instr.mapUpdate 179 (.map (some b)) (fD a) (.int .i64 n)).run prog w=.ok () w'/\Tab prog 74 fD ActW mF w' b (xG (Go.Proofs.YthphepeniaemoaaGreat.setM l a n))/\Fr (isR b) w w':=by
 cases hf:l.find? fun d=>decide (d.a=a) with
 | none =>
   obtain ⟨_,h2⟩:=yA hf;obtain ⟨w',h3,h4,h5⟩:=h.store_new vF underlying179 (by unfold xG;rw [List.length_map];omega) ha (fun p hp=>by obtain ⟨d,hd,rfl⟩:=List.mem_map.1 hp;exact h2 d hd) n;exact ⟨w',h3,h4.perm (yK (GN h2)).symm,h5⟩
 | some d =>
   obtain ⟨_,h2,h3⟩:=yz hf;obtain ⟨r,p1,p2⟩:=GM (n:=n) hs h2 h3;have hp:=h.perm (yK p1);have hlr:=p1.length_eq;simp only [List.length_cons] at hlr;obtain ⟨w',h4,h5,h6⟩:=Tab.store_old (m:=xG r) vF (show Tab prog 74 fD ActW mF w b ((d.a,d.seq) :: xG r) from hp) underlying179 (by unfold xG;rw [List.length_map];omega) n;rw [h3] at h4 h5;exact ⟨w',h4,h5.perm (yK p2).symm,h6⟩
/-! ### New -/
theorem Gx (w:World):Calls prog 51 #[] w fun e w'=>e=.returned (.pointer (some ⟨w.heap.size+1,0,none⟩))/\VecIn w' (w.heap.size+1) w.heap.size []/\Below w.heap.size w w':=by
 have hmm:=@run_makeMap prog;go_enter func51,ntmps51;go_wp2;go_ret;refine ⟨by simp,⟨?_,?_⟩,by go_grown⟩
 ·have:=aY (w.alloc (.map #[] 0)) (.cells #[.map (some w.heap.size)] 181)
  simpa using this
 ·exact (Tab.made w).kept ((bh _ _).alloc (ar _) _)
def lM (l:List Dot) (a:Actor) (n:Int):Bool:=bn ⟨a,n⟩ && decide (fC l a<n)
/-- behind what may turn a vector -/
def Rk (v b:Nat) (r:Bool) (l':List Dot) (w:World) (e:Ending) (w':World):Prop:=e=.returned (.bool r)/\VecIn w' v b l'/\Fr (isR b) w w'
theorem IK {S:Nat->Prop} {w w1 w2:World} (h:Below w.heap.size w w1) (k:Fr S w1 w2):Fr S w w2:=(Fr.of_below h).again k
theorem VecIn.ne {w:World} {v b:Nat} {l:List Dot} (h:VecIn w v b l):v≠b:=by
 obtain ⟨es,cl,h1⟩:=h.tab.mapped;intro e;have:=h.cell;rw [e,h1] at this
 cases this
theorem z93 {p : Prop} (h : p := by
 refine wpQuiet_nil ?_
 rintro _ ⟨i, rfl⟩
 have hib := i.h
 generalize i.w = wi at hib ⊢
 go_wp2
 all_goals
     go_ret
     have hbt := below2 hbw hib
     exact ⟨rfl, HV.out.kept hbt, Fr.of_below hbt⟩) : p := h
theorem y48 {p q : Prop} (k : q) (h : PLift q -> p := by
 intro kk
 try simp only [pS]
 refine bD (i := 6) (o := ⟨none, _, _, _, _, _⟩) (by kernel_rfl) rfl ?_
 exact kk.down) : p := h ⟨k⟩
theorem y46 {p q : Prop} (k : q) (h : PLift q -> p := by
 intro kk
 go_big_quiet_step (exact Calls.after (HR.out _))
 iterate 9 go_big_quiet_step (fail)
 refine gp (by rfl) _ (fun X hX => by obtain ⟨i, rfl⟩ := hX; exact lF _ _ _ _ rfl _ ((h1.kept i.h).look hW0.a)) ?_
 try simp only [pS]
 iterate 2 go_big_quiet_step (fail)
 exact kk.down) : p := h ⟨k⟩
theorem y8 {p q : Prop} (k : q) (h : PLift q -> p := by
 intro kk
 intro K hK
 go_simp
 refine y66 ?_
 clear hK K
 refine jZ (by kernel_rfl) ?_ _
 refine NoPanic.normal ?_
 exact kk.down) : p := h ⟨k⟩
theorem JD {v b:Nat} {l:List Dot} (a:Actor) (n:Int) (w:World) (h:VecIn w v b l) (hs:pW l) (hl:l.length<=1073741824) :
 Calls prog 109 #[.pointer (some ⟨v,0,none⟩),fD a,.int .i64 n] w (Rk v b (lM l a n) (if lM l a n=true then setM l a n else l) w):=by
 have HR0:=fun (X:World)=>wB a n X
 cases hd:bn ⟨a,n⟩ with
 | false =>
   have HE:lM l a n=false:=by unfold lM;rw [hd];rfl
   rw [HE,if_neg (by decide)];rw [hd] at HR0;have HR:=aq HR0;have HV:=aq h;clear HR0 hd HE;go_enter func109,ntmps109;go_upto_region 1 with fail
   refine aN (by kernel_rfl) (by kernel_rfl) (fun W hW=>?_);have hbw:Below w.heap.size w W:=by rw [hW.out];go_grown
   have h1:=h.kept hbw;have x0:∀ i:After W,i.w.cell? ⟨w.heap.size,0,none⟩=some (.int .i64 a.dev):=fun i=>i.cell (by rw [hW.out];go_simp);have x1:∀ i:After W,i.w.cell? ⟨w.heap.size,1,none⟩=some (.int .i64 a.inc):=fun i=>i.cell (by rw [hW.out];go_simp);have y0:∀ i:After W,i.w.cell? ⟨v,0,none⟩=some (.map (some b)):=fun i=>i.cell (one_cell h1.cell).1;clear hW h;iterate 5 go_big_quiet_step (fail)
   go_big_quiet_step (exact Calls.after (HR.out _))
   iterate 12 go_big_quiet_step (fail)
   refine wpQuiet_nil ?_;rintro _ ⟨i,rfl⟩;have hib:=i.h;generalize i.w=wi at hib ⊢;go_wp2;all_goals
    go_ret;have hbt:=below2 hbw hib;exact ⟨rfl,HV.out.kept hbt,Fr.of_below hbt⟩
 | true =>
   have hW0:=iw hd;rw [hd] at HR0;have HR:=aq HR0;have HV:=aq h;by_cases hlt:fC l a<n
   ·have HE:lM l a n=true:=by unfold lM;rw [hd,aR hlt];rfl
    rw [HE,if_pos rfl];have hle:decide (n<=fC l a)=false:=by simpa using hlt
    clear HR0 hd HE;go_enter func109,ntmps109;go_upto_region 1 with fail
    refine y15 ?_
    clear h
    intro W hbw h1 x0 x1 y0
    refine y46 ?_
    refine wpQuiet_nil ?_;rintro _ ⟨i,rfl⟩;have hib:=i.h;generalize i.w=wi at hib ⊢;have h2:=h1.kept hib;have q0:wi.cell? ⟨w.heap.size,0,none⟩=some (.int .i64 a.dev):=kept hib (x0 ⟨W,bh _ _⟩);have q1:wi.cell? ⟨w.heap.size,1,none⟩=some (.int .i64 a.inc):=kept hib (x1 ⟨W,bh _ _⟩);have q2:wi.cell? ⟨v,0,none⟩=some (.map (some b)):=(one_cell h2.cell).1;have hbt:=below2 hbw hib;clear x0 x1 y0;have hmn:=fun (X:World)=>run_eql_map_nil (P:=prog) X 179 74 3 (some b) underlying179;go_upto_region 5 with fail
    clear hmn;obtain ⟨w2,hrun,htab,hfr⟩:=Tab.setM (w:=wi.drew) h2.tab hs (by unfold maxLen;omega) hW0.a n;have HT:=aq htab;have HF:=aq hfr;clear htab hfr;refine wp_region_noPanic ?_;refine bH (fun W'=>W'.cell? ⟨w.heap.size,0,none⟩=some (.int .i64 a.dev)/\W'.cell? ⟨w.heap.size,1,none⟩=some (.int .i64 a.inc)/\W'.cell? ⟨v,0,none⟩=some (.map (some b))) [6] (by kernel_rfl) ?_;have hS:=ba (show wi.drew.cell? _=_ from q0) (ba (show wi.drew.cell? _=_ from q1) (show wi.drew.cell? _=_ from q2));refine tL (v:=?_) 0 34 rfl (bb ⟨by rfl,?_⟩) ?_
    case refine_2 => exact z26
    try simp only [pS]
    refine tL (v:=?_) 1 35 rfl (bb ⟨by rfl,?_⟩) ?_
    case refine_2 => exact z26
    try simp only [pS]
    refine tL (v:=?_) 2 36 rfl (bb ⟨by rfl,?_⟩) ?_
    case refine_2 => exact z26
    try simp only [pS]
    refine tL (v:=?_) 3 37 rfl (bb ⟨by rfl,?_⟩) ?_
    case refine_2 => exact z26
    try simp only [pS]
    refine tL (v:=?_) 4 38 rfl (bb ⟨by rfl,?_⟩) ?_
    case refine_2 => exact z26
    try simp only [pS]
    refine tL (v:=?_) 5 39 rfl (bb ⟨by rfl,?_⟩) ?_
    case refine_2 => exact z26
    refine y48 ?_
    refine y8 ?_
    go_wp2;all_goals
        go_ret;have hf2:Fr (isR b) w w2:=IK (hbt.trans ((bh wi.heap.size wi).drew.mono hbt.size)) HF.out;exact ⟨rfl,⟨(hf2.block v (lt_of_block HV.out.cell) HV.out.ne).trans HV.out.cell,HT.out⟩,hf2⟩
   ·have HE:lM l a n=false:=by unfold lM;rw [aM hlt,Bool.and_false]
    rw [HE,if_neg (by decide)];have hle:decide (n<=fC l a)=true:=by simpa using hlt
    clear HR0 hd HE;go_enter func109,ntmps109;go_upto_region 1 with fail
    refine y15 ?_
    clear h
    intro W hbw h1 x0 x1 y0
    refine y46 ?_
    exact z93
/-! ### Take -/
def pI (l:List Dot) (d:Dot):Bool:=bn d && decide (fC l d.a+1=d.seq)
theorem z22 {p : Prop} (h : p := by (rintro w hSw; have s0 := kept hSw x0; have s1 := kept hSw x1; have s2 := kept hSw x2; go_simp; try with_reducible rfl)) : p := h
theorem y37 {p q : Prop} (k : q) (h : PLift q -> p := by
 intro kk
 have x0 : ∀ i : After W, i.w.cell? ⟨w.heap.size, 0, none⟩ = some (.int .i64 d.a.dev) := fun i => i.cell (by rw [hW.out]; go_simp)
 have x1 : ∀ i : After W, i.w.cell? ⟨w.heap.size, 1, none⟩ = some (.int .i64 d.a.inc) := fun i => i.cell (by rw [hW.out]; go_simp)
 have x2 : ∀ i : After W, i.w.cell? ⟨w.heap.size, 2, none⟩ = some (.int .i64 d.seq) := fun i => i.cell (by rw [hW.out]; go_simp)
 revert x0 x1 x2
 exact kk.down) : p := h ⟨k⟩
theorem Nc {v b:Nat} {l:List Dot} (d:Dot) (w:World) (h:VecIn w v b l) (hs:pW l) (hl:l.length<=1073741824) :
 Calls prog 56 #[.pointer (some ⟨v,0,none⟩),bZ d] w (Rk v b (pI l d) (if pI l d=true then setM l d.a d.seq else l) w):=by
 have HR0:=fun (X:World)=>ig d X
 cases hd:bn d with
 | false =>
   have HE:pI l d=false:=by unfold pI;rw [hd];rfl
   rw [HE,if_neg (by decide)];rw [hd] at HR0;have HR:=aq HR0;have HV:=aq h;clear HR0 hd HE;go_enter func56,ntmps56;go_upto_region 1 with fail
   refine aN (by kernel_rfl) (by kernel_rfl) (fun W hW=>?_);have hbw:Below w.heap.size w W:=by rw [hW.out];go_grown
   have x0:∀ i:After W,i.w.cell? ⟨w.heap.size,0,none⟩=some (.int .i64 d.a.dev):=fun i=>i.cell (by rw [hW.out];go_simp);have x1:∀ i:After W,i.w.cell? ⟨w.heap.size,1,none⟩=some (.int .i64 d.a.inc):=fun i=>i.cell (by rw [hW.out];go_simp);have x2:∀ i:After W,i.w.cell? ⟨w.heap.size,2,none⟩=some (.int .i64 d.seq):=fun i=>i.cell (by rw [hW.out];go_simp);clear hW h;go_big_quiet_step (fail)
   go_big_quiet_step (exact Calls.after (HR.out _))
   iterate 19 go_big_quiet_step (fail)
   refine wpQuiet_nil ?_;rintro _ ⟨i,rfl⟩;have hib:=i.h;generalize i.w=wi at hib ⊢;go_wp2;all_goals
    go_ret;have hbt:=below2 hbw hib;exact ⟨rfl,HV.out.kept hbt,Fr.of_below hbt⟩
 | true =>
   have hW0:=iw hd;have hrange : -1<=d.seq/\d.seq<=4294967296:=by
    simp only [bn,Bool.and_eq_true,decide_eq_true_eq] at hd;omega
   have hwr:IntKind.i64.wrap (d.seq - 1)=d.seq - 1:=IntWalk.i64_in _ (by omega);rw [hd] at HR0;have HR:=aq HR0;have HV:=aq h;have HG:=aq (fun (X:World) (h:VecIn X v b l)=>Ag d.a hW0.a X h);by_cases hlt:fC l d.a+1=d.seq
   ·have HE:pI l d=true:=by unfold pI;rw [hd,aR hlt];rfl
    rw [HE,if_pos rfl];have hro:lM l d.a d.seq=true:=by unfold lM;rw [show (⟨d.a,d.seq⟩:Dot)=d from rfl,hd,aR (by omega)];rfl
    have HRS:=aq (fun (X:World) (h:VecIn X v b l)=>JD d.a d.seq X h hs hl);rw [hro] at HRS;have heq:(d.seq - 1 == fC l d.a)=true:=by rw [beq_iff_eq];omega
    clear HR0 hd HE hro hlt;go_enter func56,ntmps56;go_upto_region 1 with fail
    refine aI (fun W hW=>?_);have hbw:Below w.heap.size w W:=by rw [hW.out];go_grown
    have hbd:Below w.heap.size w W.drew:=hbw.drew;have h1:VecIn W.drew v b l:=h.kept hbd;have x0:W.drew.cell? ⟨w.heap.size,0,none⟩=some (.int .i64 d.a.dev):=by rw [hW.out];go_simp
    have x1:W.drew.cell? ⟨w.heap.size,1,none⟩=some (.int .i64 d.a.inc):=by rw [hW.out];go_simp
    have x2:W.drew.cell? ⟨w.heap.size,2,none⟩=some (.int .i64 d.seq):=by rw [hW.out];go_simp
    clear hW h;have hb0:Below W.drew.heap.size W.drew W.drew:=bh _ _;refine wp_region_noPanic ?_;refine bH (fun X=>Below W.drew.heap.size W.drew X) [18] (by kernel_rfl) ?_;refine tL (v:=?_) 0 5 rfl (bb ⟨by rfl,?_⟩) ?_
    case refine_2 => exact z22
    try simp only [pS]
    refine bD (i:=1) (o:=⟨some 6,_,_,_,_,_⟩) (by kernel_rfl) rfl ?_;intro K hK;go_simp;go_at_call 104;(with_reducible refine (HR.out _).mono ?_)
    rintro e w5 ⟨rfl,hb5⟩;go_simp;refine hK.out _ _ (bd (hb5)) ?_;clear hK K;try simp only [pS]
    have hk5:=hb5;refine tL (v:=?_) 2 7 rfl (bb ⟨by rfl,?_⟩) ?_
    case refine_2 => exact z22
    try simp only [pS]
    refine tL (v:=?_) 3 8 rfl (bb ⟨by rfl,?_⟩) ?_
    case refine_2 => exact z22
    try simp only [pS]
    refine tL (v:=?_) 4 9 rfl (bb ⟨by rfl,?_⟩) ?_
    case refine_2 => exact z22
    try simp only [pS]
    refine tL (v:=?_) 5 10 rfl (bb ⟨by rfl,?_⟩) ?_
    case refine_2 => exact z22
    try simp only [pS]
    refine tL (v:=?_) 6 11 rfl (bb ⟨by rfl,?_⟩) ?_
    case refine_2 => exact z22
    try simp only [pS]
    refine tL (v:=?_) 7 12 rfl (bb ⟨by rfl,?_⟩) ?_
    case refine_2 => exact z22
    try simp only [pS]
    refine tL (v:=?_) 8 13 rfl (bb ⟨by rfl,?_⟩) ?_
    case refine_2 => exact z22
    try simp only [pS]
    refine bD (i:=9) (o:=⟨some 14,_,_,_,_,_⟩) (by kernel_rfl) rfl ?_;intro K hK;go_simp;go_at_call 54;(with_reducible refine (HG.out _ (h1.kept hk5)).mono ?_)
    rintro e w6 ⟨rfl,hb6⟩;go_simp;refine hK.out _ _ (bd (hb5.trans (hb6.mono hb5.size))) ?_;clear hK K;try simp only [pS]
    have Wh:=hb5.trans (hb6.mono hb5.size);refine tL (v:=?_) 10 15 rfl (bb ⟨by rfl,?_⟩) ?_
    case refine_2 => exact z22
    try simp only [pS]
    refine tL (v:=?_) 11 16 rfl (bb ⟨by rfl,?_⟩) ?_
    case refine_2 => exact z22
    try simp only [pS]
    refine tL (v:=?_) 12 17 rfl (bb ⟨by rfl,?_⟩) ?_
    case refine_2 => exact z22
    try simp only [pS]
    refine tL (v:=?_) 13 18 rfl (bb ⟨by rfl,?_⟩) ?_
    case refine_2 => exact z22
    try simp only [pS]
    refine tL (v:=?_) 14 19 rfl (bb ⟨by rfl,?_⟩) ?_
    case refine_2 => exact z22
    try simp only [pS]
    refine tL (v:=?_) 15 20 rfl (bb ⟨by rfl,?_⟩) ?_
    case refine_2 => exact z22
    try simp only [pS]
    refine tL (v:=?_) 16 21 rfl (bb ⟨by rfl,?_⟩) ?_
    case refine_2 => exact z22
    try simp only [pS]
    refine tL (v:=?_) 17 22 rfl (bb ⟨by rfl,?_⟩) ?_
    case refine_2 => exact z22
    try simp only [pS]
    refine bD (i:=18) (o:=⟨some 23,_,_,_,_,_⟩) (by kernel_rfl) rfl ?_;intro K hK;go_simp;go_at_call 109;(with_reducible refine (HRS.out _ (h1.kept Wh)).mono ?_)
    rintro e w7 ⟨rfl,hv7,hf7⟩;go_simp
    refine y66 ?_
    clear hK K
    refine bD (i:=19) (o:=⟨some 24,_,_,_,_,_⟩) (by kernel_rfl) rfl ?_;intro K hK;go_simp
    refine y66 ?_
    clear hK K
    refine bD (i:=20) (o:=⟨some 4,_,_,_,_,_⟩) (by kernel_rfl) rfl ?_
    refine y8 ?_
    have hbt:=below2 hbd Wh;clear x0 x1 x2;go_wp2;all_goals
        go_ret;exact ⟨rfl,hv7,IK hbt hf7⟩
   ·have HE:pI l d=false:=by unfold pI;rw [aM hlt,Bool.and_false]
    rw [HE,if_neg (by decide)];have heq:(d.seq - 1 == fC l d.a)=false:=by rw [beq_eq_false_iff_ne];omega
    clear HR0 hd HE hlt;go_enter func56,ntmps56;go_upto_region 1 with fail
    refine y65 ?_
    intro W hW hbw
    have h1:=h.kept hbw
    refine y37 ?_
    intro x0 x1 x2
    clear hW h
    go_big_quiet_step (fail)
    go_big_quiet_step (exact Calls.after (HR.out _))
    iterate 7 go_big_quiet_step (fail)
    go_big_quiet_step (exact Calls.after (HG.out _ (h1.kept (After.h _))))
    iterate 11 go_big_quiet_step (fail)
    exact z93
end Go.Proofs.YthphepeniaemoaaGreat
