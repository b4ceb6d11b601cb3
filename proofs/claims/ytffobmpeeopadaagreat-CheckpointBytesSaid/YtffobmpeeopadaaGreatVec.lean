/- Vectors: Get, Has. Conditions: as in the text. -/
import Derived.Test.YtffobmpeeopadaaGreatCel
import Derived.Test.YtffobmpeeopadaaGreatMark
import Derived.Test.YtffobmpeeopadaaGreatLast
import Derived.WalkSpells
set_option linter.unusedSimpArgs false
set_option linter.unusedVariables false
set_option linter.unnecessarySimpa false
set_option maxHeartbeats 16000000
set_option maxRecDepth 100000
open Go.Proofs.Tryz
namespace Go.Proofs.YtffobmpeeopadaaGreat
open Go.RowKit
theorem lV {P:Program} {o:Oper} {a:Act} {w:World} (t:TypeId) (m x:Operand) (c:Bool) (ho:o.op=.lookup t m x c) (v:Value) (h:(Instr.lookup t (a.eval m) (a.eval x) c).run P w=.ok v w):(execOp a.eval o).run P w=.ok (.value v) w:=by
 unfold execOp;simp only [ho];simp [Sem.run_bind,h,Result.andThen]
/-- marks: an actor's number -/
def fE (l:List Dot) (a:Actor):Int:=match l.find? fun d=>decide (d.a=a) with | some d=>d.seq | none=>0
def iP (l:List Dot) (d:Dot):Bool:=bi d && decide (d.seq<=fE l d.a)
/-- marks as entries -/
def xM (l:List Dot):List (Actor×Int):=l.map fun d=>(d.a,d.seq)
abbrev jW (n:Int):Value:=.int .i64 n
/-- block v holds a vector whose map lies in block b: marks l -/
structure VecIn (w:World) (v b:Nat) (l:List Dot):Prop where
 cell:w.heap[v]?=some (.cells #[.map (some b)] 171 (0,0))
 tab:Tab prog 53 fF ActW jW w b (xM l)
theorem VecIn.block {w w':World} {v b:Nat} {l:List Dot} (h:VecIn w v b l) (h1:w'.heap[v]?=w.heap[v]?) (h2:w'.heap[b]?=w.heap[b]?):VecIn w' v b l:=⟨h1.trans h.cell,h.tab.block h2⟩
theorem VecIn.kept {w w':World} {v b:Nat} {l:List Dot} (h:VecIn w v b l) (hb:Below w.heap.size w w'):VecIn w' v b l:=h.block (hb.block v (lt_of_block h.cell)) (hb.block b h.tab.lt)
theorem VecIn.fr {S:Nat->Prop} {w w':World} {v b:Nat} {l:List Dot} (h:VecIn w v b l) (hf:Fr S w w') (h1:¬ S v) (h2:¬ S b):VecIn w' v b l:=h.block (hf.block v (lt_of_block h.cell) h1) (hf.block b h.tab.lt h2)
theorem one_cell {w:World} {R:Nat} {x:Value} {t:TypeId} (h:w.heap[R]?=some (.cells #[x] t (0,0))):w.cell? ⟨R,0,none⟩=some x/\w.frozen? ⟨R,0,none⟩=false:=by
 simp [World.cell?,World.frozen?,h]
theorem yL {l:List Dot} {a:Actor} {d:Dot} (h:l.find? (fun d=>decide (d.a=a))=some d):fE l a=d.seq/\d∈l/\d.a=a:=by
 refine ⟨by unfold fE;rw [h],List.mem_of_find?_eq_some h,?_⟩;simpa using List.find?_some h
theorem yM {l:List Dot} {a:Actor} (h:l.find? (fun d=>decide (d.a=a))=none):fE l a=0/\∀ d∈l,d.a≠a:=by
 refine ⟨by unfold fE;rw [h],fun d hd=>?_⟩;simpa using List.find?_eq_none.1 h d hd
theorem VecIn.look {w:World} {v b:Nat} {l:List Dot} (h:VecIn w v b l) {a:Actor} (ha:ActW a) :
 (Instr.lookup 169 (.map (some b)) (fF a) false).run prog w=.ok (.int .i64 (fE l a)) w:=by
 cases hf:l.find? fun d=>decide (d.a=a) with
 | some d =>
   obtain ⟨h1,h2,h3⟩:=yL hf;have:=h.tab.look_hit vF underlying169 (z:=.int .i64 0) (by kernel_rfl) (p:=(d.a,d.seq)) (List.mem_map.2 ⟨d,h2,rfl⟩) false;rw [h1,<- h3];exact this
 | none =>
   obtain ⟨h1,h2⟩:=yM hf;have:=h.tab.look_miss vF underlying169 (z:=.int .i64 0) (by kernel_rfl) ha (fun p hp=>by obtain ⟨d,hd,rfl⟩:=List.mem_map.1 hp;exact h2 d hd) false;rw [h1];exact this
/-! ### Get -/
theorem y65 {p q : Prop} (k : q) (h : PLift q -> p := by
 intro kk
 refine aJ (by kernel_rfl) (by kernel_rfl) (fun W hW => ?_)
 have hbw : Below w.heap.size w W := by rw [hW.out]; go_grown
 revert W hW hbw
 exact kk.down) : p := h ⟨k⟩
theorem y13 {p q : Prop} (k : q) (h : PLift q -> p := by
 intro kk
 refine y65 ?_
 intro W hW hbw
 have h1 := h.kept hbw
 have x0 : ∀ i : After W, i.w.cell? ⟨w.heap.size, 0, none⟩ = some (.int .i64 a.dev) := fun i => i.cell (by rw [hW.out]; go_simp)
 have x1 : ∀ i : After W, i.w.cell? ⟨w.heap.size, 1, none⟩ = some (.int .i64 a.inc) := fun i => i.cell (by rw [hW.out]; go_simp)
 have y0 : ∀ i : After W, i.w.cell? ⟨v, 0, none⟩ = some (.map (some b)) := fun i => i.cell (one_cell h1.cell).1
 clear hW
 iterate 5 go_big_quiet_step (fail)
 revert W hbw h1 x0 x1 y0
 exact kk.down) : p := h ⟨k⟩
theorem AP {v b:Nat} {l:List Dot} (a:Actor) (ha:ActW a) (w:World) (h:VecIn w v b l):Calls prog 57 #[.pointer (some ⟨v,0,none⟩),fF a] w fun e w'=>e=.returned (.int .i64 (fE l a))/\Below w.heap.size w w':=by
 go_enter func57,ntmps57;go_upto_region 3 with fail
 refine y13 ?_
 clear h
 intro W hbw h1 x0 x1 y0
 refine gG (by rfl) _ (fun X hX=>by obtain ⟨i,rfl⟩:=hX;exact lV _ _ _ _ rfl _ ((h1.kept i.h).look ha)) ?_;try simp only [pS]
 go_big_quiet_step (fail)
 refine wpQuiet_nil ?_;rintro _ ⟨i,rfl⟩;have hib:=i.h;generalize i.w=wi at hib ⊢;go_wp2;go_ret;exact ⟨rfl,below2 hbw hib⟩
/-! ### Has -/
theorem AL {v b:Nat} {l:List Dot} (d:Dot) (w:World) (h:VecIn w v b l):Calls prog 56 #[.pointer (some ⟨v,0,none⟩),bV d] w fun e w'=>e=.returned (.bool (iP l d))/\Below w.heap.size w w':=by
 have HR0:=fun (X:World)=>iM d X
 cases hd:bi d with
 | false =>
   have HE:Hid (iP l d=false):=by unfold Hid iP;rw [hd];rfl
   rw [hd] at HR0;have HR:=aa HR0;clear HR0 hd;go_enter func56,ntmps56;go_upto_region 1 with fail
   refine aJ (by kernel_rfl) (by kernel_rfl) (fun W hW=>?_);have hbw:Below w.heap.size w W:=by rw [hW.out];go_grown
   have x0:∀ i:After W,i.w.cell? ⟨w.heap.size,0,none⟩=some (.int .i64 d.a.dev):=fun i=>i.cell (by rw [hW.out];go_simp);have x1:∀ i:After W,i.w.cell? ⟨w.heap.size,1,none⟩=some (.int .i64 d.a.inc):=fun i=>i.cell (by rw [hW.out];go_simp);have x2:∀ i:After W,i.w.cell? ⟨w.heap.size,2,none⟩=some (.int .i64 d.seq):=fun i=>i.cell (by rw [hW.out];go_simp);clear hW h;go_big_quiet_step (fail)
   go_big_quiet_step (exact Calls.after (HR.out _))
   iterate 10 go_big_quiet_step (fail)
   refine wpQuiet_nil ?_;rintro _ ⟨i,rfl⟩;have hib:=i.h;generalize i.w=wi at hib ⊢;go_wp2;go_ret;exact ⟨aB HE.out.symm,below2 hbw hib⟩
 | true =>
   have hW0:=iC hd;have HE:Hid (iP l d=decide (d.seq<=fE l d.a)):=by unfold Hid iP;rw [hd];rfl
   rw [hd] at HR0;have HR:=aa HR0;have HG:=aa (fun (X:World) (h:VecIn X v b l)=>AP d.a hW0.a X h);clear HR0 hd hW0;go_enter func56,ntmps56;go_upto_region 1 with fail
   refine aJ (by kernel_rfl) (by kernel_rfl) (fun W hW=>?_);have hbw:Below w.heap.size w W:=by rw [hW.out];go_grown
   have h1:=h.kept hbw;have x0:∀ i:After W,i.w.cell? ⟨w.heap.size,0,none⟩=some (.int .i64 d.a.dev):=fun i=>i.cell (by rw [hW.out];go_simp);have x1:∀ i:After W,i.w.cell? ⟨w.heap.size,1,none⟩=some (.int .i64 d.a.inc):=fun i=>i.cell (by rw [hW.out];go_simp);have x2:∀ i:After W,i.w.cell? ⟨w.heap.size,2,none⟩=some (.int .i64 d.seq):=fun i=>i.cell (by rw [hW.out];go_simp);clear hW h;go_big_quiet_step (fail)
   go_big_quiet_step (exact Calls.after (HR.out _))
   iterate 4 go_big_quiet_step (fail)
   go_big_quiet_step (exact Calls.after (HG.out _ (h1.kept (After.h _))))
   iterate 5 go_big_quiet_step (fail)
   refine wpQuiet_nil ?_;rintro _ ⟨i,rfl⟩;have hib:=i.h;generalize i.w=wi at hib ⊢;go_wp2;go_ret;exact ⟨aB (by rw [HE.out]),below2 hbw hib⟩
/-- marks, an actor's number set -/
def setM:List Dot->Actor->Int->List Dot
 | [],a,n=>[⟨a,n⟩]
 | d :: l,a,n=>if d.a=a then ⟨a,n⟩ :: l else if bJ d.a a=true then d :: setM l a n else ⟨a,n⟩ :: d :: l
def qg (l:List Dot):Prop:=l.Pairwise fun x y=>bJ x.a y.a=true
theorem dH (a:Actor):bJ a a=false:=by unfold bJ;simp
theorem jv {a b c:Actor} (h:bJ a b=true) (k:bJ b c=true):bJ a c=true:=by
 unfold bJ at *;simp only [Bool.or_eq_true,Bool.and_eq_true,decide_eq_true_eq] at *;omega
theorem mf {a b:Actor} (h:a≠b) (k:bJ a b=false):bJ b a=true:=by
 unfold bJ at *;simp only [Bool.or_eq_true,Bool.or_eq_false_iff,Bool.and_eq_true,Bool.and_eq_false_iff,decide_eq_true_eq,decide_eq_false_iff_not] at *;have:¬ (a.dev=b.dev/\a.inc=b.inc):=fun e=>h (by cases a;cases b;simp_all);omega
theorem Ig:∀ {l:List Dot} {a:Actor} {n:Int},(∀ d∈l,d.a≠a)->(setM l a n).Perm (⟨a,n⟩ :: l)
 | [],a,n,_=>List.Perm.refl _
 | d :: l,a,n,h=>by
   unfold setM;rw [if_neg (h d List.mem_cons_self)];split
   ·exact ((Ig (fun e he=>h e (List.mem_cons_of_mem _ he))).cons d).trans (List.Perm.swap ..)
   ·exact List.Perm.refl _
theorem Ie:∀ {l:List Dot} {a:Actor} {n:Int} {d:Dot},qg l->d∈l->d.a=a->∃ r,l.Perm (d :: r)/\(setM l a n).Perm (⟨a,n⟩ :: r)
 | [],a,n,d,_,h,_=>by simp at h
 | x :: l,a,n,d,hs,h,hd=>by
   obtain ⟨h1,h2⟩:=List.pairwise_cons.1 hs;unfold setM;by_cases hx:x.a=a
   ·rw [if_pos hx]
    rcases List.mem_cons.1 h with rfl | h
    ·exact ⟨l,List.Perm.refl _,List.Perm.refl _⟩
    ·have:=h1 d h
     rw [hx,hd,dH] at this
     cases this
   ·rw [if_neg hx]
    rcases List.mem_cons.1 h with rfl | h
    ·exact absurd hd hx
    ·have:=h1 d h
     rw [hd] at this;rw [if_pos this];obtain ⟨r,p1,p2⟩:=Ie (n:=n) h2 h hd;exact ⟨x :: r,(p1.cons x).trans (List.Perm.swap ..),(p2.cons x).trans (List.Perm.swap ..)⟩
theorem Dk:∀ (l:List Dot) (a:Actor) (n:Int) (b:Actor),fE (setM l a n) b=if b=a then n else fE l b
 | [],a,n,b=>by
   unfold setM fE;simp only [List.find?_cons,List.find?_nil];by_cases h:a=b
   ·subst h;simp
   ·rw [decide_eq_false h,if_neg (fun e=>h e.symm)]
 | d :: l,a,n,b=>by
   have ih:=Dk l a n b;unfold setM;split
   ·rename_i hd
    unfold fE at ih ⊢;simp only [List.find?_cons];by_cases h:a=b
    ·subst h;simp
    ·rw [decide_eq_false h,if_neg (fun e=>h e.symm),decide_eq_false (fun e=>h (by rw [<- hd];exact e))]
   ·rename_i hd
    split
    ·unfold fE at ih ⊢
     simp only [List.find?_cons];by_cases h:d.a=b
     ·rw [decide_eq_true h,if_neg (fun e=>hd (by rw [h,e]))]
     ·rw [decide_eq_false h]
      exact ih
    ·unfold fE
     simp only [List.find?_cons];by_cases h:a=b
     ·subst h;simp
     ·rw [decide_eq_false h,if_neg (fun e=>h e.symm)]
theorem Bc {l:List Dot} {a:Actor} {n:Int}:∀ {d:Dot},d∈setM l a n->d=⟨a,n⟩\/d∈l:=by
 induction l with
 | nil=>intro d h;simp [setM] at h;exact Or.inl h
 | cons x l ih =>
   intro d h;unfold setM at h;split at h
   ·rcases List.mem_cons.1 h with h | h
    ·exact Or.inl h
    ·exact Or.inr (List.mem_cons_of_mem _ h)
   ·split at h
    ·rcases List.mem_cons.1 h with h | h
     ·exact Or.inr (by rw [h];exact List.mem_cons_self)
     ·exact (ih h).imp id (List.mem_cons_of_mem _)
    ·rcases List.mem_cons.1 h with h | h
     ·exact Or.inl h
     ·exact Or.inr h
theorem Ba:∀ {l:List Dot} {a:Actor} {n:Int},qg l->qg (setM l a n)
 | [],a,n,_=>by simp [setM,qg]
 | d :: l,a,n,h=>by
   obtain ⟨h1,h2⟩:=List.pairwise_cons.1 h;unfold setM;split
   ·rename_i hd
    exact List.pairwise_cons.2 ⟨fun y hy=>by rw [<- hd];exact h1 y hy,h2⟩
   ·rename_i hd
    split
    ·rename_i hlt
     refine List.pairwise_cons.2 ⟨fun y hy=>?_,Ba h2⟩;rcases Bc hy with rfl | hy
     ·exact hlt
     ·exact h1 y hy
    ·rename_i hlt
     have hda:bJ a d.a=true:=mf hd (Bool.eq_false_iff.2 hlt);refine List.pairwise_cons.2 ⟨fun y hy=>?_,h⟩;rcases List.mem_cons.1 hy with rfl | hy
     ·exact hda
     ·exact jv hda (h1 y hy)
theorem zl (l:List Dot) (a:Actor) (n:Int):(setM l a n).length<=l.length+1:=by
 induction l with
 | nil=>simp [setM]
 | cons d l ih =>
   unfold setM;split
   ·simp
   ·split
    ·simp only [List.length_cons];omega
    ·simp
theorem yU {l m:List Dot} (h:l.Perm m):(xM l).Perm (xM m):=h.map _
theorem Tab.setM {w:World} {b:Nat} {l:List Dot} (h:Tab prog 53 fF ActW jW w b (xM l)) (hs:qg l) (hl:l.length+1<maxLen) {a:Actor} (ha:ActW a) (n:Int) :
 ∃ w',(Instr.mapUpdate 169 (.map (some b)) (fF a) (.int .i64 n)).run prog w=.ok () w'/\Tab prog 53 fF ActW jW w' b (xM (Go.Proofs.YtffobmpeeopadaaGreat.setM l a n))/\Fr (isR b) w w':=by
 cases hf:l.find? fun d=>decide (d.a=a) with
 | none =>
   obtain ⟨_,h2⟩:=yM hf;obtain ⟨w',h3,h4,h5⟩:=h.store_new vF underlying169 (by unfold xM;rw [List.length_map];omega) ha (fun p hp=>by obtain ⟨d,hd,rfl⟩:=List.mem_map.1 hp;exact h2 d hd) n;exact ⟨w',h3,h4.perm (yU (Ig h2)).symm,h5⟩
 | some d =>
   obtain ⟨_,h2,h3⟩:=yL hf;obtain ⟨r,p1,p2⟩:=Ie (n:=n) hs h2 h3;have hp:=h.perm (yU p1);have hlr:=p1.length_eq;simp only [List.length_cons] at hlr;obtain ⟨w',h4,h5,h6⟩:=Tab.store_old (m:=xM r) vF (show Tab prog 53 fF ActW jW w b ((d.a,d.seq) :: xM r) from hp) underlying169 (by unfold xM;rw [List.length_map];omega) n;rw [h3] at h4 h5;exact ⟨w',h4,h5.perm (yU p2).symm,h6⟩
/-! ### New -/
theorem Hy (w:World):Calls prog 51 #[] w fun e w'=>e=.returned (.pointer (some ⟨w.heap.size+1,0,none⟩))/\VecIn w' (w.heap.size+1) w.heap.size []/\Below w.heap.size w w':=by
 have hmm:=@run_makeMap prog;go_enter func51,ntmps51;go_wp2;go_ret;refine ⟨by simp,⟨?_,?_⟩,by go_grown⟩
 ·have:=cu (w.alloc (.map #[] 0)) (.cells #[.map (some w.heap.size)] 171)
  simpa using this
 ·exact (Tab.made w).kept ((Below.refl _ _).alloc (al _) _)
def l9 (l:List Dot) (a:Actor) (n:Int):Bool:=bi ⟨a,n⟩ && decide (fE l a<n)
/-- behind what may turn a vector -/
def SI (v b:Nat) (r:Bool) (l':List Dot) (w:World) (e:Ending) (w':World):Prop:=e=.returned (.bool r)/\VecIn w' v b l'/\Fr (isR b) w w'
theorem Jn {S:Nat->Prop} {w w1 w2:World} (h:Below w.heap.size w w1) (k:Fr S w1 w2):Fr S w w2:=(Fr.of_below h).again k
theorem VecIn.ne {w:World} {v b:Nat} {l:List Dot} (h:VecIn w v b l):v≠b:=by
 obtain ⟨es,cl,h1⟩:=h.tab.mapped;intro e;have:=h.cell;rw [e,h1] at this
 cases this
theorem z24 {p : Prop} (h : p := by (rintro w ⟨s0, s1, s2⟩; go_simp; try with_reducible rfl)) : p := h
theorem z96 {p : Prop} (h : p := by
 refine wpQuiet_nil ?_
 rintro _ ⟨i, rfl⟩
 have hib := i.h
 generalize i.w = wi at hib ⊢
 go_wp2
 all_goals
     go_ret
     have hbt := below2 hbw hib
     exact ⟨rfl, HV.out.kept hbt, Fr.of_below hbt⟩) : p := h
theorem y50 {p q : Prop} (k : q) (h : PLift q -> p := by
 intro kk
 try simp only [pS]
 refine bD (i := 6) (o := ⟨none, _, _, _, _, _⟩) (by kernel_rfl) rfl ?_
 exact kk.down) : p := h ⟨k⟩
theorem y48 {p q : Prop} (k : q) (h : PLift q -> p := by
 intro kk
 go_big_quiet_step (exact Calls.after (HR.out _))
 iterate 9 go_big_quiet_step (fail)
 refine gG (by rfl) _ (fun X hX => by obtain ⟨i, rfl⟩ := hX; exact lV _ _ _ _ rfl _ ((h1.kept i.h).look hW0.a)) ?_
 try simp only [pS]
 iterate 2 go_big_quiet_step (fail)
 exact kk.down) : p := h ⟨k⟩
theorem y82 {p q : Prop} (k : q) (h : PLift q -> p := by
 intro kk
 refine mg (by kernel_rfl) ?_ _
 refine NoPanic.normal ?_
 exact kk.down) : p := h ⟨k⟩
theorem y66 {p q : Prop} (k : q) (h : PLift q -> p := by
 intro kk
 refine hK.out _ _ (Or.inl (by kernel_rfl)) ?_
 try simp only [pS]
 exact kk.down) : p := h ⟨k⟩
theorem y6 {p q : Prop} (k : q) (h : PLift q -> p := by
 intro kk
 intro K hK
 go_simp
 refine y66 ?_
 clear hK K
 refine y82 ?_
 exact kk.down) : p := h ⟨k⟩
theorem J9 {v b:Nat} {l:List Dot} (a:Actor) (n:Int) (w:World) (h:VecIn w v b l) (hs:qg l) (hl:l.length<=1073741824) :
 Calls prog 110 #[.pointer (some ⟨v,0,none⟩),fF a,.int .i64 n] w (SI v b (l9 l a n) (if l9 l a n=true then setM l a n else l) w):=by
 have HR0:=fun (X:World)=>wG a n X
 cases hd:bi ⟨a,n⟩ with
 | false =>
   have HE:l9 l a n=false:=by unfold l9;rw [hd];rfl
   rw [HE,if_neg (by decide)];rw [hd] at HR0;have HR:=aa HR0;have HV:=aa h;clear HR0 hd HE;go_enter func110,ntmps110;go_upto_region 1 with fail
   refine aJ (by kernel_rfl) (by kernel_rfl) (fun W hW=>?_);have hbw:Below w.heap.size w W:=by rw [hW.out];go_grown
   have h1:=h.kept hbw;have x0:∀ i:After W,i.w.cell? ⟨w.heap.size,0,none⟩=some (.int .i64 a.dev):=fun i=>i.cell (by rw [hW.out];go_simp);have x1:∀ i:After W,i.w.cell? ⟨w.heap.size,1,none⟩=some (.int .i64 a.inc):=fun i=>i.cell (by rw [hW.out];go_simp);have y0:∀ i:After W,i.w.cell? ⟨v,0,none⟩=some (.map (some b)):=fun i=>i.cell (one_cell h1.cell).1;clear hW h;iterate 5 go_big_quiet_step (fail)
   go_big_quiet_step (exact Calls.after (HR.out _))
   iterate 12 go_big_quiet_step (fail)
   refine wpQuiet_nil ?_;rintro _ ⟨i,rfl⟩;have hib:=i.h;generalize i.w=wi at hib ⊢;go_wp2;all_goals
    go_ret;have hbt:=below2 hbw hib;exact ⟨rfl,HV.out.kept hbt,Fr.of_below hbt⟩
 | true =>
   have hW0:=iC hd;rw [hd] at HR0;have HR:=aa HR0;have HV:=aa h;by_cases hlt:fE l a<n
   ·have HE:l9 l a n=true:=by unfold l9;rw [hd,decide_eq_true hlt];rfl
    rw [HE,if_pos rfl];have hle:decide (n<=fE l a)=false:=by simpa using hlt
    clear HR0 hd HE;go_enter func110,ntmps110;go_upto_region 1 with fail
    refine y13 ?_
    clear h
    intro W hbw h1 x0 x1 y0
    refine y48 ?_
    refine wpQuiet_nil ?_;rintro _ ⟨i,rfl⟩;have hib:=i.h;generalize i.w=wi at hib ⊢;have h2:=h1.kept hib;have q0:wi.cell? ⟨w.heap.size,0,none⟩=some (.int .i64 a.dev):=kept hib (x0 ⟨W,Below.refl _ _⟩);have q1:wi.cell? ⟨w.heap.size,1,none⟩=some (.int .i64 a.inc):=kept hib (x1 ⟨W,Below.refl _ _⟩);have q2:wi.cell? ⟨v,0,none⟩=some (.map (some b)):=(one_cell h2.cell).1;have hbt:=below2 hbw hib;clear x0 x1 y0;have hmn:=fun (X:World)=>run_eql_map_nil (P:=prog) X 169 53 3 (some b) underlying169;go_upto_region 5 with fail
    clear hmn;obtain ⟨w2,hrun,htab,hfr⟩:=Tab.setM (w:=wi.drew) h2.tab hs (by unfold maxLen;omega) hW0.a n;have HT:=aa htab;have HF:=aa hfr;clear htab hfr;refine wp_region_noPanic ?_;refine bG (fun W'=>W'.cell? ⟨w.heap.size,0,none⟩=some (.int .i64 a.dev)/\W'.cell? ⟨w.heap.size,1,none⟩=some (.int .i64 a.inc)/\W'.cell? ⟨v,0,none⟩=some (.map (some b))) [6] (by kernel_rfl) ?_;have hS:=And.intro (show wi.drew.cell? _=_ from q0) (And.intro (show wi.drew.cell? _=_ from q1) (show wi.drew.cell? _=_ from q2));refine tL (v:=?_) 0 34 rfl (Or.inl ⟨by rfl,?_⟩) ?_
    case refine_2 => exact z24
    try simp only [pS]
    refine tL (v:=?_) 1 35 rfl (Or.inl ⟨by rfl,?_⟩) ?_
    case refine_2 => exact z24
    try simp only [pS]
    refine tL (v:=?_) 2 36 rfl (Or.inl ⟨by rfl,?_⟩) ?_
    case refine_2 => exact z24
    try simp only [pS]
    refine tL (v:=?_) 3 37 rfl (Or.inl ⟨by rfl,?_⟩) ?_
    case refine_2 => exact z24
    try simp only [pS]
    refine tL (v:=?_) 4 38 rfl (Or.inl ⟨by rfl,?_⟩) ?_
    case refine_2 => exact z24
    try simp only [pS]
    refine tL (v:=?_) 5 39 rfl (Or.inl ⟨by rfl,?_⟩) ?_
    case refine_2 => exact z24
    refine y50 ?_
    refine y6 ?_
    go_wp2;all_goals
        go_ret;have hf2:Fr (isR b) w w2:=Jn (hbt.trans ((Below.refl wi.heap.size wi).drew.mono hbt.size)) HF.out;exact ⟨rfl,⟨(hf2.block v (lt_of_block HV.out.cell) HV.out.ne).trans HV.out.cell,HT.out⟩,hf2⟩
   ·have HE:l9 l a n=false:=by unfold l9;rw [decide_eq_false hlt,Bool.and_false]
    rw [HE,if_neg (by decide)];have hle:decide (n<=fE l a)=true:=by simpa using hlt
    clear HR0 hd HE;go_enter func110,ntmps110;go_upto_region 1 with fail
    refine y13 ?_
    clear h
    intro W hbw h1 x0 x1 y0
    refine y48 ?_
    exact z96
/-! ### Take -/
def pO (l:List Dot) (d:Dot):Bool:=bi d && decide (fE l d.a+1=d.seq)
theorem z20 {p : Prop} (h : p := by (rintro w hSw; have s0 := kept hSw x0; have s1 := kept hSw x1; have s2 := kept hSw x2; go_simp; try with_reducible rfl)) : p := h
theorem y41 {p q : Prop} (k : q) (h : PLift q -> p := by
 intro kk
 have x0 : ∀ i : After W, i.w.cell? ⟨w.heap.size, 0, none⟩ = some (.int .i64 d.a.dev) := fun i => i.cell (by rw [hW.out]; go_simp)
 have x1 : ∀ i : After W, i.w.cell? ⟨w.heap.size, 1, none⟩ = some (.int .i64 d.a.inc) := fun i => i.cell (by rw [hW.out]; go_simp)
 have x2 : ∀ i : After W, i.w.cell? ⟨w.heap.size, 2, none⟩ = some (.int .i64 d.seq) := fun i => i.cell (by rw [hW.out]; go_simp)
 revert x0 x1 x2
 exact kk.down) : p := h ⟨k⟩
theorem Oc {v b:Nat} {l:List Dot} (d:Dot) (w:World) (h:VecIn w v b l) (hs:qg l) (hl:l.length<=1073741824) :
 Calls prog 59 #[.pointer (some ⟨v,0,none⟩),bV d] w (SI v b (pO l d) (if pO l d=true then setM l d.a d.seq else l) w):=by
 have HR0:=fun (X:World)=>iM d X
 cases hd:bi d with
 | false =>
   have HE:pO l d=false:=by unfold pO;rw [hd];rfl
   rw [HE,if_neg (by decide)];rw [hd] at HR0;have HR:=aa HR0;have HV:=aa h;clear HR0 hd HE;go_enter func59,ntmps59;go_upto_region 1 with fail
   refine aJ (by kernel_rfl) (by kernel_rfl) (fun W hW=>?_);have hbw:Below w.heap.size w W:=by rw [hW.out];go_grown
   have x0:∀ i:After W,i.w.cell? ⟨w.heap.size,0,none⟩=some (.int .i64 d.a.dev):=fun i=>i.cell (by rw [hW.out];go_simp);have x1:∀ i:After W,i.w.cell? ⟨w.heap.size,1,none⟩=some (.int .i64 d.a.inc):=fun i=>i.cell (by rw [hW.out];go_simp);have x2:∀ i:After W,i.w.cell? ⟨w.heap.size,2,none⟩=some (.int .i64 d.seq):=fun i=>i.cell (by rw [hW.out];go_simp);clear hW h;go_big_quiet_step (fail)
   go_big_quiet_step (exact Calls.after (HR.out _))
   iterate 19 go_big_quiet_step (fail)
   refine wpQuiet_nil ?_;rintro _ ⟨i,rfl⟩;have hib:=i.h;generalize i.w=wi at hib ⊢;go_wp2;all_goals
    go_ret;have hbt:=below2 hbw hib;exact ⟨rfl,HV.out.kept hbt,Fr.of_below hbt⟩
 | true =>
   have hW0:=iC hd;have hrange : -1<=d.seq/\d.seq<=4294967296:=by
    simp only [bi,Bool.and_eq_true,decide_eq_true_eq] at hd;omega
   have hwr:IntKind.i64.wrap (d.seq - 1)=d.seq - 1:=IntWalk.i64_in _ (by omega);rw [hd] at HR0;have HR:=aa HR0;have HV:=aa h;have HG:=aa (fun (X:World) (h:VecIn X v b l)=>AP d.a hW0.a X h);by_cases hlt:fE l d.a+1=d.seq
   ·have HE:pO l d=true:=by unfold pO;rw [hd,decide_eq_true hlt];rfl
    rw [HE,if_pos rfl];have hro:l9 l d.a d.seq=true:=by unfold l9;rw [show (⟨d.a,d.seq⟩:Dot)=d from rfl,hd,decide_eq_true (by omega)];rfl
    have HRS:=aa (fun (X:World) (h:VecIn X v b l)=>J9 d.a d.seq X h hs hl);rw [hro] at HRS;have heq:(d.seq - 1 == fE l d.a)=true:=by rw [beq_iff_eq];omega
    clear HR0 hd HE hro hlt;go_enter func59,ntmps59;go_upto_region 1 with fail
    refine aU (fun W hW=>?_);have hbw:Below w.heap.size w W:=by rw [hW.out];go_grown
    have hbd:Below w.heap.size w W.drew:=hbw.drew;have h1:VecIn W.drew v b l:=h.kept hbd;have x0:W.drew.cell? ⟨w.heap.size,0,none⟩=some (.int .i64 d.a.dev):=by rw [hW.out];go_simp
    have x1:W.drew.cell? ⟨w.heap.size,1,none⟩=some (.int .i64 d.a.inc):=by rw [hW.out];go_simp
    have x2:W.drew.cell? ⟨w.heap.size,2,none⟩=some (.int .i64 d.seq):=by rw [hW.out];go_simp
    clear hW h;have hb0:Below W.drew.heap.size W.drew W.drew:=Below.refl _ _;refine wp_region_noPanic ?_;refine bG (fun X=>Below W.drew.heap.size W.drew X) [18] (by kernel_rfl) ?_;refine tL (v:=?_) 0 5 rfl (Or.inl ⟨by rfl,?_⟩) ?_
    case refine_2 => exact z20
    try simp only [pS]
    refine bD (i:=1) (o:=⟨some 6,_,_,_,_,_⟩) (by kernel_rfl) rfl ?_;intro K hK;go_simp;go_at_call 106;(with_reducible refine (HR.out _).mono ?_)
    rintro e w5 ⟨rfl,hb5⟩;go_simp;refine hK.out _ _ (Or.inr (hb5)) ?_;clear hK K;try simp only [pS]
    have hk5:=hb5;refine tL (v:=?_) 2 7 rfl (Or.inl ⟨by rfl,?_⟩) ?_
    case refine_2 => exact z20
    try simp only [pS]
    refine tL (v:=?_) 3 8 rfl (Or.inl ⟨by rfl,?_⟩) ?_
    case refine_2 => exact z20
    try simp only [pS]
    refine tL (v:=?_) 4 9 rfl (Or.inl ⟨by rfl,?_⟩) ?_
    case refine_2 => exact z20
    try simp only [pS]
    refine tL (v:=?_) 5 10 rfl (Or.inl ⟨by rfl,?_⟩) ?_
    case refine_2 => exact z20
    try simp only [pS]
    refine tL (v:=?_) 6 11 rfl (Or.inl ⟨by rfl,?_⟩) ?_
    case refine_2 => exact z20
    try simp only [pS]
    refine tL (v:=?_) 7 12 rfl (Or.inl ⟨by rfl,?_⟩) ?_
    case refine_2 => exact z20
    try simp only [pS]
    refine tL (v:=?_) 8 13 rfl (Or.inl ⟨by rfl,?_⟩) ?_
    case refine_2 => exact z20
    try simp only [pS]
    refine bD (i:=9) (o:=⟨some 14,_,_,_,_,_⟩) (by kernel_rfl) rfl ?_;intro K hK;go_simp;go_at_call 57;(with_reducible refine (HG.out _ (h1.kept hk5)).mono ?_)
    rintro e w6 ⟨rfl,hb6⟩;go_simp;refine hK.out _ _ (Or.inr (hb5.trans (hb6.mono hb5.size))) ?_;clear hK K;try simp only [pS]
    have Xz:=hb5.trans (hb6.mono hb5.size);refine tL (v:=?_) 10 15 rfl (Or.inl ⟨by rfl,?_⟩) ?_
    case refine_2 => exact z20
    try simp only [pS]
    refine tL (v:=?_) 11 16 rfl (Or.inl ⟨by rfl,?_⟩) ?_
    case refine_2 => exact z20
    try simp only [pS]
    refine tL (v:=?_) 12 17 rfl (Or.inl ⟨by rfl,?_⟩) ?_
    case refine_2 => exact z20
    try simp only [pS]
    refine tL (v:=?_) 13 18 rfl (Or.inl ⟨by rfl,?_⟩) ?_
    case refine_2 => exact z20
    try simp only [pS]
    refine tL (v:=?_) 14 19 rfl (Or.inl ⟨by rfl,?_⟩) ?_
    case refine_2 => exact z20
    try simp only [pS]
    refine tL (v:=?_) 15 20 rfl (Or.inl ⟨by rfl,?_⟩) ?_
    case refine_2 => exact z20
    try simp only [pS]
    refine tL (v:=?_) 16 21 rfl (Or.inl ⟨by rfl,?_⟩) ?_
    case refine_2 => exact z20
    try simp only [pS]
    refine tL (v:=?_) 17 22 rfl (Or.inl ⟨by rfl,?_⟩) ?_
    case refine_2 => exact z20
    try simp only [pS]
    refine bD (i:=18) (o:=⟨some 23,_,_,_,_,_⟩) (by kernel_rfl) rfl ?_;intro K hK;go_simp;go_at_call 110;(with_reducible refine (HRS.out _ (h1.kept Xz)).mono ?_)
    rintro e w7 ⟨rfl,hv7,hf7⟩;go_simp
    refine y66 ?_
    clear hK K
    refine bD (i:=19) (o:=⟨some 24,_,_,_,_,_⟩) (by kernel_rfl) rfl ?_;intro K hK;go_simp
    refine y66 ?_
    clear hK K
    refine bD (i:=20) (o:=⟨some 4,_,_,_,_,_⟩) (by kernel_rfl) rfl ?_
    refine y6 ?_
    have hbt:=below2 hbd Xz;clear x0 x1 x2;go_wp2;all_goals
        go_ret;exact ⟨rfl,hv7,Jn hbt hf7⟩
   ·have HE:pO l d=false:=by unfold pO;rw [decide_eq_false hlt,Bool.and_false]
    rw [HE,if_neg (by decide)];have heq:(d.seq - 1 == fE l d.a)=false:=by rw [beq_eq_false_iff_ne];omega
    clear HR0 hd HE hlt;go_enter func59,ntmps59;go_upto_region 1 with fail
    refine y65 ?_
    intro W hW hbw
    have h1:=h.kept hbw
    refine y41 ?_
    intro x0 x1 x2
    clear hW h
    go_big_quiet_step (fail)
    go_big_quiet_step (exact Calls.after (HR.out _))
    iterate 7 go_big_quiet_step (fail)
    go_big_quiet_step (exact Calls.after (HG.out _ (h1.kept (After.h _))))
    iterate 11 go_big_quiet_step (fail)
    exact z96
end Go.Proofs.YtffobmpeeopadaaGreat
