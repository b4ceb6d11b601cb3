/- Vectors: Get, Has. Conditions: as in the text. -/
import Derived.Test.YtepkclldbkhanaaGreatCel
import Derived.Test.YtepkclldbkhanaaGreatMark
import Derived.Test.YtepkclldbkhanaaGreatLast
import Derived.WalkSpells
import Derived.Sort.Grow
import Derived.Deep.Draws
import Derived.Sort.Statements
import Derived.Shelf.SlSortCmp.Insertion
set_option linter.unusedSimpArgs false
set_option linter.unusedVariables false
set_option linter.unnecessarySimpa false
set_option maxHeartbeats 16000000
set_option maxRecDepth 100000
open Go.Proofs.Tryz
namespace Go.Proofs.YtepkclldbkhanaaGreat
open Go.RowKit
theorem tq {P:Program} {o:Oper} {a:Act} {w:World} (t:TypeId) (m x:Operand) (c:Bool) (ho:o.op=.lookup t m x c) (v:Value) (h:(Instr.lookup t (a.eval m) (a.eval x) c).run P w=.ok v w):(execOp a.eval o).run P w=.ok (.value v) w:=by
 unfold execOp;simp only [ho];simp [Sem.run_bind,h,Result.andThen]
/-- marks: an actor's number -/
def jl (l:List Dot) (a:Actor):Int:=match l.find? fun d=>decide (d.a=a) with | some d=>d.seq | none=>0
def iJ (l:List Dot) (d:Dot):Bool:=bJ d && decide (d.seq≤jl l d.a)
/-- marks as entries -/
def wH (l:List Dot):List (Actor×Int):=l.map fun d=>(d.a,d.seq)
abbrev jQ (n:Int):Value:=.int .i64 n
/-- block v holds a vector whose map lies in block b: marks l -/
structure VecIn (w:World) (v b:Nat) (l:List Dot):Prop where
 cell:w.heap[v]?=some (.cells #[.map (some b)] 165 (0,0))
 tab:Tab prog 119 fO ActW jQ w b (wH l)
theorem VecIn.block {w w':World} {v b:Nat} {l:List Dot} (h:VecIn w v b l) (h1:w'.heap[v]?=w.heap[v]?) (h2:w'.heap[b]?=w.heap[b]?):VecIn w' v b l:=⟨h1.trans h.cell,h.tab.block h2⟩
theorem VecIn.kept {w w':World} {v b:Nat} {l:List Dot} (h:VecIn w v b l) (hb:Below w.heap.size w w'):VecIn w' v b l:=h.block (hb.block v (lt_of_block h.cell)) (hb.block b h.tab.lt)
theorem VecIn.fr {S:Nat→Prop} {w w':World} {v b:Nat} {l:List Dot} (h:VecIn w v b l) (hf:Fr S w w') (h1:¬ S v) (h2:¬ S b):VecIn w' v b l:=h.block (hf.block v (lt_of_block h.cell) h1) (hf.block b h.tab.lt h2)
theorem one_cell {w:World} {R:Nat} {x:Value} {t:TypeId} (h:w.heap[R]?=some (.cells #[x] t (0,0))):w.cell? ⟨R,0,none⟩=some x∧w.frozen? ⟨R,0,none⟩=false:=by
 simp [World.cell?,World.frozen?,h]
theorem DZ {l:List Dot} {a:Actor} {d:Dot} (h:l.find? (fun d=>decide (d.a=a))=some d):jl l a=d.seq∧d∈l∧d.a=a:=by
 refine ⟨by unfold jl;rw [h],List.mem_of_find?_eq_some h,?_⟩;simpa using List.find?_some h
theorem D8 {l:List Dot} {a:Actor} (h:l.find? (fun d=>decide (d.a=a))=none):jl l a=0∧∀ d∈l,d.a≠a:=by
 refine ⟨by unfold jl;rw [h],fun d hd=>?_⟩;simpa using List.find?_eq_none.1 h d hd
theorem VecIn.look {w:World} {v b:Nat} {l:List Dot} (h:VecIn w v b l) {a:Actor} (ha:ActW a) :
 (Instr.lookup 163 (.map (some b)) (fO a) false).run prog w=.ok (.int .i64 (jl l a)) w:=by
 cases hf:l.find? fun d=>decide (d.a=a) with
 | some d =>
   obtain ⟨h1,h2,h3⟩:=DZ hf;have:=h.tab.look_hit uF underlying163 (z:=.int .i64 0) (by kernel_rfl) (p:=(d.a,d.seq)) (List.mem_map.2 ⟨d,h2,rfl⟩) false;rw [h1,← h3];exact this
 | none =>
   obtain ⟨h1,h2⟩:=D8 hf;have:=h.tab.look_miss uF underlying163 (z:=.int .i64 0) (by kernel_rfl) ha (fun p hp=>by obtain ⟨d,hd,rfl⟩:=List.mem_map.1 hp;exact h2 d hd) false;rw [h1];exact this
/-! ### Get -/
theorem y68 {p q : Prop} (k : q) (h : PLift q → p := by
 intro kk
 refine aP (by kernel_rfl) (by kernel_rfl) (fun W hW => ?_)
 have hbw : Below w.heap.size w W := by rw [hW.out]; go_grown
 revert W hW hbw
 exact kk.down) : p := h ⟨k⟩
theorem Ph {v b:Nat} {l:List Dot} (a:Actor) (ha:ActW a) (w:World) (h:VecIn w v b l):Calls prog 174 #[.pointer (some ⟨v,0,none⟩),fO a] w fun e w'=>e=.returned (.int .i64 (jl l a))∧Below w.heap.size w w':=by
 go_enter func174,ntmps174;go_upto_region 3 with fail
 refine y68 ?_
 intro W hW hbw
 have h1:=h.kept hbw;have x0:∀ i:After W,i.w.cell? ⟨w.heap.size,0,none⟩=some (.int .i64 a.dev):=fun i=>i.cell (by rw [hW.out];go_simp);have x1:∀ i:After W,i.w.cell? ⟨w.heap.size,1,none⟩=some (.int .i64 a.inc):=fun i=>i.cell (by rw [hW.out];go_simp);have y0:∀ i:After W,i.w.cell? ⟨v,0,none⟩=some (.map (some b)):=fun i=>i.cell (one_cell h1.cell).1;clear hW h;iterate 5 go_big_quiet_step (fail)
 refine iy (by rfl) _ (fun X hX=>by obtain ⟨i,rfl⟩:=hX;exact tq _ _ _ _ rfl _ ((h1.kept i.h).look ha)) ?_;try simp only [pS]
 go_big_quiet_step (fail)
 refine wpQuiet_nil ?_;rintro _ ⟨i,rfl⟩;have hib:=i.h;generalize i.w=wi at hib ⊢;go_wp2;go_ret;exact ⟨rfl,below2 hbw hib⟩
/-! ### Has -/
theorem Gh {v b:Nat} {l:List Dot} (d:Dot) (w:World) (h:VecIn w v b l):Calls prog 144 #[.pointer (some ⟨v,0,none⟩),bZ d] w fun e w'=>e=.returned (.bool (iJ l d))∧Below w.heap.size w w':=by
 have HR0:=fun (X:World)=>ja d X
 cases hd:bJ d with
 | false =>
   have HE:Hid (iJ l d=false):=by unfold Hid iJ;rw [hd];rfl
   rw [hd] at HR0;have HR:=Lib.hid HR0;clear HR0 hd;go_enter func144,ntmps144;go_upto_region 1 with fail
   refine aP (by kernel_rfl) (by kernel_rfl) (fun W hW=>?_);have hbw:Below w.heap.size w W:=by rw [hW.out];go_grown
   have x0:∀ i:After W,i.w.cell? ⟨w.heap.size,0,none⟩=some (.int .i64 d.a.dev):=fun i=>i.cell (by rw [hW.out];go_simp);have x1:∀ i:After W,i.w.cell? ⟨w.heap.size,1,none⟩=some (.int .i64 d.a.inc):=fun i=>i.cell (by rw [hW.out];go_simp);have x2:∀ i:After W,i.w.cell? ⟨w.heap.size,2,none⟩=some (.int .i64 d.seq):=fun i=>i.cell (by rw [hW.out];go_simp);clear hW h;go_big_quiet_step (fail)
   go_big_quiet_step (exact Calls.after (HR.out _))
   iterate 10 go_big_quiet_step (fail)
   refine wpQuiet_nil ?_;rintro _ ⟨i,rfl⟩;have hib:=i.h;generalize i.w=wi at hib ⊢;go_wp2;go_ret;exact ⟨aJ HE.out.symm,below2 hbw hib⟩
 | true =>
   have hW0:=lJ hd;have HE:Hid (iJ l d=decide (d.seq≤jl l d.a)):=by unfold Hid iJ;rw [hd];rfl
   rw [hd] at HR0;have HR:=Lib.hid HR0;have HG:=Lib.hid (fun (X:World) (h:VecIn X v b l)=>Ph d.a hW0.a X h);clear HR0 hd hW0;go_enter func144,ntmps144;go_upto_region 1 with fail
   refine aP (by kernel_rfl) (by kernel_rfl) (fun W hW=>?_);have hbw:Below w.heap.size w W:=by rw [hW.out];go_grown
   have h1:=h.kept hbw;have x0:∀ i:After W,i.w.cell? ⟨w.heap.size,0,none⟩=some (.int .i64 d.a.dev):=fun i=>i.cell (by rw [hW.out];go_simp);have x1:∀ i:After W,i.w.cell? ⟨w.heap.size,1,none⟩=some (.int .i64 d.a.inc):=fun i=>i.cell (by rw [hW.out];go_simp);have x2:∀ i:After W,i.w.cell? ⟨w.heap.size,2,none⟩=some (.int .i64 d.seq):=fun i=>i.cell (by rw [hW.out];go_simp);clear hW h;go_big_quiet_step (fail)
   go_big_quiet_step (exact Calls.after (HR.out _))
   iterate 4 go_big_quiet_step (fail)
   go_big_quiet_step (exact Calls.after (HG.out _ (h1.kept (After.h _))))
   iterate 5 go_big_quiet_step (fail)
   refine wpQuiet_nil ?_;rintro _ ⟨i,rfl⟩;have hib:=i.h;generalize i.w=wi at hib ⊢;go_wp2;go_ret;exact ⟨aJ (by rw [HE.out]),below2 hbw hib⟩
/-- marks, an actor's number set -/
def setM:List Dot→Actor→Int→List Dot
 | [],a,n=>[⟨a,n⟩]
 | d :: l,a,n=>if d.a=a then ⟨a,n⟩ :: l else if bK d.a a=true then d :: setM l a n else ⟨a,n⟩ :: d :: l
def qP (l:List Dot):Prop:=l.Pairwise fun x y=>bK x.a y.a=true
theorem iT (a:Actor):bK a a=false:=by unfold bK;simp
theorem jf {a b c:Actor} (h:bK a b=true) (k:bK b c=true):bK a c=true:=by
 unfold bK at *;simp only [Bool.or_eq_true,Bool.and_eq_true,decide_eq_true_eq] at *;omega
theorem lK {a b:Actor} (h:a≠b) (k:bK a b=false):bK b a=true:=by
 unfold bK at *;simp only [Bool.or_eq_true,Bool.or_eq_false_iff,Bool.and_eq_true,Bool.and_eq_false_iff,decide_eq_true_eq,decide_eq_false_iff_not] at *;have:¬ (a.dev=b.dev∧a.inc=b.inc):=fun e=>h (by cases a;cases b;simp_all);omega
theorem Gp:∀ {l:List Dot} {a:Actor} {n:Int},(∀ d∈l,d.a≠a)→(setM l a n).Perm (⟨a,n⟩ :: l)
 | [],a,n,_=>List.Perm.refl _
 | d :: l,a,n,h=>by
   unfold setM;rw [if_neg (h d List.mem_cons_self)];split
   ·exact ((Gp (fun e he=>h e (List.mem_cons_of_mem _ he))).cons d).trans (List.Perm.swap ..)
   ·exact List.Perm.refl _
theorem Gn:∀ {l:List Dot} {a:Actor} {n:Int} {d:Dot},qP l→d∈l→d.a=a→∃ r,l.Perm (d :: r)∧(setM l a n).Perm (⟨a,n⟩ :: r)
 | [],a,n,d,_,h,_=>by simp at h
 | x :: l,a,n,d,hs,h,hd=>by
   obtain ⟨h1,h2⟩:=List.pairwise_cons.1 hs;unfold setM;by_cases hx:x.a=a
   ·rw [if_pos hx]
    rcases List.mem_cons.1 h with rfl | h
    ·exact ⟨l,List.Perm.refl _,List.Perm.refl _⟩
    ·have:=h1 d h
     rw [hx,hd,iT] at this
     cases this
   ·rw [if_neg hx]
    rcases List.mem_cons.1 h with rfl | h
    ·exact absurd hd hx
    ·have:=h1 d h
     rw [hd] at this;rw [if_pos this];obtain ⟨r,p1,p2⟩:=Gn (n:=n) h2 h hd;exact ⟨x :: r,(p1.cons x).trans (List.Perm.swap ..),(p2.cons x).trans (List.Perm.swap ..)⟩
theorem BC:∀ (l:List Dot) (a:Actor) (n:Int) (b:Actor),jl (setM l a n) b=if b=a then n else jl l b
 | [],a,n,b=>by
   unfold setM jl;simp only [List.find?_cons,List.find?_nil];by_cases h:a=b
   ·subst h;simp
   ·rw [decide_eq_false h,if_neg (fun e=>h e.symm)]
 | d :: l,a,n,b=>by
   have ih:=BC l a n b;unfold setM;split
   ·rename_i hd
    unfold jl at ih ⊢;simp only [List.find?_cons];by_cases h:a=b
    ·subst h;simp
    ·rw [decide_eq_false h,if_neg (fun e=>h e.symm),decide_eq_false (fun e=>h (by rw [← hd];exact e))]
   ·rename_i hd
    split
    ·unfold jl at ih ⊢
     simp only [List.find?_cons];by_cases h:d.a=b
     ·rw [decide_eq_true h,if_neg (fun e=>hd (by rw [h,e]))]
     ·rw [decide_eq_false h]
      exact ih
    ·unfold jl
     simp only [List.find?_cons];by_cases h:a=b
     ·subst h;simp
     ·rw [decide_eq_false h,if_neg (fun e=>h e.symm)]
theorem zL {l:List Dot} {a:Actor} {n:Int}:∀ {d:Dot},d∈setM l a n→d=⟨a,n⟩∨d∈l:=by
 induction l with
 | nil=>intro d h;simp [setM] at h;exact Or.inl h
 | cons x l ih =>
   intro d h;unfold setM at h;split at h
   ·rcases List.mem_cons.1 h with h | h
    ·exact Or.inl h
    ·exact Or.inr (List.mem_cons_of_mem _ h)
   ·split at h
    ·rcases List.mem_cons.1 h with h | h
     ·exact Or.inr (by rw [h];exact List.mem_cons_self)
     ·exact (ih h).imp id (List.mem_cons_of_mem _)
    ·rcases List.mem_cons.1 h with h | h
     ·exact Or.inl h
     ·exact Or.inr h
theorem zK:∀ {l:List Dot} {a:Actor} {n:Int},qP l→qP (setM l a n)
 | [],a,n,_=>by simp [setM,qP]
 | d :: l,a,n,h=>by
   obtain ⟨h1,h2⟩:=List.pairwise_cons.1 h;unfold setM;split
   ·rename_i hd
    exact List.pairwise_cons.2 ⟨fun y hy=>by rw [← hd];exact h1 y hy,h2⟩
   ·rename_i hd
    split
    ·rename_i hlt
     refine List.pairwise_cons.2 ⟨fun y hy=>?_,zK h2⟩;rcases zL hy with rfl | hy
     ·exact hlt
     ·exact h1 y hy
    ·rename_i hlt
     have hda:bK a d.a=true:=lK hd (Bool.eq_false_iff.2 hlt);refine List.pairwise_cons.2 ⟨fun y hy=>?_,h⟩;rcases List.mem_cons.1 hy with rfl | hy
     ·exact hda
     ·exact jf hda (h1 y hy)
theorem xY (l:List Dot) (a:Actor) (n:Int):(setM l a n).length≤l.length+1:=by
 induction l with
 | nil=>simp [setM]
 | cons d l ih =>
   unfold setM;split
   ·simp
   ·split
    ·simp only [List.length_cons];omega
    ·simp
theorem xO {l m:List Dot} (h:l.Perm m):(wH l).Perm (wH m):=h.map _
theorem Tab.setM {w:World} {b:Nat} {l:List Dot} (h:Tab prog 119 fO ActW jQ w b (wH l)) (hs:qP l) (hl:l.length+1<maxLen) {a:Actor} (ha:ActW a) (n:Int) :
 ∃ w',(Instr.mapUpdate 163 (.map (some b)) (fO a) (.int .i64 n)).run prog w=.ok () w'∧Tab prog 119 fO ActW jQ w' b (wH (Go.Proofs.YtepkclldbkhanaaGreat.setM l a n))∧Fr (isR b) w w':=by
 cases hf:l.find? fun d=>decide (d.a=a) with
 | none =>
   obtain ⟨_,h2⟩:=D8 hf;obtain ⟨w',h3,h4,h5⟩:=h.store_new uF underlying163 (by unfold wH;rw [List.length_map];omega) ha (fun p hp=>by obtain ⟨d,hd,rfl⟩:=List.mem_map.1 hp;exact h2 d hd) n;exact ⟨w',h3,h4.perm (xO (Gp h2)).symm,h5⟩
 | some d =>
   obtain ⟨_,h2,h3⟩:=DZ hf;obtain ⟨r,p1,p2⟩:=Gn (n:=n) hs h2 h3;have hp:=h.perm (xO p1);have hlr:=p1.length_eq;simp only [List.length_cons] at hlr;obtain ⟨w',h4,h5,h6⟩:=Tab.store_old (m:=wH r) uF (show Tab prog 119 fO ActW jQ w b ((d.a,d.seq) :: wH r) from hp) underlying163 (by unfold wH;rw [List.length_map];omega) n;rw [h3] at h4 h5;exact ⟨w',h4,h5.perm (xO p2).symm,h6⟩
/-! ### New -/
theorem Gg (w:World):Calls prog 44 #[] w fun e w'=>e=.returned (.pointer (some ⟨w.heap.size+1,0,none⟩))∧VecIn w' (w.heap.size+1) w.heap.size []∧Below w.heap.size w w':=by
 have hmm:=@run_makeMap prog;go_enter func44,ntmps44;go_wp2;go_ret;refine ⟨by simp,⟨?_,?_⟩,by go_grown⟩
 ·have:=dE (w.alloc (.map #[] 0)) (.cells #[.map (some w.heap.size)] 165)
  simpa using this
 ·exact (Tab.made w).kept ((Below.refl _ _).alloc (Nat.le_refl _) _)
theorem Tt {S:Nat→Prop} {w w1 w2:World} (h:Below w.heap.size w w1) (k:Fr S w1 w2):Fr S w w2:=(Fr.of_below h).again k
theorem VecIn.ne {w:World} {v b:Nat} {l:List Dot} (h:VecIn w v b l):v≠b:=by
 obtain ⟨es,cl,h1⟩:=h.tab.mapped;intro e;have:=h.cell;rw [e,h1] at this
 cases this
/-! ### Take -/
/-- nothing that was there has turned; draws alone -/
structure Up (w w':World):Prop where
 below:Below w.heap.size w w'
 drawn:w.drawn≤w'.drawn
theorem Up.grown {w w':World} (h:Up w w'):∃ q os,w'=Go.Sort.grow (w.drewN q) os:=by
 obtain ⟨⟨h1,h2,h3,h4,h5⟩,h6⟩:=h;refine ⟨w'.drawn - w.drawn,w'.heap.extract w.heap.size w'.heap.size,?_⟩;obtain ⟨hp,tp,dr,os,out⟩:=w';obtain ⟨hp0,tp0,dr0,os0,Xv⟩:=w;simp only [Go.Sort.grow,World.drewN] at *;subst h1 h2 h3;simp only [World.mk.injEq,true_and,and_true];refine ⟨?_,by omega⟩;apply Array.ext_getElem?;intro k;rw [Array.getElem?_append];split
 ·rename_i hk;exact h5 k hk
 ·rename_i hk
  rw [Array.getElem?_extract];split
  ·congr 1;omega
  ·rename_i hlt
   exact Array.getElem?_eq_none (by omega)
theorem Up.refl (w:World):Up w w:=⟨Below.refl _ _,Nat.le_refl _⟩
theorem Up.trans {a b c:World} (h:Up a b) (k:Up b c):Up a c:=⟨below2 h.below k.below,Nat.le_trans h.drawn k.drawn⟩
theorem yG (a b:Actor) (w:World) :
 Calls prog 137 #[.agg #[.int .i64 a.dev,.int .i64 a.inc],.agg #[.int .i64 b.dev,.int .i64 b.inc]] w fun e w'=>e=.returned (.int .i64 (dS a b))∧Up w w':=by
 go_enter func137,ntmps137;go_wp2;go_region_held3 (fun w'=>w'.cell? ⟨w.heap.size,0,none⟩=some (.int .i64 a.dev)∧w'.cell? ⟨w.heap.size,1,none⟩=some (.int .i64 a.inc)∧w'.cell? ⟨w.heap.size+1,0,none⟩=some (.int .i64 b.dev)∧w'.cell? ⟨w.heap.size+1,1,none⟩=some (.int .i64 b.inc)) (go_keep)
  (first
   | (go_at_call 169;refine (kM _ _ _).mono ?_;rintro e w1 ⟨rfl,rfl⟩)
   | (go_at_call 168;go_call xu (lU a.dev b.dev) (lU a.inc b.inc) as e w1 ⟨rfl,rfl⟩))
 go_wp2;go_ret;exact ⟨rfl,by go_grown,Nat.le_succ _⟩
theorem PI (a b:Dot) (w:World) :
 Calls prog 156 #[.agg #[.int .i64 a.a.dev,.int .i64 a.a.inc,.int .i64 a.seq],.agg #[.int .i64 b.a.dev,.int .i64 b.a.inc,.int .i64 b.seq]] w fun e w'=>e=.returned (.int .i64 (oh a b))∧Up w w':=by
 go_enter func156,ntmps156;go_wp2;go_region_held3 (fun w'=>w'.cell? ⟨w.heap.size,0,none⟩=some (.int .i64 a.a.dev)∧w'.cell? ⟨w.heap.size,1,none⟩=some (.int .i64 a.a.inc)∧w'.cell? ⟨w.heap.size,2,none⟩=some (.int .i64 a.seq)∧w'.cell? ⟨w.heap.size+1,0,none⟩=some (.int .i64 b.a.dev)∧w'.cell? ⟨w.heap.size+1,1,none⟩=some (.int .i64 b.a.inc)∧w'.cell? ⟨w.heap.size+1,2,none⟩=some (.int .i64 b.seq)) (first | (refine ⟨?_,?_,?_,?_,?_,?_⟩ <;> ((with_reducible refine kept hb ?_);simp [*];done)) | go_keep)
  (first
   | (go_at_call 169;refine (kM _ _ _).mono ?_;rintro e w1 ⟨rfl,rfl⟩)
   | (go_at_call 137;refine (yG a.a b.a _).mono ?_;rintro e w1 ⟨rfl,hb,hd⟩)
   | (go_at_call 168;go_call xu (dS a.a b.a) (lU a.seq b.seq) as e w2 ⟨rfl,rfl⟩))
 go_wp2;go_ret;have h0:Below w.heap.size w ((w.alloc (Obj.cells #[.int .i64 a.a.dev,.int .i64 a.a.inc,.int .i64 a.seq] 121)).alloc (Obj.cells #[.int .i64 b.a.dev,.int .i64 b.a.inc,.int .i64 b.seq] 121)).drew:=by go_grown
 refine ⟨rfl,(h0.trans (hb.mono h0.size)).alloc (by have:=(below2 h0 hb).size;omega) _,?_⟩;have hd':w.drawn+1≤w1.drawn:=hd;show w.drawn≤w1.drawn;omega
theorem Ju (a b:Dot) (w:World):Calls prog 155 #[bZ a,bZ b] w fun e w'=>e=.returned (.int .i64 (oh a b))∧Up w w':=by
 have HO:=Lib.hid (fun X=>PI a b X);go_enter func155,ntmps155;go_wp2_with (go_at_call 156;(with_reducible refine (HO.out _).mono ?_);rintro e w1 ⟨rfl,hb⟩)
 go_ret;exact ⟨rfl,below2 (by go_grown) hb.below,hb.drawn⟩
theorem EK (a b:Actor) (w:World):Calls prog 184 #[fO a,fO b] w fun e w'=>e=.returned (.int .i64 (dS a b))∧Up w w':=by
 have HO:=Lib.hid (fun X=>yG a b X);go_enter func184,ntmps184;go_wp2_with (go_at_call 137;(with_reducible refine (HO.out _).mono ?_);rintro e w1 ⟨rfl,hb⟩)
 go_ret;exact ⟨rfl,below2 (by go_grown) hb.below,hb.drawn⟩
end Go.Proofs.YtepkclldbkhanaaGreat
/- Sorted lists, plainly: dots each once; what a sort leaves. Conditions: none. -/
namespace Go.Proofs.YtepkclldbkhanaaGreat
open Go.RowKit
/-- strictly rising lists with the same members are one -/
theorem zl {α:Type} {lt:α→α→Bool} (irr:∀ x,lt x x=false) (tr:∀ x y z,lt x y=true→lt y z=true→lt x z=true) :
 ∀ {l m:List α},l.Pairwise (fun x y=>lt x y=true)→m.Pairwise (fun x y=>lt x y=true)→(∀ x,x∈l↔x∈m)→l=m
 | [],[],_,_,_=>rfl
 | [],b :: s,_,_,h=>by have:=(h b).2 (by simp);simp at this
 | a :: r,[],_,_,h=>by have:=(h a).1 (by simp);simp at this
 | a :: r,b :: s,h1,h2,h=>by
   obtain ⟨a1,a2⟩:=List.pairwise_cons.1 h1;obtain ⟨b1,b2⟩:=List.pairwise_cons.1 h2;have hab:a=b:=by
     rcases List.mem_cons.1 ((h a).1 (by simp)) with e | ha
     ·exact e
     ·rcases List.mem_cons.1 ((h b).2 (by simp)) with e | hb
      ·exact e.symm
      ·have:=tr _ _ _ (a1 b hb) (b1 a ha)
       rw [irr] at this
       cases this
   subst hab;rw [zl irr tr a2 b2 (fun p=>⟨fun hp=>by
     rcases List.mem_cons.1 ((h p).1 (by simp [hp])) with e | hp'
     ·have:=a1 p hp
      rw [e,irr] at this
      cases this
     ·exact hp',fun hp=>by
     rcases List.mem_cons.1 ((h p).2 (by simp [hp])) with e | hp'
     ·have:=b1 p hp
      rw [e,irr] at this
      cases this
     ·exact hp'⟩)]
theorem eH (d:Dot):dG d d=false:=by unfold dG bK;simp
theorem iW {a b c:Dot} (h:dG a b=true) (k:dG b c=true):dG a c=true:=by
 unfold dG bK at *;simp only [Bool.or_eq_true,Bool.and_eq_true,decide_eq_true_eq] at *;omega
theorem oU {a b:Dot} (h:a≠b) (k:dG a b=false):dG b a=true:=by
 unfold dG bK at *;simp only [Bool.or_eq_true,Bool.or_eq_false_iff,Bool.and_eq_true,Bool.and_eq_false_iff,decide_eq_true_eq,decide_eq_false_iff_not] at *;have:¬ (a.a.dev=b.a.dev∧a.a.inc=b.a.inc∧a.seq=b.seq):=fun e=>h (by obtain ⟨⟨a1,a2⟩,a3⟩:=a;obtain ⟨⟨b1,b2⟩,b3⟩:=b;simp_all);omega
def SrtD (l:List Dot):Prop:=l.Pairwise fun x y=>dG x y=true
/-- one dot more, in its place, once -/
def uH (d:Dot):List Dot→List Dot
 | []=>[d]
 | x :: l=>if dG x d=true then x :: uH d l else if x=d then x :: l else d :: x :: l
def sortD (l:List Dot):List Dot:=l.foldl (fun o d=>uH d o) []
theorem z46 {p : Prop} (h : p := by
 rintro (h | h | h)
 ·exact Or.inr (Or.inl h)
 ·exact Or.inl h
 ·exact Or.inr (Or.inr h)) : p := h
theorem Bi {d:Dot}:∀ {l:List Dot} {x:Dot},x∈uH d l↔x=d∨x∈l
 | [],x=>by simp [uH]
 | y :: l,x=>by
   unfold uH;split
   ·rw [List.mem_cons,Bi,List.mem_cons]
    constructor
    ·exact z46
    ·exact z46
   ·split
    ·rename_i h
     subst h;simp
    ·simp
theorem Hr {d:Dot}:∀ {l:List Dot},SrtD l→SrtD (uH d l)
 | [],_=>by simp [uH,SrtD]
 | x :: l,h=>by
   obtain ⟨h1,h2⟩:=List.pairwise_cons.1 h;unfold uH;split
   ·rename_i hlt
    refine List.pairwise_cons.2 ⟨fun y hy=>?_,Hr h2⟩;rcases Bi.1 hy with rfl | hy
    ·exact hlt
    ·exact h1 y hy
   ·rename_i hlt
    split
    ·exact h
    ·rename_i hne
     have hdx:=oU hne (Bool.eq_false_iff.2 hlt);refine List.pairwise_cons.2 ⟨fun y hy=>?_,h⟩;rcases List.mem_cons.1 hy with rfl | hy
     ·exact hdx
     ·exact iW hdx (h1 y hy)
theorem Ea:∀ (l:List Dot) {o:List Dot},SrtD o→SrtD (l.foldl (fun o d=>uH d o) o)
 | [],_,h=>h
 | _ :: l,_,h=>Ea l (Hr h)
theorem Eb:∀ (l:List Dot) {o:List Dot} {x:Dot},x∈l.foldl (fun o d=>uH d o) o↔x∈o∨x∈l
 | [],o,x=>by simp
 | d :: l,o,x=>by
   rw [List.foldl_cons,Eb l,Bi,List.mem_cons];constructor
   ·rintro ((h | h) | h)
    ·exact Or.inr (Or.inl h)
    ·exact Or.inl h
    ·exact Or.inr (Or.inr h)
   ·rintro (h | h | h)
    ·exact Or.inl (Or.inr h)
    ·exact Or.inl (Or.inl h)
    ·exact Or.inr h
theorem jC (l:List Dot):SrtD (sortD l):=Ea l List.Pairwise.nil
theorem dm {l:List Dot} {x:Dot}:x∈sortD l↔x∈l:=by unfold sortD;rw [Eb];simp
theorem zG {l m:List Dot} (h:SrtD l) (k:SrtD m) (e:∀ x,x∈l↔x∈m):l=m:=zl eH (fun _ _ _=>iW) h k e
theorem SrtD.nodup {l:List Dot} (h:SrtD l):l.Nodup:=h.imp fun {a b} hab e=>by rw [e,eH] at hab;cases hab
theorem Jv {l:List Dot} (h:SrtD l):sortD l=l:=zG (jC l) h fun _=>dm
theorem yu (d:Dot):∀ l:List Dot,(uH d l).length≤l.length+1
 | []=>by simp [uH]
 | x :: l=>by
   have:=yu d l;unfold uH;split
   ·simp only [List.length_cons];omega
   ·split <;> simp
theorem vY:∀ (l o:List Dot),(l.foldl (fun o d=>uH d o) o).length≤o.length+l.length
 | [],o=>by simp
 | d :: l,o=>by
   have h1:=vY l (uH d o);have h2:=yu d o;simp only [List.foldl_cons,List.length_cons];omega
theorem jD (l:List Dot):(sortD l).length≤l.length:=by have:=vY l [];simpa [sortD] using this
theorem BZ (a b:Dot):decide (oh a b<0)=dG a b:=Et a b
theorem wM (a b:Actor):decide (dS a b<0)=bK a b:=by
 unfold dS lU orI bK;rw [Bool.eq_iff_iff];simp only [Bool.or_eq_true,Bool.and_eq_true,decide_eq_true_eq];repeat' split
 all_goals omega
/-- what a sort of unlike elements leaves is strictly rising -/
theorem oZ {α:Type} [Inhabited α] {lt:α→α→Bool} (tot:∀ x y,x≠y→lt x y=false→lt y x=true) {d:Array α} (h:Go.Sort.SortedIn lt 0 d.size d) (hn:d.toList.Nodup):d.toList.Pairwise fun x y=>lt x y=true:=by
 rw [List.pairwise_iff_getElem];intro i j hi hj hij;have hi':i<d.size:=by simpa using hi
 have hj':j<d.size:=by simpa using hj
 have h1:=h i j (Nat.zero_le _) hij hj';rw [getElem!_pos d j hj',getElem!_pos d i hi'] at h1;have hne:d.toList[i]≠d.toList[j]:=List.pairwise_iff_getElem.1 hn i j hi hj hij;simp only [Array.getElem_toList] at hne ⊢;exact tot _ _ hne.symm h1
end Go.Proofs.YtepkclldbkhanaaGreat
