/- Marks: may they be, are they the same. A mark's cells are a dot's. Conditions: at most 2^30 marks. -/
import Derived.Test.YtepkclldbkhanaaGreatDot
import Derived.Test.YtepkclldbkhanaaGreatLoad
set_option linter.unusedSimpArgs false
set_option linter.unusedVariables false
set_option linter.unnecessarySimpa false
set_option maxHeartbeats 16000000
set_option maxRecDepth 100000
open Go.Proofs.Tryz
namespace Go.Proofs.YtepkclldbkhanaaGreat
open Go.RowKit
theorem GX:prog.eqGuardType prog.depth 174=false:=by kernel_rfl
theorem Ux (W:World) (d:Nat) (a b:Dot):(Op.equalIn (d+3) 174 (.agg #[.int .i64 a.a.dev,.int .i64 a.a.inc,.int .i64 a.seq]) (.agg #[.int .i64 b.a.dev,.int .i64 b.a.inc,.int .i64 b.seq])).run prog W=.ok (decide (a=b)) W:=by
 rw [run_equalIn_agg W (d+2) 174 _ _ (by kernel_rfl) (by kernel_rfl),jw underlying174]
 exact z135
theorem zX (a b:Option Addr) (ca cb:Nat) (l m:List Dot) (w:World) (hl:l.length≤1073741824) (hm:m.length≤1073741824) (ha:DotsIn w a l) (hb:DotsIn w b m) :
 Calls prog 76 #[.slice a l.length ca,.slice b m.length cb] w fun x w'=>x=.returned (.bool (decide (l=m)))∧Below w.heap.size w w':=by
 by_cases hlen:l.length=m.length
 ·refine y19 ?_
  intro hb1 hb2 hl1 hl2
  clear hlen
  go_enter func76,ntmps76;go_wp2;go_loopw [5] (fun i wr=>∃ k:Nat,k≤l.length∧i=.int .i64 k∧l.take k=m.take k∧Below w.heap.size w wr) (fun i _=>l.length - (intOf i).toNat)
  case atStart => exact z153
  case round =>
        obtain ⟨k,hk,rfl,hpre,hbw⟩:=hrel;have HP:=Lib.hid hpre;clear hpre;by_cases hlt:k<l.length
        ·have hlm:k<m.length:=by omega
         rcases ha with h | ⟨A,off,rfl,hda⟩
         ·exact z138
         rcases hb with h | ⟨B,ofb,rfl,hdb⟩
         ·rw [h] at hlm;simp at hlm
         refine y51 ?_
         intro x0 x1 x2 y0 y1 y2
         have hEq:=fun (W:World)=>Ux W 9997 l[k] m[k];have hm:=GX
         exact z26
        ·exact z48
 ·have HE:Hid (decide (l=m)=false):=decide_eq_false (Fv hlen)
  refine y26 ?_
  intro hb1 hb2
  clear hlen
  go_enter func76,ntmps76
  exact z43
/-! ### may marks be? -/
def kT:Option Dot→Dot→Bool
 | none,_=>true
 | some y,x=>bK y.a x.a
def dn:Option Dot→List Dot→Int
 | _,[]=>0
 | p,x :: r=>if bJ x=true then (if kT p x=true then dn (some x) r else 6) else 4
def aW (l:List Dot):Int:=if 4096<l.length then 3 else dn none l
theorem qZ (l:List Dot) (k:Nat) (h:k<l.length):dn (aZ l k) (l.drop k)=if bJ l[k]=true then (if kT (aZ l k) l[k]=true then dn (aZ l (k+1)) (l.drop (k+1)) else 6) else 4:=by
 rw [List.drop_eq_getElem_cons h,dn];have:aZ l (k+1)=some l[k]:=by simp [aZ,h]
 rw [this]
theorem IE (a b:Actor):decide (0≤dS a b) = !bK a b:=by
 unfold dS bK orI lU;rw [Bool.eq_iff_iff];simp;repeat' split
 all_goals omega
theorem IG (a b:Actor) : -1≤dS a b∧dS a b≤1:=by
 unfold dS orI lU;repeat' split
 all_goals omega
theorem EF (a:Actor) (n:Int) (w:World) :
 Calls prog 136 #[.agg #[.int .i64 a.dev,.int .i64 a.inc],.int .i64 n] w fun e w'=>e=.returned (.bool (bJ ⟨a,n⟩))∧Below w.heap.size w w':=by
 have HR:=Lib.hid (fun (W:World)=>ja ⟨a,n⟩ W);go_enter func136,ntmps136;go_wp2_with (go_at_call 97;(with_reducible refine (HR.out _).mono ?_);rintro x w1 ⟨rfl,hb⟩)
 go_ret;exact ⟨rfl,below2 (by go_grown) hb⟩
theorem z55 {p : Prop} (h : p := by
 refine wpQuiet_nil ?_
 rintro _ ⟨i, rfl⟩
 have hib := i.h
 clear b0 b1 b2
 skip
 generalize i.w = wi at hib ⊢
 rw [hW2.out] at hib
 go_wp2
 go_roundw
 case rel => exact ⟨k + 1, by omega, by go_num, HE.out, uJ.trans (hib.mono uJ.size)⟩
 case measure => simp [intOf] <;> omega) : p := h
theorem z110 {p : Prop} (h : p := by exact ⟨0, Nat.zero_le _, rfl, HM.out, Below.refl _ _⟩) : p := h
theorem z105 {p : Prop} (h : p := by
 have HE : Hid (aW l = 0) := by rw [Hid, HP.out, List.drop_eq_nil_of_le (by omega)]; cases aZ l k <;> rfl
 clear HP
 go_wp2
 go_ret
 exact ⟨bW HE.out.symm, hbw⟩) : p := h
theorem y42 {p q : Prop} (k : q) (h : PLift q → p := by
 intro kk
 have e0 := (hda.kept hbw).dev k hlt
 have e1 := (hda.kept hbw).inc k hlt
 have e2 := (hda.kept hbw).seq k hlt
 have HT : Hid (aW l = if bJ l[k] = true then (if kT (aZ l k) l[k] = true then dn (aZ l (k + 1)) (l.drop (k + 1)) else 6) else 4) := by rw [Hid, HP.out, hst]
 revert e0 e1 e2 HT
 exact kk.down) : p := h ⟨k⟩
theorem y69 {p q : Prop} (k : q) (h : PLift q → p := by
 intro kk
 refine y39 ?_
 intro Bo hdk
 have HE : Hid (aW l = dn (aZ l (k + 1)) (l.drop (k + 1))) := by rw [Hid, HT1.out]; subst hk0; rfl
 have HC : Hid True := trivial
 refine aP (by kernel_rfl) (by kernel_rfl) (fun W2 hW2 => ?_)
 revert Bo hdk HE HC W2 hW2
 exact kk.down) : p := h ⟨k⟩
theorem mD (a:Option Addr) (cap:Nat) (l:List Dot) (w:World) (hl:l.length≤1073741824) (hd:DotsIn w a l) :
 Calls prog 92 #[.slice a l.length cap] w fun e w'=>e=.returned (.int .i64 (aW l))∧Below w.heap.size w w':=by
 by_cases h40:l.length≤4096
 ·have HM:Hid (aW l=dn (aZ l 0) (l.drop 0)):=by unfold Hid aW;rw [if_neg (by omega)];rfl
  go_enter func92,ntmps92;go_wp2;go_loopw [10] (fun i wr=>∃ k:Nat,k≤l.length∧i=.int .i64 k∧aW l=dn (aZ l k) (l.drop k)∧Below w.heap.size w wr) (fun i _=>l.length - (intOf i).toNat)
  case atStart => exact ⟨0, Nat.zero_le _, rfl, HM.out, Below.refl _ _⟩
  case round =>
   obtain ⟨k,hk,rfl,hpre,hbw⟩:=hrel;have HP:=Lib.hid hpre;clear hpre HM;have hzw:=hbw.size;by_cases hlt:k<l.length
   ·have hst:=qZ l k hlt
    rcases hd with h | ⟨A,off,rfl,hda⟩
    ·rw [h] at hlt; simp at hlt
    have e0 := (hda.kept hbw).dev k hlt
    have e1 := (hda.kept hbw).inc k hlt
    have e2 := (hda.kept hbw).seq k hlt
    have HT : Hid (aW l = if bJ l[k] = true then (if kT (aZ l k) l[k] = true then dn (aZ l (k + 1)) (l.drop (k + 1)) else 6) else 4) := by rw [Hid, HP.out, hst]
    clear hst HP
    generalize l[k]=x at e0 e1 e2 HT;go_upto_region 6 with fail
    refine au (fun W1 hW1=>?_);have hB1:Below wr.heap.size wr W1:=by rw [hW1.out];go_grown
    have x0 : W1.cell? ⟨wr.heap.size, 0, none⟩ = some (.int .i64 x.a.dev) := by rw [hW1.out]; go_simp
    have x1 : W1.cell? ⟨wr.heap.size, 1, none⟩ = some (.int .i64 x.a.inc) := by rw [hW1.out]; go_simp
    have x2 : W1.cell? ⟨wr.heap.size, 2, none⟩ = some (.int .i64 x.seq) := by rw [hW1.out]; go_simp
    have hBB:=hbw.trans (hB1.mono hzw);clear hW1 e0 e1 e2;have hR0:=fun (W:World)=>EF x.a x.seq W
    cases h1:bJ x with
    | false =>
      have HE:Hid (aW l=4):=by rw [Hid,HT.out,h1];rfl
      rw [show bJ ⟨x.a,x.seq⟩=bJ x from rfl,h1] at hR0;have HR:=Lib.hid hR0;clear hR0 h1 HT;go_wp2_with (go_at_call 136;(with_reducible refine (HR.out _).mono ?_);rintro v w1 ⟨rfl,hb⟩)
      go_ret;exact ⟨bW HE.out.symm,hBB.trans (hb.mono hBB.size)⟩
    | true =>
      have HT1:Hid (aW l=if kT (aZ l k) x=true then dn (aZ l (k+1)) (l.drop (k+1)) else 6):=by rw [Hid,HT.out,h1];rfl
      rw [show bJ ⟨x.a,x.seq⟩=bJ x from rfl,h1] at hR0;have HR:=Lib.hid hR0;clear hR0 h1 HT;go_upto_region 8 with (go_at_call 136;(with_reducible refine (HR.out _).mono ?_);rintro v w1 ⟨rfl,hb⟩)
      have uJ:=hBB.trans (hb.mono hBB.size);replace x0:=kept hb x0;replace x1:=kept hb x1;replace x2:=kept hb x2;clear hb hB1 hBB HR;rcases Nat.eq_zero_or_pos k with hk0 | hk0
      ·refine y39 ?_
       intro Bo hdk
       have HE : Hid (aW l = dn (aZ l (k + 1)) (l.drop (k + 1))) := by rw [Hid, HT1.out]; subst hk0; rfl
       have HC : Hid True := trivial
       refine aP (by kernel_rfl) (by kernel_rfl) (fun W2 hW2 => ?_)
       clear HT1 hk0
       have b0:∀ i:After W2,i.w.cell? ⟨wr.heap.size,0,none⟩=some (.int .i64 x.a.dev):=fun i=>i.cell (by rw [hW2.out];exact x0);have b1:∀ i:After W2,i.w.cell? ⟨wr.heap.size,1,none⟩=some (.int .i64 x.a.inc):=fun i=>i.cell (by rw [hW2.out];exact x1);have b2:∀ i:After W2,i.w.cell? ⟨wr.heap.size,2,none⟩=some (.int .i64 x.seq):=fun i=>i.cell (by rw [hW2.out];exact x2);skip
       iterate 11 go_big_quiet_step (fail)
       go_big_quiet_step (exact Calls.after (HC.out _))
       iterate 3 go_big_quiet_step (fail)
       refine wpQuiet_nil ?_
       rintro _ ⟨i, rfl⟩
       have hib := i.h
       clear b0 b1 b2
       skip
       generalize i.w = wi at hib ⊢
       rw [hW2.out] at hib
       go_wp2
       go_roundw
       case rel => exact ⟨k + 1, by omega, by go_num, HE.out, uJ.trans (hib.mono uJ.size)⟩
       case measure => simp [intOf] <;> omega
      ·obtain ⟨j,rfl⟩:∃ j,k=j+1:=⟨k - 1,by omega⟩
       have hj:j<l.length:=by omega
       have f0:=(hda.kept uJ).dev j hj;have f1:=(hda.kept uJ).inc j hj;have hpv:aZ l (j+1)=some l[j]:=by simp [aZ,hj]
       rw [hpv] at HT1;generalize l[j]=y at f0 f1 HT1;have hC0:=fun (W:World)=>wO y.a x.a W;have hcl:=IE y.a x.a;have hci:=IG y.a x.a;generalize dS y.a x.a=c at hC0 hcl hci;obtain ⟨XT,XR⟩:=hci;have HC:=Lib.hid hC0
       have hdk : decide ((0 : Int) < (j : Int) + 1) = true := by simp <;> omega
       refine y66 ?_
       intro hww
       clear hC0 hpv
       cases h2:bK y.a x.a with
       | false =>
         have HE:Hid (aW l=6):=by rw [Hid,HT1.out];simp [kT,h2]
         rw [h2] at hcl;simp only [Bool.not_false] at hcl;clear h2 HT1;refine aP (by kernel_rfl) (by kernel_rfl) (fun W2 hW2=>?_);have b0:∀ i:After W2,i.w.cell? ⟨wr.heap.size,0,none⟩=some (.int .i64 x.a.dev):=fun i=>i.cell (by rw [hW2.out];exact x0);have b1:∀ i:After W2,i.w.cell? ⟨wr.heap.size,1,none⟩=some (.int .i64 x.a.inc):=fun i=>i.cell (by rw [hW2.out];exact x1);have b2:∀ i:After W2,i.w.cell? ⟨wr.heap.size,2,none⟩=some (.int .i64 x.seq):=fun i=>i.cell (by rw [hW2.out];exact x2);have g0:∀ i:After W2,i.w.cell? ⟨A,off+j * 3,none⟩=some (.int .i64 y.a.dev):=fun i=>i.cell (by rw [hW2.out];exact f0);have g1:∀ i:After W2,i.w.cell? ⟨A,off+j * 3+1,none⟩=some (.int .i64 y.a.inc):=fun i=>i.cell (by rw [hW2.out];exact f1);iterate 11 go_big_quiet_step (fail)
         go_big_quiet_step (exact Calls.after (HC.out _))
         iterate 3 go_big_quiet_step (fail)
         refine wpQuiet_nil ?_;rintro _ ⟨i,rfl⟩;have hib:=i.h;clear b0 b1 b2;clear g0 g1 hww;generalize i.w=wi at hib ⊢;rw [hW2.out] at hib;go_wp2;go_ret;exact ⟨bW HE.out.symm,uJ.trans (hib.mono uJ.size)⟩
       | true =>
         have HE:Hid (aW l=dn (aZ l (j+1+1)) (l.drop (j+1+1))):=by rw [Hid,HT1.out];simp [kT,h2]
         rw [h2] at hcl;simp only [Bool.not_true] at hcl;clear h2 HT1;refine aP (by kernel_rfl) (by kernel_rfl) (fun W2 hW2=>?_);have b0:∀ i:After W2,i.w.cell? ⟨wr.heap.size,0,none⟩=some (.int .i64 x.a.dev):=fun i=>i.cell (by rw [hW2.out];exact x0);have b1:∀ i:After W2,i.w.cell? ⟨wr.heap.size,1,none⟩=some (.int .i64 x.a.inc):=fun i=>i.cell (by rw [hW2.out];exact x1);have b2:∀ i:After W2,i.w.cell? ⟨wr.heap.size,2,none⟩=some (.int .i64 x.seq):=fun i=>i.cell (by rw [hW2.out];exact x2);have g0:∀ i:After W2,i.w.cell? ⟨A,off+j * 3,none⟩=some (.int .i64 y.a.dev):=fun i=>i.cell (by rw [hW2.out];exact f0);have g1:∀ i:After W2,i.w.cell? ⟨A,off+j * 3+1,none⟩=some (.int .i64 y.a.inc):=fun i=>i.cell (by rw [hW2.out];exact f1);iterate 11 go_big_quiet_step (fail)
         go_big_quiet_step (exact Calls.after (HC.out _))
         iterate 3 go_big_quiet_step (fail)
         refine wpQuiet_nil ?_;rintro _ ⟨i,rfl⟩;have hib:=i.h;clear b0 b1 b2;clear g0 g1 hww;generalize i.w=wi at hib ⊢;rw [hW2.out] at hib;go_wp2;go_roundw
         case rel=>exact ⟨j+1+1,by omega,by go_num,HE.out,uJ.trans (hib.mono uJ.size)⟩
         case measure => simp [intOf] <;> omega
   ·have HE : Hid (aW l = 0) := by rw [Hid, HP.out, List.drop_eq_nil_of_le (by omega)]; cases aZ l k <;> rfl
    clear HP
    go_wp2
    go_ret
    exact ⟨bW HE.out.symm, hbw⟩
 ·have HE:Hid (aW l=3):=by unfold Hid aW;rw [if_pos (by omega)]
  go_enter func92,ntmps92;go_wp2;go_ret;exact ⟨bW HE.out.symm,by go_grown⟩
theorem Ah (a:Option Addr) (cap:Nat) (l:List Dot) (w:World) (hl:l.length≤1073741824) (hd:DotsIn w a l) :
 Calls prog 106 #[.slice a l.length cap] w fun e w'=>e=.returned (.int .i64 (aW l))∧Below w.heap.size w w':=by
 by_cases h40:l.length≤4096
 ·have HM:Hid (aW l=dn (aZ l 0) (l.drop 0)):=by unfold Hid aW;rw [if_neg (by omega)];rfl
  go_enter func106,ntmps106;go_wp2;go_loopw [3] (fun i wr=>∃ k:Nat,k≤l.length∧i=.int .i64 k∧aW l=dn (aZ l k) (l.drop k)∧Below w.heap.size w wr) (fun i _=>l.length - (intOf i).toNat)
  case atStart => exact ⟨0, Nat.zero_le _, rfl, HM.out, Below.refl _ _⟩
  case round =>
   obtain ⟨k,hk,rfl,hpre,hbw⟩:=hrel;have HP:=Lib.hid hpre;clear hpre HM;have hzw:=hbw.size;by_cases hlt:k<l.length
   ·have hst:=qZ l k hlt
    rcases hd with h | ⟨A,off,rfl,hda⟩
    ·rw [h] at hlt; simp at hlt
    have e0 := (hda.kept hbw).dev k hlt
    have e1 := (hda.kept hbw).inc k hlt
    have e2 := (hda.kept hbw).seq k hlt
    have HT : Hid (aW l = if bJ l[k] = true then (if kT (aZ l k) l[k] = true then dn (aZ l (k + 1)) (l.drop (k + 1)) else 6) else 4) := by rw [Hid, HP.out, hst]
    clear hst HP
    generalize l[k]=x at e0 e1 e2 HT;go_upto_region 6 with fail
    have hR0:=fun (W:World)=>jV x W
    cases h1:bJ x with
    | false =>
      have HE:Hid (aW l=4):=by rw [Hid,HT.out,h1];rfl
      rw [h1] at hR0;have HR:=Lib.hid hR0;clear hR0 h1 HT;refine aP (by kernel_rfl) (by kernel_rfl) (fun W2 hW2=>?_);have b0:∀ i:After W2,i.w.cell? ⟨A,off+k * 3,none⟩=some (.int .i64 x.a.dev):=fun i=>i.cell (by rw [hW2.out];exact e0);have b1:∀ i:After W2,i.w.cell? ⟨A,off+k * 3+1,none⟩=some (.int .i64 x.a.inc):=fun i=>i.cell (by rw [hW2.out];exact e1);have b2:∀ i:After W2,i.w.cell? ⟨A,off+k * 3+2,none⟩=some (.int .i64 x.seq):=fun i=>i.cell (by rw [hW2.out];exact e2);skip
      iterate 11 go_big_quiet_step (fail)
      go_big_quiet_step (exact Calls.after (HR.out _))
      go_big_quiet_step (fail)
      refine wpQuiet_nil ?_;rintro _ ⟨i,rfl⟩;have hib:=i.h;clear b0 b1 b2;skip
      generalize i.w=wi at hib ⊢;rw [hW2.out] at hib;go_wp2;go_ret;exact ⟨bW HE.out.symm,hbw.trans (hib.mono hbw.size)⟩
    | true =>
      have HT1:Hid (aW l=if kT (aZ l k) x=true then dn (aZ l (k+1)) (l.drop (k+1)) else 6):=by rw [Hid,HT.out,h1];rfl
      rw [h1] at hR0;have HR:=Lib.hid hR0;clear hR0 h1 HT;refine aP (by kernel_rfl) (by kernel_rfl) (fun W2 hW2=>?_);have b0:∀ i:After W2,i.w.cell? ⟨A,off+k * 3,none⟩=some (.int .i64 x.a.dev):=fun i=>i.cell (by rw [hW2.out];exact e0);have b1:∀ i:After W2,i.w.cell? ⟨A,off+k * 3+1,none⟩=some (.int .i64 x.a.inc):=fun i=>i.cell (by rw [hW2.out];exact e1);have b2:∀ i:After W2,i.w.cell? ⟨A,off+k * 3+2,none⟩=some (.int .i64 x.seq):=fun i=>i.cell (by rw [hW2.out];exact e2);skip
      iterate 11 go_big_quiet_step (fail)
      go_big_quiet_step (exact Calls.after (HR.out _))
      go_big_quiet_step (fail)
      refine wpQuiet_nil ?_;rintro _ ⟨i,rfl⟩;have hib:=i.h;clear b0 b1 b2;skip
      generalize i.w=wi at hib ⊢;rw [hW2.out] at hib;have uJ:=hbw.trans (hib.mono hbw.size);replace e0:=kept hib e0;replace e1:=kept hib e1;replace e2:=kept hib e2;clear hib HR;go_upto_region 8 with fail
      rcases Nat.eq_zero_or_pos k with hk0 | hk0
      ·refine y39 ?_
       intro Bo hdk
       have HE : Hid (aW l = dn (aZ l (k + 1)) (l.drop (k + 1))) := by rw [Hid, HT1.out]; subst hk0; rfl
       have HC : Hid True := trivial
       refine aP (by kernel_rfl) (by kernel_rfl) (fun W2 hW2 => ?_)
       clear HT1 hk0
       have b0:∀ i:After W2,i.w.cell? ⟨A,off+k * 3,none⟩=some (.int .i64 x.a.dev):=fun i=>i.cell (by rw [hW2.out];exact e0);have b1:∀ i:After W2,i.w.cell? ⟨A,off+k * 3+1,none⟩=some (.int .i64 x.a.inc):=fun i=>i.cell (by rw [hW2.out];exact e1);have b2:∀ i:After W2,i.w.cell? ⟨A,off+k * 3+2,none⟩=some (.int .i64 x.seq):=fun i=>i.cell (by rw [hW2.out];exact e2);skip
       iterate 14 go_big_quiet_step (fail)
       go_big_quiet_step (exact Calls.after (HC.out _))
       iterate 2 go_big_quiet_step (fail)
       refine wpQuiet_nil ?_
       rintro _ ⟨i, rfl⟩
       have hib := i.h
       clear b0 b1 b2
       skip
       generalize i.w = wi at hib ⊢
       rw [hW2.out] at hib
       go_wp2
       go_roundw
       case rel => exact ⟨k + 1, by omega, by go_num, HE.out, uJ.trans (hib.mono uJ.size)⟩
       case measure => simp [intOf] <;> omega
      ·obtain ⟨j,rfl⟩:∃ j,k=j+1:=⟨k - 1,by omega⟩
       have hj:j<l.length:=by omega
       have f0:=(hda.kept uJ).dev j hj;have f1:=(hda.kept uJ).inc j hj;have hpv:aZ l (j+1)=some l[j]:=by simp [aZ,hj]
       rw [hpv] at HT1;generalize l[j]=y at f0 f1 HT1;have hC0:=fun (W:World)=>Aj y.a x.a W
       have hdk : decide ((0 : Int) < (j : Int) + 1) = true := by simp <;> omega
       refine y66 ?_
       intro hww
       clear hpv
       cases h2:bK y.a x.a with
       | false =>
         have HE:Hid (aW l=6):=by rw [Hid,HT1.out];simp [kT,h2]
         rw [h2] at hC0;have HC:=Lib.hid hC0;clear h2 HT1 hC0;refine aP (by kernel_rfl) (by kernel_rfl) (fun W2 hW2=>?_);have b0:∀ i:After W2,i.w.cell? ⟨A,off+(j+1) * 3,none⟩=some (.int .i64 x.a.dev):=fun i=>i.cell (by rw [hW2.out];exact e0);have b1:∀ i:After W2,i.w.cell? ⟨A,off+(j+1) * 3+1,none⟩=some (.int .i64 x.a.inc):=fun i=>i.cell (by rw [hW2.out];exact e1);have b2:∀ i:After W2,i.w.cell? ⟨A,off+(j+1) * 3+2,none⟩=some (.int .i64 x.seq):=fun i=>i.cell (by rw [hW2.out];exact e2);have g0:∀ i:After W2,i.w.cell? ⟨A,off+j * 3,none⟩=some (.int .i64 y.a.dev):=fun i=>i.cell (by rw [hW2.out];exact f0);have g1:∀ i:After W2,i.w.cell? ⟨A,off+j * 3+1,none⟩=some (.int .i64 y.a.inc):=fun i=>i.cell (by rw [hW2.out];exact f1);iterate 14 go_big_quiet_step (fail)
         go_big_quiet_step (exact Calls.after (HC.out _))
         iterate 2 go_big_quiet_step (fail)
         refine wpQuiet_nil ?_;rintro _ ⟨i,rfl⟩;have hib:=i.h;clear b0 b1 b2;clear g0 g1 hww;generalize i.w=wi at hib ⊢;rw [hW2.out] at hib;go_wp2;go_ret;exact ⟨bW HE.out.symm,uJ.trans (hib.mono uJ.size)⟩
       | true =>
         have HE:Hid (aW l=dn (aZ l (j+1+1)) (l.drop (j+1+1))):=by rw [Hid,HT1.out];simp [kT,h2]
         rw [h2] at hC0;have HC:=Lib.hid hC0;clear h2 HT1 hC0;refine aP (by kernel_rfl) (by kernel_rfl) (fun W2 hW2=>?_);have b0:∀ i:After W2,i.w.cell? ⟨A,off+(j+1) * 3,none⟩=some (.int .i64 x.a.dev):=fun i=>i.cell (by rw [hW2.out];exact e0);have b1:∀ i:After W2,i.w.cell? ⟨A,off+(j+1) * 3+1,none⟩=some (.int .i64 x.a.inc):=fun i=>i.cell (by rw [hW2.out];exact e1);have b2:∀ i:After W2,i.w.cell? ⟨A,off+(j+1) * 3+2,none⟩=some (.int .i64 x.seq):=fun i=>i.cell (by rw [hW2.out];exact e2);have g0:∀ i:After W2,i.w.cell? ⟨A,off+j * 3,none⟩=some (.int .i64 y.a.dev):=fun i=>i.cell (by rw [hW2.out];exact f0);have g1:∀ i:After W2,i.w.cell? ⟨A,off+j * 3+1,none⟩=some (.int .i64 y.a.inc):=fun i=>i.cell (by rw [hW2.out];exact f1);iterate 14 go_big_quiet_step (fail)
         go_big_quiet_step (exact Calls.after (HC.out _))
         iterate 2 go_big_quiet_step (fail)
         refine wpQuiet_nil ?_;rintro _ ⟨i,rfl⟩;have hib:=i.h;clear b0 b1 b2;clear g0 g1 hww;generalize i.w=wi at hib ⊢;rw [hW2.out] at hib;go_wp2;go_roundw
         case rel=>exact ⟨j+1+1,by omega,by go_num,HE.out,uJ.trans (hib.mono uJ.size)⟩
         case measure => simp [intOf] <;> omega
   ·have HE : Hid (aW l = 0) := by rw [Hid, HP.out, List.drop_eq_nil_of_le (by omega)]; cases aZ l k <;> rfl
    clear HP
    go_wp2
    go_ret
    exact ⟨bW HE.out.symm, hbw⟩
 ·have HE:Hid (aW l=3):=by unfold Hid aW;rw [if_pos (by omega)]
  go_enter func106,ntmps106;go_wp2;go_ret;exact ⟨bW HE.out.symm,by go_grown⟩
end Go.Proofs.YtepkclldbkhanaaGreat
