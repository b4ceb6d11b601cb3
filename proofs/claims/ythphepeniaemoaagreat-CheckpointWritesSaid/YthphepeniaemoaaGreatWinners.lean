/- Strings in order: strings.Compare; keys in order: match.Less. Conditions: none. -/
import Derived.Test.YthphepeniaemoaaGreatDot
import Derived.Test.YthphepeniaemoaaGreatHost
import Derived.Lib.Bytealg
import Derived.Test.YthphepeniaemoaaGreatEq
import Derived.Sort.Walk0
import Derived.Test.YthphepeniaemoaaGreatSrtK
import Derived.Test.YthphepeniaemoaaGreatWin
set_option linter.unusedSimpArgs false
set_option linter.unusedVariables false
set_option linter.unnecessarySimpa false
set_option maxHeartbeats 16000000
set_option maxRecDepth 100000
namespace Go.Proofs.YthphepeniaemoaaGreat
open Go.RowKit
def OU (a b:ByteArray):Int:=Lib.compareBytes a.data.toList b.data.toList
def QP (a b:Key):Int:=orI (OU a.name b.name) (orI (OU a.domain b.domain) (OU a.path b.path))
def zg (a b:Key):Bool:=decide (QP a b<0)
theorem MP:∀ a b:List UInt8,(Lib.compareBytes a b<0)↔a<b
 | [],[]=>by simp [Lib.compareBytes]
 | [],y :: b=>by simp [Lib.compareBytes]
 | x :: a,[]=>by simp [Lib.compareBytes]
 | x :: a,y :: b=>by
   unfold Lib.compareBytes;rw [List.cons_lt_cons_iff];by_cases h:x<y
   ·rw [if_pos h]
    simp [h]
   ·rw [if_neg h]
    by_cases h2:y<x
    ·rw [if_pos h2]
     have hne:x≠y:=fun e=>by rw [e] at h2;exact UInt8.lt_irrefl y h2
     simp [h,hne]
    ·rw [if_neg h2]
     have he:x=y:=UInt8.le_antisymm (UInt8.not_lt.1 h2) (UInt8.not_lt.1 h);rw [MP a b];simp [he]
theorem MQ:∀ a b:List UInt8,Lib.compareBytes a b=0↔a=b
 | [],[]=>by simp [Lib.compareBytes]
 | [],y :: b=>by simp [Lib.compareBytes]
 | x :: a,[]=>by simp [Lib.compareBytes]
 | x :: a,y :: b=>by
   unfold Lib.compareBytes;by_cases h:x<y
   ·rw [if_pos h]
    have hne:x≠y:=fun e=>by rw [e] at h;exact UInt8.lt_irrefl y h
    simp [hne]
   ·rw [if_neg h]
    by_cases h2:y<x
    ·rw [if_pos h2]
     have hne:x≠y:=fun e=>by rw [e] at h2;exact UInt8.lt_irrefl y h2
     simp [hne]
    ·rw [if_neg h2]
     have he:x=y:=UInt8.le_antisymm (UInt8.not_lt.1 h2) (UInt8.not_lt.1 h);rw [MQ a b];simp [he]
theorem Gh (a b:ByteArray):OU a b<0↔bl a<bl b:=MP _ _
theorem zY (a b:ByteArray):OU a b=0↔a=b:=by
 unfold OU;rw [MQ];exact ⟨fun h=>lI h,fun h=>by rw [h]⟩
theorem Il (a b:Key):zg a b=if a.name=b.name then (if a.domain=b.domain then decide (bl a.path<bl b.path) else decide (bl a.domain<bl b.domain)) else decide (bl a.name<bl b.name):=by
 unfold zg QP orI;by_cases h1:a.name=b.name
 ·rw [if_pos h1,if_pos ((zY _ _).2 h1)]
  by_cases h2:a.domain=b.domain
  ·rw [if_pos h2,if_pos ((zY _ _).2 h2)]
   exact decide_eq_decide.2 (Gh _ _)
  ·rw [if_neg h2,if_neg (fun e=>h2 ((zY _ _).1 e))]
   exact decide_eq_decide.2 (Gh _ _)
 ·rw [if_neg h1,if_neg (fun e=>h1 ((zY _ _).1 e))]
  exact decide_eq_decide.2 (Gh _ _)
theorem FX (a:Key):zg a a=false:=by
 rw [Il,if_pos rfl,if_pos rfl];exact aM (List.lt_irrefl _)
theorem z124 {p : Prop} (h : p := by
 rw [decide_eq_true_eq] at h k
 have h3 := tr h k
 rw [if_neg (fun e => by rw [e] at h3; exact List.lt_irrefl _ h3)]
 exact aR h3) : p := h
theorem Ik {a b c:Key} (h:zg a b=true) (k:zg b c=true):zg a c=true:=by
 rw [Il] at h k ⊢;have tr:∀ {x y z:List UInt8},x<y->y<z->x<z:=fun h1 h2=>List.lt_trans h1 h2;by_cases h1:a.name=b.name
 ·rw [if_pos h1] at h
  by_cases k1:b.name=c.name
  ·rw [if_pos k1] at k
   rw [if_pos (h1.trans k1)];by_cases h2:a.domain=b.domain
   ·rw [if_pos h2] at h
    by_cases k2:b.domain=c.domain
    ·rw [if_pos k2] at k
     rw [if_pos (h2.trans k2)];rw [decide_eq_true_eq] at h k ⊢;exact tr h k
    ·rw [if_neg k2] at k
     rw [if_neg (by rw [h2];exact k2),h2];exact k
   ·rw [if_neg h2] at h
    by_cases k2:b.domain=c.domain
    ·rw [if_neg (by rw [<- k2];exact h2),<- k2]
     exact h
    ·rw [if_neg k2] at k
     exact z124
  ·rw [if_neg k1] at k
   rw [if_neg (by rw [h1];exact k1),h1];exact k
 ·rw [if_neg h1] at h
  by_cases k1:b.name=c.name
  ·rw [if_neg (by rw [<- k1];exact h1),<- k1]
   exact h
  ·rw [if_neg k1] at k
   exact z124
end Go.Proofs.YthphepeniaemoaaGreat
/- A slice of keys under slices.SortFunc, by match.Less. Conditions: at most 2^30 of them. -/
namespace Go.Proofs.YthphepeniaemoaaGreat
open Go.RowKit Go.Shelf
instance:Inhabited Key:=⟨⟨ByteArray.empty,ByteArray.empty,ByteArray.empty⟩⟩
end Go.Proofs.YthphepeniaemoaaGreat
