/- What the references pack: numbers, texts, dots, stamps. Conditions: at most 2^29 bytes. -/
import Derived.Test.YthphepeniaemoaaGreatDec
import Derived.Test.YthphepeniaemoaaGreatClone
import Derived.Maps.AppendAt
set_option linter.unusedSimpArgs false
set_option linter.unusedVariables false
set_option linter.unnecessarySimpa false
set_option maxHeartbeats 16000000
set_option maxRecDepth 100000
namespace Go.Proofs.YthphepeniaemoaaGreat
open Go.RowKit
theorem NR (n:Nat):aU n≠[]:=by
 rw [aU];split <;> simp
theorem own_below {w w1:World} {base:Nat} {v:Value} {n:Nat} {xs:List Value} (h:w.ownsRow base 5 1 v n xs) (hb:Below w.heap.size w w1):w1.ownsRow base 5 1 v n xs:=ownsRow_below h hb
theorem Hm {w w':World} {b o:Nat} {cs:List Value} {g:Option Nat} (h:w.rangeAt b o cs) (hg:w.grownBy w' g) (hb:b<w.heap.size) (hne:some b≠g):w'.rangeAt b o cs:=fun j v hv=>(World.cell?_of_block (hg.block b hb hne)).trans (h j v hv)
theorem own_ne {v v2:Value} {n b:Nat} (hat:v2.ownBlock=v.ownBlock\/v2.ownBlock=some n) (hne:∀ g,v.ownBlock=some g->g≠b) (hb:b<n):∀ g,v2.ownBlock=some g->g≠b:=by
 intro g hg;rcases hat with h | h
 ·exact hne g (h.symm.trans hg)
 ·rw [h] at hg;cases hg;omega
/-- what has been packed so far, and the local cookie in block bc -/
structure OutInv (W0:World) (bc:Nat) (ck:Ck) (v:Value) (L:Bytes) (W:World):Prop where
 own:W.ownsRow W0.heap.size 5 1 v L.length (aY L)
 bel:Below W0.heap.size W0 W
 K:W.rangeAt bc 0 (zZ ck)
 ne:∀ g,v.ownBlock=some g->g≠bc
 lt:bc<W.heap.size
theorem OutInv.step {W0:World} {bc:Nat} {ck:Ck} {v:Value} {L:Bytes} {w w':World} (h:OutInv W0 bc ck v L w) (hb:Below w.heap.size w w'):OutInv W0 bc ck v L w' :=
 ⟨own_below h.own hb,below2 h.bel hb,ai h.K hb,h.ne,Nat.lt_of_lt_of_le h.lt hb.size⟩
theorem OutInv.app {W0:World} {bc:Nat} {ck:Ck} {v v2:Value} {L M:Bytes} {w w2:World} (h:OutInv W0 bc ck v L w) (hown2:w2.ownsRow W0.heap.size 5 1 v2 (L.length+M.length) (aY L++aY M))
 (hg:w.grownBy w2 v.ownBlock) (hat:v2.ownBlock=v.ownBlock\/v2.ownBlock=some w.heap.size):OutInv W0 bc ck v2 (L++M) w2 :=
 ⟨by rw [gu,ar];exact hown2,h.bel.grown hg h.bel.size (fun k hk=>(h.own.lt k hk).1),Hm h.K hg h.lt (fun e=>h.ne _ e.symm rfl),own_ne hat h.ne h.lt,Nat.lt_of_lt_of_le h.lt hg.size⟩
end Go.Proofs.YthphepeniaemoaaGreat
