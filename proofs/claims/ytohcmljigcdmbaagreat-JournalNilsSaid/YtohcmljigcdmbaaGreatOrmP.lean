/- The map of events: Deads. Conditions: as in the text. -/
import Derived.Test.YtohcmljigcdmbaaGreatOrmH
import Derived.Laws.IdiomRangeMap
import Derived.Maps.AppendAt
set_option linter.unusedSimpArgs false
set_option linter.unusedVariables false
set_option linter.unnecessarySimpa false
set_option maxHeartbeats 16000000
set_option maxRecDepth 100000
namespace Go.Proofs.YtohcmljigcdmbaaGreat
open Go.RowKit
def lessK (K : List EvIt) (d : Dot) : List EvIt := K.filter fun y => decide (y.1.dot ≠ d)
theorem keep_perm : ∀ {K : List EvIt} {x : EvIt}, (K.map (·.1.dot)).Nodup → x ∈ K → K.Perm (x :: lessK K x.1.dot)
 | [], _, _, h => (nomatch h)
 | y :: K, x, hn, hx => by
   rw [List.map_cons, List.nodup_cons] at hn
   rcases List.mem_cons.1 hx with rfl | hx2
   ·have : lessK (x :: K) x.1.dot = K := by
        unfold lessK
        rw [List.filter_cons_of_neg (by simp)]
        refine List.filter_eq_self.2 fun z hz => decide_eq_true fun e => hn.1 (List.mem_map.2 ⟨z, hz, e⟩)
    rw [this]
   ·have hne : y.1.dot ≠ x.1.dot := fun e => hn.1 (List.mem_map.2 ⟨x, hx2, e.symm⟩)
    have : lessK (y :: K) x.1.dot = y :: lessK K x.1.dot := by
        unfold lessK
        rw [List.filter_cons_of_pos (by simpa using hne)]
    rw [this]
    exact ((keep_perm hn.2 hx2).cons y).trans (List.Perm.swap ..)
theorem KTab.nodup {w : World} {b : Nat} {K : List EvIt} (h : KTab w b K) : (K.map (·.1.dot)).Nodup := by
 have := List.pairwise_map.1 h.apart
 exact List.pairwise_map.2 this
theorem KTab.drop {w : World} {b : Nat} {K : List EvIt} (h : KTab w b K) {x : EvIt} (hx : x ∈ K) (ty : TypeId) :
 ∃ w', (Builtin.delete_ #[87, 25] ty #[.map (some b), dotVal x.1.dot]).run Tryz.prog w = .ok (.tuple #[]) w' ∧ KTab w' b (lessK K x.1.dot) ∧ Fr (isR b) w w' := by
 have hp := (keep_perm h.nodup hx).map fun x : EvIt => (x.1.dot, x)
 exact Tab.drop_old kDot (Tab.perm h hp) Tryz.underlying87 ty
def inK (K : List EvIt) (d : Dot) : Bool := K.any fun x => decide (x.1.dot = d)
theorem inK_yes {K : List EvIt} {x : EvIt} (h : x ∈ K) : inK K x.1.dot = true := List.any_eq_true.2 ⟨x, h, decide_eq_true rfl⟩
/-- may a dead dot be cleared? -/
def clOk (s : MS) (d : Dot) : Bool := decide (d ∈ s.dead) && (hasM s.ctx d && !inK s.K d)
def clMS (s : MS) (d : Dot) : MS := if clOk s d = true then { s with dead := s.dead.filter fun x => decide (x ≠ d) } else s
section
variable {P : Program} {α β : Type} {k : TypeId} {kv : α → Value} {ok : α → Prop} {vv : β → Value} {ops : Array Oper} {o : Oper} {a : Act} {Q : Exit → Act → World → Prop}
end
end Go.Proofs.YtohcmljigcdmbaaGreat
