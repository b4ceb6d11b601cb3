/- The map of events: kill, plainly. Conditions: as in the text. -/
import Derived.Test.YtohcmljigcdmbaaGreatOrm
set_option linter.unusedSimpArgs false
set_option linter.unusedVariables false
set_option linter.unnecessarySimpa false
set_option maxHeartbeats 16000000
set_option maxRecDepth 100000
namespace Go.Proofs.YtohcmljigcdmbaaGreat
open Go.RowKit
theorem ones_nodup {l : List Dot} (h : (ones l).Pairwise fun p q => p.1 ≠ q.1) : l.Nodup := by
 have := List.pairwise_map.1 h
 exact this
theorem filter_ne_perm {l : List Dot} {d : Dot} (hn : l.Nodup) (hd : d ∈ l) : l.Perm (d :: l.filter fun x => decide (x ≠ d)) := by
 obtain ⟨r, hr⟩ := perm_split hd
 have h1 : (d :: r).Nodup := (hr.nodup_iff).1 hn
 have h2 := (List.nodup_cons.1 h1).1
 have h3 : (l.filter fun x => decide (x ≠ d)).Perm r := by
  have h4 := hr.filter fun x => decide (x ≠ d)
  rw [List.filter_cons, if_neg (by simp)] at h4
  have h5 : (r.filter fun x => decide (x ≠ d)) = r := List.filter_eq_self.2 fun x hx => decide_eq_true (fun e => h2 (e ▸ hx))
  rw [h5] at h4
  exact h4
 exact hr.trans (h3.symm.cons d)
theorem filter_ne_self {l : List Dot} {d : Dot} (hd : d ∉ l) : (l.filter fun x => decide (x ≠ d)) = l := List.filter_eq_self.2 fun x hx => by simp; intro e; exact hd (e ▸ hx)
/-- a set of dots, one of them struck -/
theorem DTab.drop {w : World} {b : Nat} {l : List Dot} (h : DTab w b l) {d : Dot} (hd : DotW d) (ty : TypeId) :
 ∃ w', (Builtin.delete_ #[89, 25] ty #[.map (some b), dotVal d]).run Tryz.prog w = .ok (.tuple #[]) w' ∧ DTab w' b (l.filter fun x => decide (x ≠ d)) ∧ Fr (isR b) w w' := by
 by_cases hm : d ∈ l
 ·have hp := (filter_ne_perm (ones_nodup h.apart) hm).map fun d => (d, (1 : Int))
  exact Tab.drop_old kDot (Tab.perm h hp) Tryz.underlying89 ty
 ·rw [filter_ne_self hm]
  exact Tab.drop_miss kDot h Tryz.underlying89 ty hd (fun p hp => by obtain ⟨x, hx, rfl⟩ := List.mem_map.1 hp; exact fun e => hm (by rw [← e]; exact hx))
/-- a set of dots, with one more -/
def addD (d : Dot) (l : List Dot) : List Dot := if d ∈ l then l else d :: l
theorem DTab.add {w : World} {b : Nat} {l : List Dot} (h : DTab w b l) {d : Dot} (hd : DotW d) (hl : l.length ≤ 1073741824) :
 ∃ w', (Instr.mapUpdate 89 (.map (some b)) (dotVal d) (.int .i64 1)).run Tryz.prog w = .ok () w' ∧ DTab w' b (addD d l) ∧ Fr (isR b) w w' := by
 unfold addD
 by_cases hm : d ∈ l
 ·rw [if_pos hm]
  have hp := (filter_ne_perm (ones_nodup h.apart) hm)
  have hlen := hp.length_eq
  simp only [List.length_cons] at hlen
  obtain ⟨w', h1, h2, h3⟩ := Tab.store_old kDot (Tab.perm h (hp.map fun d => (d, (1 : Int)))) Tryz.underlying89 (by rw [List.length_map]; unfold maxLen; omega) 1
  exact ⟨w', h1, Tab.perm h2 (hp.map fun d => (d, (1 : Int))).symm, h3⟩
 ·rw [if_neg hm]
  exact Tab.store_new kDot h Tryz.underlying89 (by unfold ones maxLen; rw [List.length_map]; omega) hd (fun p hp => by obtain ⟨x, hx, rfl⟩ := List.mem_map.1 hp; exact fun e => hm (by rw [← e]; exact hx)) 1
/-- the alive dots without one -/
def strike (pairs : List (Key × Dot)) (d : Dot) : List (Key × Dot) := pairs.filter fun q => decide (q.2 ≠ d)
end Go.Proofs.YtohcmljigcdmbaaGreat
