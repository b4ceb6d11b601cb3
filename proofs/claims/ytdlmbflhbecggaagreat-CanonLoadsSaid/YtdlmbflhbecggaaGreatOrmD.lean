/- The map of events: kill, plainly. Conditions: as in the text. -/
import Derived.Test.YtdlmbflhbecggaaGreatOrm
set_option linter.unusedSimpArgs false
set_option linter.unusedVariables false
set_option linter.unnecessarySimpa false
set_option maxHeartbeats 16000000
set_option maxRecDepth 100000
namespace Go.Proofs.YtdlmbflhbecggaaGreat
open Go.RowKit
theorem yg {l : List Dot} (h : (ones l).Pairwise fun p q => p.1 ≠ q.1) : l.Nodup := by
 have := List.pairwise_map.1 h
 exact this
theorem qf {l : List Dot} {d : Dot} (hn : l.Nodup) (hd : d ∈ l) : l.Perm (d :: l.filter fun x => decide (x ≠ d)) := by
 obtain ⟨r, hr⟩ := kK hd
 have h1 : (d :: r).Nodup := (hr.nodup_iff).1 hn
 have h2 := (List.nodup_cons.1 h1).1
 have h3 : (l.filter fun x => decide (x ≠ d)).Perm r := by
  have h4 := hr.filter fun x => decide (x ≠ d)
  rw [List.filter_cons, if_neg (by simp)] at h4
  have h5 : (r.filter fun x => decide (x ≠ d)) = r := List.filter_eq_self.2 fun x hx => decide_eq_true (fun e => h2 (e ▸ hx))
  rw [h5] at h4
  exact h4
 exact hr.trans (h3.symm.cons d)
theorem yR {l : List Dot} {d : Dot} (hd : d ∉ l) : (l.filter fun x => decide (x ≠ d)) = l := List.filter_eq_self.2 fun x hx => by simp; intro e; exact hd (e ▸ hx)
/-- a set of dots, one of them struck -/
theorem DTab.drop {w : World} {b : Nat} {l : List Dot} (h : DTab w b l) {d : Dot} (hd : DotW d) (ty : TypeId) :
 ∃ w', (Builtin.delete_ #[105, 56] ty #[.map (some b), bY d]).run Tryz.prog w = .ok (.tuple #[]) w' ∧ DTab w' b (l.filter fun x => decide (x ≠ d)) ∧ Fr (isR b) w w' := by
 by_cases hm : d ∈ l
 ·have hp := (qf (yg h.apart) hm).map fun d => (d, (1 : Int))
  exact Tab.drop_old ja (Tab.perm h hp) Tryz.underlying105 ty
 ·rw [yR hm]
  exact Tab.drop_miss ja h Tryz.underlying105 ty hd (fun p hp => by obtain ⟨x, hx, rfl⟩ := List.mem_map.1 hp; exact fun e => hm (by rw [← e]; exact hx))
/-- a set of dots, with one more -/
def uo (d : Dot) (l : List Dot) : List Dot := if d ∈ l then l else d :: l
theorem DTab.add {w : World} {b : Nat} {l : List Dot} (h : DTab w b l) {d : Dot} (hd : DotW d) (hl : l.length ≤ 1073741824) :
 ∃ w', (Instr.mapUpdate 105 (.map (some b)) (bY d) (.int .i64 1)).run Tryz.prog w = .ok () w' ∧ DTab w' b (uo d l) ∧ Fr (isR b) w w' := by
 unfold uo
 by_cases hm : d ∈ l
 ·rw [if_pos hm]
  have hp := (qf (yg h.apart) hm)
  have hlen := hp.length_eq
  simp only [List.length_cons] at hlen
  obtain ⟨w', h1, h2, h3⟩ := Tab.store_old ja (Tab.perm h (hp.map fun d => (d, (1 : Int)))) Tryz.underlying105 (by rw [List.length_map]; unfold maxLen; omega) 1
  exact ⟨w', h1, Tab.perm h2 (hp.map fun d => (d, (1 : Int))).symm, h3⟩
 ·rw [if_neg hm]
  exact Tab.store_new ja h Tryz.underlying105 (by unfold ones maxLen; rw [List.length_map]; omega) hd (fun p hp => by obtain ⟨x, hx, rfl⟩ := List.mem_map.1 hp; exact fun e => hm (by rw [← e]; exact hx)) 1
theorem MpIn.setDead {w w' : World} {m : Nat} {b : MB} {s : MS} {l : List Dot} (h : MpIn w m b s) (ht : DTab w' b.db l) (hf : Fr (isR b.db) w w') : MpIn w' m b { s with dead := l } := by
 obtain ⟨n1, n2, n3, n4, n5, n6, n7, n8⟩ := ou h.nodup
 have hK := h.keeps hf (fun i hi => by subst hi; exact oU b _)
 exact ⟨hK _ _ _ _ h.cell, ⟨hK _ _ _ _ h.vec.cell, h.vec.tab.fr hf (Ne.symm n6)⟩, h.kept.fr hf n2, fun x hx => hK.dots (h.overs x hx), ht, h.alive.fr hf n4, fun p hp => (h.inner p hp).fr hf (n7 p hp).2.2.1.symm, h.some, h.keys, h.nodup⟩
/-- the alive dots without one -/
def strike (pairs : List (Key × Dot)) (d : Dot) : List (Key × Dot) := pairs.filter fun q => decide (q.2 ≠ d)
theorem jI {pairs : List (Key × Dot)} {k : Key} {d : Dot} : d ∈ atK pairs k ↔ (k, d) ∈ pairs := by
 unfold atK
 simp only [List.mem_map, List.mem_filter, decide_eq_true_eq]
 constructor
 ·rintro ⟨q, ⟨h1, h2⟩, h3⟩
  obtain ⟨a, b⟩ := q
  simp only at h2 h3
  subst h2 h3
  exact h1
 ·intro h
  exact ⟨(k, d), ⟨h, rfl⟩, rfl⟩
theorem EN (w : World) : (zeroValue 64).run Tryz.prog w = .ok (jF ev0 none 0) w := by kernel_rfl
/-- what a look-up among the kept events gives -/
theorem KTab.look {w : World} {b : Nat} {K : List bJ} (h : KTab w b K) {d : Dot} (hd : DotW d) :
 (∃ x ∈ K, x.1.dot = d ∧ ∀ X : World, KTab X b K → (Instr.lookup 103 (.map (some b)) (bY d) true).run Tryz.prog X = .ok (.tuple #[evV x, .bool true]) X) ∨
 ((∀ x ∈ K, x.1.dot ≠ d) ∧ ∀ X : World, KTab X b K → (Instr.lookup 103 (.map (some b)) (bY d) true).run Tryz.prog X = .ok (.tuple #[evV (ev0, none, 0), .bool false]) X) := by
 by_cases hm : ∃ x ∈ K, x.1.dot = d
 ·obtain ⟨x, hx, hxd⟩ := hm
  refine Or.inl ⟨x, hx, hxd, fun X hX => ?_⟩
  subst hxd
  exact hX.look_hit ja Tryz.underlying103 (EN X) (p := (x.1.dot, x)) (List.mem_map.2 ⟨x, hx, rfl⟩) true
 ·refine Or.inr ⟨fun x hx e => hm ⟨x, hx, e⟩, fun X hX => ?_⟩
  exact hX.look_miss ja Tryz.underlying103 (EN X) hd (fun p hp => by obtain ⟨x, hx, rfl⟩ := List.mem_map.1 hp; exact fun e => hm ⟨x, hx, e⟩) true
end Go.Proofs.YtdlmbflhbecggaaGreat
