/- A clone of an event, its dots in memory of their own. Conditions: at most 2^30 dots. -/
import Derived.Test.YtcijajjngmmbeaaSame
import Derived.Test.YtcijajjngmmbeaaLoad
import Derived.Test.YtcijajjngmmbeaaPack
import Derived.OneCell
import Derived.Test.YtcijajjngmmbeaaFr
import Derived.Lib.AppendStr
import Derived.IntWalk
set_option linter.unusedSimpArgs false
set_option linter.unusedVariables false
set_option linter.unnecessarySimpa false
namespace Go.Proofs.Ytcijajjngmmbeaa
open Go.RowKit

def dotVals (l : List Dot) : List Value := l.flatMap fun d => [.int .i64 d.a.dev, .int .i64 d.a.inc, .int .i64 d.seq]
theorem dotVals_length : ∀ l : List Dot, (dotVals l).length = l.length * 3
  | [] => rfl
  | d :: l => by
    have := dotVals_length l
    simp only [dotVals, List.flatMap_cons, List.length_append, List.length_cons, List.length_nil] at this ⊢
    omega
theorem dotVals_one (l : List Dot) : ∀ u ∈ dotVals l, u.oneCell' = true := by
  intro u hu
  simp only [dotVals, List.mem_flatMap, List.mem_cons, List.not_mem_nil, or_false] at hu
  obtain ⟨d, _, rfl | rfl | rfl⟩ := hu <;> rfl
theorem dotVals_get : ∀ (l : List Dot) (i : Nat) (h : i < l.length), (dotVals l)[i * 3]? = some (.int .i64 l[i].a.dev) ∧ (dotVals l)[i * 3 + 1]? = some (.int .i64 l[i].a.inc) ∧ (dotVals l)[i * 3 + 2]? = some (.int .i64 l[i].seq)
  | [], i, h => by simp at h
  | d :: l, 0, _ => by simp [dotVals]
  | d :: l, i + 1, h => by
    have ih := dotVals_get l i (by simpa using h)
    have e : dotVals (d :: l) = [.int .i64 d.a.dev, .int .i64 d.a.inc, .int .i64 d.seq] ++ dotVals l := rfl
    rw [e, List.getElem?_append_right (by simp; omega), List.getElem?_append_right (by simp; omega), List.getElem?_append_right (by simp; omega)]
    simp only [List.length_cons, List.length_nil, List.getElem_cons_succ]
    rw [show (i + 1) * 3 - (0 + 1 + 1 + 1) = i * 3 by omega, show (i + 1) * 3 + 1 - (0 + 1 + 1 + 1) = i * 3 + 1 by omega, show (i + 1) * 3 + 2 - (0 + 1 + 1 + 1) = i * 3 + 2 by omega]
    exact ih
theorem DotsAt.news {w : World} {A off : Nat} {l : List Dot} (h : DotsAt w A off l) : ∀ j u, (dotVals l)[j]? = some u → w.cell? ((⟨A, off, none⟩ : Addr).add j) = some u := by
  intro j u hj
  have hlt : j < l.length * 3 := by
    have := (List.getElem?_eq_some_iff.1 hj).1
    rwa [dotVals_length] at this
  obtain ⟨g0, g1, g2⟩ := dotVals_get l (j / 3) (by omega)
  rw [Addr.add_mid]
  have h3 : j = j / 3 * 3 ∨ j = j / 3 * 3 + 1 ∨ j = j / 3 * 3 + 2 := by omega
  rcases h3 with e | e | e
  · rw [← e, hj] at g0
    have := h.dev (j / 3) (by omega)
    rw [← e] at this
    rw [this, g0]
  · rw [← e, hj] at g1
    have := h.inc (j / 3) (by omega)
    rw [Nat.add_assoc, ← e] at this
    rw [this, g1]
  · rw [← e, hj] at g2
    have := h.seq (j / 3) (by omega)
    rw [Nat.add_assoc, ← e] at this
    rw [this, g2]
/-- what hands back dots in memory of its own -/
def RetDots (l : List Dot) (w : World) (e : Ending) (w' : World) : Prop :=
  ∃ v, e = .returned v ∧ w'.ownsRow w.heap.size 27 3 v l.length (dotVals l) ∧ Below w.heap.size w w'
theorem Try.infoDot : (Try.prog.info? 27).map (fun i => (i.zero, i.size, i.bytes)) = some (some (.agg #[.int .i64 0, .int .i64 0, .int .i64 0]), 3, 24) := by kernel_rfl
theorem own_dots {w : World} {base : Nat} {v : Value} {l : List Dot} (h : w.ownsRow base 27 3 v l.length (dotVals l)) : ∃ a cap, v = .slice a l.length cap ∧ DotsIn w a l := by
  rcases h.2 with ⟨rfl, h0⟩ | ⟨g, cap, cur, rfl, _, hg, hn, _, hsz, htk⟩
  · exact ⟨none, 0, by rw [h0], Or.inl (List.length_eq_zero_iff.1 h0)⟩
  · have hcell : ∀ j u, (dotVals l)[j]? = some u → w.cell? ⟨g, j, none⟩ = some u := by
      intro j u hj
      rw [← htk, List.getElem?_take] at hj
      split at hj
      · simp only [World.cell?, hg]
        simpa using hj
      · cases hj
    refine ⟨_, cap, rfl, Or.inr ⟨g, 0, rfl, ⟨fun i hi => ?_, fun i hi => ?_, fun i hi => ?_⟩⟩⟩
    · have := hcell _ _ (dotVals_get l i hi).1; simpa using this
    · have := hcell _ _ (dotVals_get l i hi).2.1; simpa using this
    · have := hcell _ _ (dotVals_get l i hi).2.2; simpa using this

set_option maxRecDepth 100000 in
set_option maxHeartbeats 1000000 in
theorem CloneDots_any (a : Option Addr) (cap : Nat) (l : List Dot) (w : World) (hl : l.length ≤ 1073741824) (hn : a = none → l = []) (h : DotsIn w a l) :
    Calls Try.prog 26 #[.slice a l.length cap] w (RetDots l w) := by
  obtain ⟨i0, hi, hz0, hz1, hz2⟩ := info_parts Try.infoDot
  have hnil := fun (W : World) => Lib.run_eql_slice_nil (P := Try.prog) W 28 27 a l.length cap 0 0 Try.underlying28
  cases a with
  | none =>
    have hl0 : l = [] := hn rfl
    subst hl0
    simp only [List.length_nil] at hnil ⊢
    go_enter Try.func26, Try.ntmps26
    go_wp2
    go_ret
    exact ⟨_, rfl, World.ownsRow_nil _ _ _ _, Below.refl _ _⟩
  | some ad =>
    have hnews : ∀ j u, (dotVals l)[j]? = some u → w.cell? (ad.add j) = some u := by
      rcases h with rfl | ⟨A, off, h1, h2⟩
      · intro j u hj; simp [dotVals] at hj
      · obtain rfl : ad = ⟨A, off, none⟩ := by simpa using h1
        exact h2.news
    have HN : Hid (∀ j u, (dotVals l)[j]? = some u → (w.alloc (Obj.cells #[] 27)).cell? (ad.add j) = some u) := fun j u hj => kept ((Below.refl _ _).alloc (Nat.le_refl _) _) (hnews j u hj)
    have hown : (w.alloc (Obj.cells #[] 27)).ownsRow w.heap.size 27 3 (.slice (some ⟨w.heap.size, 0, none⟩) 0 0) 0 [] := World.ownsRow_made _ _ _ (Nat.le_refl _) (by decide) rfl
    have hbv := dotVals_length l
    clear hnews h hn
    go_enter Try.func26, Try.ntmps26
    go_wp2_with (at_builtin; go_loud (refine wpList_append_own _ rfl _ _ 28 rfl w.heap.size 27 i0 (.agg #[.int .i64 0, .int .i64 0, .int .i64 0]) 3 24 Try.underlying28 hi hz0 hz1 hz2 rfl (by decide) _ _ _ rfl hown ad l.length cap (dotVals l) rfl hbv HN.out (dotVals_one l) (by unfold maxLen; omega) (by omega) (by simp) ?_))
    intro v' w2 hown2 hgrow _
    have hb2 := ((Below.refl w.heap.size w).alloc (Nat.le_refl _) (Obj.cells #[] 27)).grown hgrow (by simp) (fun k hk => (hown.lt k hk).1)
    go_wp2
    go_ret
    exact ⟨_, rfl, by simpa using hown2, hb2⟩
end Go.Proofs.Ytcijajjngmmbeaa
